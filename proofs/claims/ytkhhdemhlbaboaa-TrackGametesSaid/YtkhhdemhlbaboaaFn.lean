/- The functions of the seat, as the abstract machine has them: printed by gen.py from Lean's print of the program. -/
import Derived.Test.YtkhhdemhlbaboaaAM11
set_option linter.unusedVariables false
namespace Go.AM.Fn
open Go.AM

/-! function 3: "woggle/wogglelaw02.TrackLeasts" -/
def r3_0 : List AOper := [
  ⟨some 3, none, .a (.box (.tmp 0)), []⟩,
  ⟨some 6, none, .p (.mov (.const (.bool false))), []⟩]
def r3_1 : List AOper := [
  ⟨some 19, none, .l 2 true (.tmp 3), []⟩,
  ⟨some 20, none, .c (.func 10) [(.tmp 19)], []⟩,
  ⟨some 18, none, .p (.mov (.tmp 20)), []⟩,
  ⟨some 21, none, .p (.ext (.tmp 18) 0), []⟩,
  ⟨some 22, none, .p (.ext (.tmp 18) 1), []⟩,
  ⟨some 7, none, .p (.mov (.tmp 21)), []⟩,
  ⟨some 8, none, .p (.mov (.tmp 22)), []⟩]
def r3_2 : List AOper := [
  ⟨some 23, none, .p (.mov (.tmp 1)), []⟩,
  ⟨some 24, none, .c (.func 11) [(.tmp 23)], []⟩,
  ⟨some 25, none, .p (.mov (.tmp 2)), []⟩,
  ⟨some 26, none, .c (.func 12) [(.tmp 25)], []⟩,
  ⟨some 9, none, .p (.mov (.tmp 24)), []⟩,
  ⟨some 10, none, .p (.mov (.tmp 26)), []⟩]
def r3_3 : List AOper := [
  ⟨some 28, none, .p (.mov (.tmp 7)), []⟩,
  ⟨some 29, none, .p (.mov (.tmp 8)), []⟩,
  ⟨some 30, none, .p (.mov (.tmp 9)), []⟩,
  ⟨some 31, none, .p (.mov (.tmp 10)), []⟩,
  ⟨some 32, none, .c (.func 13) [(.tmp 28), (.tmp 29), (.tmp 30), (.tmp 31)], []⟩,
  ⟨some 27, none, .p (.mov (.tmp 32)), []⟩,
  ⟨some 33, none, .p (.ext (.tmp 27) 0), []⟩,
  ⟨some 34, none, .p (.ext (.tmp 27) 1), []⟩,
  ⟨some 11, none, .p (.mov (.tmp 33)), []⟩,
  ⟨some 12, none, .p (.mov (.tmp 34)), []⟩]
def r3_4 : List AOper := [
  ⟨some 36, none, .p (.mov (.tmp 7)), []⟩,
  ⟨some 37, none, .p (.mov (.tmp 8)), []⟩,
  ⟨some 38, none, .p (.mov (.tmp 9)), []⟩,
  ⟨some 39, none, .p (.mov (.tmp 10)), []⟩,
  ⟨some 40, none, .c (.func 14) [(.tmp 36), (.tmp 37), (.tmp 38), (.tmp 39)], []⟩,
  ⟨some 35, none, .p (.mov (.tmp 40)), []⟩,
  ⟨some 41, none, .p (.ext (.tmp 35) 0), []⟩,
  ⟨some 42, none, .p (.ext (.tmp 35) 1), []⟩,
  ⟨some 13, none, .p (.mov (.tmp 41)), []⟩,
  ⟨some 14, none, .p (.mov (.tmp 42)), []⟩]
def r3_5 : List AOper := [
  ⟨some 43, none, .p (.mov (.tmp 7)), []⟩,
  ⟨some 44, none, .p (.mov (.tmp 8)), []⟩,
  ⟨some 45, none, .p (.mov (.tmp 9)), []⟩,
  ⟨some 46, none, .p (.mov (.tmp 10)), []⟩,
  ⟨some 47, none, .c (.func 15) [(.tmp 43), (.tmp 44), (.tmp 45), (.tmp 46)], []⟩,
  ⟨some 15, none, .p (.mov (.tmp 47)), []⟩]
def r3_6 : List AOper := [
  ⟨some 48, none, .p (.mov (.tmp 15)), []⟩,
  ⟨some 49, none, .p (.bin .neq (.tmp 48) (.const (.int .i64 0))), []⟩]
def r3_7 : List AOper := [
  ⟨some 50, none, .p (.mov (.tmp 11)), []⟩,
  ⟨some 51, none, .p (.bin .eql (.tmp 50) (.const (.int .i64 0))), []⟩,
  ⟨some 52, none, .p (.mov (.tmp 51)), []⟩,
  ⟨some 53, some (52, true), .p (.mov (.tmp 13)), []⟩,
  ⟨some 54, some (52, true), .p (.bin .eql (.tmp 53) (.const (.int .i64 0))), []⟩,
  ⟨some 55, none, .p (.pick (.tmp 52) (.tmp 54) (.const (.bool false))), []⟩,
  ⟨some 56, none, .p (.mov (.tmp 55)), []⟩,
  ⟨some 57, some (56, true), .p (.mov (.tmp 12)), []⟩,
  ⟨some 58, some (56, true), .p (.mov (.tmp 15)), []⟩,
  ⟨some 59, some (56, true), .p (.bin .eql (.tmp 57) (.tmp 58)), []⟩,
  ⟨some 60, none, .p (.pick (.tmp 56) (.tmp 59) (.const (.bool false))), []⟩,
  ⟨some 61, none, .p (.mov (.tmp 60)), []⟩,
  ⟨some 62, some (61, true), .p (.mov (.tmp 14)), []⟩,
  ⟨some 63, some (61, true), .p (.mov (.tmp 15)), []⟩,
  ⟨some 64, some (61, true), .p (.bin .eql (.tmp 62) (.tmp 63)), []⟩,
  ⟨some 65, none, .p (.pick (.tmp 61) (.tmp 64) (.const (.bool false))), []⟩,
  ⟨some 66, none, .p (.mov (.tmp 65)), []⟩,
  ⟨some 67, some (66, true), .c (.func 16) [], []⟩,
  ⟨some 68, none, .p (.pick (.tmp 66) (.tmp 67) (.const (.bool false))), []⟩,
  ⟨some 6, none, .p (.mov (.tmp 68)), []⟩]
def r3_8 : List AOper := [
  ⟨some 70, none, .p (.mov (.tmp 7)), []⟩,
  ⟨some 71, none, .p (.mov (.tmp 8)), []⟩,
  ⟨some 72, none, .p (.mov (.tmp 9)), []⟩,
  ⟨some 73, none, .p (.mov (.tmp 10)), []⟩,
  ⟨some 74, none, .c (.func 17) [(.tmp 70), (.tmp 71), (.tmp 72), (.tmp 73)], []⟩,
  ⟨some 69, none, .p (.mov (.tmp 74)), []⟩,
  ⟨some 75, none, .p (.ext (.tmp 69) 0), []⟩,
  ⟨some 76, none, .p (.ext (.tmp 69) 1), []⟩,
  ⟨some 16, none, .p (.mov (.tmp 75)), []⟩,
  ⟨some 17, none, .p (.mov (.tmp 76)), []⟩]
def r3_9 : List AOper := [
  ⟨some 77, none, .p (.mov (.tmp 11)), []⟩,
  ⟨some 78, none, .p (.mov (.tmp 16)), []⟩,
  ⟨some 79, none, .p (.bin .eql (.tmp 77) (.tmp 78)), []⟩,
  ⟨some 80, none, .p (.mov (.tmp 79)), []⟩,
  ⟨some 81, some (80, true), .p (.mov (.tmp 12)), []⟩,
  ⟨some 82, some (80, true), .p (.bin .eql (.tmp 81) (.const (.int .i64 0))), []⟩,
  ⟨some 83, none, .p (.pick (.tmp 80) (.tmp 82) (.const (.bool false))), []⟩,
  ⟨some 84, none, .p (.mov (.tmp 83)), []⟩,
  ⟨some 85, some (84, true), .p (.mov (.tmp 13)), []⟩,
  ⟨some 86, some (84, true), .p (.mov (.tmp 17)), []⟩,
  ⟨some 87, some (84, true), .p (.bin .eql (.tmp 85) (.tmp 86)), []⟩,
  ⟨some 88, none, .p (.pick (.tmp 84) (.tmp 87) (.const (.bool false))), []⟩,
  ⟨some 89, none, .p (.mov (.tmp 88)), []⟩,
  ⟨some 90, some (89, true), .p (.mov (.tmp 14)), []⟩,
  ⟨some 91, some (89, true), .p (.bin .eql (.tmp 90) (.const (.int .i64 0))), []⟩,
  ⟨some 92, none, .p (.pick (.tmp 89) (.tmp 91) (.const (.bool false))), []⟩,
  ⟨some 93, none, .p (.mov (.tmp 92)), []⟩,
  ⟨some 94, some (93, true), .c (.func 16) [], []⟩,
  ⟨some 95, none, .p (.pick (.tmp 93) (.tmp 94) (.const (.bool false))), []⟩,
  ⟨some 6, none, .p (.mov (.tmp 95)), []⟩]
def f3 : AFn := { body := .seq (.region r3_0) (.seq (.region r3_1) (.seq (.region r3_2) (.seq (.region r3_3) (.seq (.region r3_4) (.seq (.seq (.region r3_5) (.seq (.region r3_6) (.cond (.tmp 49) (.seq (.region r3_7) (.ret)) (.skip)))) (.seq (.region r3_8) (.seq (.region r3_9) (.ret)))))))), results := [.tmp 6], n := 96 }

/-! function 4: "woggle/wogglelaw02.TrackFitch" -/
def r4_0 : List AOper := [
  ⟨some 1, none, .a (.box (.tmp 0)), []⟩,
  ⟨some 2, none, .p (.mov (.const (.bool false))), []⟩]
def r4_1 : List AOper := [
  ⟨some 17, none, .p (.faddr 0 (.tmp 1)), []⟩,
  ⟨some 18, none, .l 1 false (.tmp 17), []⟩,
  ⟨some 19, none, .p (.faddr 2 (.tmp 1)), []⟩,
  ⟨some 20, none, .l 1 false (.tmp 19), []⟩,
  ⟨some 21, none, .c (.func 18) [(.tmp 18), (.tmp 20)], []⟩,
  ⟨some 16, none, .p (.mov (.tmp 21)), []⟩,
  ⟨some 22, none, .p (.ext (.tmp 16) 0), []⟩,
  ⟨some 23, none, .p (.ext (.tmp 16) 1), []⟩,
  ⟨some 3, none, .p (.mov (.tmp 22)), []⟩,
  ⟨some 4, none, .p (.mov (.tmp 23)), []⟩]
def r4_2 : List AOper := [
  ⟨some 24, none, .p (.faddr 1 (.tmp 1)), []⟩,
  ⟨some 25, none, .l 1 false (.tmp 24), []⟩,
  ⟨some 26, none, .p (.conv .i64 (.tmp 25)), []⟩,
  ⟨some 27, none, .p (.bin .rem (.tmp 26) (.const (.int .i64 4))), []⟩,
  ⟨some 28, none, .p (.bin .add (.tmp 27) (.const (.int .i64 1))), []⟩,
  ⟨some 5, none, .p (.mov (.tmp 28)), []⟩]
def r4_3 : List AOper := [
  ⟨some 29, none, .p (.mov (.tmp 3)), []⟩,
  ⟨some 30, none, .p (.mov (.tmp 5)), []⟩,
  ⟨some 31, none, .p (.faddr 4 (.tmp 1)), []⟩,
  ⟨some 32, none, .l 1 false (.tmp 31), []⟩,
  ⟨some 33, none, .c (.func 19) [(.tmp 29), (.tmp 30), (.tmp 32)], []⟩,
  ⟨some 6, none, .p (.mov (.tmp 33)), []⟩]
def r4_4 : List AOper := [
  ⟨some 35, none, .p (.mov (.tmp 3)), []⟩,
  ⟨some 36, none, .p (.mov (.tmp 4)), []⟩,
  ⟨some 37, none, .p (.mov (.tmp 5)), []⟩,
  ⟨some 38, none, .p (.mov (.tmp 6)), []⟩,
  ⟨some 39, none, .c (.func 20) [(.tmp 35), (.tmp 36), (.tmp 37), (.tmp 38)], []⟩,
  ⟨some 34, none, .p (.mov (.tmp 39)), []⟩,
  ⟨some 40, none, .p (.ext (.tmp 34) 0), []⟩,
  ⟨some 41, none, .p (.ext (.tmp 34) 1), []⟩,
  ⟨some 42, none, .p (.ext (.tmp 34) 2), []⟩,
  ⟨some 7, none, .p (.mov (.tmp 40)), []⟩,
  ⟨some 8, none, .p (.mov (.tmp 41)), []⟩,
  ⟨some 9, none, .p (.mov (.tmp 42)), []⟩]
def r4_5 : List AOper := [
  ⟨some 44, none, .p (.mov (.tmp 3)), []⟩,
  ⟨some 45, none, .p (.mov (.tmp 4)), []⟩,
  ⟨some 46, none, .p (.mov (.tmp 5)), []⟩,
  ⟨some 47, none, .c (.func 21) [(.tmp 46)], []⟩,
  ⟨some 48, none, .p (.mov (.tmp 6)), []⟩,
  ⟨some 49, none, .c (.func 13) [(.tmp 44), (.tmp 45), (.tmp 47), (.tmp 48)], []⟩,
  ⟨some 43, none, .p (.mov (.tmp 49)), []⟩,
  ⟨some 50, none, .p (.ext (.tmp 43) 0), []⟩,
  ⟨some 51, none, .p (.ext (.tmp 43) 1), []⟩,
  ⟨some 10, none, .p (.mov (.tmp 50)), []⟩,
  ⟨some 11, none, .p (.mov (.tmp 51)), []⟩]
def r4_6 : List AOper := [
  ⟨some 52, none, .p (.mov (.tmp 9)), []⟩,
  ⟨some 53, none, .p (.bin .neq (.tmp 52) (.const (.int .i64 0))), []⟩,
  ⟨some 54, none, .p (.mov (.tmp 53)), []⟩,
  ⟨some 55, some (54, false), .p (.mov (.tmp 11)), []⟩,
  ⟨some 56, some (54, false), .p (.bin .neq (.tmp 55) (.const (.int .i64 0))), []⟩,
  ⟨some 57, none, .p (.pick (.tmp 54) (.const (.bool true)) (.tmp 56)), []⟩,
  ⟨some 58, none, .p (.mov (.tmp 57)), []⟩,
  ⟨some 59, some (58, false), .p (.mov (.tmp 10)), []⟩,
  ⟨some 60, some (58, false), .p (.mov (.tmp 8)), []⟩,
  ⟨some 61, some (58, false), .p (.bin .neq (.tmp 59) (.tmp 60)), []⟩,
  ⟨some 62, none, .p (.pick (.tmp 58) (.const (.bool true)) (.tmp 61)), []⟩,
  ⟨some 63, none, .p (.mov (.tmp 62)), []⟩,
  ⟨some 64, some (63, false), .p (.mov (.tmp 7)), []⟩,
  ⟨some 65, some (63, false), .p (.len (.tmp 64)), []⟩,
  ⟨some 66, some (63, false), .p (.mov (.tmp 3)), []⟩,
  ⟨some 67, some (63, false), .p (.bin .sub (.tmp 66) (.const (.int .i64 1))), []⟩,
  ⟨some 68, some (63, false), .p (.bin .neq (.tmp 65) (.tmp 67)), []⟩,
  ⟨some 69, none, .p (.pick (.tmp 63) (.const (.bool true)) (.tmp 68)), []⟩,
  ⟨some 70, none, .p (.mov (.tmp 69)), []⟩,
  ⟨some 71, some (70, false), .c (.func 16) [], []⟩,
  ⟨some 72, some (70, false), .p (.not (.tmp 71)), []⟩,
  ⟨some 73, none, .p (.pick (.tmp 70) (.const (.bool true)) (.tmp 72)), []⟩]
def r4_7 : List AOper := [
  ⟨some 2, none, .p (.mov (.const (.bool false))), []⟩]
def r4_8 : List AOper := [
  ⟨some 74, none, .p (.mov (.tmp 3)), []⟩,
  ⟨some 75, none, .p (.mov (.tmp 4)), []⟩,
  ⟨some 76, none, .p (.mov (.tmp 5)), []⟩,
  ⟨some 77, none, .c (.func 21) [(.tmp 76)], []⟩,
  ⟨some 78, none, .p (.mov (.tmp 6)), []⟩,
  ⟨some 79, none, .c (.func 22) [(.tmp 74), (.tmp 75), (.tmp 77), (.tmp 78)], []⟩,
  ⟨some 12, none, .p (.mov (.tmp 79)), []⟩]
def r4_9 : List AOper := [
  ⟨some 80, none, .p (.mov (.tmp 12)), []⟩,
  ⟨some 81, none, .p (.mov (.tmp 12)), []⟩,
  ⟨some 82, none, .p (.len (.tmp 81)), []⟩,
  ⟨some 83, none, .p (.bin .sub (.tmp 82) (.const (.int .i64 1))), []⟩,
  ⟨some 84, none, .p (.iaddr 2 (.tmp 80) (.tmp 83)), []⟩,
  ⟨some 85, none, .l 2 true (.tmp 84), []⟩,
  ⟨some 86, none, .a (.bslice (made [.int .i64 0] 0) 0 []), []⟩,
  ⟨some 13, none, .a (.var [.slice none 0 0, .slice none 0 0]), []⟩,
  ⟨none, none, .e (.store 2 (.tmp 13) (.tmp 85)), []⟩,
  ⟨some 14, none, .p (.mov (.tmp 86)), []⟩]
def r4_10 : List AOper := [
  ⟨some 15, none, .p (.mov (.const (.int .i64 0))), []⟩]
def r4_11 : List AOper := [
  ⟨some 87, none, .p (.mov (.tmp 15)), []⟩,
  ⟨some 88, none, .p (.mov (.tmp 5)), []⟩,
  ⟨some 89, none, .p (.bin .lss (.tmp 87) (.tmp 88)), []⟩]
def r4_13 : List AOper := [
  ⟨some 92, none, .p (.faddr 0 (.tmp 13)), []⟩,
  ⟨some 93, none, .l 1 false (.tmp 92), []⟩,
  ⟨some 94, none, .p (.mov (.tmp 15)), []⟩,
  ⟨some 95, none, .p (.iaddr 1 (.tmp 93) (.tmp 94)), []⟩,
  ⟨some 96, none, .l 1 false (.tmp 95), []⟩,
  ⟨some 97, none, .p (.mov (.tmp 10)), []⟩,
  ⟨some 98, none, .p (.bin .eql (.tmp 96) (.tmp 97)), []⟩]
def r4_14 : List AOper := [
  ⟨some 99, none, .p (.mov (.tmp 14)), []⟩,
  ⟨some 100, none, .p (.mov (.tmp 15)), []⟩,
  ⟨some 101, none, .a (.bslice (made [.int .i64 0] 1) 1 [(0, 1, (.tmp 100))]), []⟩,
  ⟨some 102, none, .e (.append 1 8 (.tmp 99) (.tmp 101)), []⟩,
  ⟨some 14, none, .p (.mov (.tmp 102)), []⟩]
def r4_12 : List AOper := [
  ⟨some 90, none, .p (.mov (.tmp 15)), []⟩,
  ⟨some 91, none, .p (.bin .add (.tmp 90) (.const (.int .i64 1))), []⟩,
  ⟨some 15, none, .p (.mov (.tmp 91)), []⟩]
def b4_1 : ACode := .seq (.seq (.region r4_11) (.cond (.tmp 89) (.skip) (.exit 0))) (.seq (.block 1 (.seq (.region r4_13) (.cond (.tmp 98) (.region r4_14) (.skip)))) (.region r4_12))
def r4_15 : List AOper := [
  ⟨some 103, none, .p (.mov (.tmp 7)), []⟩,
  ⟨some 104, none, .p (.mov (.tmp 3)), []⟩,
  ⟨some 105, none, .p (.bin .sub (.tmp 104) (.const (.int .i64 2))), []⟩,
  ⟨some 106, none, .p (.iaddr 1 (.tmp 103) (.tmp 105)), []⟩,
  ⟨some 107, none, .l 1 false (.tmp 106), []⟩,
  ⟨some 108, none, .p (.mov (.tmp 14)), []⟩,
  ⟨some 109, none, .c (.func 23) [(.tmp 107), (.tmp 108)], []⟩,
  ⟨some 2, none, .p (.mov (.tmp 109)), []⟩]
def f4 : AFn := { body := .seq (.region r4_0) (.seq (.region r4_1) (.seq (.region r4_2) (.seq (.region r4_3) (.seq (.region r4_4) (.seq (.region r4_5) (.seq (.seq (.region r4_6) (.cond (.tmp 73) (.seq (.region r4_7) (.ret)) (.skip))) (.seq (.region r4_8) (.seq (.region r4_9) (.seq (.seq (.region r4_10) (.block 0 (.loop b4_1))) (.seq (.region r4_15) (.ret))))))))))), results := [.tmp 2], n := 110 }

/-! function 5: "woggle/wogglelaw02.TrackRoot" -/
def r5_0 : List AOper := [
  ⟨some 1, none, .a (.box (.tmp 0)), []⟩,
  ⟨some 2, none, .p (.mov (.const (.bool false))), []⟩]
def r5_1 : List AOper := [
  ⟨some 21, none, .p (.faddr 0 (.tmp 1)), []⟩,
  ⟨some 22, none, .l 1 false (.tmp 21), []⟩,
  ⟨some 23, none, .p (.faddr 2 (.tmp 1)), []⟩,
  ⟨some 24, none, .l 1 false (.tmp 23), []⟩,
  ⟨some 25, none, .c (.func 18) [(.tmp 22), (.tmp 24)], []⟩,
  ⟨some 20, none, .p (.mov (.tmp 25)), []⟩,
  ⟨some 26, none, .p (.ext (.tmp 20) 0), []⟩,
  ⟨some 27, none, .p (.ext (.tmp 20) 1), []⟩,
  ⟨some 3, none, .p (.mov (.tmp 26)), []⟩,
  ⟨some 4, none, .p (.mov (.tmp 27)), []⟩]
def r5_2 : List AOper := [
  ⟨some 28, none, .p (.faddr 1 (.tmp 1)), []⟩,
  ⟨some 29, none, .l 1 false (.tmp 28), []⟩,
  ⟨some 30, none, .p (.conv .i64 (.tmp 29)), []⟩,
  ⟨some 31, none, .p (.bin .rem (.tmp 30) (.const (.int .i64 4))), []⟩,
  ⟨some 32, none, .p (.bin .add (.tmp 31) (.const (.int .i64 1))), []⟩,
  ⟨some 5, none, .p (.mov (.tmp 32)), []⟩]
def r5_3 : List AOper := [
  ⟨some 33, none, .p (.mov (.tmp 5)), []⟩,
  ⟨some 34, none, .p (.faddr 3 (.tmp 1)), []⟩,
  ⟨some 35, none, .l 1 false (.tmp 34), []⟩,
  ⟨some 37, none, .p (.mov (.tmp 3)), []⟩,
  ⟨some 38, none, .p (.mov (.tmp 5)), []⟩,
  ⟨some 39, none, .p (.faddr 4 (.tmp 1)), []⟩,
  ⟨some 40, none, .l 1 false (.tmp 39), []⟩,
  ⟨some 36, none, .c (.func 24) [(.tmp 33), (.tmp 35), (.const (.bool true))], [((.tmp 39), 1)]⟩,
  ⟨some 41, none, .c (.func 19) [(.tmp 37), (.tmp 38), (.tmp 40)], []⟩,
  ⟨some 6, none, .p (.mov (.tmp 36)), []⟩,
  ⟨some 7, none, .p (.mov (.tmp 41)), []⟩]
def r5_4 : List AOper := [
  ⟨some 42, none, .p (.mov (.tmp 4)), []⟩,
  ⟨some 43, none, .p (.len (.tmp 42)), []⟩,
  ⟨some 44, none, .p (.bin .sub (.tmp 43) (.const (.int .i64 1))), []⟩,
  ⟨some 8, none, .p (.mov (.tmp 44)), []⟩]
def r5_5 : List AOper := [
  ⟨some 45, none, .p (.mov (.tmp 4)), []⟩,
  ⟨some 46, none, .p (.mov (.tmp 8)), []⟩,
  ⟨some 47, none, .p (.iaddr 2 (.tmp 45) (.tmp 46)), []⟩,
  ⟨some 48, none, .l 2 true (.tmp 47), []⟩,
  ⟨some 9, none, .a (.var [.int .i64 0, .int .i64 0]), []⟩,
  ⟨none, none, .e (.store 2 (.tmp 9) (.tmp 48)), []⟩]
def r5_6 : List AOper := [
  ⟨some 49, none, .p (.faddr 0 (.tmp 9)), []⟩,
  ⟨some 50, none, .l 1 false (.tmp 49), []⟩,
  ⟨some 51, none, .p (.mov (.tmp 3)), []⟩,
  ⟨some 52, none, .p (.bin .lss (.tmp 50) (.tmp 51)), []⟩,
  ⟨some 53, none, .p (.mov (.tmp 52)), []⟩,
  ⟨some 54, some (53, true), .p (.faddr 1 (.tmp 9)), []⟩,
  ⟨some 55, some (53, true), .l 1 false (.tmp 54), []⟩,
  ⟨some 56, some (53, true), .p (.mov (.tmp 3)), []⟩,
  ⟨some 57, some (53, true), .p (.bin .lss (.tmp 55) (.tmp 56)), []⟩,
  ⟨some 58, none, .p (.pick (.tmp 53) (.tmp 57) (.const (.bool false))), []⟩]
def r5_7 : List AOper := [
  ⟨some 59, none, .c (.func 16) [], []⟩,
  ⟨some 2, none, .p (.mov (.tmp 59)), []⟩]
def r5_8 : List AOper := [
  ⟨some 60, none, .p (.faddr 0 (.tmp 9)), []⟩,
  ⟨some 61, none, .l 1 false (.tmp 60), []⟩,
  ⟨some 62, none, .p (.faddr 1 (.tmp 9)), []⟩,
  ⟨some 63, none, .l 1 false (.tmp 62), []⟩,
  ⟨some 10, none, .a (.var [.int .i64 0]), []⟩,
  ⟨none, none, .e (.store 1 (.tmp 10) (.tmp 61)), [((.tmp 62), 1)]⟩,
  ⟨some 11, none, .p (.mov (.tmp 63)), []⟩]
def r5_9 : List AOper := [
  ⟨some 64, none, .l 1 false (.tmp 10), []⟩,
  ⟨some 65, none, .p (.mov (.tmp 3)), []⟩,
  ⟨some 66, none, .p (.bin .lss (.tmp 64) (.tmp 65)), []⟩]
def r5_10 : List AOper := [
  ⟨some 67, none, .p (.mov (.tmp 11)), []⟩,
  ⟨some 68, none, .l 1 false (.tmp 10), []⟩,
  ⟨none, none, .e (.store 1 (.tmp 10) (.tmp 67)), []⟩,
  ⟨some 11, none, .p (.mov (.tmp 68)), []⟩]
def r5_11 : List AOper := [
  ⟨some 69, none, .p (.mov (.tmp 4)), []⟩,
  ⟨some 70, none, .l 1 false (.tmp 10), []⟩,
  ⟨some 71, none, .p (.mov (.tmp 3)), []⟩,
  ⟨some 72, none, .p (.bin .sub (.tmp 70) (.tmp 71)), []⟩,
  ⟨some 73, none, .p (.iaddr 2 (.tmp 69) (.tmp 72)), []⟩,
  ⟨some 74, none, .l 2 true (.tmp 73), []⟩,
  ⟨some 75, none, .a (.bslice (made [.int .i64 0, .int .i64 0] 0) 0 []), []⟩,
  ⟨some 12, none, .a (.var [.int .i64 0, .int .i64 0]), []⟩,
  ⟨none, none, .e (.store 2 (.tmp 12) (.tmp 74)), []⟩,
  ⟨some 13, none, .p (.mov (.tmp 75)), []⟩]
def r5_12 : List AOper := [
  ⟨some 76, none, .p (.mkfn 25 [] [(.tmp 10)]), []⟩,
  ⟨some 14, none, .p (.mov (.tmp 76)), []⟩]
def r5_13 : List AOper := [
  ⟨some 15, none, .p (.mov (.const (.int .i64 0))), []⟩]
def r5_14 : List AOper := [
  ⟨some 77, none, .p (.mov (.tmp 15)), []⟩,
  ⟨some 78, none, .p (.mov (.tmp 8)), []⟩,
  ⟨some 79, none, .p (.bin .lss (.tmp 77) (.tmp 78)), []⟩]
def r5_16 : List AOper := [
  ⟨some 82, none, .p (.mov (.tmp 15)), []⟩,
  ⟨some 83, none, .l 1 false (.tmp 10), []⟩,
  ⟨some 84, none, .p (.mov (.tmp 3)), []⟩,
  ⟨some 85, none, .p (.bin .sub (.tmp 83) (.tmp 84)), []⟩,
  ⟨some 86, none, .p (.bin .neq (.tmp 82) (.tmp 85)), []⟩]
def r5_17 : List AOper := [
  ⟨some 87, none, .p (.mov (.tmp 13)), []⟩,
  ⟨some 88, none, .p (.mov (.tmp 14)), []⟩,
  ⟨some 89, none, .p (.mov (.tmp 4)), []⟩,
  ⟨some 90, none, .p (.mov (.tmp 15)), []⟩,
  ⟨some 91, none, .p (.iaddr 2 (.tmp 89) (.tmp 90)), []⟩,
  ⟨some 92, none, .p (.faddr 0 (.tmp 91)), []⟩,
  ⟨some 93, none, .l 1 false (.tmp 92), []⟩,
  ⟨some 95, none, .p (.mov (.tmp 14)), []⟩,
  ⟨some 96, none, .p (.mov (.tmp 4)), []⟩,
  ⟨some 97, none, .p (.mov (.tmp 15)), []⟩,
  ⟨some 98, none, .p (.iaddr 2 (.tmp 96) (.tmp 97)), []⟩,
  ⟨some 99, none, .p (.faddr 1 (.tmp 98)), []⟩,
  ⟨some 100, none, .l 1 false (.tmp 99), []⟩,
  ⟨some 94, none, .c (.tmp 88) [(.tmp 93)], [((.tmp 99), 1)]⟩,
  ⟨some 101, none, .c (.tmp 95) [(.tmp 100)], []⟩,
  ⟨some 102, none, .p (.build [.int .i64 0, .int .i64 0] [(0, 1, (.tmp 94)), (1, 1, (.tmp 101))]), []⟩,
  ⟨some 103, none, .a (.bslice (made [.int .i64 0, .int .i64 0] 2) 1 [(0, 2, (.tmp 102))]), []⟩,
  ⟨some 104, none, .e (.append 2 16 (.tmp 87) (.tmp 103)), []⟩,
  ⟨some 13, none, .p (.mov (.tmp 104)), []⟩]
def r5_15 : List AOper := [
  ⟨some 80, none, .p (.mov (.tmp 15)), []⟩,
  ⟨some 81, none, .p (.bin .add (.tmp 80) (.const (.int .i64 1))), []⟩,
  ⟨some 15, none, .p (.mov (.tmp 81)), []⟩]
def b5_1 : ACode := .seq (.seq (.region r5_14) (.cond (.tmp 79) (.skip) (.exit 0))) (.seq (.block 1 (.seq (.region r5_16) (.cond (.tmp 86) (.region r5_17) (.skip)))) (.region r5_15))
def r5_18 : List AOper := [
  ⟨some 105, none, .p (.mov (.tmp 13)), []⟩,
  ⟨some 106, none, .p (.mov (.tmp 14)), []⟩,
  ⟨some 107, none, .p (.faddr 1 (.tmp 12)), []⟩,
  ⟨some 108, none, .l 1 false (.tmp 107), []⟩,
  ⟨some 110, none, .p (.mov (.tmp 14)), []⟩,
  ⟨some 111, none, .p (.mov (.tmp 11)), []⟩,
  ⟨some 114, none, .p (.mov (.tmp 14)), []⟩,
  ⟨some 115, none, .p (.faddr 0 (.tmp 12)), []⟩,
  ⟨some 116, none, .l 1 false (.tmp 115), []⟩,
  ⟨some 118, none, .p (.mov (.tmp 3)), []⟩,
  ⟨some 119, none, .p (.mov (.tmp 8)), []⟩,
  ⟨some 120, none, .p (.bin .add (.tmp 118) (.tmp 119)), []⟩,
  ⟨some 121, none, .p (.bin .sub (.tmp 120) (.const (.int .i64 1))), []⟩,
  ⟨some 109, none, .c (.tmp 106) [(.tmp 108)], [((.tmp 115), 1)]⟩,
  ⟨some 112, none, .c (.tmp 110) [(.tmp 111)], [((.tmp 115), 1)]⟩,
  ⟨some 113, none, .p (.build [.int .i64 0, .int .i64 0] [(0, 1, (.tmp 109)), (1, 1, (.tmp 112))]), []⟩,
  ⟨some 117, none, .c (.tmp 114) [(.tmp 116)], []⟩,
  ⟨some 122, none, .p (.build [.int .i64 0, .int .i64 0] [(0, 1, (.tmp 117)), (1, 1, (.tmp 121))]), []⟩,
  ⟨some 123, none, .a (.bslice (made [.int .i64 0, .int .i64 0] 4) 2 [(0, 2, (.tmp 113)), (2, 2, (.tmp 122))]), []⟩,
  ⟨some 124, none, .e (.append 2 16 (.tmp 105) (.tmp 123)), []⟩,
  ⟨some 13, none, .p (.mov (.tmp 124)), []⟩]
def r5_19 : List AOper := [
  ⟨some 126, none, .p (.mov (.tmp 3)), []⟩,
  ⟨some 127, none, .p (.mov (.tmp 4)), []⟩,
  ⟨some 128, none, .p (.mov (.tmp 6)), []⟩,
  ⟨some 129, none, .p (.mov (.tmp 7)), []⟩,
  ⟨some 130, none, .c (.func 13) [(.tmp 126), (.tmp 127), (.tmp 128), (.tmp 129)], []⟩,
  ⟨some 125, none, .p (.mov (.tmp 130)), []⟩,
  ⟨some 131, none, .p (.ext (.tmp 125) 0), []⟩,
  ⟨some 132, none, .p (.ext (.tmp 125) 1), []⟩,
  ⟨some 16, none, .p (.mov (.tmp 131)), []⟩,
  ⟨some 17, none, .p (.mov (.tmp 132)), []⟩]
def r5_20 : List AOper := [
  ⟨some 134, none, .p (.mov (.tmp 3)), []⟩,
  ⟨some 135, none, .p (.mov (.tmp 13)), []⟩,
  ⟨some 136, none, .p (.mov (.tmp 6)), []⟩,
  ⟨some 137, none, .p (.mov (.tmp 7)), []⟩,
  ⟨some 138, none, .c (.func 13) [(.tmp 134), (.tmp 135), (.tmp 136), (.tmp 137)], []⟩,
  ⟨some 133, none, .p (.mov (.tmp 138)), []⟩,
  ⟨some 139, none, .p (.ext (.tmp 133) 0), []⟩,
  ⟨some 140, none, .p (.ext (.tmp 133) 1), []⟩,
  ⟨some 18, none, .p (.mov (.tmp 139)), []⟩,
  ⟨some 19, none, .p (.mov (.tmp 140)), []⟩]
def r5_21 : List AOper := [
  ⟨some 141, none, .p (.mov (.tmp 17)), []⟩,
  ⟨some 142, none, .p (.bin .eql (.tmp 141) (.const (.int .i64 0))), []⟩,
  ⟨some 143, none, .p (.mov (.tmp 142)), []⟩,
  ⟨some 144, some (143, true), .p (.mov (.tmp 19)), []⟩,
  ⟨some 145, some (143, true), .p (.bin .eql (.tmp 144) (.const (.int .i64 0))), []⟩,
  ⟨some 146, none, .p (.pick (.tmp 143) (.tmp 145) (.const (.bool false))), []⟩,
  ⟨some 147, none, .p (.mov (.tmp 146)), []⟩,
  ⟨some 148, some (147, true), .p (.mov (.tmp 16)), []⟩,
  ⟨some 149, some (147, true), .p (.mov (.tmp 18)), []⟩,
  ⟨some 150, some (147, true), .p (.bin .eql (.tmp 148) (.tmp 149)), []⟩,
  ⟨some 151, none, .p (.pick (.tmp 147) (.tmp 150) (.const (.bool false))), []⟩,
  ⟨some 152, none, .p (.mov (.tmp 151)), []⟩,
  ⟨some 153, some (152, true), .c (.func 16) [], []⟩,
  ⟨some 154, none, .p (.pick (.tmp 152) (.tmp 153) (.const (.bool false))), []⟩,
  ⟨some 2, none, .p (.mov (.tmp 154)), []⟩]
def f5 : AFn := { body := .seq (.region r5_0) (.seq (.region r5_1) (.seq (.region r5_2) (.seq (.region r5_3) (.seq (.region r5_4) (.seq (.region r5_5) (.seq (.seq (.region r5_6) (.cond (.tmp 58) (.seq (.region r5_7) (.ret)) (.skip))) (.seq (.region r5_8) (.seq (.seq (.region r5_9) (.cond (.tmp 66) (.region r5_10) (.skip))) (.seq (.region r5_11) (.seq (.region r5_12) (.seq (.seq (.region r5_13) (.block 0 (.loop b5_1))) (.seq (.region r5_18) (.seq (.region r5_19) (.seq (.region r5_20) (.seq (.region r5_21) (.ret)))))))))))))))), results := [.tmp 2], n := 155 }

/-! function 6: "woggle/wogglelaw02.TrackRenamed" -/
def r6_0 : List AOper := [
  ⟨some 2, none, .a (.box (.tmp 0)), []⟩,
  ⟨some 4, none, .p (.mov (.const (.bool false))), []⟩]
def r6_1 : List AOper := [
  ⟨some 25, none, .p (.faddr 0 (.tmp 2)), []⟩,
  ⟨some 26, none, .l 1 false (.tmp 25), []⟩,
  ⟨some 27, none, .p (.faddr 2 (.tmp 2)), []⟩,
  ⟨some 28, none, .l 1 false (.tmp 27), []⟩,
  ⟨some 29, none, .c (.func 18) [(.tmp 26), (.tmp 28)], []⟩,
  ⟨some 24, none, .p (.mov (.tmp 29)), []⟩,
  ⟨some 30, none, .p (.ext (.tmp 24) 0), []⟩,
  ⟨some 31, none, .p (.ext (.tmp 24) 1), []⟩,
  ⟨some 5, none, .p (.mov (.tmp 30)), []⟩,
  ⟨some 6, none, .p (.mov (.tmp 31)), []⟩]
def r6_2 : List AOper := [
  ⟨some 32, none, .p (.faddr 1 (.tmp 2)), []⟩,
  ⟨some 33, none, .l 1 false (.tmp 32), []⟩,
  ⟨some 34, none, .p (.conv .i64 (.tmp 33)), []⟩,
  ⟨some 35, none, .p (.bin .rem (.tmp 34) (.const (.int .i64 4))), []⟩,
  ⟨some 36, none, .p (.bin .add (.tmp 35) (.const (.int .i64 1))), []⟩,
  ⟨some 7, none, .p (.mov (.tmp 36)), []⟩]
def r6_3 : List AOper := [
  ⟨some 37, none, .p (.mov (.tmp 7)), []⟩,
  ⟨some 38, none, .p (.faddr 3 (.tmp 2)), []⟩,
  ⟨some 39, none, .l 1 false (.tmp 38), []⟩,
  ⟨some 41, none, .p (.mov (.tmp 5)), []⟩,
  ⟨some 42, none, .p (.mov (.tmp 7)), []⟩,
  ⟨some 43, none, .p (.faddr 4 (.tmp 2)), []⟩,
  ⟨some 44, none, .l 1 false (.tmp 43), []⟩,
  ⟨some 40, none, .c (.func 24) [(.tmp 37), (.tmp 39), (.const (.bool false))], [((.tmp 43), 1)]⟩,
  ⟨some 45, none, .c (.func 19) [(.tmp 41), (.tmp 42), (.tmp 44)], []⟩,
  ⟨some 8, none, .p (.mov (.tmp 40)), []⟩,
  ⟨some 9, none, .p (.mov (.tmp 45)), []⟩]
def r6_4 : List AOper := [
  ⟨some 46, none, .p (.mov (.tmp 1)), []⟩,
  ⟨some 47, none, .p (.conv .i64 (.tmp 46)), []⟩,
  ⟨some 48, none, .p (.mov (.tmp 7)), []⟩,
  ⟨some 49, none, .p (.bin .rem (.tmp 47) (.tmp 48)), []⟩,
  ⟨some 10, none, .p (.mov (.tmp 49)), []⟩]
def r6_5 : List AOper := [
  ⟨some 50, none, .p (.mov (.tmp 7)), []⟩,
  ⟨some 51, none, .c (.func 24) [(.tmp 50), (.const (.slice none 0 0)), (.const (.bool false))], []⟩,
  ⟨some 52, none, .a (.bslice (made [.int .i64 0] 0) 0 []), []⟩,
  ⟨some 11, none, .p (.mov (.tmp 51)), []⟩,
  ⟨some 12, none, .p (.mov (.tmp 52)), []⟩]
def r6_6 : List AOper := [
  ⟨some 13, none, .p (.mov (.const (.int .i64 0))), []⟩]
def r6_7 : List AOper := [
  ⟨some 53, none, .p (.mov (.tmp 13)), []⟩,
  ⟨some 54, none, .p (.mov (.tmp 7)), []⟩,
  ⟨some 55, none, .p (.bin .lss (.tmp 53) (.tmp 54)), []⟩]
def r6_9 : List AOper := [
  ⟨some 14, none, .p (.mov (.const (.int .i64 0))), []⟩]
def r6_10 : List AOper := [
  ⟨some 58, none, .p (.mov (.tmp 14)), []⟩,
  ⟨some 59, none, .p (.mov (.tmp 7)), []⟩,
  ⟨some 60, none, .p (.bin .lss (.tmp 58) (.tmp 59)), []⟩]
def r6_12 : List AOper := [
  ⟨some 63, none, .p (.mov (.tmp 11)), []⟩,
  ⟨some 64, none, .p (.mov (.tmp 13)), []⟩,
  ⟨some 65, none, .p (.mov (.tmp 10)), []⟩,
  ⟨some 66, none, .p (.bin .add (.tmp 64) (.tmp 65)), []⟩,
  ⟨some 67, none, .p (.mov (.tmp 7)), []⟩,
  ⟨some 68, none, .p (.bin .rem (.tmp 66) (.tmp 67)), []⟩,
  ⟨some 69, none, .p (.iaddr 1 (.tmp 63) (.tmp 68)), []⟩,
  ⟨some 70, none, .l 1 false (.tmp 69), []⟩,
  ⟨some 71, none, .p (.mov (.tmp 14)), []⟩,
  ⟨some 72, none, .p (.mov (.tmp 10)), []⟩,
  ⟨some 73, none, .p (.bin .add (.tmp 71) (.tmp 72)), []⟩,
  ⟨some 74, none, .p (.mov (.tmp 7)), []⟩,
  ⟨some 75, none, .p (.bin .rem (.tmp 73) (.tmp 74)), []⟩,
  ⟨some 76, none, .p (.mov (.tmp 8)), []⟩,
  ⟨some 77, none, .p (.mov (.tmp 13)), []⟩,
  ⟨some 78, none, .p (.iaddr 1 (.tmp 76) (.tmp 77)), []⟩,
  ⟨some 79, none, .l 1 false (.tmp 78), []⟩,
  ⟨some 80, none, .p (.mov (.tmp 14)), []⟩,
  ⟨some 81, none, .p (.iaddr 1 (.tmp 79) (.tmp 80)), []⟩,
  ⟨some 82, none, .l 1 false (.tmp 81), []⟩,
  ⟨some 83, none, .p (.iaddr 1 (.tmp 70) (.tmp 75)), []⟩,
  ⟨none, none, .e (.store 1 (.tmp 83) (.tmp 82)), []⟩]
def r6_11 : List AOper := [
  ⟨some 61, none, .p (.mov (.tmp 14)), []⟩,
  ⟨some 62, none, .p (.bin .add (.tmp 61) (.const (.int .i64 1))), []⟩,
  ⟨some 14, none, .p (.mov (.tmp 62)), []⟩]
def b6_1 : ACode := .seq (.seq (.region r6_10) (.cond (.tmp 60) (.skip) (.exit 2))) (.seq (.block 3 (.region r6_12)) (.region r6_11))
def r6_8 : List AOper := [
  ⟨some 56, none, .p (.mov (.tmp 13)), []⟩,
  ⟨some 57, none, .p (.bin .add (.tmp 56) (.const (.int .i64 1))), []⟩,
  ⟨some 13, none, .p (.mov (.tmp 57)), []⟩]
def b6_2 : ACode := .seq (.seq (.region r6_7) (.cond (.tmp 55) (.skip) (.exit 0))) (.seq (.block 1 (.seq (.region r6_9) (.block 2 (.loop b6_1)))) (.region r6_8))
def r6_13 : List AOper := [
  ⟨some 15, none, .p (.mov (.const (.int .i64 0))), []⟩]
def r6_14 : List AOper := [
  ⟨some 84, none, .p (.mov (.tmp 15)), []⟩,
  ⟨some 85, none, .p (.mov (.tmp 5)), []⟩,
  ⟨some 86, none, .p (.bin .lss (.tmp 84) (.tmp 85)), []⟩]
def r6_16 : List AOper := [
  ⟨some 89, none, .p (.mov (.tmp 12)), []⟩,
  ⟨some 90, none, .p (.mov (.tmp 9)), []⟩,
  ⟨some 91, none, .p (.mov (.tmp 15)), []⟩,
  ⟨some 92, none, .p (.iaddr 1 (.tmp 90) (.tmp 91)), []⟩,
  ⟨some 93, none, .l 1 false (.tmp 92), []⟩,
  ⟨some 94, none, .p (.mov (.tmp 10)), []⟩,
  ⟨some 95, none, .p (.bin .add (.tmp 93) (.tmp 94)), []⟩,
  ⟨some 96, none, .p (.mov (.tmp 7)), []⟩,
  ⟨some 97, none, .p (.bin .rem (.tmp 95) (.tmp 96)), []⟩,
  ⟨some 98, none, .a (.bslice (made [.int .i64 0] 1) 1 [(0, 1, (.tmp 97))]), []⟩,
  ⟨some 99, none, .e (.append 1 8 (.tmp 89) (.tmp 98)), []⟩,
  ⟨some 12, none, .p (.mov (.tmp 99)), []⟩]
def r6_15 : List AOper := [
  ⟨some 87, none, .p (.mov (.tmp 15)), []⟩,
  ⟨some 88, none, .p (.bin .add (.tmp 87) (.const (.int .i64 1))), []⟩,
  ⟨some 15, none, .p (.mov (.tmp 88)), []⟩]
def b6_3 : ACode := .seq (.seq (.region r6_14) (.cond (.tmp 86) (.skip) (.exit 4))) (.seq (.block 5 (.region r6_16)) (.region r6_15))
def r6_17 : List AOper := [
  ⟨some 101, none, .p (.mov (.tmp 5)), []⟩,
  ⟨some 102, none, .p (.mov (.tmp 6)), []⟩,
  ⟨some 103, none, .p (.mov (.tmp 8)), []⟩,
  ⟨some 104, none, .p (.mov (.tmp 9)), []⟩,
  ⟨some 105, none, .c (.func 13) [(.tmp 101), (.tmp 102), (.tmp 103), (.tmp 104)], []⟩,
  ⟨some 100, none, .p (.mov (.tmp 105)), []⟩,
  ⟨some 106, none, .p (.ext (.tmp 100) 0), []⟩,
  ⟨some 107, none, .p (.ext (.tmp 100) 1), []⟩,
  ⟨some 16, none, .p (.mov (.tmp 106)), []⟩,
  ⟨some 17, none, .p (.mov (.tmp 107)), []⟩]
def r6_18 : List AOper := [
  ⟨some 109, none, .p (.mov (.tmp 5)), []⟩,
  ⟨some 110, none, .p (.mov (.tmp 6)), []⟩,
  ⟨some 111, none, .p (.mov (.tmp 11)), []⟩,
  ⟨some 112, none, .p (.mov (.tmp 12)), []⟩,
  ⟨some 113, none, .c (.func 13) [(.tmp 109), (.tmp 110), (.tmp 111), (.tmp 112)], []⟩,
  ⟨some 108, none, .p (.mov (.tmp 113)), []⟩,
  ⟨some 114, none, .p (.ext (.tmp 108) 0), []⟩,
  ⟨some 115, none, .p (.ext (.tmp 108) 1), []⟩,
  ⟨some 18, none, .p (.mov (.tmp 114)), []⟩,
  ⟨some 19, none, .p (.mov (.tmp 115)), []⟩]
def r6_19 : List AOper := [
  ⟨some 117, none, .p (.mov (.tmp 5)), []⟩,
  ⟨some 118, none, .p (.mov (.tmp 6)), []⟩,
  ⟨some 119, none, .p (.mov (.tmp 8)), []⟩,
  ⟨some 120, none, .p (.mov (.tmp 9)), []⟩,
  ⟨some 121, none, .c (.func 14) [(.tmp 117), (.tmp 118), (.tmp 119), (.tmp 120)], []⟩,
  ⟨some 116, none, .p (.mov (.tmp 121)), []⟩,
  ⟨some 122, none, .p (.ext (.tmp 116) 0), []⟩,
  ⟨some 123, none, .p (.ext (.tmp 116) 1), []⟩,
  ⟨some 20, none, .p (.mov (.tmp 122)), []⟩,
  ⟨some 21, none, .p (.mov (.tmp 123)), []⟩]
def r6_20 : List AOper := [
  ⟨some 125, none, .p (.mov (.tmp 5)), []⟩,
  ⟨some 126, none, .p (.mov (.tmp 6)), []⟩,
  ⟨some 127, none, .p (.mov (.tmp 11)), []⟩,
  ⟨some 128, none, .p (.mov (.tmp 12)), []⟩,
  ⟨some 129, none, .c (.func 14) [(.tmp 125), (.tmp 126), (.tmp 127), (.tmp 128)], []⟩,
  ⟨some 124, none, .p (.mov (.tmp 129)), []⟩,
  ⟨some 130, none, .p (.ext (.tmp 124) 0), []⟩,
  ⟨some 131, none, .p (.ext (.tmp 124) 1), []⟩,
  ⟨some 22, none, .p (.mov (.tmp 130)), []⟩,
  ⟨some 23, none, .p (.mov (.tmp 131)), []⟩]
def r6_21 : List AOper := [
  ⟨some 132, none, .p (.mov (.tmp 17)), []⟩,
  ⟨some 133, none, .p (.bin .eql (.tmp 132) (.const (.int .i64 0))), []⟩,
  ⟨some 134, none, .p (.mov (.tmp 133)), []⟩,
  ⟨some 135, some (134, true), .p (.mov (.tmp 19)), []⟩,
  ⟨some 136, some (134, true), .p (.bin .eql (.tmp 135) (.const (.int .i64 0))), []⟩,
  ⟨some 137, none, .p (.pick (.tmp 134) (.tmp 136) (.const (.bool false))), []⟩,
  ⟨some 138, none, .p (.mov (.tmp 137)), []⟩,
  ⟨some 139, some (138, true), .p (.mov (.tmp 21)), []⟩,
  ⟨some 140, some (138, true), .p (.bin .eql (.tmp 139) (.const (.int .i64 0))), []⟩,
  ⟨some 141, none, .p (.pick (.tmp 138) (.tmp 140) (.const (.bool false))), []⟩,
  ⟨some 142, none, .p (.mov (.tmp 141)), []⟩,
  ⟨some 143, some (142, true), .p (.mov (.tmp 23)), []⟩,
  ⟨some 144, some (142, true), .p (.bin .eql (.tmp 143) (.const (.int .i64 0))), []⟩,
  ⟨some 145, none, .p (.pick (.tmp 142) (.tmp 144) (.const (.bool false))), []⟩,
  ⟨some 146, none, .p (.mov (.tmp 145)), []⟩,
  ⟨some 147, some (146, true), .p (.mov (.tmp 16)), []⟩,
  ⟨some 148, some (146, true), .p (.mov (.tmp 18)), []⟩,
  ⟨some 149, some (146, true), .p (.bin .eql (.tmp 147) (.tmp 148)), []⟩,
  ⟨some 150, none, .p (.pick (.tmp 146) (.tmp 149) (.const (.bool false))), []⟩,
  ⟨some 151, none, .p (.mov (.tmp 150)), []⟩,
  ⟨some 152, some (151, true), .p (.mov (.tmp 20)), []⟩,
  ⟨some 153, some (151, true), .p (.mov (.tmp 22)), []⟩,
  ⟨some 154, some (151, true), .p (.bin .eql (.tmp 152) (.tmp 153)), []⟩,
  ⟨some 155, none, .p (.pick (.tmp 151) (.tmp 154) (.const (.bool false))), []⟩,
  ⟨some 156, none, .p (.mov (.tmp 155)), []⟩,
  ⟨some 157, some (156, true), .c (.func 16) [], []⟩,
  ⟨some 158, none, .p (.pick (.tmp 156) (.tmp 157) (.const (.bool false))), []⟩,
  ⟨some 4, none, .p (.mov (.tmp 158)), []⟩]
def f6 : AFn := { body := .seq (.region r6_0) (.seq (.region r6_1) (.seq (.region r6_2) (.seq (.region r6_3) (.seq (.region r6_4) (.seq (.region r6_5) (.seq (.seq (.region r6_6) (.block 0 (.loop b6_2))) (.seq (.seq (.region r6_13) (.block 4 (.loop b6_3))) (.seq (.region r6_17) (.seq (.region r6_18) (.seq (.region r6_19) (.seq (.region r6_20) (.seq (.region r6_21) (.ret))))))))))))), results := [.tmp 4], n := 159 }

/-! function 7: "woggle/wogglelaw02.TrackGametes" -/
def r7_0 : List AOper := [
  ⟨some 4, none, .p (.mov (.const (.bool false))), []⟩]
def r7_1 : List AOper := [
  ⟨some 13, none, .p (.mov (.tmp 0)), []⟩,
  ⟨some 14, none, .p (.conv .i64 (.tmp 13)), []⟩,
  ⟨some 15, none, .p (.bin .rem (.tmp 14) (.const (.int .i64 4))), []⟩,
  ⟨some 16, none, .p (.bin .add (.tmp 15) (.const (.int .i64 2))), []⟩,
  ⟨some 17, none, .p (.mov (.tmp 1)), []⟩,
  ⟨some 18, none, .c (.func 26) [(.tmp 16), (.const (.int .i64 2)), (.const (.int .i64 2)), (.tmp 17)], []⟩,
  ⟨some 5, none, .p (.mov (.tmp 18)), []⟩]
def r7_2 : List AOper := [
  ⟨some 20, none, .p (.mov (.tmp 5)), []⟩,
  ⟨some 21, none, .c (.func 27) [(.tmp 20)], []⟩,
  ⟨some 19, none, .p (.mov (.tmp 21)), []⟩,
  ⟨some 22, none, .p (.ext (.tmp 19) 0), []⟩,
  ⟨some 23, none, .p (.ext (.tmp 19) 1), []⟩,
  ⟨some 6, none, .p (.mov (.tmp 22)), []⟩,
  ⟨some 7, none, .p (.mov (.tmp 23)), []⟩]
def r7_3 : List AOper := [
  ⟨some 8, none, .p (.mov (.const (.int .i64 0))), []⟩,
  ⟨some 9, none, .p (.mov (.const (.int .i64 0))), []⟩,
  ⟨some 10, none, .p (.mov (.const (.int .i64 0))), []⟩]
def r7_4 : List AOper := [
  ⟨some 11, none, .p (.mov (.const (.int .i64 0))), []⟩]
def r7_5 : List AOper := [
  ⟨some 24, none, .p (.mov (.tmp 11)), []⟩,
  ⟨some 25, none, .p (.mov (.tmp 5)), []⟩,
  ⟨some 26, none, .p (.len (.tmp 25)), []⟩,
  ⟨some 27, none, .p (.bin .lss (.tmp 24) (.tmp 26)), []⟩]
def r7_7 : List AOper := [
  ⟨some 30, none, .p (.mov (.tmp 8)), []⟩,
  ⟨some 31, none, .p (.mov (.tmp 5)), []⟩,
  ⟨some 32, none, .p (.mov (.tmp 11)), []⟩,
  ⟨some 33, none, .p (.iaddr 1 (.tmp 31) (.tmp 32)), []⟩,
  ⟨some 34, none, .l 1 false (.tmp 33), []⟩,
  ⟨some 35, none, .p (.iaddr 1 (.tmp 34) (.const (.int .i64 0))), []⟩,
  ⟨some 36, none, .l 1 false (.tmp 35), []⟩,
  ⟨some 37, none, .p (.bin .mul (.const (.int .i64 2)) (.tmp 36)), []⟩,
  ⟨some 38, none, .p (.mov (.tmp 5)), []⟩,
  ⟨some 39, none, .p (.mov (.tmp 11)), []⟩,
  ⟨some 40, none, .p (.iaddr 1 (.tmp 38) (.tmp 39)), []⟩,
  ⟨some 41, none, .l 1 false (.tmp 40), []⟩,
  ⟨some 42, none, .p (.iaddr 1 (.tmp 41) (.const (.int .i64 1))), []⟩,
  ⟨some 43, none, .l 1 false (.tmp 42), []⟩,
  ⟨some 44, none, .p (.bin .add (.tmp 37) (.tmp 43)), []⟩,
  ⟨some 45, none, .p (.bin .shl (.const (.int .i64 1)) (.tmp 44)), []⟩,
  ⟨some 46, none, .p (.bin .or (.tmp 30) (.tmp 45)), []⟩,
  ⟨some 8, none, .p (.mov (.tmp 46)), []⟩]
def r7_8 : List AOper := [
  ⟨some 47, none, .p (.mov (.tmp 9)), []⟩,
  ⟨some 48, none, .p (.mov (.tmp 5)), []⟩,
  ⟨some 49, none, .p (.mov (.tmp 11)), []⟩,
  ⟨some 50, none, .p (.iaddr 1 (.tmp 48) (.tmp 49)), []⟩,
  ⟨some 51, none, .l 1 false (.tmp 50), []⟩,
  ⟨some 52, none, .p (.iaddr 1 (.tmp 51) (.const (.int .i64 0))), []⟩,
  ⟨some 53, none, .l 1 false (.tmp 52), []⟩,
  ⟨some 54, none, .p (.bin .shl (.const (.int .i64 1)) (.tmp 53)), []⟩,
  ⟨some 55, none, .p (.bin .or (.tmp 47) (.tmp 54)), []⟩,
  ⟨some 9, none, .p (.mov (.tmp 55)), []⟩]
def r7_9 : List AOper := [
  ⟨some 56, none, .p (.mov (.tmp 10)), []⟩,
  ⟨some 57, none, .p (.mov (.tmp 5)), []⟩,
  ⟨some 58, none, .p (.mov (.tmp 11)), []⟩,
  ⟨some 59, none, .p (.iaddr 1 (.tmp 57) (.tmp 58)), []⟩,
  ⟨some 60, none, .l 1 false (.tmp 59), []⟩,
  ⟨some 61, none, .p (.iaddr 1 (.tmp 60) (.const (.int .i64 1))), []⟩,
  ⟨some 62, none, .l 1 false (.tmp 61), []⟩,
  ⟨some 63, none, .p (.bin .shl (.const (.int .i64 1)) (.tmp 62)), []⟩,
  ⟨some 64, none, .p (.bin .or (.tmp 56) (.tmp 63)), []⟩,
  ⟨some 10, none, .p (.mov (.tmp 64)), []⟩]
def r7_6 : List AOper := [
  ⟨some 28, none, .p (.mov (.tmp 11)), []⟩,
  ⟨some 29, none, .p (.bin .add (.tmp 28) (.const (.int .i64 1))), []⟩,
  ⟨some 11, none, .p (.mov (.tmp 29)), []⟩]
def b7_1 : ACode := .seq (.seq (.region r7_5) (.cond (.tmp 27) (.skip) (.exit 0))) (.seq (.block 1 (.seq (.region r7_7) (.seq (.region r7_8) (.region r7_9)))) (.region r7_6))
def r7_10 : List AOper := [
  ⟨some 65, none, .p (.mov (.tmp 9)), []⟩,
  ⟨some 66, none, .c (.func 28) [(.tmp 65)], []⟩,
  ⟨some 67, none, .p (.len (.tmp 66)), []⟩,
  ⟨some 68, none, .p (.mov (.tmp 10)), []⟩,
  ⟨some 69, none, .c (.func 28) [(.tmp 68)], []⟩,
  ⟨some 70, none, .p (.len (.tmp 69)), []⟩,
  ⟨some 71, none, .p (.bin .add (.tmp 67) (.tmp 70)), []⟩,
  ⟨some 72, none, .p (.bin .sub (.tmp 71) (.const (.int .i64 2))), []⟩,
  ⟨some 12, none, .p (.mov (.tmp 72)), []⟩]
def r7_11 : List AOper := [
  ⟨some 73, none, .p (.mov (.tmp 7)), []⟩,
  ⟨some 74, none, .p (.bin .eql (.tmp 73) (.const (.int .i64 0))), []⟩,
  ⟨some 75, none, .p (.mov (.tmp 74)), []⟩,
  ⟨some 76, some (75, true), .p (.mov (.tmp 8)), []⟩,
  ⟨some 77, some (75, true), .p (.bin .eql (.tmp 76) (.const (.int .i64 15))), []⟩,
  ⟨some 78, some (75, true), .p (.mov (.tmp 77)), []⟩,
  ⟨some 79, some (78, true), .p (.mov (.tmp 6)), []⟩,
  ⟨some 80, some (78, true), .p (.mov (.tmp 12)), []⟩,
  ⟨some 81, some (78, true), .p (.bin .gtr (.tmp 79) (.tmp 80)), []⟩,
  ⟨some 82, some (75, true), .p (.pick (.tmp 78) (.tmp 81) (.const (.bool false))), []⟩,
  ⟨some 83, some (75, true), .p (.mov (.tmp 82)), []⟩,
  ⟨some 84, some (83, false), .p (.mov (.tmp 8)), []⟩,
  ⟨some 85, some (83, false), .p (.bin .lss (.tmp 84) (.const (.int .i64 15))), []⟩,
  ⟨some 86, some (83, false), .p (.mov (.tmp 85)), []⟩,
  ⟨some 87, some (86, true), .p (.mov (.tmp 6)), []⟩,
  ⟨some 88, some (86, true), .p (.mov (.tmp 12)), []⟩,
  ⟨some 89, some (86, true), .p (.bin .eql (.tmp 87) (.tmp 88)), []⟩,
  ⟨some 90, some (83, false), .p (.pick (.tmp 86) (.tmp 89) (.const (.bool false))), []⟩,
  ⟨some 91, some (75, true), .p (.pick (.tmp 83) (.const (.bool true)) (.tmp 90)), []⟩,
  ⟨some 92, none, .p (.pick (.tmp 75) (.tmp 91) (.const (.bool false))), []⟩,
  ⟨some 93, none, .p (.mov (.tmp 92)), []⟩,
  ⟨some 94, some (93, true), .c (.func 16) [], []⟩,
  ⟨some 95, none, .p (.pick (.tmp 93) (.tmp 94) (.const (.bool false))), []⟩,
  ⟨some 4, none, .p (.mov (.tmp 95)), []⟩]
def f7 : AFn := { body := .seq (.region r7_0) (.seq (.region r7_1) (.seq (.region r7_2) (.seq (.region r7_3) (.seq (.seq (.region r7_4) (.block 0 (.loop b7_1))) (.seq (.region r7_10) (.seq (.region r7_11) (.ret))))))), results := [.tmp 4], n := 96 }

/-! function 8: "woggle/wogglelaw02.TrackBests" -/
def r8_0 : List AOper := [
  ⟨some 2, none, .p (.mov (.const (.bool false))), []⟩]
def r8_1 : List AOper := [
  ⟨some 9, none, .p (.mov (.tmp 0)), []⟩,
  ⟨some 10, none, .c (.func 11) [(.tmp 9)], []⟩,
  ⟨some 3, none, .p (.mov (.tmp 10)), []⟩]
def r8_2 : List AOper := [
  ⟨some 12, none, .p (.mov (.tmp 3)), []⟩,
  ⟨some 13, none, .c (.func 27) [(.tmp 12)], []⟩,
  ⟨some 11, none, .p (.mov (.tmp 13)), []⟩,
  ⟨some 14, none, .p (.ext (.tmp 11) 0), []⟩,
  ⟨some 15, none, .p (.ext (.tmp 11) 1), []⟩,
  ⟨some 4, none, .p (.mov (.tmp 14)), []⟩,
  ⟨some 5, none, .p (.mov (.tmp 15)), []⟩]
def r8_3 : List AOper := [
  ⟨some 17, none, .p (.mov (.tmp 3)), []⟩,
  ⟨some 18, none, .c (.func 29) [(.tmp 17)], []⟩,
  ⟨some 16, none, .p (.mov (.tmp 18)), []⟩,
  ⟨some 19, none, .p (.ext (.tmp 16) 0), []⟩,
  ⟨some 20, none, .p (.ext (.tmp 16) 1), []⟩,
  ⟨some 6, none, .p (.mov (.tmp 19)), []⟩,
  ⟨some 7, none, .p (.mov (.tmp 20)), []⟩]
def r8_4 : List AOper := [
  ⟨some 21, none, .p (.mov (.tmp 3)), []⟩,
  ⟨some 22, none, .c (.func 30) [(.tmp 21)], []⟩,
  ⟨some 23, none, .p (.not (.tmp 22)), []⟩]
def r8_5 : List AOper := [
  ⟨some 24, none, .p (.mov (.tmp 4)), []⟩,
  ⟨some 25, none, .p (.bin .eql (.tmp 24) (.const (.int .i64 0))), []⟩,
  ⟨some 26, none, .p (.mov (.tmp 25)), []⟩,
  ⟨some 27, some (26, true), .p (.mov (.tmp 6)), []⟩,
  ⟨some 28, some (26, true), .p (.len (.tmp 27)), []⟩,
  ⟨some 29, some (26, true), .p (.bin .eql (.tmp 28) (.const (.int .i64 0))), []⟩,
  ⟨some 30, none, .p (.pick (.tmp 26) (.tmp 29) (.const (.bool false))), []⟩,
  ⟨some 31, none, .p (.mov (.tmp 30)), []⟩,
  ⟨some 32, some (31, true), .p (.mov (.tmp 5)), []⟩,
  ⟨some 33, some (31, true), .p (.bin .eql (.tmp 32) (.const (.int .i64 2))), []⟩,
  ⟨some 34, none, .p (.pick (.tmp 31) (.tmp 33) (.const (.bool false))), []⟩,
  ⟨some 35, none, .p (.mov (.tmp 34)), []⟩,
  ⟨some 36, some (35, true), .p (.mov (.tmp 7)), []⟩,
  ⟨some 37, some (35, true), .p (.bin .eql (.tmp 36) (.const (.int .i64 2))), []⟩,
  ⟨some 38, none, .p (.pick (.tmp 35) (.tmp 37) (.const (.bool false))), []⟩,
  ⟨some 39, none, .p (.mov (.tmp 38)), []⟩,
  ⟨some 40, some (39, true), .c (.func 16) [], []⟩,
  ⟨some 41, none, .p (.pick (.tmp 39) (.tmp 40) (.const (.bool false))), []⟩,
  ⟨some 2, none, .p (.mov (.tmp 41)), []⟩]
def r8_6 : List AOper := [
  ⟨some 42, none, .p (.mov (.tmp 3)), []⟩,
  ⟨some 43, none, .p (.len (.tmp 42)), []⟩,
  ⟨some 8, none, .p (.mov (.tmp 43)), []⟩]
def r8_7 : List AOper := [
  ⟨some 44, none, .p (.mov (.tmp 4)), []⟩,
  ⟨some 45, none, .p (.mov (.tmp 8)), []⟩,
  ⟨some 46, none, .p (.mov (.tmp 8)), []⟩,
  ⟨some 47, none, .c (.func 32) [(.tmp 46)], []⟩,
  ⟨some 48, none, .p (.mov (.tmp 3)), []⟩,
  ⟨some 49, none, .c (.func 31) [(.tmp 45), (.tmp 47), (.const (.slice none 0 0)), (.tmp 48)], []⟩,
  ⟨some 50, none, .p (.bin .eql (.tmp 44) (.tmp 49)), []⟩,
  ⟨some 51, none, .p (.mov (.tmp 50)), []⟩,
  ⟨some 52, some (51, true), .p (.mov (.tmp 5)), []⟩,
  ⟨some 53, some (51, true), .p (.bin .eql (.tmp 52) (.const (.int .i64 0))), []⟩,
  ⟨some 54, none, .p (.pick (.tmp 51) (.tmp 53) (.const (.bool false))), []⟩,
  ⟨some 55, none, .p (.mov (.tmp 54)), []⟩,
  ⟨some 56, some (55, true), .p (.mov (.tmp 8)), []⟩,
  ⟨some 57, some (55, true), .p (.mov (.tmp 6)), []⟩,
  ⟨some 58, some (55, true), .c (.func 33) [(.tmp 56), (.tmp 57)], []⟩,
  ⟨some 59, none, .p (.pick (.tmp 55) (.tmp 58) (.const (.bool false))), []⟩,
  ⟨some 60, none, .p (.mov (.tmp 59)), []⟩,
  ⟨some 61, some (60, true), .p (.mov (.tmp 8)), []⟩,
  ⟨some 62, some (60, true), .p (.mov (.tmp 6)), []⟩,
  ⟨some 63, some (60, true), .p (.mov (.tmp 3)), []⟩,
  ⟨some 64, some (60, true), .c (.func 34) [(.tmp 61), (.tmp 62), (.tmp 63)], []⟩,
  ⟨some 65, some (60, true), .p (.mov (.tmp 4)), []⟩,
  ⟨some 66, some (60, true), .p (.bin .eql (.tmp 64) (.tmp 65)), []⟩,
  ⟨some 67, none, .p (.pick (.tmp 60) (.tmp 66) (.const (.bool false))), []⟩,
  ⟨some 68, none, .p (.mov (.tmp 67)), []⟩,
  ⟨some 69, some (68, true), .p (.mov (.tmp 7)), []⟩,
  ⟨some 70, some (68, true), .p (.bin .eql (.tmp 69) (.const (.int .i64 0))), []⟩,
  ⟨some 71, none, .p (.pick (.tmp 68) (.tmp 70) (.const (.bool false))), []⟩,
  ⟨some 72, none, .p (.mov (.tmp 71)), []⟩,
  ⟨some 73, some (72, true), .c (.func 16) [], []⟩,
  ⟨some 74, none, .p (.pick (.tmp 72) (.tmp 73) (.const (.bool false))), []⟩,
  ⟨some 2, none, .p (.mov (.tmp 74)), []⟩]
def f8 : AFn := { body := .seq (.region r8_0) (.seq (.region r8_1) (.seq (.region r8_2) (.seq (.region r8_3) (.seq (.seq (.region r8_4) (.cond (.tmp 23) (.seq (.region r8_5) (.ret)) (.skip))) (.seq (.region r8_6) (.seq (.region r8_7) (.ret))))))), results := [.tmp 2], n := 75 }

/-! function 9: "woggle/wogglelaw02.TrackTables" -/
def r9_0 : List AOper := [
  ⟨some 6, none, .p (.mov (.const (.bool false))), []⟩]
def r9_1 : List AOper := [
  ⟨some 25, none, .p (.mov (.tmp 0)), []⟩,
  ⟨some 26, none, .p (.conv .i64 (.tmp 25)), []⟩,
  ⟨some 27, none, .p (.bin .rem (.tmp 26) (.const (.int .i64 3))), []⟩,
  ⟨some 28, none, .p (.bin .add (.tmp 27) (.const (.int .i64 2))), []⟩,
  ⟨some 29, none, .p (.mov (.tmp 1)), []⟩,
  ⟨some 30, none, .p (.conv .i64 (.tmp 29)), []⟩,
  ⟨some 31, none, .p (.bin .rem (.tmp 30) (.const (.int .i64 6))), []⟩,
  ⟨some 32, none, .p (.bin .add (.tmp 31) (.const (.int .i64 1))), []⟩,
  ⟨some 7, none, .p (.mov (.tmp 28)), []⟩,
  ⟨some 8, none, .p (.mov (.tmp 32)), []⟩]
def r9_2 : List AOper := [
  ⟨some 33, none, .p (.mov (.tmp 7)), []⟩,
  ⟨some 34, none, .p (.bin .add (.tmp 33) (.const (.int .i64 1))), []⟩,
  ⟨some 35, none, .p (.mov (.tmp 8)), []⟩,
  ⟨some 36, none, .p (.mov (.tmp 2)), []⟩,
  ⟨some 37, none, .c (.func 26) [(.tmp 34), (.tmp 35), (.const (.int .i64 4)), (.tmp 36)], []⟩,
  ⟨some 9, none, .p (.mov (.tmp 37)), []⟩]
def r9_3 : List AOper := [
  ⟨some 38, none, .p (.mov (.tmp 9)), []⟩,
  ⟨some 39, none, .p (.mov (.tmp 7)), []⟩,
  ⟨some 40, none, .p (.slice 1 (.tmp 38) none (some (.tmp 39)) none), []⟩,
  ⟨some 10, none, .p (.mov (.tmp 40)), []⟩]
def r9_4 : List AOper := [
  ⟨some 42, none, .p (.mov (.tmp 10)), []⟩,
  ⟨some 43, none, .c (.func 27) [(.tmp 42)], []⟩,
  ⟨some 41, none, .p (.mov (.tmp 43)), []⟩,
  ⟨some 44, none, .p (.ext (.tmp 41) 0), []⟩,
  ⟨some 45, none, .p (.ext (.tmp 41) 1), []⟩,
  ⟨some 11, none, .p (.mov (.tmp 44)), []⟩,
  ⟨some 12, none, .p (.mov (.tmp 45)), []⟩]
def r9_5 : List AOper := [
  ⟨some 47, none, .p (.mov (.tmp 9)), []⟩,
  ⟨some 48, none, .c (.func 27) [(.tmp 47)], []⟩,
  ⟨some 46, none, .p (.mov (.tmp 48)), []⟩,
  ⟨some 49, none, .p (.ext (.tmp 46) 0), []⟩,
  ⟨some 50, none, .p (.ext (.tmp 46) 1), []⟩,
  ⟨some 13, none, .p (.mov (.tmp 49)), []⟩,
  ⟨some 14, none, .p (.mov (.tmp 50)), []⟩]
def r9_6 : List AOper := [
  ⟨some 52, none, .p (.mov (.tmp 10)), []⟩,
  ⟨some 53, none, .c (.func 29) [(.tmp 52)], []⟩,
  ⟨some 51, none, .p (.mov (.tmp 53)), []⟩,
  ⟨some 54, none, .p (.ext (.tmp 51) 0), []⟩,
  ⟨some 55, none, .p (.ext (.tmp 51) 1), []⟩,
  ⟨some 15, none, .p (.mov (.tmp 54)), []⟩,
  ⟨some 16, none, .p (.mov (.tmp 55)), []⟩]
def r9_7 : List AOper := [
  ⟨some 56, none, .p (.mov (.tmp 12)), []⟩,
  ⟨some 57, none, .p (.bin .neq (.tmp 56) (.const (.int .i64 0))), []⟩,
  ⟨some 58, none, .p (.mov (.tmp 57)), []⟩,
  ⟨some 59, some (58, false), .p (.mov (.tmp 14)), []⟩,
  ⟨some 60, some (58, false), .p (.bin .neq (.tmp 59) (.const (.int .i64 0))), []⟩,
  ⟨some 61, none, .p (.pick (.tmp 58) (.const (.bool true)) (.tmp 60)), []⟩,
  ⟨some 62, none, .p (.mov (.tmp 61)), []⟩,
  ⟨some 63, some (62, false), .p (.mov (.tmp 16)), []⟩,
  ⟨some 64, some (62, false), .p (.bin .neq (.tmp 63) (.const (.int .i64 0))), []⟩,
  ⟨some 65, none, .p (.pick (.tmp 62) (.const (.bool true)) (.tmp 64)), []⟩,
  ⟨some 66, none, .p (.mov (.tmp 65)), []⟩,
  ⟨some 67, some (66, false), .p (.mov (.tmp 11)), []⟩,
  ⟨some 68, some (66, false), .p (.mov (.tmp 13)), []⟩,
  ⟨some 69, some (66, false), .p (.bin .gtr (.tmp 67) (.tmp 68)), []⟩,
  ⟨some 70, none, .p (.pick (.tmp 66) (.const (.bool true)) (.tmp 69)), []⟩,
  ⟨some 71, none, .p (.mov (.tmp 70)), []⟩,
  ⟨some 72, some (71, false), .c (.func 16) [], []⟩,
  ⟨some 73, some (71, false), .p (.not (.tmp 72)), []⟩,
  ⟨some 74, none, .p (.pick (.tmp 71) (.const (.bool true)) (.tmp 73)), []⟩]
def r9_8 : List AOper := [
  ⟨some 6, none, .p (.mov (.const (.bool false))), []⟩]
def r9_9 : List AOper := [
  ⟨some 17, none, .p (.mov (.const (.int .i64 0))), []⟩]
def r9_10 : List AOper := [
  ⟨some 18, none, .p (.mov (.const (.int .i64 0))), []⟩]
def r9_11 : List AOper := [
  ⟨some 75, none, .p (.mov (.tmp 18)), []⟩,
  ⟨some 76, none, .p (.mov (.tmp 8)), []⟩,
  ⟨some 77, none, .p (.bin .lss (.tmp 75) (.tmp 76)), []⟩]
def r9_13 : List AOper := [
  ⟨some 80, none, .a (.bslice (made [.slice none 0 0] 0) 0 []), []⟩,
  ⟨some 19, none, .p (.mov (.tmp 80)), []⟩]
def r9_14 : List AOper := [
  ⟨some 20, none, .p (.mov (.const (.int .i64 0))), []⟩]
def r9_15 : List AOper := [
  ⟨some 81, none, .p (.mov (.tmp 20)), []⟩,
  ⟨some 82, none, .p (.mov (.tmp 7)), []⟩,
  ⟨some 83, none, .p (.bin .lss (.tmp 81) (.tmp 82)), []⟩]
def r9_17 : List AOper := [
  ⟨some 86, none, .p (.mov (.tmp 19)), []⟩,
  ⟨some 87, none, .p (.mov (.tmp 10)), []⟩,
  ⟨some 88, none, .p (.mov (.tmp 20)), []⟩,
  ⟨some 89, none, .p (.iaddr 1 (.tmp 87) (.tmp 88)), []⟩,
  ⟨some 90, none, .l 1 false (.tmp 89), []⟩,
  ⟨some 91, none, .p (.mov (.tmp 18)), []⟩,
  ⟨some 92, none, .p (.iaddr 1 (.tmp 90) (.tmp 91)), []⟩,
  ⟨some 93, none, .l 1 false (.tmp 92), []⟩,
  ⟨some 94, none, .a (.bslice (made [.int .i64 0] 1) 1 [(0, 1, (.tmp 93))]), []⟩,
  ⟨some 95, none, .a (.bslice (made [.slice none 0 0] 1) 1 [(0, 1, (.tmp 94))]), []⟩,
  ⟨some 96, none, .e (.append 1 24 (.tmp 86) (.tmp 95)), []⟩,
  ⟨some 19, none, .p (.mov (.tmp 96)), []⟩]
def r9_16 : List AOper := [
  ⟨some 84, none, .p (.mov (.tmp 20)), []⟩,
  ⟨some 85, none, .p (.bin .add (.tmp 84) (.const (.int .i64 1))), []⟩,
  ⟨some 20, none, .p (.mov (.tmp 85)), []⟩]
def b9_1 : ACode := .seq (.seq (.region r9_15) (.cond (.tmp 83) (.skip) (.exit 2))) (.seq (.block 3 (.region r9_17)) (.region r9_16))
def r9_18 : List AOper := [
  ⟨some 98, none, .p (.mov (.tmp 19)), []⟩,
  ⟨some 99, none, .c (.func 27) [(.tmp 98)], []⟩,
  ⟨some 97, none, .p (.mov (.tmp 99)), []⟩,
  ⟨some 100, none, .p (.ext (.tmp 97) 0), []⟩,
  ⟨some 101, none, .p (.ext (.tmp 97) 1), []⟩,
  ⟨some 21, none, .p (.mov (.tmp 100)), []⟩,
  ⟨some 22, none, .p (.mov (.tmp 101)), []⟩]
def r9_19 : List AOper := [
  ⟨some 102, none, .p (.mov (.tmp 22)), []⟩,
  ⟨some 103, none, .p (.bin .neq (.tmp 102) (.const (.int .i64 0))), []⟩]
def r9_20 : List AOper := [
  ⟨some 6, none, .p (.mov (.const (.bool false))), []⟩]
def r9_21 : List AOper := [
  ⟨some 104, none, .p (.mov (.tmp 17)), []⟩,
  ⟨some 105, none, .p (.mov (.tmp 21)), []⟩,
  ⟨some 106, none, .p (.bin .add (.tmp 104) (.tmp 105)), []⟩,
  ⟨some 17, none, .p (.mov (.tmp 106)), []⟩]
def r9_12 : List AOper := [
  ⟨some 78, none, .p (.mov (.tmp 18)), []⟩,
  ⟨some 79, none, .p (.bin .add (.tmp 78) (.const (.int .i64 1))), []⟩,
  ⟨some 18, none, .p (.mov (.tmp 79)), []⟩]
def b9_2 : ACode := .seq (.seq (.region r9_11) (.cond (.tmp 77) (.skip) (.exit 0))) (.seq (.block 1 (.seq (.region r9_13) (.seq (.seq (.region r9_14) (.block 2 (.loop b9_1))) (.seq (.region r9_18) (.seq (.seq (.region r9_19) (.cond (.tmp 103) (.seq (.region r9_20) (.ret)) (.skip))) (.region r9_21)))))) (.region r9_12))
def r9_22 : List AOper := [
  ⟨some 108, none, .p (.mov (.tmp 7)), []⟩,
  ⟨some 109, none, .p (.mov (.tmp 15)), []⟩,
  ⟨some 110, none, .p (.mov (.tmp 10)), []⟩,
  ⟨some 111, none, .c (.func 35) [(.tmp 108), (.tmp 109), (.tmp 110)], []⟩,
  ⟨some 107, none, .p (.mov (.tmp 111)), []⟩,
  ⟨some 112, none, .p (.ext (.tmp 107) 0), []⟩,
  ⟨some 113, none, .p (.ext (.tmp 107) 1), []⟩,
  ⟨some 23, none, .p (.mov (.tmp 112)), []⟩,
  ⟨some 24, none, .p (.mov (.tmp 113)), []⟩]
def r9_23 : List AOper := [
  ⟨some 114, none, .p (.mov (.tmp 17)), []⟩,
  ⟨some 115, none, .p (.mov (.tmp 11)), []⟩,
  ⟨some 116, none, .p (.bin .leq (.tmp 114) (.tmp 115)), []⟩,
  ⟨some 117, none, .p (.mov (.tmp 116)), []⟩,
  ⟨some 118, some (117, true), .p (.mov (.tmp 23)), []⟩,
  ⟨some 119, some (117, true), .p (.mov (.tmp 11)), []⟩,
  ⟨some 120, some (117, true), .p (.bin .eql (.tmp 118) (.tmp 119)), []⟩,
  ⟨some 121, none, .p (.pick (.tmp 117) (.tmp 120) (.const (.bool false))), []⟩,
  ⟨some 122, none, .p (.mov (.tmp 121)), []⟩,
  ⟨some 123, some (122, true), .p (.mov (.tmp 24)), []⟩,
  ⟨some 124, some (122, true), .p (.bin .eql (.tmp 123) (.const (.int .i64 0))), []⟩,
  ⟨some 125, none, .p (.pick (.tmp 122) (.tmp 124) (.const (.bool false))), []⟩,
  ⟨some 6, none, .p (.mov (.tmp 125)), []⟩]
def f9 : AFn := { body := .seq (.region r9_0) (.seq (.region r9_1) (.seq (.region r9_2) (.seq (.region r9_3) (.seq (.region r9_4) (.seq (.region r9_5) (.seq (.region r9_6) (.seq (.seq (.region r9_7) (.cond (.tmp 74) (.seq (.region r9_8) (.ret)) (.skip))) (.seq (.region r9_9) (.seq (.seq (.region r9_10) (.block 0 (.loop b9_2))) (.seq (.region r9_22) (.seq (.region r9_23) (.ret)))))))))))), results := [.tmp 6], n := 126 }

/-! function 10: "(woggle/wogglelaw02.Plant).few" -/
def r10_0 : List AOper := [
  ⟨some 1, none, .a (.box (.tmp 0)), []⟩,
  ⟨some 2, none, .p (.mov (.const (.int .i64 0))), []⟩,
  ⟨some 3, none, .p (.mov (.const (.slice none 0 0))), []⟩]
def r10_1 : List AOper := [
  ⟨some 4, none, .p (.faddr 0 (.tmp 1)), []⟩,
  ⟨some 5, none, .l 1 false (.tmp 4), []⟩,
  ⟨some 7, none, .p (.faddr 1 (.tmp 1)), []⟩,
  ⟨some 8, none, .l 1 false (.tmp 7), []⟩,
  ⟨some 9, none, .p (.faddr 1 (.tmp 1)), []⟩,
  ⟨some 10, none, .l 1 false (.tmp 9), []⟩,
  ⟨some 11, none, .p (.len (.tmp 10)), []⟩,
  ⟨some 12, none, .p (.mn (.tmp 11) (.const (.int .i64 9))), []⟩,
  ⟨some 13, none, .p (.slice 2 (.tmp 8) none (some (.tmp 12)) none), []⟩,
  ⟨some 6, none, .a (.bslice (made [.int .i64 0, .int .i64 0] 0) 0 []), []⟩,
  ⟨some 14, none, .e (.append 2 16 (.tmp 6) (.tmp 13)), [((.tmp 4), 1)]⟩,
  ⟨some 2, none, .p (.mov (.tmp 5)), []⟩,
  ⟨some 3, none, .p (.mov (.tmp 14)), []⟩]
def f10 : AFn := { body := .seq (.region r10_0) (.seq (.region r10_1) (.ret)), results := [.tmp 2, .tmp 3], n := 15 }

/-! function 11: "woggle/wogglelaw02.rows" -/
def r11_0 : List AOper := [
  ⟨some 2, none, .p (.mov (.const (.slice none 0 0))), []⟩]
def r11_1 : List AOper := [
  ⟨some 5, none, .a (.bslice (made [.slice none 0 0] 0) 0 []), []⟩,
  ⟨some 3, none, .p (.mov (.tmp 5)), []⟩]
def r11_2 : List AOper := [
  ⟨some 4, none, .p (.mov (.const (.int .i64 0))), []⟩]
def r11_3 : List AOper := [
  ⟨some 6, none, .p (.mov (.tmp 4)), []⟩,
  ⟨some 7, none, .p (.mov (.tmp 0)), []⟩,
  ⟨some 8, none, .p (.len (.tmp 7)), []⟩,
  ⟨some 9, none, .p (.bin .lss (.tmp 6) (.tmp 8)), []⟩,
  ⟨some 10, none, .p (.mov (.tmp 9)), []⟩,
  ⟨some 11, some (10, true), .p (.mov (.tmp 4)), []⟩,
  ⟨some 12, some (10, true), .p (.bin .leq (.tmp 11) (.const (.int .i64 8))), []⟩,
  ⟨some 13, none, .p (.pick (.tmp 10) (.tmp 12) (.const (.bool false))), []⟩]
def r11_5 : List AOper := [
  ⟨some 16, none, .p (.mov (.tmp 3)), []⟩,
  ⟨some 17, none, .p (.mov (.tmp 0)), []⟩,
  ⟨some 18, none, .p (.mov (.tmp 4)), []⟩,
  ⟨some 19, none, .p (.iaddr 1 (.tmp 17) (.tmp 18)), []⟩,
  ⟨some 20, none, .l 1 false (.tmp 19), []⟩,
  ⟨some 21, none, .c (.func 12) [(.tmp 20)], []⟩,
  ⟨some 22, none, .a (.bslice (made [.slice none 0 0] 1) 1 [(0, 1, (.tmp 21))]), []⟩,
  ⟨some 23, none, .e (.append 1 24 (.tmp 16) (.tmp 22)), []⟩,
  ⟨some 3, none, .p (.mov (.tmp 23)), []⟩]
def r11_4 : List AOper := [
  ⟨some 14, none, .p (.mov (.tmp 4)), []⟩,
  ⟨some 15, none, .p (.bin .add (.tmp 14) (.const (.int .i64 1))), []⟩,
  ⟨some 4, none, .p (.mov (.tmp 15)), []⟩]
def b11_1 : ACode := .seq (.seq (.region r11_3) (.cond (.tmp 13) (.skip) (.exit 0))) (.seq (.block 1 (.region r11_5)) (.region r11_4))
def r11_6 : List AOper := [
  ⟨some 24, none, .p (.mov (.tmp 3)), []⟩,
  ⟨some 2, none, .p (.mov (.tmp 24)), []⟩]
def f11 : AFn := { body := .seq (.region r11_0) (.seq (.region r11_1) (.seq (.seq (.region r11_2) (.block 0 (.loop b11_1))) (.seq (.region r11_6) (.ret)))), results := [.tmp 2], n := 25 }

/-! function 12: "woggle/wogglelaw02.cut" -/
def r12_0 : List AOper := [
  ⟨some 2, none, .p (.mov (.const (.slice none 0 0))), []⟩]
def r12_1 : List AOper := [
  ⟨some 3, none, .a (.bslice (made [.int .i64 0] 0) 0 []), []⟩,
  ⟨some 4, none, .p (.mov (.tmp 0)), []⟩,
  ⟨some 5, none, .p (.mov (.tmp 0)), []⟩,
  ⟨some 6, none, .p (.len (.tmp 5)), []⟩,
  ⟨some 7, none, .p (.mn (.tmp 6) (.const (.int .i64 9))), []⟩,
  ⟨some 8, none, .p (.slice 1 (.tmp 4) none (some (.tmp 7)) none), []⟩,
  ⟨some 9, none, .e (.append 1 8 (.tmp 3) (.tmp 8)), []⟩,
  ⟨some 2, none, .p (.mov (.tmp 9)), []⟩]
def f12 : AFn := { body := .seq (.region r12_0) (.seq (.region r12_1) (.ret)), results := [.tmp 2], n := 10 }

/-! function 13: "woggle/track.Least" -/
def r13_0 : List AOper := [
  ⟨some 8, none, .p (.mov (.const (.int .i64 0))), []⟩,
  ⟨some 9, none, .p (.mov (.const (.int .i64 0))), []⟩]
def r13_1 : List AOper := [
  ⟨some 15, none, .p (.mov (.tmp 0)), []⟩,
  ⟨some 16, none, .p (.mov (.tmp 1)), []⟩,
  ⟨some 17, none, .p (.mov (.tmp 2)), []⟩,
  ⟨some 18, none, .p (.mov (.tmp 3)), []⟩,
  ⟨some 19, none, .c (.func 36) [(.tmp 15), (.tmp 16), (.tmp 17), (.tmp 18)], []⟩,
  ⟨some 14, none, .p (.mov (.tmp 19)), []⟩,
  ⟨some 20, none, .p (.ext (.tmp 14) 0), []⟩,
  ⟨some 21, none, .p (.ext (.tmp 14) 1), []⟩,
  ⟨some 10, none, .p (.mov (.tmp 20)), []⟩,
  ⟨some 11, none, .p (.mov (.tmp 21)), []⟩]
def r13_2 : List AOper := [
  ⟨some 22, none, .p (.mov (.tmp 11)), []⟩,
  ⟨some 23, none, .p (.bin .neq (.tmp 22) (.const (.int .i64 0))), []⟩]
def r13_3 : List AOper := [
  ⟨some 24, none, .p (.mov (.tmp 11)), []⟩,
  ⟨some 8, none, .p (.mov (.const (.int .i64 0))), []⟩,
  ⟨some 9, none, .p (.mov (.tmp 24)), []⟩]
def r13_4 : List AOper := [
  ⟨some 26, none, .p (.mov (.tmp 10)), []⟩,
  ⟨some 27, none, .p (.mov (.tmp 10)), []⟩,
  ⟨some 28, none, .c (.func 38) [(.tmp 27)], []⟩,
  ⟨some 29, none, .c (.func 37) [(.tmp 26), (.tmp 28)], []⟩,
  ⟨some 25, none, .p (.mov (.tmp 29)), []⟩,
  ⟨some 30, none, .p (.ext (.tmp 25) 0), []⟩,
  ⟨some 31, none, .p (.ext (.tmp 25) 1), []⟩,
  ⟨some 12, none, .p (.mov (.tmp 30)), []⟩,
  ⟨some 13, none, .p (.mov (.tmp 31)), []⟩]
def r13_5 : List AOper := [
  ⟨some 32, none, .p (.mov (.tmp 12)), []⟩,
  ⟨some 8, none, .p (.mov (.tmp 32)), []⟩,
  ⟨some 9, none, .p (.mov (.const (.int .i64 0))), []⟩]
def f13 : AFn := { body := .seq (.region r13_0) (.seq (.region r13_1) (.seq (.seq (.region r13_2) (.cond (.tmp 23) (.seq (.region r13_3) (.ret)) (.skip))) (.seq (.region r13_4) (.seq (.region r13_5) (.ret))))), results := [.tmp 8, .tmp 9], n := 33 }

/-! function 14: "woggle/track.Ways" -/
def r14_0 : List AOper := [
  ⟨some 8, none, .p (.mov (.const (.int .i64 0))), []⟩,
  ⟨some 9, none, .p (.mov (.const (.int .i64 0))), []⟩]
def r14_1 : List AOper := [
  ⟨some 15, none, .p (.mov (.tmp 0)), []⟩,
  ⟨some 16, none, .p (.mov (.tmp 1)), []⟩,
  ⟨some 17, none, .p (.mov (.tmp 2)), []⟩,
  ⟨some 18, none, .p (.mov (.tmp 3)), []⟩,
  ⟨some 19, none, .c (.func 36) [(.tmp 15), (.tmp 16), (.tmp 17), (.tmp 18)], []⟩,
  ⟨some 14, none, .p (.mov (.tmp 19)), []⟩,
  ⟨some 20, none, .p (.ext (.tmp 14) 0), []⟩,
  ⟨some 21, none, .p (.ext (.tmp 14) 1), []⟩,
  ⟨some 10, none, .p (.mov (.tmp 20)), []⟩,
  ⟨some 11, none, .p (.mov (.tmp 21)), []⟩]
def r14_2 : List AOper := [
  ⟨some 22, none, .p (.mov (.tmp 11)), []⟩,
  ⟨some 23, none, .p (.bin .neq (.tmp 22) (.const (.int .i64 0))), []⟩]
def r14_3 : List AOper := [
  ⟨some 24, none, .p (.mov (.tmp 11)), []⟩,
  ⟨some 8, none, .p (.mov (.const (.int .i64 0))), []⟩,
  ⟨some 9, none, .p (.mov (.tmp 24)), []⟩]
def r14_4 : List AOper := [
  ⟨some 26, none, .p (.mov (.tmp 10)), []⟩,
  ⟨some 27, none, .p (.mov (.tmp 10)), []⟩,
  ⟨some 28, none, .c (.func 38) [(.tmp 27)], []⟩,
  ⟨some 29, none, .c (.func 37) [(.tmp 26), (.tmp 28)], []⟩,
  ⟨some 25, none, .p (.mov (.tmp 29)), []⟩,
  ⟨some 30, none, .p (.ext (.tmp 25) 0), []⟩,
  ⟨some 31, none, .p (.ext (.tmp 25) 1), []⟩,
  ⟨some 12, none, .p (.mov (.tmp 30)), []⟩,
  ⟨some 13, none, .p (.mov (.tmp 31)), []⟩]
def r14_5 : List AOper := [
  ⟨some 32, none, .p (.mov (.tmp 13)), []⟩,
  ⟨some 8, none, .p (.mov (.tmp 32)), []⟩,
  ⟨some 9, none, .p (.mov (.const (.int .i64 0))), []⟩]
def f14 : AFn := { body := .seq (.region r14_0) (.seq (.region r14_1) (.seq (.seq (.region r14_2) (.cond (.tmp 23) (.seq (.region r14_3) (.ret)) (.skip))) (.seq (.region r14_4) (.seq (.region r14_5) (.ret))))), results := [.tmp 8, .tmp 9], n := 33 }

/-! function 15: "woggle/wogglelaw02.why" -/
def r15_0 : List AOper := [
  ⟨some 8, none, .p (.mov (.const (.int .i64 0))), []⟩]
def r15_1 : List AOper := [
  ⟨some 9, none, .p (.mov (.tmp 0)), []⟩,
  ⟨some 10, none, .p (.mov (.tmp 1)), []⟩,
  ⟨some 11, none, .c (.func 33) [(.tmp 9), (.tmp 10)], []⟩,
  ⟨some 12, none, .p (.not (.tmp 11)), []⟩,
  ⟨some 13, none, .p (.mov (.tmp 12)), []⟩,
  ⟨some 14, some (13, false), .p (.mov (.tmp 2)), []⟩,
  ⟨some 15, some (13, false), .c (.func 39) [(.tmp 14)], []⟩,
  ⟨some 16, some (13, false), .p (.not (.tmp 15)), []⟩,
  ⟨some 17, none, .p (.pick (.tmp 13) (.const (.bool true)) (.tmp 16)), []⟩]
def r15_2 : List AOper := [
  ⟨some 8, none, .p (.mov (.const (.int .i64 1))), []⟩]
def r15_3 : List AOper := [
  ⟨some 18, none, .p (.mov (.tmp 0)), []⟩,
  ⟨some 19, none, .p (.mov (.tmp 2)), []⟩,
  ⟨some 20, none, .p (.len (.tmp 19)), []⟩,
  ⟨some 21, none, .p (.mov (.tmp 3)), []⟩,
  ⟨some 22, none, .c (.func 40) [(.tmp 18), (.tmp 20), (.tmp 21)], []⟩,
  ⟨some 23, none, .p (.not (.tmp 22)), []⟩]
def r15_4 : List AOper := [
  ⟨some 8, none, .p (.mov (.const (.int .i64 2))), []⟩]
def r15_5 : List AOper := [
  ⟨some 8, none, .p (.mov (.const (.int .i64 0))), []⟩]
def f15 : AFn := { body := .seq (.region r15_0) (.seq (.seq (.region r15_1) (.cond (.tmp 17) (.seq (.region r15_2) (.ret)) (.skip))) (.seq (.seq (.region r15_3) (.cond (.tmp 23) (.seq (.region r15_4) (.ret)) (.skip))) (.seq (.region r15_5) (.ret)))), results := [.tmp 8], n := 24 }

/-! function 16: "woggle/wogglelaw02.lives" -/
def r16_0 : List AOper := [
  ⟨some 0, none, .p (.mov (.const (.bool false))), []⟩]
def r16_1 : List AOper := [
  ⟨some 11, none, .p (.build [.int .i64 0, .int .i64 0] [(0, 1, (.const (.int .i64 0))), (1, 1, (.const (.int .i64 1)))]), []⟩,
  ⟨some 12, none, .p (.build [.int .i64 0, .int .i64 0] [(0, 1, (.const (.int .i64 2))), (1, 1, (.const (.int .i64 3)))]), []⟩,
  ⟨some 13, none, .p (.build [.int .i64 0, .int .i64 0] [(0, 1, (.const (.int .i64 4))), (1, 1, (.const (.int .i64 5)))]), []⟩,
  ⟨some 14, none, .a (.bslice (made [.int .i64 0, .int .i64 0] 6) 3 [(0, 2, (.tmp 11)), (2, 2, (.tmp 12)), (4, 2, (.tmp 13))]), []⟩,
  ⟨some 1, none, .p (.mov (.tmp 14)), []⟩]
def r16_2 : List AOper := [
  ⟨some 16, none, .p (.mov (.tmp 1)), []⟩,
  ⟨some 17, none, .a (.bslice (made [.int .i64 0] 4) 4 [(0, 1, (.const (.int .i64 0))), (1, 1, (.const (.int .i64 0))), (2, 1, (.const (.int .i64 1))), (3, 1, (.const (.int .i64 1)))]), []⟩,
  ⟨some 18, none, .c (.func 20) [(.const (.int .i64 4)), (.tmp 16), (.const (.int .i64 2)), (.tmp 17)], []⟩,
  ⟨some 15, none, .p (.mov (.tmp 18)), []⟩,
  ⟨some 19, none, .p (.ext (.tmp 15) 0), []⟩,
  ⟨some 20, none, .p (.ext (.tmp 15) 1), []⟩,
  ⟨some 21, none, .p (.ext (.tmp 15) 2), []⟩,
  ⟨some 2, none, .p (.mov (.tmp 19)), []⟩,
  ⟨some 3, none, .p (.mov (.tmp 20)), []⟩,
  ⟨some 4, none, .p (.mov (.tmp 21)), []⟩]
def r16_3 : List AOper := [
  ⟨some 23, none, .p (.mov (.tmp 1)), []⟩,
  ⟨some 24, none, .c (.func 21) [(.const (.int .i64 2))], []⟩,
  ⟨some 25, none, .a (.bslice (made [.int .i64 0] 4) 4 [(0, 1, (.const (.int .i64 0))), (1, 1, (.const (.int .i64 1))), (2, 1, (.const (.int .i64 0))), (3, 1, (.const (.int .i64 1)))]), []⟩,
  ⟨some 26, none, .c (.func 41) [(.const (.int .i64 4)), (.tmp 23), (.tmp 24), (.tmp 25)], []⟩,
  ⟨some 22, none, .p (.mov (.tmp 26)), []⟩,
  ⟨some 27, none, .p (.ext (.tmp 22) 0), []⟩,
  ⟨some 28, none, .p (.ext (.tmp 22) 1), []⟩,
  ⟨some 5, none, .p (.mov (.tmp 27)), []⟩,
  ⟨some 6, none, .p (.mov (.tmp 28)), []⟩]
def r16_4 : List AOper := [
  ⟨some 30, none, .p (.mov (.tmp 1)), []⟩,
  ⟨some 31, none, .c (.func 21) [(.const (.int .i64 2))], []⟩,
  ⟨some 32, none, .a (.bslice (made [.int .i64 0] 4) 4 [(0, 1, (.const (.int .i64 0))), (1, 1, (.const (.int .i64 1))), (2, 1, (.const (.int .i64 0))), (3, 1, (.const (.int .i64 1)))]), []⟩,
  ⟨some 33, none, .c (.func 14) [(.const (.int .i64 4)), (.tmp 30), (.tmp 31), (.tmp 32)], []⟩,
  ⟨some 29, none, .p (.mov (.tmp 33)), []⟩,
  ⟨some 34, none, .p (.ext (.tmp 29) 0), []⟩,
  ⟨some 35, none, .p (.ext (.tmp 29) 1), []⟩,
  ⟨some 7, none, .p (.mov (.tmp 34)), []⟩,
  ⟨some 8, none, .p (.mov (.tmp 35)), []⟩]
def r16_5 : List AOper := [
  ⟨some 37, none, .c (.func 42) [(.const (.int .i64 4))], []⟩,
  ⟨some 36, none, .p (.mov (.tmp 37)), []⟩,
  ⟨some 38, none, .p (.ext (.tmp 36) 0), []⟩,
  ⟨some 39, none, .p (.ext (.tmp 36) 1), []⟩,
  ⟨some 9, none, .p (.mov (.tmp 38)), []⟩,
  ⟨some 10, none, .p (.mov (.tmp 39)), []⟩]
def r16_6 : List AOper := [
  ⟨some 40, none, .p (.mov (.tmp 2)), []⟩,
  ⟨some 41, none, .a (.bslice (made [.int .i64 0] 1) 1 [(0, 1, (.const (.int .i64 0)))]), []⟩,
  ⟨some 42, none, .a (.bslice (made [.int .i64 0] 1) 1 [(0, 1, (.const (.int .i64 1)))]), []⟩,
  ⟨some 43, none, .a (.bslice (made [.int .i64 0] 2) 2 [(0, 1, (.const (.int .i64 0))), (1, 1, (.const (.int .i64 1)))]), []⟩,
  ⟨some 44, none, .a (.bslice (made [.slice none 0 0] 3) 3 [(0, 1, (.tmp 41)), (1, 1, (.tmp 42)), (2, 1, (.tmp 43))]), []⟩,
  ⟨some 45, none, .c (.func 43) [(.tmp 40), (.tmp 44)], []⟩,
  ⟨some 46, none, .p (.mov (.tmp 45)), []⟩,
  ⟨some 47, some (46, true), .p (.mov (.tmp 3)), []⟩,
  ⟨some 48, some (46, true), .p (.bin .eql (.tmp 47) (.const (.int .i64 1))), []⟩,
  ⟨some 49, none, .p (.pick (.tmp 46) (.tmp 48) (.const (.bool false))), []⟩,
  ⟨some 50, none, .p (.mov (.tmp 49)), []⟩,
  ⟨some 51, some (50, true), .p (.mov (.tmp 4)), []⟩,
  ⟨some 52, some (50, true), .p (.bin .eql (.tmp 51) (.const (.int .i64 0))), []⟩,
  ⟨some 53, none, .p (.pick (.tmp 50) (.tmp 52) (.const (.bool false))), []⟩,
  ⟨some 54, none, .p (.mov (.tmp 53)), []⟩,
  ⟨some 55, some (54, true), .p (.mov (.tmp 5)), []⟩,
  ⟨some 56, some (54, true), .a (.bslice (made [.int .i64 0] 3) 3 [(0, 1, (.const (.int .i64 0))), (1, 1, (.const (.int .i64 0))), (2, 1, (.const (.int .i64 0)))]), []⟩,
  ⟨some 57, some (54, true), .c (.func 23) [(.tmp 55), (.tmp 56)], []⟩,
  ⟨some 58, none, .p (.pick (.tmp 54) (.tmp 57) (.const (.bool false))), []⟩,
  ⟨some 59, none, .p (.mov (.tmp 58)), []⟩,
  ⟨some 60, some (59, true), .p (.mov (.tmp 6)), []⟩,
  ⟨some 61, some (59, true), .p (.bin .eql (.tmp 60) (.const (.int .i64 0))), []⟩,
  ⟨some 62, none, .p (.pick (.tmp 59) (.tmp 61) (.const (.bool false))), []⟩,
  ⟨some 63, none, .p (.mov (.tmp 62)), []⟩,
  ⟨some 64, some (63, true), .p (.mov (.tmp 7)), []⟩,
  ⟨some 65, some (63, true), .p (.bin .eql (.tmp 64) (.const (.int .i64 2))), []⟩,
  ⟨some 66, none, .p (.pick (.tmp 63) (.tmp 65) (.const (.bool false))), []⟩,
  ⟨some 67, none, .p (.mov (.tmp 66)), []⟩,
  ⟨some 68, some (67, true), .p (.mov (.tmp 8)), []⟩,
  ⟨some 69, some (67, true), .p (.bin .eql (.tmp 68) (.const (.int .i64 0))), []⟩,
  ⟨some 70, none, .p (.pick (.tmp 67) (.tmp 69) (.const (.bool false))), []⟩,
  ⟨some 71, none, .p (.mov (.tmp 70)), []⟩,
  ⟨some 72, some (71, true), .p (.mov (.tmp 9)), []⟩,
  ⟨some 73, some (71, true), .p (.bin .eql (.tmp 72) (.const (.int .i64 15))), []⟩,
  ⟨some 74, none, .p (.pick (.tmp 71) (.tmp 73) (.const (.bool false))), []⟩,
  ⟨some 75, none, .p (.mov (.tmp 74)), []⟩,
  ⟨some 76, some (75, true), .p (.mov (.tmp 10)), []⟩,
  ⟨some 77, some (75, true), .p (.bin .eql (.tmp 76) (.const (.int .i64 0))), []⟩,
  ⟨some 78, none, .p (.pick (.tmp 75) (.tmp 77) (.const (.bool false))), []⟩,
  ⟨some 0, none, .p (.mov (.tmp 78)), []⟩]
def f16 : AFn := { body := .seq (.region r16_0) (.seq (.region r16_1) (.seq (.region r16_2) (.seq (.region r16_3) (.seq (.region r16_4) (.seq (.region r16_5) (.seq (.region r16_6) (.ret))))))), results := [.tmp 0], n := 79 }

/-! function 17: "woggle/woggleref02.Least" -/
def r17_0 : List AOper := [
  ⟨some 8, none, .p (.mov (.const (.int .i64 0))), []⟩,
  ⟨some 9, none, .p (.mov (.const (.int .i64 0))), []⟩]
def r17_1 : List AOper := [
  ⟨some 11, none, .p (.mov (.tmp 0)), []⟩,
  ⟨some 12, none, .p (.mov (.tmp 1)), []⟩,
  ⟨some 13, none, .p (.mov (.tmp 2)), []⟩,
  ⟨some 14, none, .p (.mov (.tmp 3)), []⟩,
  ⟨some 15, none, .c (.func 22) [(.tmp 11), (.tmp 12), (.tmp 13), (.tmp 14)], []⟩,
  ⟨some 10, none, .p (.mov (.tmp 15)), []⟩]
def r17_2 : List AOper := [
  ⟨some 16, none, .p (.mov (.tmp 10)), []⟩,
  ⟨some 17, none, .p (.mov (.tmp 10)), []⟩,
  ⟨some 18, none, .p (.len (.tmp 17)), []⟩,
  ⟨some 19, none, .p (.bin .sub (.tmp 18) (.const (.int .i64 1))), []⟩,
  ⟨some 20, none, .p (.iaddr 2 (.tmp 16) (.tmp 19)), []⟩,
  ⟨some 21, none, .l 2 true (.tmp 20), []⟩,
  ⟨some 22, none, .p (.mov (.tmp 2)), []⟩,
  ⟨some 23, none, .p (.len (.tmp 22)), []⟩,
  ⟨some 24, none, .a (.mslice 8 [.int .i64 0] (.tmp 23) (.tmp 23)), []⟩,
  ⟨some 25, none, .c (.func 44) [(.tmp 21), (.tmp 24)], []⟩,
  ⟨some 26, none, .p (.ext (.tmp 25) 0), []⟩,
  ⟨some 27, none, .p (.ext (.tmp 25) 1), []⟩,
  ⟨some 8, none, .p (.mov (.tmp 26)), []⟩,
  ⟨some 9, none, .p (.mov (.tmp 27)), []⟩]
def f17 : AFn := { body := .seq (.region r17_0) (.seq (.region r17_1) (.seq (.region r17_2) (.ret))), results := [.tmp 8, .tmp 9], n := 28 }

/-! function 18: "woggle/wogglelaw02.made" -/
def r18_0 : List AOper := [
  ⟨some 4, none, .p (.mov (.const (.int .i64 0))), []⟩,
  ⟨some 5, none, .p (.mov (.const (.slice none 0 0))), []⟩]
def r18_1 : List AOper := [
  ⟨some 15, none, .p (.mov (.tmp 0)), []⟩,
  ⟨some 16, none, .p (.conv .i64 (.tmp 15)), []⟩,
  ⟨some 17, none, .p (.bin .rem (.tmp 16) (.const (.int .i64 7))), []⟩,
  ⟨some 18, none, .p (.bin .add (.tmp 17) (.const (.int .i64 2))), []⟩,
  ⟨some 6, none, .p (.mov (.tmp 18)), []⟩]
def r18_2 : List AOper := [
  ⟨some 19, none, .p (.mov (.tmp 6)), []⟩,
  ⟨some 20, none, .c (.func 32) [(.tmp 19)], []⟩,
  ⟨some 21, none, .a (.bslice (made [.int .i64 0, .int .i64 0] 0) 0 []), []⟩,
  ⟨some 7, none, .p (.mov (.tmp 20)), []⟩,
  ⟨some 8, none, .p (.mov (.tmp 21)), []⟩]
def r18_3 : List AOper := [
  ⟨some 9, none, .p (.mov (.const (.int .i64 0))), []⟩]
def r18_4 : List AOper := [
  ⟨some 22, none, .p (.mov (.tmp 7)), []⟩,
  ⟨some 23, none, .p (.len (.tmp 22)), []⟩,
  ⟨some 24, none, .p (.bin .gtr (.tmp 23) (.const (.int .i64 1))), []⟩]
def r18_6 : List AOper := [
  ⟨some 10, none, .p (.mov (.const (.int .i64 0))), []⟩]
def r18_7 : List AOper := [
  ⟨some 27, none, .p (.mov (.tmp 9)), []⟩,
  ⟨some 28, none, .p (.mov (.tmp 1)), []⟩,
  ⟨some 29, none, .p (.len (.tmp 28)), []⟩,
  ⟨some 30, none, .p (.bin .lss (.tmp 27) (.tmp 29)), []⟩]
def r18_8 : List AOper := [
  ⟨some 31, none, .p (.mov (.tmp 1)), []⟩,
  ⟨some 32, none, .p (.mov (.tmp 9)), []⟩,
  ⟨some 33, none, .p (.iaddr 1 (.tmp 31) (.tmp 32)), []⟩,
  ⟨some 34, none, .l 1 false (.tmp 33), []⟩,
  ⟨some 35, none, .p (.conv .i64 (.tmp 34)), []⟩,
  ⟨some 10, none, .p (.mov (.tmp 35)), []⟩]
def r18_9 : List AOper := [
  ⟨some 36, none, .p (.mov (.tmp 10)), []⟩,
  ⟨some 37, none, .p (.mov (.tmp 7)), []⟩,
  ⟨some 38, none, .p (.len (.tmp 37)), []⟩,
  ⟨some 39, none, .p (.bin .rem (.tmp 36) (.tmp 38)), []⟩,
  ⟨some 11, none, .p (.mov (.tmp 39)), []⟩]
def r18_10 : List AOper := [
  ⟨some 40, none, .p (.mov (.tmp 11)), []⟩,
  ⟨some 41, none, .p (.bin .add (.tmp 40) (.const (.int .i64 1))), []⟩,
  ⟨some 42, none, .p (.mov (.tmp 10)), []⟩,
  ⟨some 43, none, .p (.bin .quo (.tmp 42) (.const (.int .i64 8))), []⟩,
  ⟨some 44, none, .p (.mov (.tmp 7)), []⟩,
  ⟨some 45, none, .p (.len (.tmp 44)), []⟩,
  ⟨some 46, none, .p (.bin .sub (.tmp 45) (.const (.int .i64 1))), []⟩,
  ⟨some 47, none, .p (.bin .rem (.tmp 43) (.tmp 46)), []⟩,
  ⟨some 48, none, .p (.bin .add (.tmp 41) (.tmp 47)), []⟩,
  ⟨some 49, none, .p (.mov (.tmp 7)), []⟩,
  ⟨some 50, none, .p (.len (.tmp 49)), []⟩,
  ⟨some 51, none, .p (.bin .rem (.tmp 48) (.tmp 50)), []⟩,
  ⟨some 12, none, .p (.mov (.tmp 51)), []⟩]
def r18_11 : List AOper := [
  ⟨some 52, none, .p (.mov (.tmp 8)), []⟩,
  ⟨some 53, none, .p (.mov (.tmp 7)), []⟩,
  ⟨some 54, none, .p (.mov (.tmp 11)), []⟩,
  ⟨some 55, none, .p (.iaddr 1 (.tmp 53) (.tmp 54)), []⟩,
  ⟨some 56, none, .l 1 false (.tmp 55), []⟩,
  ⟨some 57, none, .p (.mov (.tmp 7)), []⟩,
  ⟨some 58, none, .p (.mov (.tmp 12)), []⟩,
  ⟨some 59, none, .p (.iaddr 1 (.tmp 57) (.tmp 58)), []⟩,
  ⟨some 60, none, .l 1 false (.tmp 59), []⟩,
  ⟨some 61, none, .p (.build [.int .i64 0, .int .i64 0] [(0, 1, (.tmp 56)), (1, 1, (.tmp 60))]), []⟩,
  ⟨some 62, none, .a (.bslice (made [.int .i64 0, .int .i64 0] 2) 1 [(0, 2, (.tmp 61))]), []⟩,
  ⟨some 63, none, .e (.append 2 16 (.tmp 52) (.tmp 62)), []⟩,
  ⟨some 8, none, .p (.mov (.tmp 63)), []⟩]
def r18_12 : List AOper := [
  ⟨some 64, none, .a (.bslice (made [.int .i64 0] 0) 0 []), []⟩,
  ⟨some 13, none, .p (.mov (.tmp 64)), []⟩]
def r18_13 : List AOper := [
  ⟨some 14, none, .p (.mov (.const (.int .i64 0))), []⟩]
def r18_14 : List AOper := [
  ⟨some 65, none, .p (.mov (.tmp 14)), []⟩,
  ⟨some 66, none, .p (.mov (.tmp 7)), []⟩,
  ⟨some 67, none, .p (.len (.tmp 66)), []⟩,
  ⟨some 68, none, .p (.bin .lss (.tmp 65) (.tmp 67)), []⟩]
def r18_16 : List AOper := [
  ⟨some 71, none, .p (.mov (.tmp 14)), []⟩,
  ⟨some 72, none, .p (.mov (.tmp 11)), []⟩,
  ⟨some 73, none, .p (.bin .neq (.tmp 71) (.tmp 72)), []⟩,
  ⟨some 74, none, .p (.mov (.tmp 73)), []⟩,
  ⟨some 75, some (74, true), .p (.mov (.tmp 14)), []⟩,
  ⟨some 76, some (74, true), .p (.mov (.tmp 12)), []⟩,
  ⟨some 77, some (74, true), .p (.bin .neq (.tmp 75) (.tmp 76)), []⟩,
  ⟨some 78, none, .p (.pick (.tmp 74) (.tmp 77) (.const (.bool false))), []⟩]
def r18_17 : List AOper := [
  ⟨some 79, none, .p (.mov (.tmp 13)), []⟩,
  ⟨some 80, none, .p (.mov (.tmp 7)), []⟩,
  ⟨some 81, none, .p (.mov (.tmp 14)), []⟩,
  ⟨some 82, none, .p (.iaddr 1 (.tmp 80) (.tmp 81)), []⟩,
  ⟨some 83, none, .l 1 false (.tmp 82), []⟩,
  ⟨some 84, none, .a (.bslice (made [.int .i64 0] 1) 1 [(0, 1, (.tmp 83))]), []⟩,
  ⟨some 85, none, .e (.append 1 8 (.tmp 79) (.tmp 84)), []⟩,
  ⟨some 13, none, .p (.mov (.tmp 85)), []⟩]
def r18_15 : List AOper := [
  ⟨some 69, none, .p (.mov (.tmp 14)), []⟩,
  ⟨some 70, none, .p (.bin .add (.tmp 69) (.const (.int .i64 1))), []⟩,
  ⟨some 14, none, .p (.mov (.tmp 70)), []⟩]
def b18_1 : ACode := .seq (.seq (.region r18_14) (.cond (.tmp 68) (.skip) (.exit 2))) (.seq (.block 3 (.seq (.region r18_16) (.cond (.tmp 78) (.region r18_17) (.skip)))) (.region r18_15))
def r18_18 : List AOper := [
  ⟨some 86, none, .p (.mov (.tmp 13)), []⟩,
  ⟨some 87, none, .p (.mov (.tmp 6)), []⟩,
  ⟨some 88, none, .p (.mov (.tmp 8)), []⟩,
  ⟨some 89, none, .p (.len (.tmp 88)), []⟩,
  ⟨some 90, none, .p (.bin .add (.tmp 87) (.tmp 89)), []⟩,
  ⟨some 91, none, .p (.bin .sub (.tmp 90) (.const (.int .i64 1))), []⟩,
  ⟨some 92, none, .a (.bslice (made [.int .i64 0] 1) 1 [(0, 1, (.tmp 91))]), []⟩,
  ⟨some 93, none, .e (.append 1 8 (.tmp 86) (.tmp 92)), []⟩,
  ⟨some 7, none, .p (.mov (.tmp 93)), []⟩]
def r18_5 : List AOper := [
  ⟨some 25, none, .p (.mov (.tmp 9)), []⟩,
  ⟨some 26, none, .p (.bin .add (.tmp 25) (.const (.int .i64 1))), []⟩,
  ⟨some 9, none, .p (.mov (.tmp 26)), []⟩]
def b18_2 : ACode := .seq (.seq (.region r18_4) (.cond (.tmp 24) (.skip) (.exit 0))) (.seq (.block 1 (.seq (.region r18_6) (.seq (.seq (.region r18_7) (.cond (.tmp 30) (.region r18_8) (.skip))) (.seq (.region r18_9) (.seq (.region r18_10) (.seq (.region r18_11) (.seq (.region r18_12) (.seq (.seq (.region r18_13) (.block 2 (.loop b18_1))) (.region r18_18))))))))) (.region r18_5))
def r18_19 : List AOper := [
  ⟨some 94, none, .p (.mov (.tmp 6)), []⟩,
  ⟨some 95, none, .p (.mov (.tmp 8)), []⟩,
  ⟨some 4, none, .p (.mov (.tmp 94)), []⟩,
  ⟨some 5, none, .p (.mov (.tmp 95)), []⟩]
def f18 : AFn := { body := .seq (.region r18_0) (.seq (.region r18_1) (.seq (.region r18_2) (.seq (.seq (.region r18_3) (.block 0 (.loop b18_2))) (.seq (.region r18_19) (.ret))))), results := [.tmp 4, .tmp 5], n := 96 }

/-! function 19: "woggle/wogglelaw02.states" -/
def r19_0 : List AOper := [
  ⟨some 6, none, .p (.mov (.const (.slice none 0 0))), []⟩]
def r19_1 : List AOper := [
  ⟨some 10, none, .a (.bslice (made [.int .i64 0] 0) 0 []), []⟩,
  ⟨some 7, none, .p (.mov (.tmp 10)), []⟩]
def r19_2 : List AOper := [
  ⟨some 8, none, .p (.mov (.const (.int .i64 0))), []⟩]
def r19_3 : List AOper := [
  ⟨some 11, none, .p (.mov (.tmp 8)), []⟩,
  ⟨some 12, none, .p (.mov (.tmp 0)), []⟩,
  ⟨some 13, none, .p (.bin .lss (.tmp 11) (.tmp 12)), []⟩]
def r19_5 : List AOper := [
  ⟨some 9, none, .p (.mov (.const (.int .i64 0))), []⟩]
def r19_6 : List AOper := [
  ⟨some 16, none, .p (.mov (.tmp 8)), []⟩,
  ⟨some 17, none, .p (.mov (.tmp 2)), []⟩,
  ⟨some 18, none, .p (.len (.tmp 17)), []⟩,
  ⟨some 19, none, .p (.bin .lss (.tmp 16) (.tmp 18)), []⟩]
def r19_7 : List AOper := [
  ⟨some 20, none, .p (.mov (.tmp 2)), []⟩,
  ⟨some 21, none, .p (.mov (.tmp 8)), []⟩,
  ⟨some 22, none, .p (.iaddr 1 (.tmp 20) (.tmp 21)), []⟩,
  ⟨some 23, none, .l 1 false (.tmp 22), []⟩,
  ⟨some 24, none, .p (.conv .i64 (.tmp 23)), []⟩,
  ⟨some 25, none, .p (.mov (.tmp 1)), []⟩,
  ⟨some 26, none, .p (.bin .rem (.tmp 24) (.tmp 25)), []⟩,
  ⟨some 9, none, .p (.mov (.tmp 26)), []⟩]
def r19_8 : List AOper := [
  ⟨some 27, none, .p (.mov (.tmp 7)), []⟩,
  ⟨some 28, none, .p (.mov (.tmp 9)), []⟩,
  ⟨some 29, none, .a (.bslice (made [.int .i64 0] 1) 1 [(0, 1, (.tmp 28))]), []⟩,
  ⟨some 30, none, .e (.append 1 8 (.tmp 27) (.tmp 29)), []⟩,
  ⟨some 7, none, .p (.mov (.tmp 30)), []⟩]
def r19_4 : List AOper := [
  ⟨some 14, none, .p (.mov (.tmp 8)), []⟩,
  ⟨some 15, none, .p (.bin .add (.tmp 14) (.const (.int .i64 1))), []⟩,
  ⟨some 8, none, .p (.mov (.tmp 15)), []⟩]
def b19_1 : ACode := .seq (.seq (.region r19_3) (.cond (.tmp 13) (.skip) (.exit 0))) (.seq (.block 1 (.seq (.region r19_5) (.seq (.seq (.region r19_6) (.cond (.tmp 19) (.region r19_7) (.skip))) (.region r19_8)))) (.region r19_4))
def r19_9 : List AOper := [
  ⟨some 31, none, .p (.mov (.tmp 7)), []⟩,
  ⟨some 6, none, .p (.mov (.tmp 31)), []⟩]
def f19 : AFn := { body := .seq (.region r19_0) (.seq (.region r19_1) (.seq (.seq (.region r19_2) (.block 0 (.loop b19_1))) (.seq (.region r19_9) (.ret)))), results := [.tmp 6], n := 32 }

/-! function 20: "woggle/track.Fitch" -/
def r20_0 : List AOper := [
  ⟨some 8, none, .p (.mov (.const (.slice none 0 0))), []⟩,
  ⟨some 9, none, .p (.mov (.const (.int .i64 0))), []⟩,
  ⟨some 10, none, .p (.mov (.const (.int .i64 0))), []⟩]
def r20_1 : List AOper := [
  ⟨some 19, none, .p (.mov (.tmp 0)), []⟩,
  ⟨some 20, none, .p (.mov (.tmp 1)), []⟩,
  ⟨some 21, none, .c (.func 45) [(.tmp 19), (.tmp 20)], []⟩,
  ⟨some 22, none, .p (.not (.tmp 21)), []⟩,
  ⟨some 23, none, .p (.mov (.tmp 22)), []⟩,
  ⟨some 24, some (23, false), .p (.mov (.tmp 2)), []⟩,
  ⟨some 25, some (23, false), .p (.bin .lss (.tmp 24) (.const (.int .i64 1))), []⟩,
  ⟨some 26, none, .p (.pick (.tmp 23) (.const (.bool true)) (.tmp 25)), []⟩,
  ⟨some 27, none, .p (.mov (.tmp 26)), []⟩,
  ⟨some 28, some (27, false), .p (.mov (.tmp 2)), []⟩,
  ⟨some 29, some (27, false), .p (.bin .gtr (.tmp 28) (.const (.int .i64 4))), []⟩,
  ⟨some 30, none, .p (.pick (.tmp 27) (.const (.bool true)) (.tmp 29)), []⟩,
  ⟨some 18, none, .p (.mov (.tmp 30)), []⟩]
def r20_2 : List AOper := [
  ⟨some 8, none, .p (.mov (.const (.slice none 0 0))), []⟩,
  ⟨some 9, none, .p (.mov (.const (.int .i64 0))), []⟩,
  ⟨some 10, none, .p (.mov (.const (.int .i64 1))), []⟩]
def r20_3 : List AOper := [
  ⟨some 32, none, .p (.mov (.tmp 3)), []⟩,
  ⟨some 33, none, .p (.mov (.tmp 0)), []⟩,
  ⟨some 34, none, .p (.mov (.tmp 2)), []⟩,
  ⟨some 35, none, .c (.func 46) [(.tmp 32), (.tmp 33), (.tmp 34)], []⟩,
  ⟨some 36, none, .p (.not (.tmp 35)), []⟩,
  ⟨some 31, none, .p (.mov (.tmp 36)), []⟩]
def r20_4 : List AOper := [
  ⟨some 8, none, .p (.mov (.const (.slice none 0 0))), []⟩,
  ⟨some 9, none, .p (.mov (.const (.int .i64 0))), []⟩,
  ⟨some 10, none, .p (.mov (.const (.int .i64 2))), []⟩]
def r20_5 : List AOper := [
  ⟨some 38, none, .p (.mov (.tmp 1)), []⟩,
  ⟨some 39, none, .p (.mov (.tmp 3)), []⟩,
  ⟨some 40, none, .c (.func 47) [(.tmp 38), (.tmp 39)], []⟩,
  ⟨some 37, none, .p (.mov (.tmp 40)), []⟩,
  ⟨some 41, none, .p (.ext (.tmp 37) 0), []⟩,
  ⟨some 42, none, .p (.ext (.tmp 37) 1), []⟩,
  ⟨some 11, none, .p (.mov (.tmp 41)), []⟩,
  ⟨some 12, none, .p (.mov (.tmp 42)), []⟩]
def r20_6 : List AOper := [
  ⟨some 13, none, .p (.mov (.const (.slice none 0 0))), []⟩]
def r20_7 : List AOper := [
  ⟨some 43, none, .p (.mov (.tmp 11)), []⟩,
  ⟨some 44, none, .p (.mov (.tmp 0)), []⟩,
  ⟨some 45, none, .p (.slice 1 (.tmp 43) (some (.tmp 44)) none none), []⟩,
  ⟨some 46, none, .p (.len (.tmp 45)), []⟩,
  ⟨some 47, none, .p (.mov (.const (.int .i64 0))), []⟩]
def r20_8 : List AOper := [
  ⟨some 48, none, .p (.bin .lss (.tmp 47) (.tmp 46)), []⟩]
def r20_9 : List AOper := [
  ⟨some 49, none, .p (.iaddr 1 (.tmp 45) (.tmp 47)), []⟩,
  ⟨some 50, none, .l 1 false (.tmp 49), []⟩,
  ⟨some 15, none, .p (.mov (.tmp 50)), []⟩]
def r20_10 : List AOper := [
  ⟨some 16, none, .p (.mov (.const (.slice none 0 0))), []⟩]
def r20_11 : List AOper := [
  ⟨some 51, none, .p (.mov (.tmp 2)), []⟩,
  ⟨some 52, none, .p (.mov (.const (.int .i64 0))), []⟩]
def r20_12 : List AOper := [
  ⟨some 53, none, .p (.bin .lss (.tmp 52) (.tmp 51)), []⟩]
def r20_13 : List AOper := [
  ⟨some 54, none, .p (.mov (.tmp 52)), []⟩,
  ⟨some 17, none, .p (.mov (.tmp 54)), []⟩]
def r20_14 : List AOper := [
  ⟨some 55, none, .p (.mov (.tmp 15)), []⟩,
  ⟨some 56, none, .p (.mov (.tmp 17)), []⟩,
  ⟨some 57, none, .p (.bin .shr (.tmp 55) (.tmp 56)), []⟩,
  ⟨some 58, none, .p (.bin .and (.tmp 57) (.const (.int .i64 1))), []⟩,
  ⟨some 59, none, .p (.bin .eql (.tmp 58) (.const (.int .i64 1))), []⟩]
def r20_15 : List AOper := [
  ⟨some 60, none, .p (.mov (.tmp 16)), []⟩,
  ⟨some 61, none, .p (.mov (.tmp 17)), []⟩,
  ⟨some 62, none, .a (.bslice (made [.int .i64 0] 1) 1 [(0, 1, (.tmp 61))]), []⟩,
  ⟨some 63, none, .e (.append 1 8 (.tmp 60) (.tmp 62)), []⟩,
  ⟨some 16, none, .p (.mov (.tmp 63)), []⟩]
def r20_16 : List AOper := [
  ⟨some 64, none, .p (.bin .add (.tmp 52) (.const (.int .i64 1))), []⟩,
  ⟨some 52, none, .p (.mov (.tmp 64)), []⟩]
def b20_1 : ACode := .seq (.region r20_12) (.seq (.cond (.tmp 53) (.skip) (.exit 3)) (.seq (.block 4 (.seq (.region r20_13) (.seq (.region r20_14) (.cond (.tmp 59) (.region r20_15) (.skip))))) (.region r20_16)))
def r20_17 : List AOper := [
  ⟨some 65, none, .p (.mov (.tmp 13)), []⟩,
  ⟨some 66, none, .p (.mov (.tmp 16)), []⟩,
  ⟨some 67, none, .a (.bslice (made [.slice none 0 0] 1) 1 [(0, 1, (.tmp 66))]), []⟩,
  ⟨some 68, none, .e (.append 1 24 (.tmp 65) (.tmp 67)), []⟩,
  ⟨some 13, none, .p (.mov (.tmp 68)), []⟩]
def r20_18 : List AOper := [
  ⟨some 69, none, .p (.bin .add (.tmp 47) (.const (.int .i64 1))), []⟩,
  ⟨some 47, none, .p (.mov (.tmp 69)), []⟩]
def b20_2 : ACode := .seq (.region r20_8) (.seq (.cond (.tmp 48) (.skip) (.exit 1)) (.seq (.block 2 (.seq (.region r20_9) (.seq (.region r20_10) (.seq (.seq (.region r20_11) (.block 3 (.loop b20_1))) (.region r20_17))))) (.region r20_18)))
def r20_19 : List AOper := [
  ⟨some 70, none, .p (.mov (.tmp 13)), []⟩,
  ⟨some 71, none, .p (.mov (.tmp 12)), []⟩,
  ⟨some 8, none, .p (.mov (.tmp 70)), []⟩,
  ⟨some 9, none, .p (.mov (.tmp 71)), []⟩,
  ⟨some 10, none, .p (.mov (.const (.int .i64 0))), []⟩]
def f20 : AFn := { body := .seq (.region r20_0) (.seq (.block 0 (.seq (.region r20_1) (.cond (.tmp 18) (.seq (.region r20_2) (.ret)) (.seq (.region r20_3) (.cond (.tmp 31) (.seq (.region r20_4) (.ret)) (.skip)))))) (.seq (.region r20_5) (.seq (.region r20_6) (.seq (.seq (.region r20_7) (.block 1 (.loop b20_2))) (.seq (.region r20_19) (.ret)))))), results := [.tmp 8, .tmp 9, .tmp 10], n := 72 }

/-! function 21: "woggle/woggleref02.Unit" -/
def r21_0 : List AOper := [
  ⟨some 2, none, .p (.mov (.const (.slice none 0 0))), []⟩]
def r21_1 : List AOper := [
  ⟨some 7, none, .a (.bslice (made [.slice none 0 0] 0) 0 []), []⟩,
  ⟨some 3, none, .p (.mov (.tmp 7)), []⟩]
def r21_2 : List AOper := [
  ⟨some 4, none, .p (.mov (.const (.int .i64 0))), []⟩]
def r21_3 : List AOper := [
  ⟨some 8, none, .p (.mov (.tmp 4)), []⟩,
  ⟨some 9, none, .p (.mov (.tmp 0)), []⟩,
  ⟨some 10, none, .p (.bin .lss (.tmp 8) (.tmp 9)), []⟩]
def r21_5 : List AOper := [
  ⟨some 13, none, .a (.bslice (made [.int .i64 0] 0) 0 []), []⟩,
  ⟨some 5, none, .p (.mov (.tmp 13)), []⟩]
def r21_6 : List AOper := [
  ⟨some 6, none, .p (.mov (.const (.int .i64 0))), []⟩]
def r21_7 : List AOper := [
  ⟨some 14, none, .p (.mov (.tmp 6)), []⟩,
  ⟨some 15, none, .p (.mov (.tmp 0)), []⟩,
  ⟨some 16, none, .p (.bin .lss (.tmp 14) (.tmp 15)), []⟩]
def r21_9 : List AOper := [
  ⟨some 19, none, .p (.mov (.tmp 4)), []⟩,
  ⟨some 20, none, .p (.mov (.tmp 6)), []⟩,
  ⟨some 21, none, .p (.bin .eql (.tmp 19) (.tmp 20)), []⟩]
def r21_10 : List AOper := [
  ⟨some 22, none, .p (.mov (.tmp 5)), []⟩,
  ⟨some 23, none, .a (.bslice (made [.int .i64 0] 1) 1 [(0, 1, (.const (.int .i64 0)))]), []⟩,
  ⟨some 24, none, .e (.append 1 8 (.tmp 22) (.tmp 23)), []⟩,
  ⟨some 5, none, .p (.mov (.tmp 24)), []⟩]
def r21_11 : List AOper := [
  ⟨some 25, none, .p (.mov (.tmp 5)), []⟩,
  ⟨some 26, none, .a (.bslice (made [.int .i64 0] 1) 1 [(0, 1, (.const (.int .i64 1)))]), []⟩,
  ⟨some 27, none, .e (.append 1 8 (.tmp 25) (.tmp 26)), []⟩,
  ⟨some 5, none, .p (.mov (.tmp 27)), []⟩]
def r21_8 : List AOper := [
  ⟨some 17, none, .p (.mov (.tmp 6)), []⟩,
  ⟨some 18, none, .p (.bin .add (.tmp 17) (.const (.int .i64 1))), []⟩,
  ⟨some 6, none, .p (.mov (.tmp 18)), []⟩]
def b21_1 : ACode := .seq (.seq (.region r21_7) (.cond (.tmp 16) (.skip) (.exit 2))) (.seq (.block 3 (.seq (.region r21_9) (.cond (.tmp 21) (.region r21_10) (.region r21_11)))) (.region r21_8))
def r21_12 : List AOper := [
  ⟨some 28, none, .p (.mov (.tmp 3)), []⟩,
  ⟨some 29, none, .p (.mov (.tmp 5)), []⟩,
  ⟨some 30, none, .a (.bslice (made [.slice none 0 0] 1) 1 [(0, 1, (.tmp 29))]), []⟩,
  ⟨some 31, none, .e (.append 1 24 (.tmp 28) (.tmp 30)), []⟩,
  ⟨some 3, none, .p (.mov (.tmp 31)), []⟩]
def r21_4 : List AOper := [
  ⟨some 11, none, .p (.mov (.tmp 4)), []⟩,
  ⟨some 12, none, .p (.bin .add (.tmp 11) (.const (.int .i64 1))), []⟩,
  ⟨some 4, none, .p (.mov (.tmp 12)), []⟩]
def b21_2 : ACode := .seq (.seq (.region r21_3) (.cond (.tmp 10) (.skip) (.exit 0))) (.seq (.block 1 (.seq (.region r21_5) (.seq (.seq (.region r21_6) (.block 2 (.loop b21_1))) (.region r21_12)))) (.region r21_4))
def r21_13 : List AOper := [
  ⟨some 32, none, .p (.mov (.tmp 3)), []⟩,
  ⟨some 2, none, .p (.mov (.tmp 32)), []⟩]
def f21 : AFn := { body := .seq (.region r21_0) (.seq (.region r21_1) (.seq (.seq (.region r21_2) (.block 0 (.loop b21_2))) (.seq (.region r21_13) (.ret)))), results := [.tmp 2], n := 33 }

/-! function 22: "woggle/woggleref02.Nodes" -/
def r22_0 : List AOper := [
  ⟨some 8, none, .p (.mov (.const (.slice none 0 0))), []⟩]
def r22_1 : List AOper := [
  ⟨some 20, none, .a (.bslice (made [.slice none 0 0, .slice none 0 0] 0) 0 []), []⟩,
  ⟨some 9, none, .p (.mov (.tmp 20)), []⟩]
def r22_2 : List AOper := [
  ⟨some 10, none, .p (.mov (.const (.int .i64 0))), []⟩]
def r22_3 : List AOper := [
  ⟨some 21, none, .p (.mov (.tmp 10)), []⟩,
  ⟨some 22, none, .p (.mov (.tmp 0)), []⟩,
  ⟨some 23, none, .p (.bin .lss (.tmp 21) (.tmp 22)), []⟩]
def r22_5 : List AOper := [
  ⟨some 26, none, .p (.build [.slice none 0 0, .slice none 0 0] []), []⟩,
  ⟨some 11, none, .a (.var [.slice none 0 0, .slice none 0 0]), []⟩,
  ⟨none, none, .e (.store 2 (.tmp 11) (.tmp 26)), []⟩]
def r22_6 : List AOper := [
  ⟨some 12, none, .p (.mov (.const (.int .i64 0))), []⟩]
def r22_7 : List AOper := [
  ⟨some 27, none, .p (.mov (.tmp 12)), []⟩,
  ⟨some 28, none, .p (.mov (.tmp 2)), []⟩,
  ⟨some 29, none, .p (.len (.tmp 28)), []⟩,
  ⟨some 30, none, .p (.bin .lss (.tmp 27) (.tmp 29)), []⟩]
def r22_9 : List AOper := [
  ⟨some 33, none, .p (.mov (.tmp 12)), []⟩,
  ⟨some 34, none, .p (.mov (.tmp 3)), []⟩,
  ⟨some 35, none, .p (.mov (.tmp 10)), []⟩,
  ⟨some 36, none, .p (.iaddr 1 (.tmp 34) (.tmp 35)), []⟩,
  ⟨some 37, none, .l 1 false (.tmp 36), []⟩,
  ⟨some 38, none, .p (.bin .eql (.tmp 33) (.tmp 37)), []⟩]
def r22_10 : List AOper := [
  ⟨some 39, none, .p (.faddr 0 (.tmp 11)), []⟩,
  ⟨some 40, none, .l 1 false (.tmp 39), []⟩,
  ⟨some 43, none, .p (.faddr 1 (.tmp 11)), []⟩,
  ⟨some 44, none, .l 1 false (.tmp 43), []⟩,
  ⟨some 41, none, .a (.bslice (made [.int .i64 0] 1) 1 [(0, 1, (.const (.int .i64 0)))]), []⟩,
  ⟨some 42, none, .e (.append 1 8 (.tmp 40) (.tmp 41)), [((.tmp 43), 1)]⟩,
  ⟨some 47, none, .p (.faddr 0 (.tmp 11)), []⟩,
  ⟨some 45, none, .a (.bslice (made [.int .i64 0] 1) 1 [(0, 1, (.const (.int .i64 1)))]), []⟩,
  ⟨some 46, none, .e (.append 1 8 (.tmp 44) (.tmp 45)), []⟩,
  ⟨none, none, .e (.store 1 (.tmp 47) (.tmp 42)), []⟩,
  ⟨some 48, none, .p (.faddr 1 (.tmp 11)), []⟩,
  ⟨none, none, .e (.store 1 (.tmp 48) (.tmp 46)), []⟩]
def r22_11 : List AOper := [
  ⟨some 49, none, .p (.faddr 0 (.tmp 11)), []⟩,
  ⟨some 50, none, .l 1 false (.tmp 49), []⟩,
  ⟨some 53, none, .p (.faddr 1 (.tmp 11)), []⟩,
  ⟨some 54, none, .l 1 false (.tmp 53), []⟩,
  ⟨some 51, none, .a (.bslice (made [.int .i64 0] 1) 1 [(0, 1, (.const (.int .i64 1073741824)))]), []⟩,
  ⟨some 52, none, .e (.append 1 8 (.tmp 50) (.tmp 51)), [((.tmp 53), 1)]⟩,
  ⟨some 57, none, .p (.faddr 0 (.tmp 11)), []⟩,
  ⟨some 55, none, .a (.bslice (made [.int .i64 0] 1) 1 [(0, 1, (.const (.int .i64 0)))]), []⟩,
  ⟨some 56, none, .e (.append 1 8 (.tmp 54) (.tmp 55)), []⟩,
  ⟨none, none, .e (.store 1 (.tmp 57) (.tmp 52)), []⟩,
  ⟨some 58, none, .p (.faddr 1 (.tmp 11)), []⟩,
  ⟨none, none, .e (.store 1 (.tmp 58) (.tmp 56)), []⟩]
def r22_8 : List AOper := [
  ⟨some 31, none, .p (.mov (.tmp 12)), []⟩,
  ⟨some 32, none, .p (.bin .add (.tmp 31) (.const (.int .i64 1))), []⟩,
  ⟨some 12, none, .p (.mov (.tmp 32)), []⟩]
def b22_1 : ACode := .seq (.seq (.region r22_7) (.cond (.tmp 30) (.skip) (.exit 2))) (.seq (.block 3 (.seq (.region r22_9) (.cond (.tmp 38) (.region r22_10) (.region r22_11)))) (.region r22_8))
def r22_12 : List AOper := [
  ⟨some 59, none, .p (.mov (.tmp 9)), []⟩,
  ⟨some 60, none, .l 2 true (.tmp 11), []⟩,
  ⟨some 61, none, .a (.bslice (made [.slice none 0 0, .slice none 0 0] 2) 1 [(0, 2, (.tmp 60))]), []⟩,
  ⟨some 62, none, .e (.append 2 48 (.tmp 59) (.tmp 61)), []⟩,
  ⟨some 9, none, .p (.mov (.tmp 62)), []⟩]
def r22_4 : List AOper := [
  ⟨some 24, none, .p (.mov (.tmp 10)), []⟩,
  ⟨some 25, none, .p (.bin .add (.tmp 24) (.const (.int .i64 1))), []⟩,
  ⟨some 10, none, .p (.mov (.tmp 25)), []⟩]
def b22_2 : ACode := .seq (.seq (.region r22_3) (.cond (.tmp 23) (.skip) (.exit 0))) (.seq (.block 1 (.seq (.region r22_5) (.seq (.seq (.region r22_6) (.block 2 (.loop b22_1))) (.region r22_12)))) (.region r22_4))
def r22_13 : List AOper := [
  ⟨some 13, none, .p (.mov (.const (.int .i64 0))), []⟩]
def r22_14 : List AOper := [
  ⟨some 63, none, .p (.mov (.tmp 13)), []⟩,
  ⟨some 64, none, .p (.mov (.tmp 1)), []⟩,
  ⟨some 65, none, .p (.len (.tmp 64)), []⟩,
  ⟨some 66, none, .p (.bin .lss (.tmp 63) (.tmp 65)), []⟩]
def r22_16 : List AOper := [
  ⟨some 69, none, .p (.build [.slice none 0 0, .slice none 0 0] []), []⟩,
  ⟨some 14, none, .a (.var [.slice none 0 0, .slice none 0 0]), []⟩,
  ⟨none, none, .e (.store 2 (.tmp 14) (.tmp 69)), []⟩]
def r22_17 : List AOper := [
  ⟨some 15, none, .p (.mov (.const (.int .i64 0))), []⟩]
def r22_18 : List AOper := [
  ⟨some 70, none, .p (.mov (.tmp 15)), []⟩,
  ⟨some 71, none, .p (.mov (.tmp 2)), []⟩,
  ⟨some 72, none, .p (.len (.tmp 71)), []⟩,
  ⟨some 73, none, .p (.bin .lss (.tmp 70) (.tmp 72)), []⟩]
def r22_20 : List AOper := [
  ⟨some 77, none, .p (.mov (.tmp 9)), []⟩,
  ⟨some 78, none, .p (.mov (.tmp 1)), []⟩,
  ⟨some 79, none, .p (.mov (.tmp 13)), []⟩,
  ⟨some 80, none, .p (.iaddr 2 (.tmp 78) (.tmp 79)), []⟩,
  ⟨some 81, none, .p (.faddr 0 (.tmp 80)), []⟩,
  ⟨some 82, none, .l 1 false (.tmp 81), []⟩,
  ⟨some 83, none, .p (.iaddr 2 (.tmp 77) (.tmp 82)), []⟩,
  ⟨some 84, none, .l 2 true (.tmp 83), []⟩,
  ⟨some 85, none, .p (.mov (.tmp 2)), []⟩,
  ⟨some 86, none, .p (.mov (.tmp 15)), []⟩,
  ⟨some 87, none, .p (.iaddr 1 (.tmp 85) (.tmp 86)), []⟩,
  ⟨some 88, none, .l 1 false (.tmp 87), []⟩,
  ⟨some 89, none, .c (.func 44) [(.tmp 84), (.tmp 88)], []⟩,
  ⟨some 76, none, .p (.mov (.tmp 89)), []⟩,
  ⟨some 90, none, .p (.ext (.tmp 76) 0), []⟩,
  ⟨some 91, none, .p (.ext (.tmp 76) 1), []⟩,
  ⟨some 16, none, .p (.mov (.tmp 90)), []⟩,
  ⟨some 17, none, .p (.mov (.tmp 91)), []⟩]
def r22_21 : List AOper := [
  ⟨some 93, none, .p (.mov (.tmp 9)), []⟩,
  ⟨some 94, none, .p (.mov (.tmp 1)), []⟩,
  ⟨some 95, none, .p (.mov (.tmp 13)), []⟩,
  ⟨some 96, none, .p (.iaddr 2 (.tmp 94) (.tmp 95)), []⟩,
  ⟨some 97, none, .p (.faddr 1 (.tmp 96)), []⟩,
  ⟨some 98, none, .l 1 false (.tmp 97), []⟩,
  ⟨some 99, none, .p (.iaddr 2 (.tmp 93) (.tmp 98)), []⟩,
  ⟨some 100, none, .l 2 true (.tmp 99), []⟩,
  ⟨some 101, none, .p (.mov (.tmp 2)), []⟩,
  ⟨some 102, none, .p (.mov (.tmp 15)), []⟩,
  ⟨some 103, none, .p (.iaddr 1 (.tmp 101) (.tmp 102)), []⟩,
  ⟨some 104, none, .l 1 false (.tmp 103), []⟩,
  ⟨some 105, none, .c (.func 44) [(.tmp 100), (.tmp 104)], []⟩,
  ⟨some 92, none, .p (.mov (.tmp 105)), []⟩,
  ⟨some 106, none, .p (.ext (.tmp 92) 0), []⟩,
  ⟨some 107, none, .p (.ext (.tmp 92) 1), []⟩,
  ⟨some 18, none, .p (.mov (.tmp 106)), []⟩,
  ⟨some 19, none, .p (.mov (.tmp 107)), []⟩]
def r22_22 : List AOper := [
  ⟨some 108, none, .p (.faddr 0 (.tmp 14)), []⟩,
  ⟨some 109, none, .l 1 false (.tmp 108), []⟩,
  ⟨some 110, none, .p (.mov (.tmp 16)), []⟩,
  ⟨some 111, none, .p (.mov (.tmp 18)), []⟩,
  ⟨some 112, none, .p (.bin .add (.tmp 110) (.tmp 111)), []⟩,
  ⟨some 115, none, .p (.faddr 1 (.tmp 14)), []⟩,
  ⟨some 116, none, .l 1 false (.tmp 115), []⟩,
  ⟨some 117, none, .p (.mov (.tmp 17)), []⟩,
  ⟨some 118, none, .p (.mov (.tmp 19)), []⟩,
  ⟨some 119, none, .p (.bin .mul (.tmp 117) (.tmp 118)), []⟩,
  ⟨some 113, none, .a (.bslice (made [.int .i64 0] 1) 1 [(0, 1, (.tmp 112))]), []⟩,
  ⟨some 114, none, .e (.append 1 8 (.tmp 109) (.tmp 113)), [((.tmp 115), 1)]⟩,
  ⟨some 122, none, .p (.faddr 0 (.tmp 14)), []⟩,
  ⟨some 120, none, .a (.bslice (made [.int .i64 0] 1) 1 [(0, 1, (.tmp 119))]), []⟩,
  ⟨some 121, none, .e (.append 1 8 (.tmp 116) (.tmp 120)), []⟩,
  ⟨none, none, .e (.store 1 (.tmp 122) (.tmp 114)), []⟩,
  ⟨some 123, none, .p (.faddr 1 (.tmp 14)), []⟩,
  ⟨none, none, .e (.store 1 (.tmp 123) (.tmp 121)), []⟩]
def r22_19 : List AOper := [
  ⟨some 74, none, .p (.mov (.tmp 15)), []⟩,
  ⟨some 75, none, .p (.bin .add (.tmp 74) (.const (.int .i64 1))), []⟩,
  ⟨some 15, none, .p (.mov (.tmp 75)), []⟩]
def b22_3 : ACode := .seq (.seq (.region r22_18) (.cond (.tmp 73) (.skip) (.exit 6))) (.seq (.block 7 (.seq (.region r22_20) (.seq (.region r22_21) (.region r22_22)))) (.region r22_19))
def r22_23 : List AOper := [
  ⟨some 124, none, .p (.mov (.tmp 9)), []⟩,
  ⟨some 125, none, .l 2 true (.tmp 14), []⟩,
  ⟨some 126, none, .a (.bslice (made [.slice none 0 0, .slice none 0 0] 2) 1 [(0, 2, (.tmp 125))]), []⟩,
  ⟨some 127, none, .e (.append 2 48 (.tmp 124) (.tmp 126)), []⟩,
  ⟨some 9, none, .p (.mov (.tmp 127)), []⟩]
def r22_15 : List AOper := [
  ⟨some 67, none, .p (.mov (.tmp 13)), []⟩,
  ⟨some 68, none, .p (.bin .add (.tmp 67) (.const (.int .i64 1))), []⟩,
  ⟨some 13, none, .p (.mov (.tmp 68)), []⟩]
def b22_4 : ACode := .seq (.seq (.region r22_14) (.cond (.tmp 66) (.skip) (.exit 4))) (.seq (.block 5 (.seq (.region r22_16) (.seq (.seq (.region r22_17) (.block 6 (.loop b22_3))) (.region r22_23)))) (.region r22_15))
def r22_24 : List AOper := [
  ⟨some 128, none, .p (.mov (.tmp 9)), []⟩,
  ⟨some 8, none, .p (.mov (.tmp 128)), []⟩]
def f22 : AFn := { body := .seq (.region r22_0) (.seq (.region r22_1) (.seq (.seq (.region r22_2) (.block 0 (.loop b22_2))) (.seq (.seq (.region r22_13) (.block 4 (.loop b22_4))) (.seq (.region r22_24) (.ret))))), results := [.tmp 8], n := 129 }

/-! function 23: "woggle/woggleref01.Same" -/
def r23_0 : List AOper := [
  ⟨some 4, none, .p (.mov (.const (.bool false))), []⟩]
def r23_1 : List AOper := [
  ⟨some 5, none, .p (.mov (.tmp 0)), []⟩,
  ⟨some 6, none, .p (.mov (.tmp 1)), []⟩,
  ⟨some 7, none, .c (.func 48) [(.tmp 5), (.tmp 6)], []⟩,
  ⟨some 8, none, .p (.not (.tmp 7)), []⟩,
  ⟨some 9, none, .p (.mov (.tmp 8)), []⟩,
  ⟨some 10, some (9, true), .p (.mov (.tmp 1)), []⟩,
  ⟨some 11, some (9, true), .p (.mov (.tmp 0)), []⟩,
  ⟨some 12, some (9, true), .c (.func 48) [(.tmp 10), (.tmp 11)], []⟩,
  ⟨some 13, some (9, true), .p (.not (.tmp 12)), []⟩,
  ⟨some 14, none, .p (.pick (.tmp 9) (.tmp 13) (.const (.bool false))), []⟩,
  ⟨some 4, none, .p (.mov (.tmp 14)), []⟩]
def f23 : AFn := { body := .seq (.region r23_0) (.seq (.region r23_1) (.ret)), results := [.tmp 4], n := 15 }

/-! function 24: "woggle/wogglelaw02.costs" -/
def r24_0 : List AOper := [
  ⟨some 6, none, .p (.mov (.const (.slice none 0 0))), []⟩]
def r24_1 : List AOper := [
  ⟨some 18, none, .a (.bslice (made [.slice none 0 0] 0) 0 []), []⟩,
  ⟨some 7, none, .p (.mov (.tmp 18)), []⟩]
def r24_2 : List AOper := [
  ⟨some 8, none, .p (.mov (.const (.int .i64 0))), []⟩]
def r24_3 : List AOper := [
  ⟨some 19, none, .p (.mov (.tmp 8)), []⟩,
  ⟨some 20, none, .p (.mov (.tmp 0)), []⟩,
  ⟨some 21, none, .p (.bin .lss (.tmp 19) (.tmp 20)), []⟩]
def r24_5 : List AOper := [
  ⟨some 24, none, .a (.bslice (made [.int .i64 0] 0) 0 []), []⟩,
  ⟨some 9, none, .p (.mov (.tmp 24)), []⟩]
def r24_6 : List AOper := [
  ⟨some 10, none, .p (.mov (.const (.int .i64 0))), []⟩]
def r24_7 : List AOper := [
  ⟨some 25, none, .p (.mov (.tmp 10)), []⟩,
  ⟨some 26, none, .p (.mov (.tmp 0)), []⟩,
  ⟨some 27, none, .p (.bin .lss (.tmp 25) (.tmp 26)), []⟩]
def r24_9 : List AOper := [
  ⟨some 11, none, .p (.mov (.const (.int .i64 1))), []⟩]
def r24_10 : List AOper := [
  ⟨some 30, none, .p (.mov (.tmp 8)), []⟩,
  ⟨some 31, none, .p (.mov (.tmp 0)), []⟩,
  ⟨some 32, none, .p (.bin .mul (.tmp 30) (.tmp 31)), []⟩,
  ⟨some 33, none, .p (.mov (.tmp 10)), []⟩,
  ⟨some 34, none, .p (.bin .add (.tmp 32) (.tmp 33)), []⟩,
  ⟨some 12, none, .p (.mov (.tmp 34)), []⟩]
def r24_11 : List AOper := [
  ⟨some 35, none, .p (.mov (.tmp 12)), []⟩,
  ⟨some 36, none, .p (.mov (.tmp 1)), []⟩,
  ⟨some 37, none, .p (.len (.tmp 36)), []⟩,
  ⟨some 38, none, .p (.bin .lss (.tmp 35) (.tmp 37)), []⟩]
def r24_12 : List AOper := [
  ⟨some 39, none, .p (.mov (.tmp 1)), []⟩,
  ⟨some 40, none, .p (.mov (.tmp 12)), []⟩,
  ⟨some 41, none, .p (.iaddr 1 (.tmp 39) (.tmp 40)), []⟩,
  ⟨some 42, none, .l 1 false (.tmp 41), []⟩,
  ⟨some 43, none, .p (.conv .i64 (.tmp 42)), []⟩,
  ⟨some 44, none, .p (.bin .rem (.tmp 43) (.const (.int .i64 101))), []⟩,
  ⟨some 11, none, .p (.mov (.tmp 44)), []⟩]
def r24_13 : List AOper := [
  ⟨some 45, none, .p (.mov (.tmp 9)), []⟩,
  ⟨some 46, none, .p (.mov (.tmp 11)), []⟩,
  ⟨some 47, none, .a (.bslice (made [.int .i64 0] 1) 1 [(0, 1, (.tmp 46))]), []⟩,
  ⟨some 48, none, .e (.append 1 8 (.tmp 45) (.tmp 47)), []⟩,
  ⟨some 9, none, .p (.mov (.tmp 48)), []⟩]
def r24_8 : List AOper := [
  ⟨some 28, none, .p (.mov (.tmp 10)), []⟩,
  ⟨some 29, none, .p (.bin .add (.tmp 28) (.const (.int .i64 1))), []⟩,
  ⟨some 10, none, .p (.mov (.tmp 29)), []⟩]
def b24_1 : ACode := .seq (.seq (.region r24_7) (.cond (.tmp 27) (.skip) (.exit 2))) (.seq (.block 3 (.seq (.region r24_9) (.seq (.seq (.region r24_10) (.seq (.region r24_11) (.cond (.tmp 38) (.region r24_12) (.skip)))) (.region r24_13)))) (.region r24_8))
def r24_14 : List AOper := [
  ⟨some 49, none, .p (.mov (.tmp 7)), []⟩,
  ⟨some 50, none, .p (.mov (.tmp 9)), []⟩,
  ⟨some 51, none, .a (.bslice (made [.slice none 0 0] 1) 1 [(0, 1, (.tmp 50))]), []⟩,
  ⟨some 52, none, .e (.append 1 24 (.tmp 49) (.tmp 51)), []⟩,
  ⟨some 7, none, .p (.mov (.tmp 52)), []⟩]
def r24_4 : List AOper := [
  ⟨some 22, none, .p (.mov (.tmp 8)), []⟩,
  ⟨some 23, none, .p (.bin .add (.tmp 22) (.const (.int .i64 1))), []⟩,
  ⟨some 8, none, .p (.mov (.tmp 23)), []⟩]
def b24_2 : ACode := .seq (.seq (.region r24_3) (.cond (.tmp 21) (.skip) (.exit 0))) (.seq (.block 1 (.seq (.region r24_5) (.seq (.seq (.region r24_6) (.block 2 (.loop b24_1))) (.region r24_14)))) (.region r24_4))
def r24_15 : List AOper := [
  ⟨some 53, none, .p (.mov (.tmp 2)), []⟩,
  ⟨some 54, none, .p (.not (.tmp 53)), []⟩]
def r24_16 : List AOper := [
  ⟨some 55, none, .p (.mov (.tmp 7)), []⟩,
  ⟨some 6, none, .p (.mov (.tmp 55)), []⟩]
def r24_17 : List AOper := [
  ⟨some 13, none, .p (.mov (.const (.int .i64 0))), []⟩]
def r24_18 : List AOper := [
  ⟨some 56, none, .p (.mov (.tmp 13)), []⟩,
  ⟨some 57, none, .p (.mov (.tmp 0)), []⟩,
  ⟨some 58, none, .p (.bin .lss (.tmp 56) (.tmp 57)), []⟩]
def r24_20 : List AOper := [
  ⟨some 14, none, .p (.mov (.const (.int .i64 0))), []⟩]
def r24_21 : List AOper := [
  ⟨some 61, none, .p (.mov (.tmp 14)), []⟩,
  ⟨some 62, none, .p (.mov (.tmp 13)), []⟩,
  ⟨some 63, none, .p (.bin .lss (.tmp 61) (.tmp 62)), []⟩]
def r24_23 : List AOper := [
  ⟨some 66, none, .p (.mov (.tmp 7)), []⟩,
  ⟨some 67, none, .p (.mov (.tmp 14)), []⟩,
  ⟨some 68, none, .p (.iaddr 1 (.tmp 66) (.tmp 67)), []⟩,
  ⟨some 69, none, .l 1 false (.tmp 68), []⟩,
  ⟨some 70, none, .p (.mov (.tmp 13)), []⟩,
  ⟨some 71, none, .p (.mov (.tmp 7)), []⟩,
  ⟨some 72, none, .p (.mov (.tmp 13)), []⟩,
  ⟨some 73, none, .p (.iaddr 1 (.tmp 71) (.tmp 72)), []⟩,
  ⟨some 74, none, .l 1 false (.tmp 73), []⟩,
  ⟨some 75, none, .p (.mov (.tmp 14)), []⟩,
  ⟨some 76, none, .p (.iaddr 1 (.tmp 74) (.tmp 75)), []⟩,
  ⟨some 77, none, .l 1 false (.tmp 76), []⟩,
  ⟨some 78, none, .p (.iaddr 1 (.tmp 69) (.tmp 70)), []⟩,
  ⟨none, none, .e (.store 1 (.tmp 78) (.tmp 77)), []⟩]
def r24_22 : List AOper := [
  ⟨some 64, none, .p (.mov (.tmp 14)), []⟩,
  ⟨some 65, none, .p (.bin .add (.tmp 64) (.const (.int .i64 1))), []⟩,
  ⟨some 14, none, .p (.mov (.tmp 65)), []⟩]
def b24_3 : ACode := .seq (.seq (.region r24_21) (.cond (.tmp 63) (.skip) (.exit 6))) (.seq (.block 7 (.region r24_23)) (.region r24_22))
def r24_24 : List AOper := [
  ⟨some 79, none, .p (.mov (.tmp 7)), []⟩,
  ⟨some 80, none, .p (.mov (.tmp 13)), []⟩,
  ⟨some 81, none, .p (.iaddr 1 (.tmp 79) (.tmp 80)), []⟩,
  ⟨some 82, none, .l 1 false (.tmp 81), []⟩,
  ⟨some 83, none, .p (.mov (.tmp 13)), []⟩,
  ⟨some 84, none, .p (.iaddr 1 (.tmp 82) (.tmp 83)), []⟩,
  ⟨none, none, .e (.store 1 (.tmp 84) (.const (.int .i64 0))), []⟩]
def r24_19 : List AOper := [
  ⟨some 59, none, .p (.mov (.tmp 13)), []⟩,
  ⟨some 60, none, .p (.bin .add (.tmp 59) (.const (.int .i64 1))), []⟩,
  ⟨some 13, none, .p (.mov (.tmp 60)), []⟩]
def b24_4 : ACode := .seq (.seq (.region r24_18) (.cond (.tmp 58) (.skip) (.exit 4))) (.seq (.block 5 (.seq (.seq (.region r24_20) (.block 6 (.loop b24_3))) (.region r24_24))) (.region r24_19))
def r24_25 : List AOper := [
  ⟨some 15, none, .p (.mov (.const (.int .i64 0))), []⟩]
def r24_26 : List AOper := [
  ⟨some 85, none, .p (.mov (.tmp 15)), []⟩,
  ⟨some 86, none, .p (.mov (.tmp 0)), []⟩,
  ⟨some 87, none, .p (.bin .lss (.tmp 85) (.tmp 86)), []⟩]
def r24_28 : List AOper := [
  ⟨some 16, none, .p (.mov (.const (.int .i64 0))), []⟩]
def r24_29 : List AOper := [
  ⟨some 90, none, .p (.mov (.tmp 16)), []⟩,
  ⟨some 91, none, .p (.mov (.tmp 0)), []⟩,
  ⟨some 92, none, .p (.bin .lss (.tmp 90) (.tmp 91)), []⟩]
def r24_31 : List AOper := [
  ⟨some 17, none, .p (.mov (.const (.int .i64 0))), []⟩]
def r24_32 : List AOper := [
  ⟨some 95, none, .p (.mov (.tmp 17)), []⟩,
  ⟨some 96, none, .p (.mov (.tmp 0)), []⟩,
  ⟨some 97, none, .p (.bin .lss (.tmp 95) (.tmp 96)), []⟩]
def r24_34 : List AOper := [
  ⟨some 100, none, .p (.mov (.tmp 7)), []⟩,
  ⟨some 101, none, .p (.mov (.tmp 16)), []⟩,
  ⟨some 102, none, .p (.iaddr 1 (.tmp 100) (.tmp 101)), []⟩,
  ⟨some 103, none, .l 1 false (.tmp 102), []⟩,
  ⟨some 104, none, .p (.mov (.tmp 17)), []⟩,
  ⟨some 105, none, .p (.mov (.tmp 7)), []⟩,
  ⟨some 106, none, .p (.mov (.tmp 16)), []⟩,
  ⟨some 107, none, .p (.iaddr 1 (.tmp 105) (.tmp 106)), []⟩,
  ⟨some 108, none, .l 1 false (.tmp 107), []⟩,
  ⟨some 109, none, .p (.mov (.tmp 17)), []⟩,
  ⟨some 110, none, .p (.iaddr 1 (.tmp 108) (.tmp 109)), []⟩,
  ⟨some 111, none, .l 1 false (.tmp 110), []⟩,
  ⟨some 112, none, .p (.mov (.tmp 7)), []⟩,
  ⟨some 113, none, .p (.mov (.tmp 16)), []⟩,
  ⟨some 114, none, .p (.iaddr 1 (.tmp 112) (.tmp 113)), []⟩,
  ⟨some 115, none, .l 1 false (.tmp 114), []⟩,
  ⟨some 116, none, .p (.mov (.tmp 15)), []⟩,
  ⟨some 117, none, .p (.iaddr 1 (.tmp 115) (.tmp 116)), []⟩,
  ⟨some 118, none, .l 1 false (.tmp 117), []⟩,
  ⟨some 119, none, .p (.mov (.tmp 7)), []⟩,
  ⟨some 120, none, .p (.mov (.tmp 15)), []⟩,
  ⟨some 121, none, .p (.iaddr 1 (.tmp 119) (.tmp 120)), []⟩,
  ⟨some 122, none, .l 1 false (.tmp 121), []⟩,
  ⟨some 123, none, .p (.mov (.tmp 17)), []⟩,
  ⟨some 124, none, .p (.iaddr 1 (.tmp 122) (.tmp 123)), []⟩,
  ⟨some 125, none, .l 1 false (.tmp 124), []⟩,
  ⟨some 126, none, .p (.bin .add (.tmp 118) (.tmp 125)), []⟩,
  ⟨some 127, none, .p (.mn (.tmp 111) (.tmp 126)), []⟩,
  ⟨some 128, none, .p (.iaddr 1 (.tmp 103) (.tmp 104)), []⟩,
  ⟨none, none, .e (.store 1 (.tmp 128) (.tmp 127)), []⟩]
def r24_33 : List AOper := [
  ⟨some 98, none, .p (.mov (.tmp 17)), []⟩,
  ⟨some 99, none, .p (.bin .add (.tmp 98) (.const (.int .i64 1))), []⟩,
  ⟨some 17, none, .p (.mov (.tmp 99)), []⟩]
def b24_5 : ACode := .seq (.seq (.region r24_32) (.cond (.tmp 97) (.skip) (.exit 12))) (.seq (.block 13 (.region r24_34)) (.region r24_33))
def r24_30 : List AOper := [
  ⟨some 93, none, .p (.mov (.tmp 16)), []⟩,
  ⟨some 94, none, .p (.bin .add (.tmp 93) (.const (.int .i64 1))), []⟩,
  ⟨some 16, none, .p (.mov (.tmp 94)), []⟩]
def b24_6 : ACode := .seq (.seq (.region r24_29) (.cond (.tmp 92) (.skip) (.exit 10))) (.seq (.block 11 (.seq (.region r24_31) (.block 12 (.loop b24_5)))) (.region r24_30))
def r24_27 : List AOper := [
  ⟨some 88, none, .p (.mov (.tmp 15)), []⟩,
  ⟨some 89, none, .p (.bin .add (.tmp 88) (.const (.int .i64 1))), []⟩,
  ⟨some 15, none, .p (.mov (.tmp 89)), []⟩]
def b24_7 : ACode := .seq (.seq (.region r24_26) (.cond (.tmp 87) (.skip) (.exit 8))) (.seq (.block 9 (.seq (.region r24_28) (.block 10 (.loop b24_6)))) (.region r24_27))
def r24_35 : List AOper := [
  ⟨some 129, none, .p (.mov (.tmp 7)), []⟩,
  ⟨some 6, none, .p (.mov (.tmp 129)), []⟩]
def f24 : AFn := { body := .seq (.region r24_0) (.seq (.region r24_1) (.seq (.seq (.region r24_2) (.block 0 (.loop b24_2))) (.seq (.seq (.region r24_15) (.cond (.tmp 54) (.seq (.region r24_16) (.ret)) (.skip))) (.seq (.seq (.region r24_17) (.block 4 (.loop b24_4))) (.seq (.seq (.region r24_25) (.block 8 (.loop b24_7))) (.seq (.region r24_35) (.ret))))))), results := [.tmp 6], n := 130 }

/-! function 25: "woggle/wogglelaw02.TrackRoot$1" -/
def r25_0 : List AOper := [
  ⟨some 3, none, .p (.mov (.const (.int .i64 0))), []⟩]
def r25_1 : List AOper := [
  ⟨some 4, none, .p (.mov (.tmp 0)), []⟩,
  ⟨some 5, none, .l 1 false (.tmp 1), []⟩,
  ⟨some 6, none, .p (.bin .gtr (.tmp 4) (.tmp 5)), []⟩]
def r25_2 : List AOper := [
  ⟨some 7, none, .p (.mov (.tmp 0)), []⟩,
  ⟨some 8, none, .p (.bin .sub (.tmp 7) (.const (.int .i64 1))), []⟩,
  ⟨some 3, none, .p (.mov (.tmp 8)), []⟩]
def r25_3 : List AOper := [
  ⟨some 9, none, .p (.mov (.tmp 0)), []⟩,
  ⟨some 3, none, .p (.mov (.tmp 9)), []⟩]
def f25 : AFn := { body := .seq (.region r25_0) (.seq (.seq (.region r25_1) (.cond (.tmp 6) (.seq (.region r25_2) (.ret)) (.skip))) (.seq (.region r25_3) (.ret))), results := [.tmp 3], n := 10 }

/-! function 26: "woggle/wogglelaw02.table" -/
def r26_0 : List AOper := [
  ⟨some 8, none, .p (.mov (.const (.slice none 0 0))), []⟩]
def r26_1 : List AOper := [
  ⟨some 15, none, .a (.bslice (made [.slice none 0 0] 0) 0 []), []⟩,
  ⟨some 9, none, .p (.mov (.tmp 15)), []⟩]
def r26_2 : List AOper := [
  ⟨some 10, none, .p (.mov (.const (.int .i64 0))), []⟩]
def r26_3 : List AOper := [
  ⟨some 16, none, .p (.mov (.tmp 10)), []⟩,
  ⟨some 17, none, .p (.mov (.tmp 0)), []⟩,
  ⟨some 18, none, .p (.bin .lss (.tmp 16) (.tmp 17)), []⟩]
def r26_5 : List AOper := [
  ⟨some 21, none, .a (.bslice (made [.int .i64 0] 0) 0 []), []⟩,
  ⟨some 11, none, .p (.mov (.tmp 21)), []⟩]
def r26_6 : List AOper := [
  ⟨some 12, none, .p (.mov (.const (.int .i64 0))), []⟩]
def r26_7 : List AOper := [
  ⟨some 22, none, .p (.mov (.tmp 12)), []⟩,
  ⟨some 23, none, .p (.mov (.tmp 1)), []⟩,
  ⟨some 24, none, .p (.bin .lss (.tmp 22) (.tmp 23)), []⟩]
def r26_9 : List AOper := [
  ⟨some 13, none, .p (.mov (.const (.int .i64 0))), []⟩]
def r26_10 : List AOper := [
  ⟨some 27, none, .p (.mov (.tmp 10)), []⟩,
  ⟨some 28, none, .p (.mov (.tmp 1)), []⟩,
  ⟨some 29, none, .p (.bin .mul (.tmp 27) (.tmp 28)), []⟩,
  ⟨some 30, none, .p (.mov (.tmp 12)), []⟩,
  ⟨some 31, none, .p (.bin .add (.tmp 29) (.tmp 30)), []⟩,
  ⟨some 14, none, .p (.mov (.tmp 31)), []⟩]
def r26_11 : List AOper := [
  ⟨some 32, none, .p (.mov (.tmp 14)), []⟩,
  ⟨some 33, none, .p (.mov (.tmp 3)), []⟩,
  ⟨some 34, none, .p (.len (.tmp 33)), []⟩,
  ⟨some 35, none, .p (.bin .lss (.tmp 32) (.tmp 34)), []⟩]
def r26_12 : List AOper := [
  ⟨some 36, none, .p (.mov (.tmp 3)), []⟩,
  ⟨some 37, none, .p (.mov (.tmp 14)), []⟩,
  ⟨some 38, none, .p (.iaddr 1 (.tmp 36) (.tmp 37)), []⟩,
  ⟨some 39, none, .l 1 false (.tmp 38), []⟩,
  ⟨some 40, none, .p (.conv .i64 (.tmp 39)), []⟩,
  ⟨some 41, none, .p (.mov (.tmp 2)), []⟩,
  ⟨some 42, none, .p (.bin .rem (.tmp 40) (.tmp 41)), []⟩,
  ⟨some 13, none, .p (.mov (.tmp 42)), []⟩]
def r26_13 : List AOper := [
  ⟨some 43, none, .p (.mov (.tmp 11)), []⟩,
  ⟨some 44, none, .p (.mov (.tmp 13)), []⟩,
  ⟨some 45, none, .a (.bslice (made [.int .i64 0] 1) 1 [(0, 1, (.tmp 44))]), []⟩,
  ⟨some 46, none, .e (.append 1 8 (.tmp 43) (.tmp 45)), []⟩,
  ⟨some 11, none, .p (.mov (.tmp 46)), []⟩]
def r26_8 : List AOper := [
  ⟨some 25, none, .p (.mov (.tmp 12)), []⟩,
  ⟨some 26, none, .p (.bin .add (.tmp 25) (.const (.int .i64 1))), []⟩,
  ⟨some 12, none, .p (.mov (.tmp 26)), []⟩]
def b26_1 : ACode := .seq (.seq (.region r26_7) (.cond (.tmp 24) (.skip) (.exit 2))) (.seq (.block 3 (.seq (.region r26_9) (.seq (.seq (.region r26_10) (.seq (.region r26_11) (.cond (.tmp 35) (.region r26_12) (.skip)))) (.region r26_13)))) (.region r26_8))
def r26_14 : List AOper := [
  ⟨some 47, none, .p (.mov (.tmp 9)), []⟩,
  ⟨some 48, none, .p (.mov (.tmp 11)), []⟩,
  ⟨some 49, none, .a (.bslice (made [.slice none 0 0] 1) 1 [(0, 1, (.tmp 48))]), []⟩,
  ⟨some 50, none, .e (.append 1 24 (.tmp 47) (.tmp 49)), []⟩,
  ⟨some 9, none, .p (.mov (.tmp 50)), []⟩]
def r26_4 : List AOper := [
  ⟨some 19, none, .p (.mov (.tmp 10)), []⟩,
  ⟨some 20, none, .p (.bin .add (.tmp 19) (.const (.int .i64 1))), []⟩,
  ⟨some 10, none, .p (.mov (.tmp 20)), []⟩]
def b26_2 : ACode := .seq (.seq (.region r26_3) (.cond (.tmp 18) (.skip) (.exit 0))) (.seq (.block 1 (.seq (.region r26_5) (.seq (.seq (.region r26_6) (.block 2 (.loop b26_1))) (.region r26_14)))) (.region r26_4))
def r26_15 : List AOper := [
  ⟨some 51, none, .p (.mov (.tmp 9)), []⟩,
  ⟨some 8, none, .p (.mov (.tmp 51)), []⟩]
def f26 : AFn := { body := .seq (.region r26_0) (.seq (.region r26_1) (.seq (.seq (.region r26_2) (.block 0 (.loop b26_2))) (.seq (.region r26_15) (.ret)))), results := [.tmp 8], n := 52 }

/-! function 27: "woggle/track.Best" -/
def r27_0 : List AOper := [
  ⟨some 2, none, .p (.mov (.const (.int .i64 0))), []⟩,
  ⟨some 3, none, .p (.mov (.const (.int .i64 0))), []⟩]
def r27_1 : List AOper := [
  ⟨some 6, none, .p (.mov (.tmp 0)), []⟩,
  ⟨some 7, none, .c (.func 49) [(.tmp 6)], []⟩,
  ⟨some 8, none, .p (.not (.tmp 7)), []⟩]
def r27_2 : List AOper := [
  ⟨some 2, none, .p (.mov (.const (.int .i64 0))), []⟩,
  ⟨some 3, none, .p (.mov (.const (.int .i64 2))), []⟩]
def r27_3 : List AOper := [
  ⟨some 10, none, .p (.mov (.tmp 0)), []⟩,
  ⟨some 11, none, .p (.mov (.tmp 0)), []⟩,
  ⟨some 12, none, .c (.func 51) [(.tmp 11)], []⟩,
  ⟨some 13, none, .c (.func 50) [(.tmp 10), (.const (.slice none 0 0)), (.tmp 12)], []⟩,
  ⟨some 9, none, .p (.mov (.tmp 13)), []⟩,
  ⟨some 14, none, .p (.ext (.tmp 9) 0), []⟩,
  ⟨some 15, none, .p (.ext (.tmp 9) 1), []⟩,
  ⟨some 4, none, .p (.mov (.tmp 14)), []⟩,
  ⟨some 5, none, .p (.mov (.tmp 15)), []⟩]
def r27_4 : List AOper := [
  ⟨some 16, none, .p (.mov (.tmp 4)), []⟩,
  ⟨some 2, none, .p (.mov (.tmp 16)), []⟩,
  ⟨some 3, none, .p (.mov (.const (.int .i64 0))), []⟩]
def f27 : AFn := { body := .seq (.region r27_0) (.seq (.seq (.region r27_1) (.cond (.tmp 8) (.seq (.region r27_2) (.ret)) (.skip))) (.seq (.region r27_3) (.seq (.region r27_4) (.ret)))), results := [.tmp 2, .tmp 3], n := 17 }

/-! function 28: "woggle/woggleref01.Members" -/
def r28_0 : List AOper := [
  ⟨some 2, none, .p (.mov (.const (.slice none 0 0))), []⟩]
def r28_1 : List AOper := [
  ⟨some 5, none, .a (.bslice (made [.int .i64 0] 0) 0 []), []⟩,
  ⟨some 3, none, .p (.mov (.tmp 5)), []⟩]
def r28_2 : List AOper := [
  ⟨some 4, none, .p (.mov (.const (.int .i64 0))), []⟩]
def r28_3 : List AOper := [
  ⟨some 6, none, .p (.mov (.tmp 0)), []⟩,
  ⟨some 7, none, .p (.mov (.tmp 4)), []⟩,
  ⟨some 8, none, .p (.bin .shr (.tmp 6) (.tmp 7)), []⟩,
  ⟨some 9, none, .p (.bin .gtr (.tmp 8) (.const (.int .i64 0))), []⟩]
def r28_5 : List AOper := [
  ⟨some 12, none, .p (.mov (.tmp 0)), []⟩,
  ⟨some 13, none, .p (.mov (.tmp 4)), []⟩,
  ⟨some 14, none, .p (.bin .shr (.tmp 12) (.tmp 13)), []⟩,
  ⟨some 15, none, .p (.bin .and (.tmp 14) (.const (.int .i64 1))), []⟩,
  ⟨some 16, none, .p (.bin .eql (.tmp 15) (.const (.int .i64 1))), []⟩]
def r28_6 : List AOper := [
  ⟨some 17, none, .p (.mov (.tmp 3)), []⟩,
  ⟨some 18, none, .p (.mov (.tmp 4)), []⟩,
  ⟨some 19, none, .a (.bslice (made [.int .i64 0] 1) 1 [(0, 1, (.tmp 18))]), []⟩,
  ⟨some 20, none, .e (.append 1 8 (.tmp 17) (.tmp 19)), []⟩,
  ⟨some 3, none, .p (.mov (.tmp 20)), []⟩]
def r28_4 : List AOper := [
  ⟨some 10, none, .p (.mov (.tmp 4)), []⟩,
  ⟨some 11, none, .p (.bin .add (.tmp 10) (.const (.int .i64 1))), []⟩,
  ⟨some 4, none, .p (.mov (.tmp 11)), []⟩]
def b28_1 : ACode := .seq (.seq (.region r28_3) (.cond (.tmp 9) (.skip) (.exit 0))) (.seq (.block 1 (.seq (.region r28_5) (.cond (.tmp 16) (.region r28_6) (.skip)))) (.region r28_4))
def r28_7 : List AOper := [
  ⟨some 21, none, .p (.mov (.tmp 3)), []⟩,
  ⟨some 2, none, .p (.mov (.tmp 21)), []⟩]
def f28 : AFn := { body := .seq (.region r28_0) (.seq (.region r28_1) (.seq (.seq (.region r28_2) (.block 0 (.loop b28_1))) (.seq (.region r28_7) (.ret)))), results := [.tmp 2], n := 22 }

/-! function 29: "woggle/track.Tree" -/
def r29_0 : List AOper := [
  ⟨some 2, none, .p (.mov (.const (.slice none 0 0))), []⟩,
  ⟨some 3, none, .p (.mov (.const (.int .i64 0))), []⟩]
def r29_1 : List AOper := [
  ⟨some 6, none, .p (.mov (.tmp 0)), []⟩,
  ⟨some 7, none, .c (.func 49) [(.tmp 6)], []⟩,
  ⟨some 8, none, .p (.not (.tmp 7)), []⟩]
def r29_2 : List AOper := [
  ⟨some 2, none, .p (.mov (.const (.slice none 0 0))), []⟩,
  ⟨some 3, none, .p (.mov (.const (.int .i64 2))), []⟩]
def r29_3 : List AOper := [
  ⟨some 10, none, .p (.mov (.tmp 0)), []⟩,
  ⟨some 11, none, .p (.mov (.tmp 0)), []⟩,
  ⟨some 12, none, .c (.func 51) [(.tmp 11)], []⟩,
  ⟨some 13, none, .c (.func 50) [(.tmp 10), (.const (.slice none 0 0)), (.tmp 12)], []⟩,
  ⟨some 9, none, .p (.mov (.tmp 13)), []⟩,
  ⟨some 14, none, .p (.ext (.tmp 9) 0), []⟩,
  ⟨some 15, none, .p (.ext (.tmp 9) 1), []⟩,
  ⟨some 4, none, .p (.mov (.tmp 14)), []⟩,
  ⟨some 5, none, .p (.mov (.tmp 15)), []⟩]
def r29_4 : List AOper := [
  ⟨some 16, none, .p (.mov (.tmp 5)), []⟩,
  ⟨some 2, none, .p (.mov (.tmp 16)), []⟩,
  ⟨some 3, none, .p (.mov (.const (.int .i64 0))), []⟩]
def f29 : AFn := { body := .seq (.region r29_0) (.seq (.seq (.region r29_1) (.cond (.tmp 8) (.seq (.region r29_2) (.ret)) (.skip))) (.seq (.region r29_3) (.seq (.region r29_4) (.ret)))), results := [.tmp 2, .tmp 3], n := 17 }

/-! function 30: "woggle/woggleref02.Table" -/
def r30_0 : List AOper := [
  ⟨some 2, none, .p (.mov (.const (.bool false))), []⟩]
def r30_1 : List AOper := [
  ⟨some 3, none, .p (.mov (.const (.int .i64 0))), []⟩]
def r30_2 : List AOper := [
  ⟨some 4, none, .p (.mov (.tmp 3)), []⟩,
  ⟨some 5, none, .p (.mov (.tmp 0)), []⟩,
  ⟨some 6, none, .p (.len (.tmp 5)), []⟩,
  ⟨some 7, none, .p (.bin .lss (.tmp 4) (.tmp 6)), []⟩]
def r30_4 : List AOper := [
  ⟨some 10, none, .p (.mov (.tmp 0)), []⟩,
  ⟨some 11, none, .p (.mov (.tmp 3)), []⟩,
  ⟨some 12, none, .p (.iaddr 1 (.tmp 10) (.tmp 11)), []⟩,
  ⟨some 13, none, .l 1 false (.tmp 12), []⟩,
  ⟨some 14, none, .p (.len (.tmp 13)), []⟩,
  ⟨some 15, none, .p (.mov (.tmp 0)), []⟩,
  ⟨some 16, none, .p (.iaddr 1 (.tmp 15) (.const (.int .i64 0))), []⟩,
  ⟨some 17, none, .l 1 false (.tmp 16), []⟩,
  ⟨some 18, none, .p (.len (.tmp 17)), []⟩,
  ⟨some 19, none, .p (.bin .neq (.tmp 14) (.tmp 18)), []⟩,
  ⟨some 20, none, .p (.mov (.tmp 19)), []⟩,
  ⟨some 21, some (20, false), .p (.mov (.tmp 0)), []⟩,
  ⟨some 22, some (20, false), .p (.mov (.tmp 3)), []⟩,
  ⟨some 23, some (20, false), .p (.iaddr 1 (.tmp 21) (.tmp 22)), []⟩,
  ⟨some 24, some (20, false), .l 1 false (.tmp 23), []⟩,
  ⟨some 25, some (20, false), .p (.len (.tmp 24)), []⟩,
  ⟨some 26, some (20, false), .p (.mov (.tmp 0)), []⟩,
  ⟨some 27, some (20, false), .p (.mov (.tmp 3)), []⟩,
  ⟨some 28, some (20, false), .p (.iaddr 1 (.tmp 26) (.tmp 27)), []⟩,
  ⟨some 29, some (20, false), .l 1 false (.tmp 28), []⟩,
  ⟨some 30, some (20, false), .c (.func 40) [(.tmp 25), (.const (.int .i64 4)), (.tmp 29)], []⟩,
  ⟨some 31, some (20, false), .p (.not (.tmp 30)), []⟩,
  ⟨some 32, none, .p (.pick (.tmp 20) (.const (.bool true)) (.tmp 31)), []⟩]
def r30_5 : List AOper := [
  ⟨some 2, none, .p (.mov (.const (.bool false))), []⟩]
def r30_3 : List AOper := [
  ⟨some 8, none, .p (.mov (.tmp 3)), []⟩,
  ⟨some 9, none, .p (.bin .add (.tmp 8) (.const (.int .i64 1))), []⟩,
  ⟨some 3, none, .p (.mov (.tmp 9)), []⟩]
def b30_1 : ACode := .seq (.seq (.region r30_2) (.cond (.tmp 7) (.skip) (.exit 0))) (.seq (.block 1 (.seq (.region r30_4) (.cond (.tmp 32) (.seq (.region r30_5) (.ret)) (.skip)))) (.region r30_3))
def r30_6 : List AOper := [
  ⟨some 33, none, .p (.mov (.tmp 0)), []⟩,
  ⟨some 34, none, .p (.len (.tmp 33)), []⟩,
  ⟨some 35, none, .c (.func 52) [(.tmp 34), (.const (.int .i64 2)), (.const (.int .i64 5))], []⟩,
  ⟨some 36, none, .p (.mov (.tmp 35)), []⟩,
  ⟨some 37, some (36, true), .p (.mov (.tmp 0)), []⟩,
  ⟨some 38, some (36, true), .p (.iaddr 1 (.tmp 37) (.const (.int .i64 0))), []⟩,
  ⟨some 39, some (36, true), .l 1 false (.tmp 38), []⟩,
  ⟨some 40, some (36, true), .p (.len (.tmp 39)), []⟩,
  ⟨some 41, some (36, true), .c (.func 52) [(.tmp 40), (.const (.int .i64 1)), (.const (.int .i64 6))], []⟩,
  ⟨some 42, none, .p (.pick (.tmp 36) (.tmp 41) (.const (.bool false))), []⟩,
  ⟨some 2, none, .p (.mov (.tmp 42)), []⟩]
def f30 : AFn := { body := .seq (.region r30_0) (.seq (.seq (.region r30_1) (.block 0 (.loop b30_1))) (.seq (.region r30_6) (.ret))), results := [.tmp 2], n := 43 }

/-! function 31: "woggle/woggleref02.Shortest" -/
def r31_0 : List AOper := [
  ⟨some 8, none, .p (.mov (.const (.int .i64 0))), []⟩]
def r31_1 : List AOper := [
  ⟨some 14, none, .p (.mov (.tmp 1)), []⟩,
  ⟨some 15, none, .p (.len (.tmp 14)), []⟩,
  ⟨some 16, none, .p (.bin .eql (.tmp 15) (.const (.int .i64 1))), []⟩]
def r31_2 : List AOper := [
  ⟨some 17, none, .p (.mov (.tmp 0)), []⟩,
  ⟨some 18, none, .p (.mov (.tmp 2)), []⟩,
  ⟨some 19, none, .p (.mov (.tmp 3)), []⟩,
  ⟨some 20, none, .c (.func 34) [(.tmp 17), (.tmp 18), (.tmp 19)], []⟩,
  ⟨some 8, none, .p (.mov (.tmp 20)), []⟩]
def r31_3 : List AOper := [
  ⟨some 9, none, .p (.mov (.const (.int .i64 1073741824))), []⟩]
def r31_4 : List AOper := [
  ⟨some 10, none, .p (.mov (.const (.int .i64 0))), []⟩]
def r31_5 : List AOper := [
  ⟨some 21, none, .p (.mov (.tmp 10)), []⟩,
  ⟨some 22, none, .p (.mov (.tmp 1)), []⟩,
  ⟨some 23, none, .p (.len (.tmp 22)), []⟩,
  ⟨some 24, none, .p (.bin .lss (.tmp 21) (.tmp 23)), []⟩]
def r31_7 : List AOper := [
  ⟨some 11, none, .p (.mov (.const (.int .i64 0))), []⟩]
def r31_8 : List AOper := [
  ⟨some 27, none, .p (.mov (.tmp 11)), []⟩,
  ⟨some 28, none, .p (.mov (.tmp 10)), []⟩,
  ⟨some 29, none, .p (.bin .lss (.tmp 27) (.tmp 28)), []⟩]
def r31_10 : List AOper := [
  ⟨some 32, none, .a (.bslice (made [.int .i64 0] 0) 0 []), []⟩,
  ⟨some 12, none, .p (.mov (.tmp 32)), []⟩]
def r31_11 : List AOper := [
  ⟨some 13, none, .p (.mov (.const (.int .i64 0))), []⟩]
def r31_12 : List AOper := [
  ⟨some 33, none, .p (.mov (.tmp 13)), []⟩,
  ⟨some 34, none, .p (.mov (.tmp 1)), []⟩,
  ⟨some 35, none, .p (.len (.tmp 34)), []⟩,
  ⟨some 36, none, .p (.bin .lss (.tmp 33) (.tmp 35)), []⟩]
def r31_14 : List AOper := [
  ⟨some 39, none, .p (.mov (.tmp 13)), []⟩,
  ⟨some 40, none, .p (.mov (.tmp 10)), []⟩,
  ⟨some 41, none, .p (.bin .neq (.tmp 39) (.tmp 40)), []⟩,
  ⟨some 42, none, .p (.mov (.tmp 41)), []⟩,
  ⟨some 43, some (42, true), .p (.mov (.tmp 13)), []⟩,
  ⟨some 44, some (42, true), .p (.mov (.tmp 11)), []⟩,
  ⟨some 45, some (42, true), .p (.bin .neq (.tmp 43) (.tmp 44)), []⟩,
  ⟨some 46, none, .p (.pick (.tmp 42) (.tmp 45) (.const (.bool false))), []⟩]
def r31_15 : List AOper := [
  ⟨some 47, none, .p (.mov (.tmp 12)), []⟩,
  ⟨some 48, none, .p (.mov (.tmp 1)), []⟩,
  ⟨some 49, none, .p (.mov (.tmp 13)), []⟩,
  ⟨some 50, none, .p (.iaddr 1 (.tmp 48) (.tmp 49)), []⟩,
  ⟨some 51, none, .l 1 false (.tmp 50), []⟩,
  ⟨some 52, none, .a (.bslice (made [.int .i64 0] 1) 1 [(0, 1, (.tmp 51))]), []⟩,
  ⟨some 53, none, .e (.append 1 8 (.tmp 47) (.tmp 52)), []⟩,
  ⟨some 12, none, .p (.mov (.tmp 53)), []⟩]
def r31_13 : List AOper := [
  ⟨some 37, none, .p (.mov (.tmp 13)), []⟩,
  ⟨some 38, none, .p (.bin .add (.tmp 37) (.const (.int .i64 1))), []⟩,
  ⟨some 13, none, .p (.mov (.tmp 38)), []⟩]
def b31_1 : ACode := .seq (.seq (.region r31_12) (.cond (.tmp 36) (.skip) (.exit 4))) (.seq (.block 5 (.seq (.region r31_14) (.cond (.tmp 46) (.region r31_15) (.skip)))) (.region r31_13))
def r31_16 : List AOper := [
  ⟨some 54, none, .p (.mov (.tmp 12)), []⟩,
  ⟨some 55, none, .p (.mov (.tmp 0)), []⟩,
  ⟨some 56, none, .p (.mov (.tmp 2)), []⟩,
  ⟨some 57, none, .p (.len (.tmp 56)), []⟩,
  ⟨some 58, none, .p (.bin .add (.tmp 55) (.tmp 57)), []⟩,
  ⟨some 59, none, .a (.bslice (made [.int .i64 0] 1) 1 [(0, 1, (.tmp 58))]), []⟩,
  ⟨some 60, none, .e (.append 1 8 (.tmp 54) (.tmp 59)), []⟩,
  ⟨some 12, none, .p (.mov (.tmp 60)), []⟩]
def r31_17 : List AOper := [
  ⟨some 61, none, .p (.mov (.tmp 9)), []⟩,
  ⟨some 62, none, .p (.mov (.tmp 0)), []⟩,
  ⟨some 63, none, .p (.mov (.tmp 12)), []⟩,
  ⟨some 65, none, .p (.mov (.tmp 2)), []⟩,
  ⟨some 67, none, .p (.mov (.tmp 1)), []⟩,
  ⟨some 68, none, .p (.mov (.tmp 11)), []⟩,
  ⟨some 69, none, .p (.iaddr 1 (.tmp 67) (.tmp 68)), []⟩,
  ⟨some 70, none, .l 1 false (.tmp 69), []⟩,
  ⟨some 71, none, .p (.mov (.tmp 1)), []⟩,
  ⟨some 72, none, .p (.mov (.tmp 10)), []⟩,
  ⟨some 73, none, .p (.iaddr 1 (.tmp 71) (.tmp 72)), []⟩,
  ⟨some 74, none, .l 1 false (.tmp 73), []⟩,
  ⟨some 75, none, .p (.build [.int .i64 0, .int .i64 0] [(0, 1, (.tmp 70)), (1, 1, (.tmp 74))]), []⟩,
  ⟨some 78, none, .p (.mov (.tmp 3)), []⟩,
  ⟨some 64, none, .a (.bslice (made [.int .i64 0, .int .i64 0] 0) 0 []), []⟩,
  ⟨some 66, none, .e (.append 2 16 (.tmp 64) (.tmp 65)), [((.tmp 69), 1), ((.tmp 73), 1)]⟩,
  ⟨some 76, none, .a (.bslice (made [.int .i64 0, .int .i64 0] 2) 1 [(0, 2, (.tmp 75))]), []⟩,
  ⟨some 77, none, .e (.append 2 16 (.tmp 66) (.tmp 76)), []⟩,
  ⟨some 79, none, .c (.func 31) [(.tmp 62), (.tmp 63), (.tmp 77), (.tmp 78)], []⟩,
  ⟨some 80, none, .p (.mn (.tmp 61) (.tmp 79)), []⟩,
  ⟨some 9, none, .p (.mov (.tmp 80)), []⟩]
def r31_9 : List AOper := [
  ⟨some 30, none, .p (.mov (.tmp 11)), []⟩,
  ⟨some 31, none, .p (.bin .add (.tmp 30) (.const (.int .i64 1))), []⟩,
  ⟨some 11, none, .p (.mov (.tmp 31)), []⟩]
def b31_2 : ACode := .seq (.seq (.region r31_8) (.cond (.tmp 29) (.skip) (.exit 2))) (.seq (.block 3 (.seq (.region r31_10) (.seq (.seq (.region r31_11) (.block 4 (.loop b31_1))) (.seq (.region r31_16) (.region r31_17))))) (.region r31_9))
def r31_6 : List AOper := [
  ⟨some 25, none, .p (.mov (.tmp 10)), []⟩,
  ⟨some 26, none, .p (.bin .add (.tmp 25) (.const (.int .i64 1))), []⟩,
  ⟨some 10, none, .p (.mov (.tmp 26)), []⟩]
def b31_3 : ACode := .seq (.seq (.region r31_5) (.cond (.tmp 24) (.skip) (.exit 0))) (.seq (.block 1 (.seq (.region r31_7) (.block 2 (.loop b31_2)))) (.region r31_6))
def r31_18 : List AOper := [
  ⟨some 81, none, .p (.mov (.tmp 9)), []⟩,
  ⟨some 8, none, .p (.mov (.tmp 81)), []⟩]
def f31 : AFn := { body := .seq (.region r31_0) (.seq (.seq (.region r31_1) (.cond (.tmp 16) (.seq (.region r31_2) (.ret)) (.skip))) (.seq (.region r31_3) (.seq (.seq (.region r31_4) (.block 0 (.loop b31_3))) (.seq (.region r31_18) (.ret))))), results := [.tmp 8], n := 82 }

/-! function 32: "woggle/woggleref02.Roots" -/
def r32_0 : List AOper := [
  ⟨some 2, none, .p (.mov (.const (.slice none 0 0))), []⟩]
def r32_1 : List AOper := [
  ⟨some 5, none, .a (.bslice (made [.int .i64 0] 0) 0 []), []⟩,
  ⟨some 3, none, .p (.mov (.tmp 5)), []⟩]
def r32_2 : List AOper := [
  ⟨some 4, none, .p (.mov (.const (.int .i64 0))), []⟩]
def r32_3 : List AOper := [
  ⟨some 6, none, .p (.mov (.tmp 4)), []⟩,
  ⟨some 7, none, .p (.mov (.tmp 0)), []⟩,
  ⟨some 8, none, .p (.bin .lss (.tmp 6) (.tmp 7)), []⟩]
def r32_5 : List AOper := [
  ⟨some 11, none, .p (.mov (.tmp 3)), []⟩,
  ⟨some 12, none, .p (.mov (.tmp 4)), []⟩,
  ⟨some 13, none, .a (.bslice (made [.int .i64 0] 1) 1 [(0, 1, (.tmp 12))]), []⟩,
  ⟨some 14, none, .e (.append 1 8 (.tmp 11) (.tmp 13)), []⟩,
  ⟨some 3, none, .p (.mov (.tmp 14)), []⟩]
def r32_4 : List AOper := [
  ⟨some 9, none, .p (.mov (.tmp 4)), []⟩,
  ⟨some 10, none, .p (.bin .add (.tmp 9) (.const (.int .i64 1))), []⟩,
  ⟨some 4, none, .p (.mov (.tmp 10)), []⟩]
def b32_1 : ACode := .seq (.seq (.region r32_3) (.cond (.tmp 8) (.skip) (.exit 0))) (.seq (.block 1 (.region r32_5)) (.region r32_4))
def r32_6 : List AOper := [
  ⟨some 15, none, .p (.mov (.tmp 3)), []⟩,
  ⟨some 2, none, .p (.mov (.tmp 15)), []⟩]
def f32 : AFn := { body := .seq (.region r32_0) (.seq (.region r32_1) (.seq (.seq (.region r32_2) (.block 0 (.loop b32_1))) (.seq (.region r32_6) (.ret)))), results := [.tmp 2], n := 16 }

/-! function 33: "woggle/woggleref02.Tree" -/
def r33_0 : List AOper := [
  ⟨some 4, none, .p (.mov (.const (.bool false))), []⟩]
def r33_1 : List AOper := [
  ⟨some 9, none, .p (.mov (.tmp 0)), []⟩,
  ⟨some 10, none, .c (.func 52) [(.tmp 9), (.const (.int .i64 2)), (.const (.int .i64 8))], []⟩,
  ⟨some 11, none, .p (.not (.tmp 10)), []⟩,
  ⟨some 12, none, .p (.mov (.tmp 11)), []⟩,
  ⟨some 13, some (12, false), .p (.mov (.tmp 1)), []⟩,
  ⟨some 14, some (12, false), .p (.len (.tmp 13)), []⟩,
  ⟨some 15, some (12, false), .p (.mov (.tmp 0)), []⟩,
  ⟨some 16, some (12, false), .p (.bin .sub (.tmp 15) (.const (.int .i64 1))), []⟩,
  ⟨some 17, some (12, false), .p (.bin .neq (.tmp 14) (.tmp 16)), []⟩,
  ⟨some 18, none, .p (.pick (.tmp 12) (.const (.bool true)) (.tmp 17)), []⟩]
def r33_2 : List AOper := [
  ⟨some 4, none, .p (.mov (.const (.bool false))), []⟩]
def r33_3 : List AOper := [
  ⟨some 19, none, .p (.mov (.tmp 0)), []⟩,
  ⟨some 20, none, .p (.bin .mul (.const (.int .i64 2)) (.tmp 19)), []⟩,
  ⟨some 21, none, .p (.bin .sub (.tmp 20) (.const (.int .i64 1))), []⟩,
  ⟨some 22, none, .a (.mslice 1 [.bool false] (.tmp 21) (.tmp 21)), []⟩,
  ⟨some 5, none, .p (.mov (.tmp 22)), []⟩]
def r33_4 : List AOper := [
  ⟨some 6, none, .p (.mov (.const (.int .i64 0))), []⟩]
def r33_5 : List AOper := [
  ⟨some 23, none, .p (.mov (.tmp 6)), []⟩,
  ⟨some 24, none, .p (.mov (.tmp 1)), []⟩,
  ⟨some 25, none, .p (.len (.tmp 24)), []⟩,
  ⟨some 26, none, .p (.bin .lss (.tmp 23) (.tmp 25)), []⟩]
def r33_7 : List AOper := [
  ⟨some 29, none, .p (.mov (.tmp 1)), []⟩,
  ⟨some 30, none, .p (.mov (.tmp 6)), []⟩,
  ⟨some 31, none, .p (.iaddr 2 (.tmp 29) (.tmp 30)), []⟩,
  ⟨some 32, none, .p (.faddr 0 (.tmp 31)), []⟩,
  ⟨some 33, none, .l 1 false (.tmp 32), []⟩,
  ⟨some 34, none, .p (.mov (.tmp 1)), []⟩,
  ⟨some 35, none, .p (.mov (.tmp 6)), []⟩,
  ⟨some 36, none, .p (.iaddr 2 (.tmp 34) (.tmp 35)), []⟩,
  ⟨some 37, none, .p (.faddr 1 (.tmp 36)), []⟩,
  ⟨some 38, none, .l 1 false (.tmp 37), []⟩,
  ⟨some 7, none, .p (.mov (.tmp 33)), []⟩,
  ⟨some 8, none, .p (.mov (.tmp 38)), []⟩]
def r33_8 : List AOper := [
  ⟨some 39, none, .p (.mov (.tmp 7)), []⟩,
  ⟨some 40, none, .p (.mov (.tmp 0)), []⟩,
  ⟨some 41, none, .p (.mov (.tmp 6)), []⟩,
  ⟨some 42, none, .p (.bin .add (.tmp 40) (.tmp 41)), []⟩,
  ⟨some 43, none, .p (.bin .sub (.tmp 42) (.const (.int .i64 1))), []⟩,
  ⟨some 44, none, .c (.func 52) [(.tmp 39), (.const (.int .i64 0)), (.tmp 43)], []⟩,
  ⟨some 45, none, .p (.not (.tmp 44)), []⟩,
  ⟨some 46, none, .p (.mov (.tmp 45)), []⟩,
  ⟨some 47, some (46, false), .p (.mov (.tmp 8)), []⟩,
  ⟨some 48, some (46, false), .p (.mov (.tmp 0)), []⟩,
  ⟨some 49, some (46, false), .p (.mov (.tmp 6)), []⟩,
  ⟨some 50, some (46, false), .p (.bin .add (.tmp 48) (.tmp 49)), []⟩,
  ⟨some 51, some (46, false), .p (.bin .sub (.tmp 50) (.const (.int .i64 1))), []⟩,
  ⟨some 52, some (46, false), .c (.func 52) [(.tmp 47), (.const (.int .i64 0)), (.tmp 51)], []⟩,
  ⟨some 53, some (46, false), .p (.not (.tmp 52)), []⟩,
  ⟨some 54, none, .p (.pick (.tmp 46) (.const (.bool true)) (.tmp 53)), []⟩,
  ⟨some 55, none, .p (.mov (.tmp 54)), []⟩,
  ⟨some 56, some (55, false), .p (.mov (.tmp 7)), []⟩,
  ⟨some 57, some (55, false), .p (.mov (.tmp 8)), []⟩,
  ⟨some 58, some (55, false), .p (.bin .eql (.tmp 56) (.tmp 57)), []⟩,
  ⟨some 59, none, .p (.pick (.tmp 55) (.const (.bool true)) (.tmp 58)), []⟩,
  ⟨some 60, none, .p (.mov (.tmp 59)), []⟩,
  ⟨some 61, some (60, false), .p (.mov (.tmp 5)), []⟩,
  ⟨some 62, some (60, false), .p (.mov (.tmp 7)), []⟩,
  ⟨some 63, some (60, false), .p (.iaddr 1 (.tmp 61) (.tmp 62)), []⟩,
  ⟨some 64, some (60, false), .l 1 false (.tmp 63), []⟩,
  ⟨some 65, none, .p (.pick (.tmp 60) (.const (.bool true)) (.tmp 64)), []⟩,
  ⟨some 66, none, .p (.mov (.tmp 65)), []⟩,
  ⟨some 67, some (66, false), .p (.mov (.tmp 5)), []⟩,
  ⟨some 68, some (66, false), .p (.mov (.tmp 8)), []⟩,
  ⟨some 69, some (66, false), .p (.iaddr 1 (.tmp 67) (.tmp 68)), []⟩,
  ⟨some 70, some (66, false), .l 1 false (.tmp 69), []⟩,
  ⟨some 71, none, .p (.pick (.tmp 66) (.const (.bool true)) (.tmp 70)), []⟩]
def r33_9 : List AOper := [
  ⟨some 4, none, .p (.mov (.const (.bool false))), []⟩]
def r33_10 : List AOper := [
  ⟨some 72, none, .p (.mov (.tmp 5)), []⟩,
  ⟨some 73, none, .p (.mov (.tmp 7)), []⟩,
  ⟨some 74, none, .p (.mov (.tmp 5)), []⟩,
  ⟨some 75, none, .p (.mov (.tmp 8)), []⟩,
  ⟨some 76, none, .p (.iaddr 1 (.tmp 72) (.tmp 73)), []⟩,
  ⟨none, none, .e (.store 1 (.tmp 76) (.const (.bool true))), []⟩,
  ⟨some 77, none, .p (.iaddr 1 (.tmp 74) (.tmp 75)), []⟩,
  ⟨none, none, .e (.store 1 (.tmp 77) (.const (.bool true))), []⟩]
def r33_6 : List AOper := [
  ⟨some 27, none, .p (.mov (.tmp 6)), []⟩,
  ⟨some 28, none, .p (.bin .add (.tmp 27) (.const (.int .i64 1))), []⟩,
  ⟨some 6, none, .p (.mov (.tmp 28)), []⟩]
def b33_1 : ACode := .seq (.seq (.region r33_5) (.cond (.tmp 26) (.skip) (.exit 0))) (.seq (.block 1 (.seq (.region r33_7) (.seq (.seq (.region r33_8) (.cond (.tmp 71) (.seq (.region r33_9) (.ret)) (.skip))) (.region r33_10)))) (.region r33_6))
def r33_11 : List AOper := [
  ⟨some 4, none, .p (.mov (.const (.bool true))), []⟩]
def f33 : AFn := { body := .seq (.region r33_0) (.seq (.seq (.region r33_1) (.cond (.tmp 18) (.seq (.region r33_2) (.ret)) (.skip))) (.seq (.region r33_3) (.seq (.seq (.region r33_4) (.block 0 (.loop b33_1))) (.seq (.region r33_11) (.ret))))), results := [.tmp 4], n := 78 }

/-! function 34: "woggle/woggleref02.Length" -/
def r34_0 : List AOper := [
  ⟨some 6, none, .p (.mov (.const (.int .i64 0))), []⟩]
def r34_1 : List AOper := [
  ⟨some 7, none, .p (.mov (.const (.int .i64 0))), []⟩]
def r34_2 : List AOper := [
  ⟨some 8, none, .p (.mov (.const (.int .i64 0))), []⟩]
def r34_3 : List AOper := [
  ⟨some 13, none, .p (.mov (.tmp 8)), []⟩,
  ⟨some 14, none, .p (.mov (.tmp 2)), []⟩,
  ⟨some 15, none, .p (.iaddr 1 (.tmp 14) (.const (.int .i64 0))), []⟩,
  ⟨some 16, none, .l 1 false (.tmp 15), []⟩,
  ⟨some 17, none, .p (.len (.tmp 16)), []⟩,
  ⟨some 18, none, .p (.bin .lss (.tmp 13) (.tmp 17)), []⟩]
def r34_5 : List AOper := [
  ⟨some 21, none, .a (.bslice (made [.int .i64 0] 0) 0 []), []⟩,
  ⟨some 9, none, .p (.mov (.tmp 21)), []⟩]
def r34_6 : List AOper := [
  ⟨some 10, none, .p (.mov (.const (.int .i64 0))), []⟩]
def r34_7 : List AOper := [
  ⟨some 22, none, .p (.mov (.tmp 10)), []⟩,
  ⟨some 23, none, .p (.mov (.tmp 0)), []⟩,
  ⟨some 24, none, .p (.bin .lss (.tmp 22) (.tmp 23)), []⟩]
def r34_9 : List AOper := [
  ⟨some 27, none, .p (.mov (.tmp 9)), []⟩,
  ⟨some 28, none, .p (.mov (.tmp 2)), []⟩,
  ⟨some 29, none, .p (.mov (.tmp 10)), []⟩,
  ⟨some 30, none, .p (.iaddr 1 (.tmp 28) (.tmp 29)), []⟩,
  ⟨some 31, none, .l 1 false (.tmp 30), []⟩,
  ⟨some 32, none, .p (.mov (.tmp 8)), []⟩,
  ⟨some 33, none, .p (.iaddr 1 (.tmp 31) (.tmp 32)), []⟩,
  ⟨some 34, none, .l 1 false (.tmp 33), []⟩,
  ⟨some 35, none, .a (.bslice (made [.int .i64 0] 1) 1 [(0, 1, (.tmp 34))]), []⟩,
  ⟨some 36, none, .e (.append 1 8 (.tmp 27) (.tmp 35)), []⟩,
  ⟨some 9, none, .p (.mov (.tmp 36)), []⟩]
def r34_8 : List AOper := [
  ⟨some 25, none, .p (.mov (.tmp 10)), []⟩,
  ⟨some 26, none, .p (.bin .add (.tmp 25) (.const (.int .i64 1))), []⟩,
  ⟨some 10, none, .p (.mov (.tmp 26)), []⟩]
def b34_1 : ACode := .seq (.seq (.region r34_7) (.cond (.tmp 24) (.skip) (.exit 2))) (.seq (.block 3 (.region r34_9)) (.region r34_8))
def r34_10 : List AOper := [
  ⟨some 38, none, .p (.mov (.tmp 0)), []⟩,
  ⟨some 39, none, .p (.mov (.tmp 1)), []⟩,
  ⟨some 40, none, .p (.mov (.tmp 9)), []⟩,
  ⟨some 41, none, .c (.func 53) [(.tmp 38), (.tmp 39), (.tmp 40)], []⟩,
  ⟨some 37, none, .p (.mov (.tmp 41)), []⟩,
  ⟨some 42, none, .p (.ext (.tmp 37) 0), []⟩,
  ⟨some 43, none, .p (.ext (.tmp 37) 1), []⟩,
  ⟨some 11, none, .p (.mov (.tmp 42)), []⟩,
  ⟨some 12, none, .p (.mov (.tmp 43)), []⟩]
def r34_11 : List AOper := [
  ⟨some 44, none, .p (.mov (.tmp 7)), []⟩,
  ⟨some 45, none, .p (.mov (.tmp 12)), []⟩,
  ⟨some 46, none, .p (.bin .add (.tmp 44) (.tmp 45)), []⟩,
  ⟨some 7, none, .p (.mov (.tmp 46)), []⟩]
def r34_4 : List AOper := [
  ⟨some 19, none, .p (.mov (.tmp 8)), []⟩,
  ⟨some 20, none, .p (.bin .add (.tmp 19) (.const (.int .i64 1))), []⟩,
  ⟨some 8, none, .p (.mov (.tmp 20)), []⟩]
def b34_2 : ACode := .seq (.seq (.region r34_3) (.cond (.tmp 18) (.skip) (.exit 0))) (.seq (.block 1 (.seq (.region r34_5) (.seq (.seq (.region r34_6) (.block 2 (.loop b34_1))) (.seq (.region r34_10) (.region r34_11))))) (.region r34_4))
def r34_12 : List AOper := [
  ⟨some 47, none, .p (.mov (.tmp 7)), []⟩,
  ⟨some 6, none, .p (.mov (.tmp 47)), []⟩]
def f34 : AFn := { body := .seq (.region r34_0) (.seq (.region r34_1) (.seq (.seq (.region r34_2) (.block 0 (.loop b34_2))) (.seq (.region r34_12) (.ret)))), results := [.tmp 6], n := 48 }

/-! function 35: "woggle/track.Length" -/
def r35_0 : List AOper := [
  ⟨some 6, none, .p (.mov (.const (.int .i64 0))), []⟩,
  ⟨some 7, none, .p (.mov (.const (.int .i64 0))), []⟩]
def r35_1 : List AOper := [
  ⟨some 9, none, .p (.mov (.tmp 0)), []⟩,
  ⟨some 10, none, .p (.mov (.tmp 1)), []⟩,
  ⟨some 11, none, .c (.func 45) [(.tmp 9), (.tmp 10)], []⟩,
  ⟨some 12, none, .p (.not (.tmp 11)), []⟩,
  ⟨some 8, none, .p (.mov (.tmp 12)), []⟩]
def r35_2 : List AOper := [
  ⟨some 6, none, .p (.mov (.const (.int .i64 0))), []⟩,
  ⟨some 7, none, .p (.mov (.const (.int .i64 1))), []⟩]
def r35_3 : List AOper := [
  ⟨some 14, none, .p (.mov (.tmp 2)), []⟩,
  ⟨some 15, none, .c (.func 49) [(.tmp 14)], []⟩,
  ⟨some 16, none, .p (.not (.tmp 15)), []⟩,
  ⟨some 17, none, .p (.mov (.tmp 16)), []⟩,
  ⟨some 18, some (17, false), .p (.mov (.tmp 2)), []⟩,
  ⟨some 19, some (17, false), .p (.len (.tmp 18)), []⟩,
  ⟨some 20, some (17, false), .p (.mov (.tmp 0)), []⟩,
  ⟨some 21, some (17, false), .p (.bin .neq (.tmp 19) (.tmp 20)), []⟩,
  ⟨some 22, none, .p (.pick (.tmp 17) (.const (.bool true)) (.tmp 21)), []⟩,
  ⟨some 13, none, .p (.mov (.tmp 22)), []⟩]
def r35_4 : List AOper := [
  ⟨some 6, none, .p (.mov (.const (.int .i64 0))), []⟩,
  ⟨some 7, none, .p (.mov (.const (.int .i64 2))), []⟩]
def r35_5 : List AOper := [
  ⟨some 23, none, .p (.mov (.tmp 1)), []⟩,
  ⟨some 24, none, .p (.mov (.tmp 2)), []⟩,
  ⟨some 25, none, .c (.func 54) [(.tmp 23), (.tmp 24)], []⟩,
  ⟨some 6, none, .p (.mov (.tmp 25)), []⟩,
  ⟨some 7, none, .p (.mov (.const (.int .i64 0))), []⟩]
def f35 : AFn := { body := .seq (.region r35_0) (.seq (.block 0 (.seq (.region r35_1) (.cond (.tmp 8) (.seq (.region r35_2) (.ret)) (.seq (.region r35_3) (.cond (.tmp 13) (.seq (.region r35_4) (.ret)) (.skip)))))) (.seq (.region r35_5) (.ret))), results := [.tmp 6, .tmp 7], n := 26 }

/-! function 36: "woggle/track.read" -/
def r36_0 : List AOper := [
  ⟨some 6, none, .a (.box (.tmp 2)), []⟩,
  ⟨some 8, none, .p (.mov (.const (.pointer none))), []⟩,
  ⟨some 9, none, .p (.mov (.const (.int .i64 0))), []⟩]
def r36_1 : List AOper := [
  ⟨some 12, none, .l 1 false (.tmp 6), []⟩,
  ⟨some 13, none, .p (.len (.tmp 12)), []⟩,
  ⟨some 10, none, .a (.var [.int .i64 0]), []⟩,
  ⟨none, none, .e (.store 1 (.tmp 10) (.tmp 13)), []⟩]
def r36_2 : List AOper := [
  ⟨some 14, none, .p (.mkfn 55 [] [(.tmp 10)]), []⟩,
  ⟨some 11, none, .p (.mov (.tmp 14)), []⟩]
def r36_3 : List AOper := [
  ⟨some 16, none, .p (.mov (.tmp 0)), []⟩,
  ⟨some 17, none, .p (.mov (.tmp 1)), []⟩,
  ⟨some 18, none, .c (.func 45) [(.tmp 16), (.tmp 17)], []⟩,
  ⟨some 19, none, .p (.not (.tmp 18)), []⟩,
  ⟨some 20, none, .p (.mov (.tmp 19)), []⟩,
  ⟨some 21, some (20, false), .l 1 false (.tmp 10), []⟩,
  ⟨some 22, some (20, false), .p (.bin .lss (.tmp 21) (.const (.int .i64 1))), []⟩,
  ⟨some 23, none, .p (.pick (.tmp 20) (.const (.bool true)) (.tmp 22)), []⟩,
  ⟨some 24, none, .p (.mov (.tmp 23)), []⟩,
  ⟨some 25, some (24, false), .l 1 false (.tmp 10), []⟩,
  ⟨some 26, some (24, false), .p (.bin .gtr (.tmp 25) (.const (.int .i64 4))), []⟩,
  ⟨some 27, none, .p (.pick (.tmp 24) (.const (.bool true)) (.tmp 26)), []⟩,
  ⟨some 28, none, .p (.mov (.tmp 27)), []⟩,
  ⟨some 29, some (28, false), .l 1 false (.tmp 6), []⟩,
  ⟨some 30, some (28, false), .p (.mov (.tmp 11)), []⟩,
  ⟨some 31, some (28, false), .c (.func 58) [(.tmp 29), (.tmp 30)], []⟩,
  ⟨some 32, none, .p (.pick (.tmp 28) (.const (.bool true)) (.tmp 31)), []⟩,
  ⟨some 15, none, .p (.mov (.tmp 32)), []⟩]
def r36_4 : List AOper := [
  ⟨some 8, none, .p (.mov (.const (.pointer none))), []⟩,
  ⟨some 9, none, .p (.mov (.const (.int .i64 1))), []⟩]
def r36_5 : List AOper := [
  ⟨some 34, none, .p (.mov (.tmp 3)), []⟩,
  ⟨some 35, none, .p (.mov (.tmp 0)), []⟩,
  ⟨some 36, none, .l 1 false (.tmp 10), []⟩,
  ⟨some 37, none, .c (.func 46) [(.tmp 34), (.tmp 35), (.tmp 36)], []⟩,
  ⟨some 38, none, .p (.not (.tmp 37)), []⟩,
  ⟨some 33, none, .p (.mov (.tmp 38)), []⟩]
def r36_6 : List AOper := [
  ⟨some 8, none, .p (.mov (.const (.pointer none))), []⟩,
  ⟨some 9, none, .p (.mov (.const (.int .i64 2))), []⟩]
def r36_7 : List AOper := [
  ⟨some 39, none, .p (.mov (.tmp 0)), []⟩,
  ⟨some 40, none, .p (.mov (.tmp 1)), []⟩,
  ⟨some 41, none, .p (.mov (.tmp 3)), []⟩,
  ⟨some 42, none, .l 1 false (.tmp 10), []⟩,
  ⟨some 43, none, .p (.mkfn 59 [] [(.tmp 6)]), []⟩,
  ⟨some 44, none, .p (.build [.int .i64 0, .slice none 0 0, .slice none 0 0, .int .i64 0, .nilFunc] [(0, 1, (.tmp 39)), (1, 1, (.tmp 40)), (2, 1, (.tmp 41)), (3, 1, (.tmp 42)), (4, 1, (.tmp 43))]), []⟩,
  ⟨some 45, none, .a (.box (.tmp 44)), []⟩,
  ⟨some 8, none, .p (.mov (.tmp 45)), []⟩,
  ⟨some 9, none, .p (.mov (.const (.int .i64 0))), []⟩]
def f36 : AFn := { body := .seq (.region r36_0) (.seq (.region r36_1) (.seq (.region r36_2) (.seq (.block 0 (.seq (.region r36_3) (.cond (.tmp 15) (.seq (.region r36_4) (.ret)) (.seq (.region r36_5) (.cond (.tmp 33) (.seq (.region r36_6) (.ret)) (.skip)))))) (.seq (.region r36_7) (.ret))))), results := [.tmp 8, .tmp 9], n := 46 }

/-! function 37: "(*woggle/track.problem).least" -/
def r37_0 : List AOper := [
  ⟨some 4, none, .p (.mov (.const (.int .i64 0))), []⟩,
  ⟨some 5, none, .p (.mov (.const (.int .i64 0))), []⟩]
def r37_1 : List AOper := [
  ⟨some 12, none, .p (.mov (.tmp 0)), []⟩,
  ⟨some 13, none, .p (.mov (.tmp 1)), []⟩,
  ⟨some 14, none, .c (.func 60) [(.tmp 12), (.tmp 13)], []⟩,
  ⟨some 6, none, .p (.mov (.tmp 14)), []⟩]
def r37_2 : List AOper := [
  ⟨some 15, none, .p (.mov (.tmp 6)), []⟩,
  ⟨some 16, none, .p (.mov (.tmp 6)), []⟩,
  ⟨some 17, none, .p (.len (.tmp 16)), []⟩,
  ⟨some 18, none, .p (.bin .sub (.tmp 17) (.const (.int .i64 1))), []⟩,
  ⟨some 19, none, .p (.iaddr 2 (.tmp 15) (.tmp 18)), []⟩,
  ⟨some 20, none, .l 2 true (.tmp 19), []⟩,
  ⟨some 7, none, .a (.var [.slice none 0 0, .slice none 0 0]), []⟩,
  ⟨none, none, .e (.store 2 (.tmp 7) (.tmp 20)), []⟩]
def r37_3 : List AOper := [
  ⟨some 8, none, .p (.mov (.const (.int .i64 (-1)))), []⟩,
  ⟨some 9, none, .p (.mov (.const (.int .i64 0))), []⟩]
def r37_4 : List AOper := [
  ⟨some 21, none, .p (.faddr 0 (.tmp 7)), []⟩,
  ⟨some 22, none, .l 1 false (.tmp 21), []⟩,
  ⟨some 23, none, .p (.len (.tmp 22)), []⟩,
  ⟨some 24, none, .p (.mov (.const (.int .i64 0))), []⟩]
def r37_5 : List AOper := [
  ⟨some 25, none, .p (.bin .lss (.tmp 24) (.tmp 23)), []⟩]
def r37_6 : List AOper := [
  ⟨some 26, none, .p (.mov (.tmp 24)), []⟩,
  ⟨some 27, none, .p (.iaddr 1 (.tmp 22) (.tmp 24)), []⟩,
  ⟨some 28, none, .l 1 false (.tmp 27), []⟩,
  ⟨some 10, none, .p (.mov (.tmp 26)), []⟩,
  ⟨some 11, none, .p (.mov (.tmp 28)), []⟩]
def r37_7 : List AOper := [
  ⟨some 30, none, .p (.faddr 1 (.tmp 7)), []⟩,
  ⟨some 31, none, .l 1 false (.tmp 30), []⟩,
  ⟨some 32, none, .p (.mov (.tmp 10)), []⟩,
  ⟨some 33, none, .p (.iaddr 1 (.tmp 31) (.tmp 32)), []⟩,
  ⟨some 34, none, .l 1 false (.tmp 33), []⟩,
  ⟨some 35, none, .p (.bin .eql (.tmp 34) (.const (.int .i64 0))), []⟩,
  ⟨some 29, none, .p (.mov (.tmp 35)), []⟩]
def r37_8 : List AOper := [
  ⟨some 37, none, .p (.mov (.tmp 8)), []⟩,
  ⟨some 38, none, .p (.bin .lss (.tmp 37) (.const (.int .i64 0))), []⟩,
  ⟨some 39, none, .p (.mov (.tmp 38)), []⟩,
  ⟨some 40, some (39, false), .p (.mov (.tmp 11)), []⟩,
  ⟨some 41, some (39, false), .p (.mov (.tmp 8)), []⟩,
  ⟨some 42, some (39, false), .p (.bin .lss (.tmp 40) (.tmp 41)), []⟩,
  ⟨some 43, none, .p (.pick (.tmp 39) (.const (.bool true)) (.tmp 42)), []⟩,
  ⟨some 36, none, .p (.mov (.tmp 43)), []⟩]
def r37_9 : List AOper := [
  ⟨some 44, none, .p (.mov (.tmp 11)), []⟩,
  ⟨some 45, none, .p (.faddr 1 (.tmp 7)), []⟩,
  ⟨some 46, none, .l 1 false (.tmp 45), []⟩,
  ⟨some 47, none, .p (.mov (.tmp 10)), []⟩,
  ⟨some 48, none, .p (.iaddr 1 (.tmp 46) (.tmp 47)), []⟩,
  ⟨some 49, none, .l 1 false (.tmp 48), []⟩,
  ⟨some 8, none, .p (.mov (.tmp 44)), []⟩,
  ⟨some 9, none, .p (.mov (.tmp 49)), []⟩]
def r37_10 : List AOper := [
  ⟨some 51, none, .p (.mov (.tmp 11)), []⟩,
  ⟨some 52, none, .p (.mov (.tmp 8)), []⟩,
  ⟨some 53, none, .p (.bin .eql (.tmp 51) (.tmp 52)), []⟩,
  ⟨some 50, none, .p (.mov (.tmp 53)), []⟩]
def r37_11 : List AOper := [
  ⟨some 54, none, .p (.mov (.tmp 9)), []⟩,
  ⟨some 55, none, .p (.faddr 1 (.tmp 7)), []⟩,
  ⟨some 56, none, .l 1 false (.tmp 55), []⟩,
  ⟨some 57, none, .p (.mov (.tmp 10)), []⟩,
  ⟨some 58, none, .p (.iaddr 1 (.tmp 56) (.tmp 57)), []⟩,
  ⟨some 59, none, .l 1 false (.tmp 58), []⟩,
  ⟨some 60, none, .p (.bin .add (.tmp 54) (.tmp 59)), []⟩,
  ⟨some 9, none, .p (.mov (.tmp 60)), []⟩]
def r37_12 : List AOper := [
  ⟨some 61, none, .p (.bin .add (.tmp 24) (.const (.int .i64 1))), []⟩,
  ⟨some 24, none, .p (.mov (.tmp 61)), []⟩]
def b37_1 : ACode := .seq (.region r37_5) (.seq (.cond (.tmp 25) (.skip) (.exit 0)) (.seq (.block 1 (.seq (.region r37_6) (.block 2 (.seq (.region r37_7) (.cond (.tmp 29) (.skip) (.seq (.region r37_8) (.cond (.tmp 36) (.region r37_9) (.seq (.region r37_10) (.cond (.tmp 50) (.region r37_11) (.skip)))))))))) (.region r37_12)))
def r37_13 : List AOper := [
  ⟨some 62, none, .p (.mov (.tmp 8)), []⟩,
  ⟨some 63, none, .p (.mov (.tmp 9)), []⟩,
  ⟨some 4, none, .p (.mov (.tmp 62)), []⟩,
  ⟨some 5, none, .p (.mov (.tmp 63)), []⟩]
def f37 : AFn := { body := .seq (.region r37_0) (.seq (.region r37_1) (.seq (.region r37_2) (.seq (.region r37_3) (.seq (.seq (.region r37_4) (.block 0 (.loop b37_1))) (.seq (.region r37_13) (.ret)))))), results := [.tmp 4, .tmp 5], n := 64 }

/-! function 38: "(*woggle/track.problem).free" -/
def r38_0 : List AOper := [
  ⟨some 2, none, .p (.mov (.const (.slice none 0 0))), []⟩]
def r38_1 : List AOper := [
  ⟨some 3, none, .a (.bslice (made [.int .i64 0] 1) 1 [(0, 1, (.const (.int .i64 (-1))))]), []⟩,
  ⟨some 4, none, .p (.mov (.tmp 0)), []⟩,
  ⟨some 5, none, .p (.nilc (.tmp 4)), []⟩,
  ⟨some 6, none, .p (.faddr 0 (.tmp 5)), []⟩,
  ⟨some 7, none, .l 1 false (.tmp 6), []⟩,
  ⟨some 8, none, .p (.bin .sub (.tmp 7) (.const (.int .i64 1))), []⟩,
  ⟨some 9, none, .c (.func 61) [(.tmp 3), (.tmp 8)], []⟩,
  ⟨some 2, none, .p (.mov (.tmp 9)), []⟩]
def f38 : AFn := { body := .seq (.region r38_0) (.seq (.region r38_1) (.ret)), results := [.tmp 2], n := 10 }

/-! function 39: "woggle/woggleref02.Costs" -/
def r39_0 : List AOper := [
  ⟨some 2, none, .p (.mov (.const (.bool false))), []⟩]
def r39_1 : List AOper := [
  ⟨some 3, none, .p (.mov (.const (.int .i64 0))), []⟩]
def r39_2 : List AOper := [
  ⟨some 5, none, .p (.mov (.tmp 3)), []⟩,
  ⟨some 6, none, .p (.mov (.tmp 0)), []⟩,
  ⟨some 7, none, .p (.len (.tmp 6)), []⟩,
  ⟨some 8, none, .p (.bin .lss (.tmp 5) (.tmp 7)), []⟩]
def r39_4 : List AOper := [
  ⟨some 11, none, .p (.mov (.tmp 0)), []⟩,
  ⟨some 12, none, .p (.mov (.tmp 3)), []⟩,
  ⟨some 13, none, .p (.iaddr 1 (.tmp 11) (.tmp 12)), []⟩,
  ⟨some 14, none, .l 1 false (.tmp 13), []⟩,
  ⟨some 15, none, .p (.len (.tmp 14)), []⟩,
  ⟨some 16, none, .p (.mov (.tmp 0)), []⟩,
  ⟨some 17, none, .p (.len (.tmp 16)), []⟩,
  ⟨some 18, none, .p (.bin .neq (.tmp 15) (.tmp 17)), []⟩]
def r39_5 : List AOper := [
  ⟨some 2, none, .p (.mov (.const (.bool false))), []⟩]
def r39_6 : List AOper := [
  ⟨some 4, none, .p (.mov (.const (.int .i64 0))), []⟩]
def r39_7 : List AOper := [
  ⟨some 19, none, .p (.mov (.tmp 4)), []⟩,
  ⟨some 20, none, .p (.mov (.tmp 0)), []⟩,
  ⟨some 21, none, .p (.len (.tmp 20)), []⟩,
  ⟨some 22, none, .p (.bin .lss (.tmp 19) (.tmp 21)), []⟩]
def r39_9 : List AOper := [
  ⟨some 25, none, .p (.mov (.tmp 0)), []⟩,
  ⟨some 26, none, .p (.mov (.tmp 3)), []⟩,
  ⟨some 27, none, .p (.iaddr 1 (.tmp 25) (.tmp 26)), []⟩,
  ⟨some 28, none, .l 1 false (.tmp 27), []⟩,
  ⟨some 29, none, .p (.mov (.tmp 4)), []⟩,
  ⟨some 30, none, .p (.iaddr 1 (.tmp 28) (.tmp 29)), []⟩,
  ⟨some 31, none, .l 1 false (.tmp 30), []⟩,
  ⟨some 32, none, .c (.func 52) [(.tmp 31), (.const (.int .i64 0)), (.const (.int .i64 100))], []⟩,
  ⟨some 33, none, .p (.not (.tmp 32)), []⟩]
def r39_10 : List AOper := [
  ⟨some 2, none, .p (.mov (.const (.bool false))), []⟩]
def r39_8 : List AOper := [
  ⟨some 23, none, .p (.mov (.tmp 4)), []⟩,
  ⟨some 24, none, .p (.bin .add (.tmp 23) (.const (.int .i64 1))), []⟩,
  ⟨some 4, none, .p (.mov (.tmp 24)), []⟩]
def b39_1 : ACode := .seq (.seq (.region r39_7) (.cond (.tmp 22) (.skip) (.exit 2))) (.seq (.block 3 (.seq (.region r39_9) (.cond (.tmp 33) (.seq (.region r39_10) (.ret)) (.skip)))) (.region r39_8))
def r39_3 : List AOper := [
  ⟨some 9, none, .p (.mov (.tmp 3)), []⟩,
  ⟨some 10, none, .p (.bin .add (.tmp 9) (.const (.int .i64 1))), []⟩,
  ⟨some 3, none, .p (.mov (.tmp 10)), []⟩]
def b39_2 : ACode := .seq (.seq (.region r39_2) (.cond (.tmp 8) (.skip) (.exit 0))) (.seq (.block 1 (.seq (.seq (.region r39_4) (.cond (.tmp 18) (.seq (.region r39_5) (.ret)) (.skip))) (.seq (.region r39_6) (.block 2 (.loop b39_1))))) (.region r39_3))
def r39_11 : List AOper := [
  ⟨some 34, none, .p (.mov (.tmp 0)), []⟩,
  ⟨some 35, none, .p (.len (.tmp 34)), []⟩,
  ⟨some 36, none, .c (.func 52) [(.tmp 35), (.const (.int .i64 1)), (.const (.int .i64 4))], []⟩,
  ⟨some 2, none, .p (.mov (.tmp 36)), []⟩]
def f39 : AFn := { body := .seq (.region r39_0) (.seq (.seq (.region r39_1) (.block 0 (.loop b39_2))) (.seq (.region r39_11) (.ret))), results := [.tmp 2], n := 37 }

/-! function 40: "woggle/woggleref02.States" -/
def r40_0 : List AOper := [
  ⟨some 6, none, .p (.mov (.const (.bool false))), []⟩]
def r40_1 : List AOper := [
  ⟨some 7, none, .p (.mov (.const (.int .i64 0))), []⟩]
def r40_2 : List AOper := [
  ⟨some 8, none, .p (.mov (.tmp 7)), []⟩,
  ⟨some 9, none, .p (.mov (.tmp 2)), []⟩,
  ⟨some 10, none, .p (.len (.tmp 9)), []⟩,
  ⟨some 11, none, .p (.bin .lss (.tmp 8) (.tmp 10)), []⟩]
def r40_4 : List AOper := [
  ⟨some 14, none, .p (.mov (.tmp 2)), []⟩,
  ⟨some 15, none, .p (.mov (.tmp 7)), []⟩,
  ⟨some 16, none, .p (.iaddr 1 (.tmp 14) (.tmp 15)), []⟩,
  ⟨some 17, none, .l 1 false (.tmp 16), []⟩,
  ⟨some 18, none, .p (.mov (.tmp 1)), []⟩,
  ⟨some 19, none, .p (.bin .sub (.tmp 18) (.const (.int .i64 1))), []⟩,
  ⟨some 20, none, .c (.func 52) [(.tmp 17), (.const (.int .i64 0)), (.tmp 19)], []⟩,
  ⟨some 21, none, .p (.not (.tmp 20)), []⟩]
def r40_5 : List AOper := [
  ⟨some 6, none, .p (.mov (.const (.bool false))), []⟩]
def r40_3 : List AOper := [
  ⟨some 12, none, .p (.mov (.tmp 7)), []⟩,
  ⟨some 13, none, .p (.bin .add (.tmp 12) (.const (.int .i64 1))), []⟩,
  ⟨some 7, none, .p (.mov (.tmp 13)), []⟩]
def b40_1 : ACode := .seq (.seq (.region r40_2) (.cond (.tmp 11) (.skip) (.exit 0))) (.seq (.block 1 (.seq (.region r40_4) (.cond (.tmp 21) (.seq (.region r40_5) (.ret)) (.skip)))) (.region r40_3))
def r40_6 : List AOper := [
  ⟨some 22, none, .p (.mov (.tmp 2)), []⟩,
  ⟨some 23, none, .p (.len (.tmp 22)), []⟩,
  ⟨some 24, none, .p (.mov (.tmp 0)), []⟩,
  ⟨some 25, none, .p (.bin .eql (.tmp 23) (.tmp 24)), []⟩,
  ⟨some 6, none, .p (.mov (.tmp 25)), []⟩]
def f40 : AFn := { body := .seq (.region r40_0) (.seq (.seq (.region r40_1) (.block 0 (.loop b40_1))) (.seq (.region r40_6) (.ret))), results := [.tmp 6], n := 26 }

/-! function 41: "woggle/track.Label" -/
def r41_0 : List AOper := [
  ⟨some 8, none, .p (.mov (.const (.slice none 0 0))), []⟩,
  ⟨some 9, none, .p (.mov (.const (.int .i64 0))), []⟩]
def r41_1 : List AOper := [
  ⟨some 20, none, .p (.mov (.tmp 0)), []⟩,
  ⟨some 21, none, .p (.mov (.tmp 1)), []⟩,
  ⟨some 22, none, .p (.mov (.tmp 2)), []⟩,
  ⟨some 23, none, .p (.mov (.tmp 3)), []⟩,
  ⟨some 24, none, .c (.func 36) [(.tmp 20), (.tmp 21), (.tmp 22), (.tmp 23)], []⟩,
  ⟨some 19, none, .p (.mov (.tmp 24)), []⟩,
  ⟨some 25, none, .p (.ext (.tmp 19) 0), []⟩,
  ⟨some 26, none, .p (.ext (.tmp 19) 1), []⟩,
  ⟨some 10, none, .p (.mov (.tmp 25)), []⟩,
  ⟨some 11, none, .p (.mov (.tmp 26)), []⟩]
def r41_2 : List AOper := [
  ⟨some 27, none, .p (.mov (.tmp 11)), []⟩,
  ⟨some 28, none, .p (.bin .neq (.tmp 27) (.const (.int .i64 0))), []⟩]
def r41_3 : List AOper := [
  ⟨some 29, none, .p (.mov (.tmp 11)), []⟩,
  ⟨some 8, none, .p (.mov (.const (.slice none 0 0))), []⟩,
  ⟨some 9, none, .p (.mov (.tmp 29)), []⟩]
def r41_4 : List AOper := [
  ⟨some 30, none, .p (.mov (.tmp 10)), []⟩,
  ⟨some 31, none, .c (.func 38) [(.tmp 30)], []⟩,
  ⟨some 12, none, .p (.mov (.tmp 31)), []⟩]
def r41_5 : List AOper := [
  ⟨some 33, none, .p (.mov (.tmp 10)), []⟩,
  ⟨some 34, none, .p (.mov (.tmp 12)), []⟩,
  ⟨some 35, none, .c (.func 37) [(.tmp 33), (.tmp 34)], []⟩,
  ⟨some 32, none, .p (.mov (.tmp 35)), []⟩,
  ⟨some 36, none, .p (.ext (.tmp 32) 0), []⟩,
  ⟨some 37, none, .p (.ext (.tmp 32) 1), []⟩,
  ⟨some 13, none, .p (.mov (.tmp 36)), []⟩,
  ⟨some 14, none, .p (.mov (.tmp 37)), []⟩]
def r41_6 : List AOper := [
  ⟨some 38, none, .p (.mov (.tmp 12)), []⟩,
  ⟨some 39, none, .p (.len (.tmp 38)), []⟩,
  ⟨some 40, none, .p (.mov (.const (.int .i64 0))), []⟩]
def r41_7 : List AOper := [
  ⟨some 41, none, .p (.bin .lss (.tmp 40) (.tmp 39)), []⟩]
def r41_8 : List AOper := [
  ⟨some 42, none, .p (.mov (.tmp 40)), []⟩,
  ⟨some 15, none, .p (.mov (.tmp 42)), []⟩]
def r41_9 : List AOper := [
  ⟨some 43, none, .p (.mov (.tmp 10)), []⟩,
  ⟨some 44, none, .p (.nilc (.tmp 43)), []⟩,
  ⟨some 45, none, .p (.faddr 3 (.tmp 44)), []⟩,
  ⟨some 46, none, .l 1 false (.tmp 45), []⟩,
  ⟨some 47, none, .p (.mov (.const (.int .i64 0))), []⟩]
def r41_10 : List AOper := [
  ⟨some 48, none, .p (.bin .lss (.tmp 47) (.tmp 46)), []⟩]
def r41_11 : List AOper := [
  ⟨some 49, none, .p (.mov (.tmp 47)), []⟩,
  ⟨some 16, none, .p (.mov (.tmp 49)), []⟩]
def r41_12 : List AOper := [
  ⟨some 50, none, .p (.mov (.tmp 12)), []⟩,
  ⟨some 51, none, .p (.mov (.tmp 15)), []⟩,
  ⟨some 52, none, .p (.mov (.tmp 16)), []⟩,
  ⟨some 53, none, .p (.iaddr 1 (.tmp 50) (.tmp 51)), []⟩,
  ⟨none, none, .e (.store 1 (.tmp 53) (.tmp 52)), []⟩]
def r41_13 : List AOper := [
  ⟨some 55, none, .p (.mov (.tmp 10)), []⟩,
  ⟨some 56, none, .p (.mov (.tmp 12)), []⟩,
  ⟨some 57, none, .c (.func 37) [(.tmp 55), (.tmp 56)], []⟩,
  ⟨some 54, none, .p (.mov (.tmp 57)), []⟩,
  ⟨some 58, none, .p (.ext (.tmp 54) 0), []⟩,
  ⟨some 59, none, .p (.ext (.tmp 54) 1), []⟩,
  ⟨some 17, none, .p (.mov (.tmp 58)), []⟩,
  ⟨some 18, none, .p (.mov (.tmp 59)), []⟩]
def r41_14 : List AOper := [
  ⟨some 60, none, .p (.mov (.tmp 17)), []⟩,
  ⟨some 61, none, .p (.mov (.tmp 13)), []⟩,
  ⟨some 62, none, .p (.bin .eql (.tmp 60) (.tmp 61)), []⟩]
def r41_15 : List AOper := [
  ⟨some 63, none, .p (.bin .add (.tmp 47) (.const (.int .i64 1))), []⟩,
  ⟨some 47, none, .p (.mov (.tmp 63)), []⟩]
def b41_1 : ACode := .seq (.region r41_10) (.seq (.cond (.tmp 48) (.skip) (.exit 2)) (.seq (.block 3 (.seq (.region r41_11) (.seq (.region r41_12) (.seq (.region r41_13) (.seq (.region r41_14) (.cond (.tmp 62) (.exit 2) (.skip))))))) (.region r41_15)))
def r41_16 : List AOper := [
  ⟨some 64, none, .p (.bin .add (.tmp 40) (.const (.int .i64 1))), []⟩,
  ⟨some 40, none, .p (.mov (.tmp 64)), []⟩]
def b41_2 : ACode := .seq (.region r41_7) (.seq (.cond (.tmp 41) (.skip) (.exit 0)) (.seq (.block 1 (.seq (.region r41_8) (.seq (.region r41_9) (.block 2 (.loop b41_1))))) (.region r41_16)))
def r41_17 : List AOper := [
  ⟨some 65, none, .p (.mov (.tmp 12)), []⟩,
  ⟨some 8, none, .p (.mov (.tmp 65)), []⟩,
  ⟨some 9, none, .p (.mov (.const (.int .i64 0))), []⟩]
def f41 : AFn := { body := .seq (.region r41_0) (.seq (.region r41_1) (.seq (.seq (.region r41_2) (.cond (.tmp 28) (.seq (.region r41_3) (.ret)) (.skip))) (.seq (.region r41_4) (.seq (.region r41_5) (.seq (.seq (.region r41_6) (.block 0 (.loop b41_2))) (.seq (.region r41_17) (.ret))))))), results := [.tmp 8, .tmp 9], n := 66 }

/-! function 42: "woggle/track.Trees" -/
def r42_0 : List AOper := [
  ⟨some 2, none, .p (.mov (.const (.int .i64 0))), []⟩,
  ⟨some 3, none, .p (.mov (.const (.int .i64 0))), []⟩]
def r42_1 : List AOper := [
  ⟨some 6, none, .p (.mov (.tmp 0)), []⟩,
  ⟨some 7, none, .p (.bin .lss (.tmp 6) (.const (.int .i64 2))), []⟩,
  ⟨some 8, none, .p (.mov (.tmp 7)), []⟩,
  ⟨some 9, some (8, false), .p (.mov (.tmp 0)), []⟩,
  ⟨some 10, some (8, false), .p (.bin .gtr (.tmp 9) (.const (.int .i64 8))), []⟩,
  ⟨some 11, none, .p (.pick (.tmp 8) (.const (.bool true)) (.tmp 10)), []⟩]
def r42_2 : List AOper := [
  ⟨some 2, none, .p (.mov (.const (.int .i64 0))), []⟩,
  ⟨some 3, none, .p (.mov (.const (.int .i64 1))), []⟩]
def r42_3 : List AOper := [
  ⟨some 4, none, .p (.mov (.const (.int .i64 1))), []⟩]
def r42_4 : List AOper := [
  ⟨some 5, none, .p (.mov (.const (.int .i64 3))), []⟩]
def r42_5 : List AOper := [
  ⟨some 12, none, .p (.mov (.tmp 5)), []⟩,
  ⟨some 13, none, .p (.mov (.tmp 0)), []⟩,
  ⟨some 14, none, .p (.bin .mul (.const (.int .i64 2)) (.tmp 13)), []⟩,
  ⟨some 15, none, .p (.bin .sub (.tmp 14) (.const (.int .i64 3))), []⟩,
  ⟨some 16, none, .p (.bin .leq (.tmp 12) (.tmp 15)), []⟩]
def r42_7 : List AOper := [
  ⟨some 19, none, .p (.mov (.tmp 4)), []⟩,
  ⟨some 20, none, .p (.mov (.tmp 5)), []⟩,
  ⟨some 21, none, .p (.bin .mul (.tmp 19) (.tmp 20)), []⟩,
  ⟨some 4, none, .p (.mov (.tmp 21)), []⟩]
def r42_6 : List AOper := [
  ⟨some 17, none, .p (.mov (.tmp 5)), []⟩,
  ⟨some 18, none, .p (.bin .add (.tmp 17) (.const (.int .i64 2))), []⟩,
  ⟨some 5, none, .p (.mov (.tmp 18)), []⟩]
def b42_1 : ACode := .seq (.seq (.region r42_5) (.cond (.tmp 16) (.skip) (.exit 0))) (.seq (.block 1 (.region r42_7)) (.region r42_6))
def r42_8 : List AOper := [
  ⟨some 22, none, .p (.mov (.tmp 4)), []⟩,
  ⟨some 2, none, .p (.mov (.tmp 22)), []⟩,
  ⟨some 3, none, .p (.mov (.const (.int .i64 0))), []⟩]
def f42 : AFn := { body := .seq (.region r42_0) (.seq (.seq (.region r42_1) (.cond (.tmp 11) (.seq (.region r42_2) (.ret)) (.skip))) (.seq (.region r42_3) (.seq (.seq (.region r42_4) (.block 0 (.loop b42_1))) (.seq (.region r42_8) (.ret))))), results := [.tmp 2, .tmp 3], n := 23 }

/-! function 43: "woggle/woggleref01.SameLists" -/
def r43_0 : List AOper := [
  ⟨some 4, none, .p (.mov (.const (.bool false))), []⟩]
def r43_1 : List AOper := [
  ⟨some 6, none, .p (.mov (.tmp 0)), []⟩,
  ⟨some 7, none, .p (.len (.tmp 6)), []⟩,
  ⟨some 8, none, .p (.mov (.tmp 1)), []⟩,
  ⟨some 9, none, .p (.len (.tmp 8)), []⟩,
  ⟨some 10, none, .p (.bin .neq (.tmp 7) (.tmp 9)), []⟩]
def r43_2 : List AOper := [
  ⟨some 4, none, .p (.mov (.const (.bool false))), []⟩]
def r43_3 : List AOper := [
  ⟨some 5, none, .p (.mov (.const (.int .i64 0))), []⟩]
def r43_4 : List AOper := [
  ⟨some 11, none, .p (.mov (.tmp 5)), []⟩,
  ⟨some 12, none, .p (.mov (.tmp 0)), []⟩,
  ⟨some 13, none, .p (.len (.tmp 12)), []⟩,
  ⟨some 14, none, .p (.bin .lss (.tmp 11) (.tmp 13)), []⟩]
def r43_6 : List AOper := [
  ⟨some 17, none, .p (.mov (.tmp 0)), []⟩,
  ⟨some 18, none, .p (.mov (.tmp 5)), []⟩,
  ⟨some 19, none, .p (.iaddr 1 (.tmp 17) (.tmp 18)), []⟩,
  ⟨some 20, none, .l 1 false (.tmp 19), []⟩,
  ⟨some 21, none, .p (.mov (.tmp 1)), []⟩,
  ⟨some 22, none, .p (.mov (.tmp 5)), []⟩,
  ⟨some 23, none, .p (.iaddr 1 (.tmp 21) (.tmp 22)), []⟩,
  ⟨some 24, none, .l 1 false (.tmp 23), []⟩,
  ⟨some 25, none, .c (.func 23) [(.tmp 20), (.tmp 24)], []⟩,
  ⟨some 26, none, .p (.not (.tmp 25)), []⟩]
def r43_7 : List AOper := [
  ⟨some 4, none, .p (.mov (.const (.bool false))), []⟩]
def r43_5 : List AOper := [
  ⟨some 15, none, .p (.mov (.tmp 5)), []⟩,
  ⟨some 16, none, .p (.bin .add (.tmp 15) (.const (.int .i64 1))), []⟩,
  ⟨some 5, none, .p (.mov (.tmp 16)), []⟩]
def b43_1 : ACode := .seq (.seq (.region r43_4) (.cond (.tmp 14) (.skip) (.exit 0))) (.seq (.block 1 (.seq (.region r43_6) (.cond (.tmp 26) (.seq (.region r43_7) (.ret)) (.skip)))) (.region r43_5))
def r43_8 : List AOper := [
  ⟨some 4, none, .p (.mov (.const (.bool true))), []⟩]
def f43 : AFn := { body := .seq (.region r43_0) (.seq (.seq (.region r43_1) (.cond (.tmp 10) (.seq (.region r43_2) (.ret)) (.skip))) (.seq (.seq (.region r43_3) (.block 0 (.loop b43_1))) (.seq (.region r43_8) (.ret)))), results := [.tmp 4], n := 27 }

/-! function 44: "woggle/woggleref02.Best" -/
def r44_0 : List AOper := [
  ⟨some 2, none, .a (.box (.tmp 0)), []⟩,
  ⟨some 4, none, .p (.mov (.const (.int .i64 0))), []⟩,
  ⟨some 5, none, .p (.mov (.const (.int .i64 0))), []⟩]
def r44_1 : List AOper := [
  ⟨some 6, none, .p (.mov (.const (.int .i64 1073741824))), []⟩,
  ⟨some 7, none, .p (.mov (.const (.int .i64 0))), []⟩]
def r44_2 : List AOper := [
  ⟨some 8, none, .p (.mov (.const (.int .i64 0))), []⟩]
def r44_3 : List AOper := [
  ⟨some 10, none, .p (.mov (.tmp 8)), []⟩,
  ⟨some 11, none, .p (.mov (.tmp 1)), []⟩,
  ⟨some 12, none, .p (.len (.tmp 11)), []⟩,
  ⟨some 13, none, .p (.bin .lss (.tmp 10) (.tmp 12)), []⟩]
def r44_5 : List AOper := [
  ⟨some 16, none, .p (.faddr 0 (.tmp 2)), []⟩,
  ⟨some 17, none, .l 1 false (.tmp 16), []⟩,
  ⟨some 18, none, .p (.mov (.tmp 8)), []⟩,
  ⟨some 19, none, .p (.iaddr 1 (.tmp 17) (.tmp 18)), []⟩,
  ⟨some 20, none, .l 1 false (.tmp 19), []⟩,
  ⟨some 21, none, .p (.mov (.tmp 1)), []⟩,
  ⟨some 22, none, .p (.mov (.tmp 8)), []⟩,
  ⟨some 23, none, .p (.iaddr 1 (.tmp 21) (.tmp 22)), []⟩,
  ⟨some 24, none, .l 1 false (.tmp 23), []⟩,
  ⟨some 25, none, .p (.bin .add (.tmp 20) (.tmp 24)), []⟩,
  ⟨some 9, none, .p (.mov (.tmp 25)), []⟩]
def r44_6 : List AOper := [
  ⟨some 26, none, .p (.faddr 0 (.tmp 2)), []⟩,
  ⟨some 27, none, .l 1 false (.tmp 26), []⟩,
  ⟨some 28, none, .p (.mov (.tmp 8)), []⟩,
  ⟨some 29, none, .p (.iaddr 1 (.tmp 27) (.tmp 28)), []⟩,
  ⟨some 30, none, .l 1 false (.tmp 29), []⟩,
  ⟨some 31, none, .p (.bin .lss (.tmp 30) (.const (.int .i64 1073741824))), []⟩,
  ⟨some 32, none, .p (.mov (.tmp 31)), []⟩,
  ⟨some 33, some (32, true), .p (.mov (.tmp 9)), []⟩,
  ⟨some 34, some (32, true), .p (.mov (.tmp 6)), []⟩,
  ⟨some 35, some (32, true), .p (.bin .lss (.tmp 33) (.tmp 34)), []⟩,
  ⟨some 36, none, .p (.pick (.tmp 32) (.tmp 35) (.const (.bool false))), []⟩]
def r44_7 : List AOper := [
  ⟨some 37, none, .p (.mov (.tmp 9)), []⟩,
  ⟨some 38, none, .p (.faddr 1 (.tmp 2)), []⟩,
  ⟨some 39, none, .l 1 false (.tmp 38), []⟩,
  ⟨some 40, none, .p (.mov (.tmp 8)), []⟩,
  ⟨some 41, none, .p (.iaddr 1 (.tmp 39) (.tmp 40)), []⟩,
  ⟨some 42, none, .l 1 false (.tmp 41), []⟩,
  ⟨some 6, none, .p (.mov (.tmp 37)), []⟩,
  ⟨some 7, none, .p (.mov (.tmp 42)), []⟩]
def r44_8 : List AOper := [
  ⟨some 43, none, .p (.faddr 0 (.tmp 2)), []⟩,
  ⟨some 44, none, .l 1 false (.tmp 43), []⟩,
  ⟨some 45, none, .p (.mov (.tmp 8)), []⟩,
  ⟨some 46, none, .p (.iaddr 1 (.tmp 44) (.tmp 45)), []⟩,
  ⟨some 47, none, .l 1 false (.tmp 46), []⟩,
  ⟨some 48, none, .p (.bin .lss (.tmp 47) (.const (.int .i64 1073741824))), []⟩,
  ⟨some 49, none, .p (.mov (.tmp 48)), []⟩,
  ⟨some 50, some (49, true), .p (.mov (.tmp 9)), []⟩,
  ⟨some 51, some (49, true), .p (.mov (.tmp 6)), []⟩,
  ⟨some 52, some (49, true), .p (.bin .eql (.tmp 50) (.tmp 51)), []⟩,
  ⟨some 53, none, .p (.pick (.tmp 49) (.tmp 52) (.const (.bool false))), []⟩]
def r44_9 : List AOper := [
  ⟨some 54, none, .p (.mov (.tmp 7)), []⟩,
  ⟨some 55, none, .p (.faddr 1 (.tmp 2)), []⟩,
  ⟨some 56, none, .l 1 false (.tmp 55), []⟩,
  ⟨some 57, none, .p (.mov (.tmp 8)), []⟩,
  ⟨some 58, none, .p (.iaddr 1 (.tmp 56) (.tmp 57)), []⟩,
  ⟨some 59, none, .l 1 false (.tmp 58), []⟩,
  ⟨some 60, none, .p (.bin .add (.tmp 54) (.tmp 59)), []⟩,
  ⟨some 7, none, .p (.mov (.tmp 60)), []⟩]
def r44_4 : List AOper := [
  ⟨some 14, none, .p (.mov (.tmp 8)), []⟩,
  ⟨some 15, none, .p (.bin .add (.tmp 14) (.const (.int .i64 1))), []⟩,
  ⟨some 8, none, .p (.mov (.tmp 15)), []⟩]
def b44_1 : ACode := .seq (.seq (.region r44_3) (.cond (.tmp 13) (.skip) (.exit 0))) (.seq (.block 1 (.seq (.region r44_5) (.seq (.region r44_6) (.cond (.tmp 36) (.region r44_7) (.seq (.region r44_8) (.cond (.tmp 53) (.region r44_9) (.skip))))))) (.region r44_4))
def r44_10 : List AOper := [
  ⟨some 61, none, .p (.mov (.tmp 6)), []⟩,
  ⟨some 62, none, .p (.mov (.tmp 7)), []⟩,
  ⟨some 4, none, .p (.mov (.tmp 61)), []⟩,
  ⟨some 5, none, .p (.mov (.tmp 62)), []⟩]
def f44 : AFn := { body := .seq (.region r44_0) (.seq (.region r44_1) (.seq (.seq (.region r44_2) (.block 0 (.loop b44_1))) (.seq (.region r44_10) (.ret)))), results := [.tmp 4, .tmp 5], n := 63 }

/-! function 45: "woggle/track.tree" -/
def r45_0 : List AOper := [
  ⟨some 4, none, .p (.mov (.const (.bool false))), []⟩]
def r45_1 : List AOper := [
  ⟨some 10, none, .p (.mov (.tmp 0)), []⟩,
  ⟨some 11, none, .p (.bin .lss (.tmp 10) (.const (.int .i64 2))), []⟩,
  ⟨some 12, none, .p (.mov (.tmp 11)), []⟩,
  ⟨some 13, some (12, false), .p (.mov (.tmp 0)), []⟩,
  ⟨some 14, some (12, false), .p (.bin .gtr (.tmp 13) (.const (.int .i64 8))), []⟩,
  ⟨some 15, none, .p (.pick (.tmp 12) (.const (.bool true)) (.tmp 14)), []⟩,
  ⟨some 16, none, .p (.mov (.tmp 15)), []⟩,
  ⟨some 17, some (16, false), .p (.mov (.tmp 1)), []⟩,
  ⟨some 18, some (16, false), .p (.len (.tmp 17)), []⟩,
  ⟨some 19, some (16, false), .p (.mov (.tmp 0)), []⟩,
  ⟨some 20, some (16, false), .p (.bin .sub (.tmp 19) (.const (.int .i64 1))), []⟩,
  ⟨some 21, some (16, false), .p (.bin .neq (.tmp 18) (.tmp 20)), []⟩,
  ⟨some 22, none, .p (.pick (.tmp 16) (.const (.bool true)) (.tmp 21)), []⟩]
def r45_2 : List AOper := [
  ⟨some 4, none, .p (.mov (.const (.bool false))), []⟩]
def r45_3 : List AOper := [
  ⟨some 5, none, .p (.mov (.const (.slice none 0 0))), []⟩]
def r45_4 : List AOper := [
  ⟨some 23, none, .p (.mov (.tmp 1)), []⟩,
  ⟨some 24, none, .p (.len (.tmp 23)), []⟩,
  ⟨some 25, none, .p (.mov (.const (.int .i64 0))), []⟩]
def r45_5 : List AOper := [
  ⟨some 26, none, .p (.bin .lss (.tmp 25) (.tmp 24)), []⟩]
def r45_6 : List AOper := [
  ⟨some 27, none, .p (.mov (.tmp 25)), []⟩,
  ⟨some 28, none, .p (.iaddr 2 (.tmp 23) (.tmp 25)), []⟩,
  ⟨some 29, none, .l 2 true (.tmp 28), []⟩,
  ⟨some 7, none, .a (.var [.int .i64 0, .int .i64 0]), []⟩,
  ⟨some 6, none, .p (.mov (.tmp 27)), []⟩,
  ⟨none, none, .e (.store 2 (.tmp 7) (.tmp 29)), []⟩]
def r45_7 : List AOper := [
  ⟨some 30, none, .p (.faddr 0 (.tmp 7)), []⟩,
  ⟨some 31, none, .l 1 false (.tmp 30), []⟩,
  ⟨some 32, none, .p (.faddr 1 (.tmp 7)), []⟩,
  ⟨some 33, none, .l 1 false (.tmp 32), []⟩,
  ⟨some 34, none, .a (.bslice (made [.int .i64 0] 2) 2 [(0, 1, (.tmp 31)), (1, 1, (.tmp 33))]), []⟩,
  ⟨some 35, none, .p (.len (.tmp 34)), []⟩,
  ⟨some 36, none, .p (.mov (.const (.int .i64 0))), []⟩]
def r45_8 : List AOper := [
  ⟨some 37, none, .p (.bin .lss (.tmp 36) (.tmp 35)), []⟩]
def r45_9 : List AOper := [
  ⟨some 38, none, .p (.iaddr 1 (.tmp 34) (.tmp 36)), []⟩,
  ⟨some 39, none, .l 1 false (.tmp 38), []⟩,
  ⟨some 9, none, .p (.mov (.tmp 39)), []⟩]
def r45_10 : List AOper := [
  ⟨some 40, none, .p (.mov (.tmp 9)), []⟩,
  ⟨some 41, none, .p (.bin .lss (.tmp 40) (.const (.int .i64 0))), []⟩,
  ⟨some 42, none, .p (.mov (.tmp 41)), []⟩,
  ⟨some 43, some (42, false), .p (.mov (.tmp 9)), []⟩,
  ⟨some 44, some (42, false), .p (.mov (.tmp 0)), []⟩,
  ⟨some 45, some (42, false), .p (.mov (.tmp 6)), []⟩,
  ⟨some 46, some (42, false), .p (.bin .add (.tmp 44) (.tmp 45)), []⟩,
  ⟨some 47, some (42, false), .p (.bin .geq (.tmp 43) (.tmp 46)), []⟩,
  ⟨some 48, none, .p (.pick (.tmp 42) (.const (.bool true)) (.tmp 47)), []⟩,
  ⟨some 49, none, .p (.mov (.tmp 48)), []⟩,
  ⟨some 50, some (49, false), .p (.mov (.tmp 5)), []⟩,
  ⟨some 51, some (49, false), .p (.mov (.tmp 9)), []⟩,
  ⟨some 52, some (49, false), .c (.func 62) [(.tmp 50), (.tmp 51)], []⟩,
  ⟨some 53, none, .p (.pick (.tmp 49) (.const (.bool true)) (.tmp 52)), []⟩]
def r45_11 : List AOper := [
  ⟨some 4, none, .p (.mov (.const (.bool false))), []⟩]
def r45_12 : List AOper := [
  ⟨some 54, none, .p (.mov (.tmp 5)), []⟩,
  ⟨some 55, none, .p (.mov (.tmp 9)), []⟩,
  ⟨some 56, none, .a (.bslice (made [.int .i64 0] 1) 1 [(0, 1, (.tmp 55))]), []⟩,
  ⟨some 57, none, .e (.append 1 8 (.tmp 54) (.tmp 56)), []⟩,
  ⟨some 5, none, .p (.mov (.tmp 57)), []⟩]
def r45_13 : List AOper := [
  ⟨some 58, none, .p (.bin .add (.tmp 36) (.const (.int .i64 1))), []⟩,
  ⟨some 36, none, .p (.mov (.tmp 58)), []⟩]
def b45_1 : ACode := .seq (.region r45_8) (.seq (.cond (.tmp 37) (.skip) (.exit 2)) (.seq (.block 3 (.seq (.region r45_9) (.seq (.seq (.region r45_10) (.cond (.tmp 53) (.seq (.region r45_11) (.ret)) (.skip))) (.region r45_12)))) (.region r45_13)))
def r45_14 : List AOper := [
  ⟨some 59, none, .p (.bin .add (.tmp 25) (.const (.int .i64 1))), []⟩,
  ⟨some 25, none, .p (.mov (.tmp 59)), []⟩]
def b45_2 : ACode := .seq (.region r45_5) (.seq (.cond (.tmp 26) (.skip) (.exit 0)) (.seq (.block 1 (.seq (.region r45_6) (.seq (.region r45_7) (.block 2 (.loop b45_1))))) (.region r45_14)))
def r45_15 : List AOper := [
  ⟨some 4, none, .p (.mov (.const (.bool true))), []⟩]
def f45 : AFn := { body := .seq (.region r45_0) (.seq (.seq (.region r45_1) (.cond (.tmp 22) (.seq (.region r45_2) (.ret)) (.skip))) (.seq (.region r45_3) (.seq (.seq (.region r45_4) (.block 0 (.loop b45_2))) (.seq (.region r45_15) (.ret))))), results := [.tmp 4], n := 60 }

/-! function 46: "woggle/track.states" -/
def r46_0 : List AOper := [
  ⟨some 5, none, .a (.box (.tmp 2)), []⟩,
  ⟨some 6, none, .p (.mov (.const (.bool false))), []⟩]
def r46_1 : List AOper := [
  ⟨some 7, none, .p (.mov (.tmp 0)), []⟩,
  ⟨some 8, none, .p (.len (.tmp 7)), []⟩,
  ⟨some 9, none, .p (.mov (.tmp 1)), []⟩,
  ⟨some 10, none, .p (.bin .eql (.tmp 8) (.tmp 9)), []⟩,
  ⟨some 11, none, .p (.mov (.tmp 10)), []⟩,
  ⟨some 12, some (11, true), .p (.mov (.tmp 0)), []⟩,
  ⟨some 13, some (11, true), .p (.mkfn 63 [] [(.tmp 5)]), []⟩,
  ⟨some 14, some (11, true), .c (.func 56) [(.tmp 12), (.tmp 13)], []⟩,
  ⟨some 15, some (11, true), .p (.not (.tmp 14)), []⟩,
  ⟨some 16, none, .p (.pick (.tmp 11) (.tmp 15) (.const (.bool false))), []⟩,
  ⟨some 6, none, .p (.mov (.tmp 16)), []⟩]
def f46 : AFn := { body := .seq (.region r46_0) (.seq (.region r46_1) (.ret)), results := [.tmp 6], n := 17 }

/-! function 47: "woggle/track.fitch" -/
def r47_0 : List AOper := [
  ⟨some 4, none, .p (.mov (.const (.slice none 0 0))), []⟩,
  ⟨some 5, none, .p (.mov (.const (.int .i64 0))), []⟩]
def r47_1 : List AOper := [
  ⟨some 6, none, .p (.mov (.const (.slice none 0 0))), []⟩]
def r47_2 : List AOper := [
  ⟨some 13, none, .p (.mov (.tmp 1)), []⟩,
  ⟨some 14, none, .p (.len (.tmp 13)), []⟩,
  ⟨some 15, none, .p (.mov (.const (.int .i64 0))), []⟩]
def r47_3 : List AOper := [
  ⟨some 16, none, .p (.bin .lss (.tmp 15) (.tmp 14)), []⟩]
def r47_4 : List AOper := [
  ⟨some 17, none, .p (.iaddr 1 (.tmp 13) (.tmp 15)), []⟩,
  ⟨some 18, none, .l 1 false (.tmp 17), []⟩,
  ⟨some 8, none, .p (.mov (.tmp 18)), []⟩]
def r47_5 : List AOper := [
  ⟨some 19, none, .p (.mov (.tmp 6)), []⟩,
  ⟨some 20, none, .p (.mov (.tmp 8)), []⟩,
  ⟨some 21, none, .p (.bin .shl (.const (.int .i64 1)) (.tmp 20)), []⟩,
  ⟨some 22, none, .a (.bslice (made [.int .i64 0] 1) 1 [(0, 1, (.tmp 21))]), []⟩,
  ⟨some 23, none, .e (.append 1 8 (.tmp 19) (.tmp 22)), []⟩,
  ⟨some 6, none, .p (.mov (.tmp 23)), []⟩]
def r47_6 : List AOper := [
  ⟨some 24, none, .p (.bin .add (.tmp 15) (.const (.int .i64 1))), []⟩,
  ⟨some 15, none, .p (.mov (.tmp 24)), []⟩]
def b47_1 : ACode := .seq (.region r47_3) (.seq (.cond (.tmp 16) (.skip) (.exit 0)) (.seq (.block 1 (.seq (.region r47_4) (.region r47_5))) (.region r47_6)))
def r47_7 : List AOper := [
  ⟨some 9, none, .p (.mov (.const (.int .i64 0))), []⟩]
def r47_8 : List AOper := [
  ⟨some 25, none, .p (.mov (.tmp 0)), []⟩,
  ⟨some 26, none, .p (.len (.tmp 25)), []⟩,
  ⟨some 27, none, .p (.mov (.const (.int .i64 0))), []⟩]
def r47_9 : List AOper := [
  ⟨some 28, none, .p (.bin .lss (.tmp 27) (.tmp 26)), []⟩]
def r47_10 : List AOper := [
  ⟨some 29, none, .p (.iaddr 2 (.tmp 25) (.tmp 27)), []⟩,
  ⟨some 30, none, .l 2 true (.tmp 29), []⟩,
  ⟨some 11, none, .a (.var [.int .i64 0, .int .i64 0]), []⟩,
  ⟨none, none, .e (.store 2 (.tmp 11) (.tmp 30)), []⟩]
def r47_11 : List AOper := [
  ⟨some 31, none, .p (.mov (.tmp 6)), []⟩,
  ⟨some 32, none, .p (.faddr 0 (.tmp 11)), []⟩,
  ⟨some 33, none, .l 1 false (.tmp 32), []⟩,
  ⟨some 34, none, .p (.iaddr 1 (.tmp 31) (.tmp 33)), []⟩,
  ⟨some 35, none, .l 1 false (.tmp 34), []⟩,
  ⟨some 36, none, .p (.mov (.tmp 6)), []⟩,
  ⟨some 37, none, .p (.faddr 1 (.tmp 11)), []⟩,
  ⟨some 38, none, .l 1 false (.tmp 37), []⟩,
  ⟨some 39, none, .p (.iaddr 1 (.tmp 36) (.tmp 38)), []⟩,
  ⟨some 40, none, .l 1 false (.tmp 39), []⟩,
  ⟨some 41, none, .p (.bin .and (.tmp 35) (.tmp 40)), []⟩,
  ⟨some 12, none, .p (.mov (.tmp 41)), []⟩]
def r47_12 : List AOper := [
  ⟨some 42, none, .p (.mov (.tmp 12)), []⟩,
  ⟨some 43, none, .p (.bin .eql (.tmp 42) (.const (.int .i64 0))), []⟩]
def r47_13 : List AOper := [
  ⟨some 44, none, .p (.mov (.tmp 6)), []⟩,
  ⟨some 45, none, .p (.faddr 0 (.tmp 11)), []⟩,
  ⟨some 46, none, .l 1 false (.tmp 45), []⟩,
  ⟨some 47, none, .p (.iaddr 1 (.tmp 44) (.tmp 46)), []⟩,
  ⟨some 48, none, .l 1 false (.tmp 47), []⟩,
  ⟨some 49, none, .p (.mov (.tmp 6)), []⟩,
  ⟨some 50, none, .p (.faddr 1 (.tmp 11)), []⟩,
  ⟨some 51, none, .l 1 false (.tmp 50), []⟩,
  ⟨some 52, none, .p (.iaddr 1 (.tmp 49) (.tmp 51)), []⟩,
  ⟨some 53, none, .l 1 false (.tmp 52), []⟩,
  ⟨some 54, none, .p (.bin .or (.tmp 48) (.tmp 53)), []⟩,
  ⟨some 12, none, .p (.mov (.tmp 54)), []⟩]
def r47_14 : List AOper := [
  ⟨some 55, none, .p (.mov (.tmp 9)), []⟩,
  ⟨some 56, none, .p (.bin .add (.tmp 55) (.const (.int .i64 1))), []⟩,
  ⟨some 9, none, .p (.mov (.tmp 56)), []⟩]
def r47_15 : List AOper := [
  ⟨some 57, none, .p (.mov (.tmp 6)), []⟩,
  ⟨some 58, none, .p (.mov (.tmp 12)), []⟩,
  ⟨some 59, none, .a (.bslice (made [.int .i64 0] 1) 1 [(0, 1, (.tmp 58))]), []⟩,
  ⟨some 60, none, .e (.append 1 8 (.tmp 57) (.tmp 59)), []⟩,
  ⟨some 6, none, .p (.mov (.tmp 60)), []⟩]
def r47_16 : List AOper := [
  ⟨some 61, none, .p (.bin .add (.tmp 27) (.const (.int .i64 1))), []⟩,
  ⟨some 27, none, .p (.mov (.tmp 61)), []⟩]
def b47_2 : ACode := .seq (.region r47_9) (.seq (.cond (.tmp 28) (.skip) (.exit 2)) (.seq (.block 3 (.seq (.region r47_10) (.seq (.region r47_11) (.seq (.seq (.region r47_12) (.cond (.tmp 43) (.seq (.region r47_13) (.region r47_14)) (.skip))) (.region r47_15))))) (.region r47_16)))
def r47_17 : List AOper := [
  ⟨some 62, none, .p (.mov (.tmp 6)), []⟩,
  ⟨some 63, none, .p (.mov (.tmp 9)), []⟩,
  ⟨some 4, none, .p (.mov (.tmp 62)), []⟩,
  ⟨some 5, none, .p (.mov (.tmp 63)), []⟩]
def f47 : AFn := { body := .seq (.region r47_0) (.seq (.region r47_1) (.seq (.seq (.region r47_2) (.block 0 (.loop b47_1))) (.seq (.region r47_7) (.seq (.seq (.region r47_8) (.block 2 (.loop b47_2))) (.seq (.region r47_17) (.ret)))))), results := [.tmp 4, .tmp 5], n := 64 }

/-! function 48: "woggle/woggleref01.Before" -/
def r48_0 : List AOper := [
  ⟨some 4, none, .p (.mov (.const (.bool false))), []⟩]
def r48_1 : List AOper := [
  ⟨some 5, none, .p (.mov (.const (.int .i64 0))), []⟩]
def r48_2 : List AOper := [
  ⟨some 6, none, .p (.mov (.tmp 5)), []⟩,
  ⟨some 7, none, .p (.mov (.tmp 0)), []⟩,
  ⟨some 8, none, .p (.len (.tmp 7)), []⟩,
  ⟨some 9, none, .p (.bin .lss (.tmp 6) (.tmp 8)), []⟩,
  ⟨some 10, none, .p (.mov (.tmp 9)), []⟩,
  ⟨some 11, some (10, true), .p (.mov (.tmp 5)), []⟩,
  ⟨some 12, some (10, true), .p (.mov (.tmp 1)), []⟩,
  ⟨some 13, some (10, true), .p (.len (.tmp 12)), []⟩,
  ⟨some 14, some (10, true), .p (.bin .lss (.tmp 11) (.tmp 13)), []⟩,
  ⟨some 15, none, .p (.pick (.tmp 10) (.tmp 14) (.const (.bool false))), []⟩]
def r48_4 : List AOper := [
  ⟨some 18, none, .p (.mov (.tmp 0)), []⟩,
  ⟨some 19, none, .p (.mov (.tmp 5)), []⟩,
  ⟨some 20, none, .p (.iaddr 1 (.tmp 18) (.tmp 19)), []⟩,
  ⟨some 21, none, .l 1 false (.tmp 20), []⟩,
  ⟨some 22, none, .p (.mov (.tmp 1)), []⟩,
  ⟨some 23, none, .p (.mov (.tmp 5)), []⟩,
  ⟨some 24, none, .p (.iaddr 1 (.tmp 22) (.tmp 23)), []⟩,
  ⟨some 25, none, .l 1 false (.tmp 24), []⟩,
  ⟨some 26, none, .p (.bin .neq (.tmp 21) (.tmp 25)), []⟩]
def r48_5 : List AOper := [
  ⟨some 27, none, .p (.mov (.tmp 0)), []⟩,
  ⟨some 28, none, .p (.mov (.tmp 5)), []⟩,
  ⟨some 29, none, .p (.iaddr 1 (.tmp 27) (.tmp 28)), []⟩,
  ⟨some 30, none, .l 1 false (.tmp 29), []⟩,
  ⟨some 31, none, .p (.mov (.tmp 1)), []⟩,
  ⟨some 32, none, .p (.mov (.tmp 5)), []⟩,
  ⟨some 33, none, .p (.iaddr 1 (.tmp 31) (.tmp 32)), []⟩,
  ⟨some 34, none, .l 1 false (.tmp 33), []⟩,
  ⟨some 35, none, .p (.bin .lss (.tmp 30) (.tmp 34)), []⟩,
  ⟨some 4, none, .p (.mov (.tmp 35)), []⟩]
def r48_3 : List AOper := [
  ⟨some 16, none, .p (.mov (.tmp 5)), []⟩,
  ⟨some 17, none, .p (.bin .add (.tmp 16) (.const (.int .i64 1))), []⟩,
  ⟨some 5, none, .p (.mov (.tmp 17)), []⟩]
def b48_1 : ACode := .seq (.seq (.region r48_2) (.cond (.tmp 15) (.skip) (.exit 0))) (.seq (.block 1 (.seq (.region r48_4) (.cond (.tmp 26) (.seq (.region r48_5) (.ret)) (.skip)))) (.region r48_3))
def r48_6 : List AOper := [
  ⟨some 36, none, .p (.mov (.tmp 0)), []⟩,
  ⟨some 37, none, .p (.len (.tmp 36)), []⟩,
  ⟨some 38, none, .p (.mov (.tmp 1)), []⟩,
  ⟨some 39, none, .p (.len (.tmp 38)), []⟩,
  ⟨some 40, none, .p (.bin .lss (.tmp 37) (.tmp 39)), []⟩,
  ⟨some 4, none, .p (.mov (.tmp 40)), []⟩]
def f48 : AFn := { body := .seq (.region r48_0) (.seq (.seq (.region r48_1) (.block 0 (.loop b48_1))) (.seq (.region r48_6) (.ret))), results := [.tmp 4], n := 41 }

/-! function 49: "woggle/track.rows" -/
def r49_0 : List AOper := [
  ⟨some 1, none, .a (.box (.tmp 0)), []⟩,
  ⟨some 2, none, .p (.mov (.const (.bool false))), []⟩]
def r49_1 : List AOper := [
  ⟨some 3, none, .l 1 false (.tmp 1), []⟩,
  ⟨some 4, none, .p (.len (.tmp 3)), []⟩,
  ⟨some 5, none, .p (.bin .lss (.tmp 4) (.const (.int .i64 2))), []⟩,
  ⟨some 6, none, .p (.mov (.tmp 5)), []⟩,
  ⟨some 7, some (6, false), .l 1 false (.tmp 1), []⟩,
  ⟨some 8, some (6, false), .p (.len (.tmp 7)), []⟩,
  ⟨some 9, some (6, false), .p (.bin .gtr (.tmp 8) (.const (.int .i64 5))), []⟩,
  ⟨some 10, none, .p (.pick (.tmp 6) (.const (.bool true)) (.tmp 9)), []⟩,
  ⟨some 11, none, .p (.mov (.tmp 10)), []⟩,
  ⟨some 12, some (11, false), .l 1 false (.tmp 1), []⟩,
  ⟨some 13, some (11, false), .p (.iaddr 1 (.tmp 12) (.const (.int .i64 0))), []⟩,
  ⟨some 14, some (11, false), .l 1 false (.tmp 13), []⟩,
  ⟨some 15, some (11, false), .p (.len (.tmp 14)), []⟩,
  ⟨some 16, some (11, false), .p (.bin .lss (.tmp 15) (.const (.int .i64 1))), []⟩,
  ⟨some 17, none, .p (.pick (.tmp 11) (.const (.bool true)) (.tmp 16)), []⟩,
  ⟨some 18, none, .p (.mov (.tmp 17)), []⟩,
  ⟨some 19, some (18, false), .l 1 false (.tmp 1), []⟩,
  ⟨some 20, some (18, false), .p (.iaddr 1 (.tmp 19) (.const (.int .i64 0))), []⟩,
  ⟨some 21, some (18, false), .l 1 false (.tmp 20), []⟩,
  ⟨some 22, some (18, false), .p (.len (.tmp 21)), []⟩,
  ⟨some 23, some (18, false), .p (.bin .gtr (.tmp 22) (.const (.int .i64 6))), []⟩,
  ⟨some 24, none, .p (.pick (.tmp 18) (.const (.bool true)) (.tmp 23)), []⟩]
def r49_2 : List AOper := [
  ⟨some 2, none, .p (.mov (.const (.bool false))), []⟩]
def r49_3 : List AOper := [
  ⟨some 25, none, .l 1 false (.tmp 1), []⟩,
  ⟨some 26, none, .p (.mkfn 64 [] [(.tmp 1)]), []⟩,
  ⟨some 27, none, .c (.func 58) [(.tmp 25), (.tmp 26)], []⟩,
  ⟨some 28, none, .p (.not (.tmp 27)), []⟩,
  ⟨some 2, none, .p (.mov (.tmp 28)), []⟩]
def f49 : AFn := { body := .seq (.region r49_0) (.seq (.seq (.region r49_1) (.cond (.tmp 24) (.seq (.region r49_2) (.ret)) (.skip))) (.seq (.region r49_3) (.ret))), results := [.tmp 2], n := 29 }

/-! function 50: "woggle/track.best" -/
def r50_0 : List AOper := [
  ⟨some 6, none, .p (.mov (.const (.int .i64 0))), []⟩,
  ⟨some 7, none, .p (.mov (.const (.slice none 0 0))), []⟩]
def r50_1 : List AOper := [
  ⟨some 18, none, .p (.mov (.tmp 2)), []⟩,
  ⟨some 19, none, .p (.len (.tmp 18)), []⟩,
  ⟨some 20, none, .p (.bin .eql (.tmp 19) (.const (.int .i64 1))), []⟩]
def r50_2 : List AOper := [
  ⟨some 21, none, .p (.mov (.tmp 1)), []⟩,
  ⟨some 22, none, .p (.mov (.tmp 0)), []⟩,
  ⟨some 23, none, .c (.func 54) [(.tmp 21), (.tmp 22)], []⟩,
  ⟨some 24, none, .p (.mov (.tmp 1)), []⟩,
  ⟨some 6, none, .p (.mov (.tmp 23)), []⟩,
  ⟨some 7, none, .p (.mov (.tmp 24)), []⟩]
def r50_3 : List AOper := [
  ⟨some 8, none, .p (.mov (.const (.int .i64 (-1)))), []⟩,
  ⟨some 9, none, .p (.mov (.const (.slice none 0 0))), []⟩]
def r50_4 : List AOper := [
  ⟨some 25, none, .p (.mov (.tmp 2)), []⟩,
  ⟨some 26, none, .p (.len (.tmp 25)), []⟩,
  ⟨some 27, none, .p (.mov (.const (.int .i64 0))), []⟩]
def r50_5 : List AOper := [
  ⟨some 28, none, .p (.bin .lss (.tmp 27) (.tmp 26)), []⟩]
def r50_6 : List AOper := [
  ⟨some 29, none, .p (.mov (.tmp 27)), []⟩,
  ⟨some 30, none, .p (.iaddr 1 (.tmp 25) (.tmp 27)), []⟩,
  ⟨some 31, none, .l 1 false (.tmp 30), []⟩,
  ⟨some 11, none, .a (.var [.int .i64 0]), []⟩,
  ⟨some 10, none, .p (.mov (.tmp 29)), []⟩,
  ⟨none, none, .e (.store 1 (.tmp 11) (.tmp 31)), []⟩]
def r50_7 : List AOper := [
  ⟨some 32, none, .p (.mov (.tmp 2)), []⟩,
  ⟨some 33, none, .p (.mov (.tmp 10)), []⟩,
  ⟨some 34, none, .p (.bin .add (.tmp 33) (.const (.int .i64 1))), []⟩,
  ⟨some 35, none, .p (.slice 1 (.tmp 32) (some (.tmp 34)) none none), []⟩,
  ⟨some 36, none, .p (.len (.tmp 35)), []⟩,
  ⟨some 37, none, .p (.mov (.const (.int .i64 0))), []⟩]
def r50_8 : List AOper := [
  ⟨some 38, none, .p (.bin .lss (.tmp 37) (.tmp 36)), []⟩]
def r50_9 : List AOper := [
  ⟨some 39, none, .p (.iaddr 1 (.tmp 35) (.tmp 37)), []⟩,
  ⟨some 40, none, .l 1 false (.tmp 39), []⟩,
  ⟨some 13, none, .a (.var [.int .i64 0]), []⟩,
  ⟨none, none, .e (.store 1 (.tmp 13) (.tmp 40)), []⟩]
def r50_10 : List AOper := [
  ⟨some 41, none, .p (.mov (.tmp 2)), []⟩,
  ⟨some 42, none, .c (.func 66) [(.tmp 41)], []⟩,
  ⟨some 43, none, .p (.mkfn 67 [] [(.tmp 11), (.tmp 13)]), []⟩,
  ⟨some 44, none, .c (.func 65) [(.tmp 42), (.tmp 43)], []⟩,
  ⟨some 14, none, .p (.mov (.tmp 44)), []⟩]
def r50_11 : List AOper := [
  ⟨some 45, none, .p (.mov (.tmp 0)), []⟩,
  ⟨some 46, none, .p (.len (.tmp 45)), []⟩,
  ⟨some 47, none, .p (.mov (.tmp 1)), []⟩,
  ⟨some 48, none, .p (.len (.tmp 47)), []⟩,
  ⟨some 49, none, .p (.bin .add (.tmp 46) (.tmp 48)), []⟩,
  ⟨some 15, none, .p (.mov (.tmp 49)), []⟩]
def r50_12 : List AOper := [
  ⟨some 51, none, .p (.mov (.tmp 0)), []⟩,
  ⟨some 52, none, .p (.mov (.tmp 1)), []⟩,
  ⟨some 54, none, .l 1 false (.tmp 11), []⟩,
  ⟨some 55, none, .l 1 false (.tmp 13), []⟩,
  ⟨some 56, none, .p (.build [.int .i64 0, .int .i64 0] [(0, 1, (.tmp 54)), (1, 1, (.tmp 55))]), []⟩,
  ⟨some 59, none, .p (.mov (.tmp 14)), []⟩,
  ⟨some 60, none, .p (.mov (.tmp 15)), []⟩,
  ⟨some 53, none, .c (.func 68) [(.tmp 52)], [((.tmp 11), 1), ((.tmp 13), 1)]⟩,
  ⟨some 57, none, .a (.bslice (made [.int .i64 0, .int .i64 0] 2) 1 [(0, 2, (.tmp 56))]), []⟩,
  ⟨some 58, none, .e (.append 2 16 (.tmp 53) (.tmp 57)), []⟩,
  ⟨some 61, none, .a (.bslice (made [.int .i64 0] 1) 1 [(0, 1, (.tmp 60))]), []⟩,
  ⟨some 62, none, .e (.append 1 8 (.tmp 59) (.tmp 61)), []⟩,
  ⟨some 63, none, .c (.func 50) [(.tmp 51), (.tmp 58), (.tmp 62)], []⟩,
  ⟨some 50, none, .p (.mov (.tmp 63)), []⟩,
  ⟨some 64, none, .p (.ext (.tmp 50) 0), []⟩,
  ⟨some 65, none, .p (.ext (.tmp 50) 1), []⟩,
  ⟨some 16, none, .p (.mov (.tmp 64)), []⟩,
  ⟨some 17, none, .p (.mov (.tmp 65)), []⟩]
def r50_13 : List AOper := [
  ⟨some 66, none, .p (.mov (.tmp 8)), []⟩,
  ⟨some 67, none, .p (.bin .lss (.tmp 66) (.const (.int .i64 0))), []⟩,
  ⟨some 68, none, .p (.mov (.tmp 67)), []⟩,
  ⟨some 69, some (68, false), .p (.mov (.tmp 16)), []⟩,
  ⟨some 70, some (68, false), .p (.mov (.tmp 8)), []⟩,
  ⟨some 71, some (68, false), .p (.bin .lss (.tmp 69) (.tmp 70)), []⟩,
  ⟨some 72, none, .p (.pick (.tmp 68) (.const (.bool true)) (.tmp 71)), []⟩]
def r50_14 : List AOper := [
  ⟨some 73, none, .p (.mov (.tmp 16)), []⟩,
  ⟨some 74, none, .p (.mov (.tmp 17)), []⟩,
  ⟨some 8, none, .p (.mov (.tmp 73)), []⟩,
  ⟨some 9, none, .p (.mov (.tmp 74)), []⟩]
def r50_15 : List AOper := [
  ⟨some 75, none, .p (.bin .add (.tmp 37) (.const (.int .i64 1))), []⟩,
  ⟨some 37, none, .p (.mov (.tmp 75)), []⟩]
def b50_1 : ACode := .seq (.region r50_8) (.seq (.cond (.tmp 38) (.skip) (.exit 2)) (.seq (.block 3 (.seq (.region r50_9) (.seq (.region r50_10) (.seq (.region r50_11) (.seq (.region r50_12) (.seq (.region r50_13) (.cond (.tmp 72) (.region r50_14) (.skip)))))))) (.region r50_15)))
def r50_16 : List AOper := [
  ⟨some 76, none, .p (.bin .add (.tmp 27) (.const (.int .i64 1))), []⟩,
  ⟨some 27, none, .p (.mov (.tmp 76)), []⟩]
def b50_2 : ACode := .seq (.region r50_5) (.seq (.cond (.tmp 28) (.skip) (.exit 0)) (.seq (.block 1 (.seq (.region r50_6) (.seq (.region r50_7) (.block 2 (.loop b50_1))))) (.region r50_16)))
def r50_17 : List AOper := [
  ⟨some 77, none, .p (.mov (.tmp 8)), []⟩,
  ⟨some 78, none, .p (.mov (.tmp 9)), []⟩,
  ⟨some 6, none, .p (.mov (.tmp 77)), []⟩,
  ⟨some 7, none, .p (.mov (.tmp 78)), []⟩]
def f50 : AFn := { body := .seq (.region r50_0) (.seq (.seq (.region r50_1) (.cond (.tmp 20) (.seq (.region r50_2) (.ret)) (.skip))) (.seq (.region r50_3) (.seq (.seq (.region r50_4) (.block 0 (.loop b50_2))) (.seq (.region r50_17) (.ret))))), results := [.tmp 6, .tmp 7], n := 79 }

/-! function 51: "woggle/track.all" -/
def r51_0 : List AOper := [
  ⟨some 2, none, .p (.mov (.const (.slice none 0 0))), []⟩]
def r51_1 : List AOper := [
  ⟨some 3, none, .p (.mov (.const (.slice none 0 0))), []⟩]
def r51_2 : List AOper := [
  ⟨some 5, none, .p (.mov (.tmp 0)), []⟩,
  ⟨some 6, none, .p (.len (.tmp 5)), []⟩,
  ⟨some 7, none, .p (.mov (.const (.int .i64 0))), []⟩]
def r51_3 : List AOper := [
  ⟨some 8, none, .p (.bin .lss (.tmp 7) (.tmp 6)), []⟩]
def r51_4 : List AOper := [
  ⟨some 9, none, .p (.mov (.tmp 7)), []⟩,
  ⟨some 4, none, .p (.mov (.tmp 9)), []⟩]
def r51_5 : List AOper := [
  ⟨some 10, none, .p (.mov (.tmp 3)), []⟩,
  ⟨some 11, none, .p (.mov (.tmp 4)), []⟩,
  ⟨some 12, none, .a (.bslice (made [.int .i64 0] 1) 1 [(0, 1, (.tmp 11))]), []⟩,
  ⟨some 13, none, .e (.append 1 8 (.tmp 10) (.tmp 12)), []⟩,
  ⟨some 3, none, .p (.mov (.tmp 13)), []⟩]
def r51_6 : List AOper := [
  ⟨some 14, none, .p (.bin .add (.tmp 7) (.const (.int .i64 1))), []⟩,
  ⟨some 7, none, .p (.mov (.tmp 14)), []⟩]
def b51_1 : ACode := .seq (.region r51_3) (.seq (.cond (.tmp 8) (.skip) (.exit 0)) (.seq (.block 1 (.seq (.region r51_4) (.region r51_5))) (.region r51_6)))
def r51_7 : List AOper := [
  ⟨some 15, none, .p (.mov (.tmp 3)), []⟩,
  ⟨some 2, none, .p (.mov (.tmp 15)), []⟩]
def f51 : AFn := { body := .seq (.region r51_0) (.seq (.region r51_1) (.seq (.seq (.region r51_2) (.block 0 (.loop b51_1))) (.seq (.region r51_7) (.ret)))), results := [.tmp 2], n := 16 }

/-! function 52: "woggle/woggleref02.in" -/
def r52_0 : List AOper := [
  ⟨some 6, none, .p (.mov (.const (.bool false))), []⟩]
def r52_1 : List AOper := [
  ⟨some 7, none, .p (.mov (.tmp 0)), []⟩,
  ⟨some 8, none, .p (.mov (.tmp 1)), []⟩,
  ⟨some 9, none, .p (.bin .geq (.tmp 7) (.tmp 8)), []⟩,
  ⟨some 10, none, .p (.mov (.tmp 9)), []⟩,
  ⟨some 11, some (10, true), .p (.mov (.tmp 0)), []⟩,
  ⟨some 12, some (10, true), .p (.mov (.tmp 2)), []⟩,
  ⟨some 13, some (10, true), .p (.bin .leq (.tmp 11) (.tmp 12)), []⟩,
  ⟨some 14, none, .p (.pick (.tmp 10) (.tmp 13) (.const (.bool false))), []⟩,
  ⟨some 6, none, .p (.mov (.tmp 14)), []⟩]
def f52 : AFn := { body := .seq (.region r52_0) (.seq (.region r52_1) (.ret)), results := [.tmp 6], n := 15 }

/-! function 53: "woggle/woggleref02.Fitch" -/
def r53_0 : List AOper := [
  ⟨some 6, none, .p (.mov (.const (.slice none 0 0))), []⟩,
  ⟨some 7, none, .p (.mov (.const (.int .i64 0))), []⟩]
def r53_1 : List AOper := [
  ⟨some 14, none, .a (.bslice (made [.int .i64 0] 0) 0 []), []⟩,
  ⟨some 8, none, .p (.mov (.tmp 14)), []⟩,
  ⟨some 9, none, .p (.mov (.const (.int .i64 0))), []⟩]
def r53_2 : List AOper := [
  ⟨some 10, none, .p (.mov (.const (.int .i64 0))), []⟩]
def r53_3 : List AOper := [
  ⟨some 15, none, .p (.mov (.tmp 10)), []⟩,
  ⟨some 16, none, .p (.mov (.tmp 0)), []⟩,
  ⟨some 17, none, .p (.bin .lss (.tmp 15) (.tmp 16)), []⟩]
def r53_5 : List AOper := [
  ⟨some 20, none, .p (.mov (.tmp 8)), []⟩,
  ⟨some 21, none, .p (.mov (.tmp 2)), []⟩,
  ⟨some 22, none, .p (.mov (.tmp 10)), []⟩,
  ⟨some 23, none, .p (.iaddr 1 (.tmp 21) (.tmp 22)), []⟩,
  ⟨some 24, none, .l 1 false (.tmp 23), []⟩,
  ⟨some 25, none, .p (.bin .shl (.const (.int .i64 1)) (.tmp 24)), []⟩,
  ⟨some 26, none, .a (.bslice (made [.int .i64 0] 1) 1 [(0, 1, (.tmp 25))]), []⟩,
  ⟨some 27, none, .e (.append 1 8 (.tmp 20) (.tmp 26)), []⟩,
  ⟨some 8, none, .p (.mov (.tmp 27)), []⟩]
def r53_4 : List AOper := [
  ⟨some 18, none, .p (.mov (.tmp 10)), []⟩,
  ⟨some 19, none, .p (.bin .add (.tmp 18) (.const (.int .i64 1))), []⟩,
  ⟨some 10, none, .p (.mov (.tmp 19)), []⟩]
def b53_1 : ACode := .seq (.seq (.region r53_3) (.cond (.tmp 17) (.skip) (.exit 0))) (.seq (.block 1 (.region r53_5)) (.region r53_4))
def r53_6 : List AOper := [
  ⟨some 11, none, .p (.mov (.const (.int .i64 0))), []⟩]
def r53_7 : List AOper := [
  ⟨some 28, none, .p (.mov (.tmp 11)), []⟩,
  ⟨some 29, none, .p (.mov (.tmp 1)), []⟩,
  ⟨some 30, none, .p (.len (.tmp 29)), []⟩,
  ⟨some 31, none, .p (.bin .lss (.tmp 28) (.tmp 30)), []⟩]
def r53_9 : List AOper := [
  ⟨some 34, none, .p (.mov (.tmp 8)), []⟩,
  ⟨some 35, none, .p (.mov (.tmp 1)), []⟩,
  ⟨some 36, none, .p (.mov (.tmp 11)), []⟩,
  ⟨some 37, none, .p (.iaddr 2 (.tmp 35) (.tmp 36)), []⟩,
  ⟨some 38, none, .p (.faddr 0 (.tmp 37)), []⟩,
  ⟨some 39, none, .l 1 false (.tmp 38), []⟩,
  ⟨some 40, none, .p (.iaddr 1 (.tmp 34) (.tmp 39)), []⟩,
  ⟨some 41, none, .l 1 false (.tmp 40), []⟩,
  ⟨some 42, none, .p (.mov (.tmp 8)), []⟩,
  ⟨some 43, none, .p (.mov (.tmp 1)), []⟩,
  ⟨some 44, none, .p (.mov (.tmp 11)), []⟩,
  ⟨some 45, none, .p (.iaddr 2 (.tmp 43) (.tmp 44)), []⟩,
  ⟨some 46, none, .p (.faddr 1 (.tmp 45)), []⟩,
  ⟨some 47, none, .l 1 false (.tmp 46), []⟩,
  ⟨some 48, none, .p (.iaddr 1 (.tmp 42) (.tmp 47)), []⟩,
  ⟨some 49, none, .l 1 false (.tmp 48), []⟩,
  ⟨some 12, none, .p (.mov (.tmp 41)), []⟩,
  ⟨some 13, none, .p (.mov (.tmp 49)), []⟩]
def r53_10 : List AOper := [
  ⟨some 50, none, .p (.mov (.tmp 12)), []⟩,
  ⟨some 51, none, .p (.mov (.tmp 13)), []⟩,
  ⟨some 52, none, .p (.bin .and (.tmp 50) (.tmp 51)), []⟩,
  ⟨some 53, none, .p (.bin .neq (.tmp 52) (.const (.int .i64 0))), []⟩]
def r53_11 : List AOper := [
  ⟨some 54, none, .p (.mov (.tmp 8)), []⟩,
  ⟨some 55, none, .p (.mov (.tmp 12)), []⟩,
  ⟨some 56, none, .p (.mov (.tmp 13)), []⟩,
  ⟨some 57, none, .p (.bin .and (.tmp 55) (.tmp 56)), []⟩,
  ⟨some 58, none, .a (.bslice (made [.int .i64 0] 1) 1 [(0, 1, (.tmp 57))]), []⟩,
  ⟨some 59, none, .e (.append 1 8 (.tmp 54) (.tmp 58)), []⟩,
  ⟨some 8, none, .p (.mov (.tmp 59)), []⟩]
def r53_12 : List AOper := [
  ⟨some 60, none, .p (.mov (.tmp 8)), []⟩,
  ⟨some 61, none, .p (.mov (.tmp 12)), []⟩,
  ⟨some 62, none, .p (.mov (.tmp 13)), []⟩,
  ⟨some 63, none, .p (.bin .or (.tmp 61) (.tmp 62)), []⟩,
  ⟨some 64, none, .a (.bslice (made [.int .i64 0] 1) 1 [(0, 1, (.tmp 63))]), []⟩,
  ⟨some 65, none, .e (.append 1 8 (.tmp 60) (.tmp 64)), []⟩,
  ⟨some 8, none, .p (.mov (.tmp 65)), []⟩]
def r53_13 : List AOper := [
  ⟨some 66, none, .p (.mov (.tmp 9)), []⟩,
  ⟨some 67, none, .p (.bin .add (.tmp 66) (.const (.int .i64 1))), []⟩,
  ⟨some 9, none, .p (.mov (.tmp 67)), []⟩]
def r53_8 : List AOper := [
  ⟨some 32, none, .p (.mov (.tmp 11)), []⟩,
  ⟨some 33, none, .p (.bin .add (.tmp 32) (.const (.int .i64 1))), []⟩,
  ⟨some 11, none, .p (.mov (.tmp 33)), []⟩]
def b53_2 : ACode := .seq (.seq (.region r53_7) (.cond (.tmp 31) (.skip) (.exit 2))) (.seq (.block 3 (.seq (.region r53_9) (.seq (.region r53_10) (.cond (.tmp 53) (.region r53_11) (.seq (.region r53_12) (.region r53_13)))))) (.region r53_8))
def r53_14 : List AOper := [
  ⟨some 68, none, .p (.mov (.tmp 8)), []⟩,
  ⟨some 69, none, .p (.mov (.tmp 0)), []⟩,
  ⟨some 70, none, .p (.slice 1 (.tmp 68) (some (.tmp 69)) none none), []⟩,
  ⟨some 71, none, .p (.mov (.tmp 9)), []⟩,
  ⟨some 6, none, .p (.mov (.tmp 70)), []⟩,
  ⟨some 7, none, .p (.mov (.tmp 71)), []⟩]
def f53 : AFn := { body := .seq (.region r53_0) (.seq (.region r53_1) (.seq (.seq (.region r53_2) (.block 0 (.loop b53_1))) (.seq (.seq (.region r53_6) (.block 2 (.loop b53_2))) (.seq (.region r53_14) (.ret))))), results := [.tmp 6, .tmp 7], n := 72 }

/-! function 54: "woggle/track.length" -/
def r54_0 : List AOper := [
  ⟨some 4, none, .p (.mov (.const (.int .i64 0))), []⟩]
def r54_1 : List AOper := [
  ⟨some 5, none, .p (.mov (.const (.int .i64 0))), []⟩]
def r54_2 : List AOper := [
  ⟨some 12, none, .p (.mov (.tmp 1)), []⟩,
  ⟨some 13, none, .p (.iaddr 1 (.tmp 12) (.const (.int .i64 0))), []⟩,
  ⟨some 14, none, .l 1 false (.tmp 13), []⟩,
  ⟨some 15, none, .p (.len (.tmp 14)), []⟩,
  ⟨some 16, none, .p (.mov (.const (.int .i64 0))), []⟩]
def r54_3 : List AOper := [
  ⟨some 17, none, .p (.bin .lss (.tmp 16) (.tmp 15)), []⟩]
def r54_4 : List AOper := [
  ⟨some 18, none, .p (.mov (.tmp 16)), []⟩,
  ⟨some 6, none, .p (.mov (.tmp 18)), []⟩]
def r54_5 : List AOper := [
  ⟨some 7, none, .p (.mov (.const (.slice none 0 0))), []⟩]
def r54_6 : List AOper := [
  ⟨some 19, none, .p (.mov (.tmp 1)), []⟩,
  ⟨some 20, none, .p (.len (.tmp 19)), []⟩,
  ⟨some 21, none, .p (.mov (.const (.int .i64 0))), []⟩]
def r54_7 : List AOper := [
  ⟨some 22, none, .p (.bin .lss (.tmp 21) (.tmp 20)), []⟩]
def r54_8 : List AOper := [
  ⟨some 23, none, .p (.iaddr 1 (.tmp 19) (.tmp 21)), []⟩,
  ⟨some 24, none, .l 1 false (.tmp 23), []⟩,
  ⟨some 9, none, .p (.mov (.tmp 24)), []⟩]
def r54_9 : List AOper := [
  ⟨some 25, none, .p (.mov (.tmp 7)), []⟩,
  ⟨some 26, none, .p (.mov (.tmp 9)), []⟩,
  ⟨some 27, none, .p (.mov (.tmp 6)), []⟩,
  ⟨some 28, none, .p (.iaddr 1 (.tmp 26) (.tmp 27)), []⟩,
  ⟨some 29, none, .l 1 false (.tmp 28), []⟩,
  ⟨some 30, none, .a (.bslice (made [.int .i64 0] 1) 1 [(0, 1, (.tmp 29))]), []⟩,
  ⟨some 31, none, .e (.append 1 8 (.tmp 25) (.tmp 30)), []⟩,
  ⟨some 7, none, .p (.mov (.tmp 31)), []⟩]
def r54_10 : List AOper := [
  ⟨some 32, none, .p (.bin .add (.tmp 21) (.const (.int .i64 1))), []⟩,
  ⟨some 21, none, .p (.mov (.tmp 32)), []⟩]
def b54_1 : ACode := .seq (.region r54_7) (.seq (.cond (.tmp 22) (.skip) (.exit 2)) (.seq (.block 3 (.seq (.region r54_8) (.region r54_9))) (.region r54_10)))
def r54_11 : List AOper := [
  ⟨some 34, none, .p (.mov (.tmp 0)), []⟩,
  ⟨some 35, none, .p (.mov (.tmp 7)), []⟩,
  ⟨some 36, none, .c (.func 47) [(.tmp 34), (.tmp 35)], []⟩,
  ⟨some 33, none, .p (.mov (.tmp 36)), []⟩,
  ⟨some 37, none, .p (.ext (.tmp 33) 0), []⟩,
  ⟨some 38, none, .p (.ext (.tmp 33) 1), []⟩,
  ⟨some 10, none, .p (.mov (.tmp 37)), []⟩,
  ⟨some 11, none, .p (.mov (.tmp 38)), []⟩]
def r54_12 : List AOper := [
  ⟨some 39, none, .p (.mov (.tmp 5)), []⟩,
  ⟨some 40, none, .p (.mov (.tmp 11)), []⟩,
  ⟨some 41, none, .p (.bin .add (.tmp 39) (.tmp 40)), []⟩,
  ⟨some 5, none, .p (.mov (.tmp 41)), []⟩]
def r54_13 : List AOper := [
  ⟨some 42, none, .p (.bin .add (.tmp 16) (.const (.int .i64 1))), []⟩,
  ⟨some 16, none, .p (.mov (.tmp 42)), []⟩]
def b54_2 : ACode := .seq (.region r54_3) (.seq (.cond (.tmp 17) (.skip) (.exit 0)) (.seq (.block 1 (.seq (.region r54_4) (.seq (.region r54_5) (.seq (.seq (.region r54_6) (.block 2 (.loop b54_1))) (.seq (.region r54_11) (.region r54_12)))))) (.region r54_13)))
def r54_14 : List AOper := [
  ⟨some 43, none, .p (.mov (.tmp 5)), []⟩,
  ⟨some 4, none, .p (.mov (.tmp 43)), []⟩]
def f54 : AFn := { body := .seq (.region r54_0) (.seq (.region r54_1) (.seq (.seq (.region r54_2) (.block 0 (.loop b54_2))) (.seq (.region r54_14) (.ret)))), results := [.tmp 4], n := 44 }

/-! function 55: "woggle/track.read$1" -/
def r55_0 : List AOper := [
  ⟨some 3, none, .p (.mov (.const (.bool false))), []⟩]
def r55_1 : List AOper := [
  ⟨some 4, none, .p (.mov (.tmp 0)), []⟩,
  ⟨some 5, none, .p (.len (.tmp 4)), []⟩,
  ⟨some 6, none, .l 1 false (.tmp 1), []⟩,
  ⟨some 7, none, .p (.bin .neq (.tmp 5) (.tmp 6)), []⟩,
  ⟨some 8, none, .p (.mov (.tmp 7)), []⟩,
  ⟨some 9, some (8, false), .p (.mov (.tmp 0)), []⟩,
  ⟨some 10, some (8, false), .c (.func 56) [(.tmp 9), (.func 57)], []⟩,
  ⟨some 11, none, .p (.pick (.tmp 8) (.const (.bool true)) (.tmp 10)), []⟩,
  ⟨some 3, none, .p (.mov (.tmp 11)), []⟩]
def f55 : AFn := { body := .seq (.region r55_0) (.seq (.region r55_1) (.ret)), results := [.tmp 3], n := 12 }

/-! function 56: "slices.ContainsFunc[[]int,int]" -/
def r56_0 : List AOper := [
  ⟨some 4, none, .p (.mov (.const (.bool false))), []⟩]
def r56_1 : List AOper := [
  ⟨some 5, none, .p (.mov (.tmp 0)), []⟩,
  ⟨some 6, none, .p (.mov (.tmp 1)), []⟩,
  ⟨some 7, none, .c (.func 69) [(.tmp 5), (.tmp 6)], []⟩,
  ⟨some 8, none, .p (.bin .geq (.tmp 7) (.const (.int .i64 0))), []⟩,
  ⟨some 4, none, .p (.mov (.tmp 8)), []⟩]
def f56 : AFn := { body := .seq (.region r56_0) (.seq (.region r56_1) (.ret)), results := [.tmp 4], n := 9 }

/-! function 57: "woggle/track.read$1$1" -/
def r57_0 : List AOper := [
  ⟨some 2, none, .p (.mov (.const (.bool false))), []⟩]
def r57_1 : List AOper := [
  ⟨some 3, none, .p (.mov (.tmp 0)), []⟩,
  ⟨some 4, none, .p (.bin .lss (.tmp 3) (.const (.int .i64 0))), []⟩,
  ⟨some 5, none, .p (.mov (.tmp 4)), []⟩,
  ⟨some 6, some (5, false), .p (.mov (.tmp 0)), []⟩,
  ⟨some 7, some (5, false), .p (.bin .gtr (.tmp 6) (.const (.int .i64 100))), []⟩,
  ⟨some 8, none, .p (.pick (.tmp 5) (.const (.bool true)) (.tmp 7)), []⟩,
  ⟨some 2, none, .p (.mov (.tmp 8)), []⟩]
def f57 : AFn := { body := .seq (.region r57_0) (.seq (.region r57_1) (.ret)), results := [.tmp 2], n := 9 }

/-! function 58: "slices.ContainsFunc[[][]int,[]int]" -/
def r58_0 : List AOper := [
  ⟨some 4, none, .p (.mov (.const (.bool false))), []⟩]
def r58_1 : List AOper := [
  ⟨some 5, none, .p (.mov (.tmp 0)), []⟩,
  ⟨some 6, none, .p (.mov (.tmp 1)), []⟩,
  ⟨some 7, none, .c (.func 70) [(.tmp 5), (.tmp 6)], []⟩,
  ⟨some 8, none, .p (.bin .geq (.tmp 7) (.const (.int .i64 0))), []⟩,
  ⟨some 4, none, .p (.mov (.tmp 8)), []⟩]
def f58 : AFn := { body := .seq (.region r58_0) (.seq (.region r58_1) (.ret)), results := [.tmp 4], n := 9 }

/-! function 59: "woggle/track.read$2" -/
def r59_0 : List AOper := [
  ⟨some 5, none, .p (.mov (.const (.int .i64 0))), []⟩]
def r59_1 : List AOper := [
  ⟨some 6, none, .l 1 false (.tmp 2), []⟩,
  ⟨some 7, none, .p (.mov (.tmp 0)), []⟩,
  ⟨some 8, none, .p (.iaddr 1 (.tmp 6) (.tmp 7)), []⟩,
  ⟨some 9, none, .l 1 false (.tmp 8), []⟩,
  ⟨some 10, none, .p (.mov (.tmp 1)), []⟩,
  ⟨some 11, none, .p (.iaddr 1 (.tmp 9) (.tmp 10)), []⟩,
  ⟨some 12, none, .l 1 false (.tmp 11), []⟩,
  ⟨some 5, none, .p (.mov (.tmp 12)), []⟩]
def f59 : AFn := { body := .seq (.region r59_0) (.seq (.region r59_1) (.ret)), results := [.tmp 5], n := 13 }

/-! function 60: "(*woggle/track.problem).sankoff" -/
def r60_0 : List AOper := [
  ⟨some 2, none, .a (.box (.tmp 0)), []⟩,
  ⟨some 4, none, .p (.mov (.const (.slice none 0 0))), []⟩]
def r60_1 : List AOper := [
  ⟨some 5, none, .p (.mov (.const (.slice none 0 0))), []⟩]
def r60_2 : List AOper := [
  ⟨some 18, none, .l 1 false (.tmp 2), []⟩,
  ⟨some 19, none, .p (.nilc (.tmp 18)), []⟩,
  ⟨some 20, none, .p (.faddr 2 (.tmp 19)), []⟩,
  ⟨some 21, none, .l 1 false (.tmp 20), []⟩,
  ⟨some 22, none, .p (.len (.tmp 21)), []⟩,
  ⟨some 23, none, .p (.mov (.const (.int .i64 0))), []⟩]
def r60_3 : List AOper := [
  ⟨some 24, none, .p (.bin .lss (.tmp 23) (.tmp 22)), []⟩]
def r60_4 : List AOper := [
  ⟨some 25, none, .p (.iaddr 1 (.tmp 21) (.tmp 23)), []⟩,
  ⟨some 26, none, .l 1 false (.tmp 25), []⟩,
  ⟨some 7, none, .p (.mov (.tmp 26)), []⟩]
def r60_5 : List AOper := [
  ⟨some 28, none, .l 1 false (.tmp 2), []⟩,
  ⟨some 29, none, .p (.nilc (.tmp 28)), []⟩,
  ⟨some 30, none, .p (.faddr 3 (.tmp 29)), []⟩,
  ⟨some 31, none, .l 1 false (.tmp 30), []⟩,
  ⟨some 33, none, .l 1 false (.tmp 2), []⟩,
  ⟨some 34, none, .p (.nilc (.tmp 33)), []⟩,
  ⟨some 35, none, .p (.faddr 3 (.tmp 34)), []⟩,
  ⟨some 36, none, .l 1 false (.tmp 35), []⟩,
  ⟨some 27, none, .a (.bslice (made [.int .i64 0] 1) 1 [(0, 1, (.const (.int .i64 1073741824)))]), []⟩,
  ⟨some 32, none, .c (.func 61) [(.tmp 27), (.tmp 31)], [((.tmp 2), 1), ((.tmp 35), 1)]⟩,
  ⟨some 37, none, .a (.mslice 8 [.int .i64 0] (.tmp 36) (.tmp 36)), []⟩,
  ⟨some 38, none, .p (.build [.slice none 0 0, .slice none 0 0] [(0, 1, (.tmp 32)), (1, 1, (.tmp 37))]), []⟩,
  ⟨some 8, none, .a (.var [.slice none 0 0, .slice none 0 0]), []⟩,
  ⟨none, none, .e (.store 2 (.tmp 8) (.tmp 38)), []⟩]
def r60_6 : List AOper := [
  ⟨some 39, none, .p (.faddr 0 (.tmp 8)), []⟩,
  ⟨some 40, none, .l 1 false (.tmp 39), []⟩,
  ⟨some 41, none, .p (.mov (.tmp 7)), []⟩,
  ⟨some 42, none, .p (.faddr 1 (.tmp 8)), []⟩,
  ⟨some 43, none, .l 1 false (.tmp 42), []⟩,
  ⟨some 44, none, .p (.mov (.tmp 7)), []⟩,
  ⟨some 45, none, .p (.iaddr 1 (.tmp 40) (.tmp 41)), []⟩,
  ⟨none, none, .e (.store 1 (.tmp 45) (.const (.int .i64 0))), [((.tmp 42), 1)]⟩,
  ⟨some 46, none, .p (.iaddr 1 (.tmp 43) (.tmp 44)), []⟩,
  ⟨none, none, .e (.store 1 (.tmp 46) (.const (.int .i64 1))), []⟩]
def r60_7 : List AOper := [
  ⟨some 47, none, .p (.mov (.tmp 5)), []⟩,
  ⟨some 48, none, .l 2 true (.tmp 8), []⟩,
  ⟨some 49, none, .a (.bslice (made [.slice none 0 0, .slice none 0 0] 2) 1 [(0, 2, (.tmp 48))]), []⟩,
  ⟨some 50, none, .e (.append 2 48 (.tmp 47) (.tmp 49)), []⟩,
  ⟨some 5, none, .p (.mov (.tmp 50)), []⟩]
def r60_8 : List AOper := [
  ⟨some 51, none, .p (.bin .add (.tmp 23) (.const (.int .i64 1))), []⟩,
  ⟨some 23, none, .p (.mov (.tmp 51)), []⟩]
def b60_1 : ACode := .seq (.region r60_3) (.seq (.cond (.tmp 24) (.skip) (.exit 0)) (.seq (.block 1 (.seq (.region r60_4) (.seq (.region r60_5) (.seq (.region r60_6) (.region r60_7))))) (.region r60_8)))
def r60_9 : List AOper := [
  ⟨some 52, none, .p (.mkfn 71 [] [(.tmp 2)]), []⟩,
  ⟨some 9, none, .p (.mov (.tmp 52)), []⟩]
def r60_10 : List AOper := [
  ⟨some 53, none, .l 1 false (.tmp 2), []⟩,
  ⟨some 54, none, .p (.nilc (.tmp 53)), []⟩,
  ⟨some 55, none, .p (.faddr 1 (.tmp 54)), []⟩,
  ⟨some 56, none, .l 1 false (.tmp 55), []⟩,
  ⟨some 57, none, .p (.len (.tmp 56)), []⟩,
  ⟨some 58, none, .p (.mov (.const (.int .i64 0))), []⟩]
def r60_11 : List AOper := [
  ⟨some 59, none, .p (.bin .lss (.tmp 58) (.tmp 57)), []⟩]
def r60_12 : List AOper := [
  ⟨some 60, none, .p (.mov (.tmp 58)), []⟩,
  ⟨some 61, none, .p (.iaddr 2 (.tmp 56) (.tmp 58)), []⟩,
  ⟨some 62, none, .l 2 true (.tmp 61), []⟩,
  ⟨some 11, none, .a (.var [.int .i64 0, .int .i64 0]), []⟩,
  ⟨some 10, none, .p (.mov (.tmp 60)), []⟩,
  ⟨none, none, .e (.store 2 (.tmp 11) (.tmp 62)), []⟩]
def r60_13 : List AOper := [
  ⟨some 64, none, .l 1 false (.tmp 2), []⟩,
  ⟨some 65, none, .p (.nilc (.tmp 64)), []⟩,
  ⟨some 66, none, .p (.faddr 3 (.tmp 65)), []⟩,
  ⟨some 67, none, .l 1 false (.tmp 66), []⟩,
  ⟨some 69, none, .l 1 false (.tmp 2), []⟩,
  ⟨some 70, none, .p (.nilc (.tmp 69)), []⟩,
  ⟨some 71, none, .p (.faddr 3 (.tmp 70)), []⟩,
  ⟨some 72, none, .l 1 false (.tmp 71), []⟩,
  ⟨some 63, none, .a (.bslice (made [.int .i64 0] 1) 1 [(0, 1, (.const (.int .i64 1073741824)))]), []⟩,
  ⟨some 68, none, .c (.func 61) [(.tmp 63), (.tmp 67)], [((.tmp 2), 1), ((.tmp 71), 1)]⟩,
  ⟨some 73, none, .a (.mslice 8 [.int .i64 0] (.tmp 72) (.tmp 72)), []⟩,
  ⟨some 74, none, .p (.build [.slice none 0 0, .slice none 0 0] [(0, 1, (.tmp 68)), (1, 1, (.tmp 73))]), []⟩,
  ⟨some 12, none, .a (.var [.slice none 0 0, .slice none 0 0]), []⟩,
  ⟨none, none, .e (.store 2 (.tmp 12) (.tmp 74)), []⟩]
def r60_14 : List AOper := [
  ⟨some 75, none, .l 1 false (.tmp 2), []⟩,
  ⟨some 76, none, .p (.nilc (.tmp 75)), []⟩,
  ⟨some 77, none, .p (.faddr 3 (.tmp 76)), []⟩,
  ⟨some 78, none, .l 1 false (.tmp 77), []⟩,
  ⟨some 79, none, .p (.mov (.const (.int .i64 0))), []⟩]
def r60_15 : List AOper := [
  ⟨some 80, none, .p (.bin .lss (.tmp 79) (.tmp 78)), []⟩]
def r60_16 : List AOper := [
  ⟨some 81, none, .p (.mov (.tmp 79)), []⟩,
  ⟨some 13, none, .p (.mov (.tmp 81)), []⟩]
def r60_17 : List AOper := [
  ⟨some 82, none, .p (.mov (.tmp 1)), []⟩,
  ⟨some 83, none, .p (.mov (.tmp 10)), []⟩,
  ⟨some 84, none, .p (.iaddr 1 (.tmp 82) (.tmp 83)), []⟩,
  ⟨some 85, none, .l 1 false (.tmp 84), []⟩,
  ⟨some 86, none, .p (.bin .geq (.tmp 85) (.const (.int .i64 0))), []⟩,
  ⟨some 87, none, .p (.mov (.tmp 86)), []⟩,
  ⟨some 88, some (87, true), .p (.mov (.tmp 1)), []⟩,
  ⟨some 89, some (87, true), .p (.mov (.tmp 10)), []⟩,
  ⟨some 90, some (87, true), .p (.iaddr 1 (.tmp 88) (.tmp 89)), []⟩,
  ⟨some 91, some (87, true), .l 1 false (.tmp 90), []⟩,
  ⟨some 92, some (87, true), .p (.mov (.tmp 13)), []⟩,
  ⟨some 93, some (87, true), .p (.bin .neq (.tmp 91) (.tmp 92)), []⟩,
  ⟨some 94, none, .p (.pick (.tmp 87) (.tmp 93) (.const (.bool false))), []⟩]
def r60_18 : List AOper := [
  ⟨some 96, none, .p (.mov (.tmp 9)), []⟩,
  ⟨some 97, none, .p (.mov (.tmp 5)), []⟩,
  ⟨some 98, none, .p (.faddr 0 (.tmp 11)), []⟩,
  ⟨some 99, none, .l 1 false (.tmp 98), []⟩,
  ⟨some 100, none, .p (.iaddr 2 (.tmp 97) (.tmp 99)), []⟩,
  ⟨some 101, none, .l 2 true (.tmp 100), []⟩,
  ⟨some 102, none, .p (.mov (.tmp 13)), []⟩,
  ⟨some 103, none, .c (.tmp 96) [(.tmp 101), (.tmp 102)], []⟩,
  ⟨some 95, none, .p (.mov (.tmp 103)), []⟩,
  ⟨some 104, none, .p (.ext (.tmp 95) 0), []⟩,
  ⟨some 105, none, .p (.ext (.tmp 95) 1), []⟩,
  ⟨some 14, none, .p (.mov (.tmp 104)), []⟩,
  ⟨some 15, none, .p (.mov (.tmp 105)), []⟩]
def r60_19 : List AOper := [
  ⟨some 107, none, .p (.mov (.tmp 9)), []⟩,
  ⟨some 108, none, .p (.mov (.tmp 5)), []⟩,
  ⟨some 109, none, .p (.faddr 1 (.tmp 11)), []⟩,
  ⟨some 110, none, .l 1 false (.tmp 109), []⟩,
  ⟨some 111, none, .p (.iaddr 2 (.tmp 108) (.tmp 110)), []⟩,
  ⟨some 112, none, .l 2 true (.tmp 111), []⟩,
  ⟨some 113, none, .p (.mov (.tmp 13)), []⟩,
  ⟨some 114, none, .c (.tmp 107) [(.tmp 112), (.tmp 113)], []⟩,
  ⟨some 106, none, .p (.mov (.tmp 114)), []⟩,
  ⟨some 115, none, .p (.ext (.tmp 106) 0), []⟩,
  ⟨some 116, none, .p (.ext (.tmp 106) 1), []⟩,
  ⟨some 16, none, .p (.mov (.tmp 115)), []⟩,
  ⟨some 17, none, .p (.mov (.tmp 116)), []⟩]
def r60_20 : List AOper := [
  ⟨some 117, none, .p (.faddr 0 (.tmp 12)), []⟩,
  ⟨some 118, none, .l 1 false (.tmp 117), []⟩,
  ⟨some 119, none, .p (.mov (.tmp 13)), []⟩,
  ⟨some 120, none, .p (.faddr 1 (.tmp 12)), []⟩,
  ⟨some 121, none, .l 1 false (.tmp 120), []⟩,
  ⟨some 122, none, .p (.mov (.tmp 13)), []⟩,
  ⟨some 123, none, .p (.mov (.tmp 14)), []⟩,
  ⟨some 124, none, .p (.mov (.tmp 16)), []⟩,
  ⟨some 125, none, .p (.bin .add (.tmp 123) (.tmp 124)), []⟩,
  ⟨some 126, none, .p (.mov (.tmp 15)), []⟩,
  ⟨some 127, none, .p (.mov (.tmp 17)), []⟩,
  ⟨some 128, none, .p (.bin .mul (.tmp 126) (.tmp 127)), []⟩,
  ⟨some 129, none, .p (.iaddr 1 (.tmp 118) (.tmp 119)), []⟩,
  ⟨none, none, .e (.store 1 (.tmp 129) (.tmp 125)), [((.tmp 120), 1)]⟩,
  ⟨some 130, none, .p (.iaddr 1 (.tmp 121) (.tmp 122)), []⟩,
  ⟨none, none, .e (.store 1 (.tmp 130) (.tmp 128)), []⟩]
def r60_21 : List AOper := [
  ⟨some 131, none, .p (.bin .add (.tmp 79) (.const (.int .i64 1))), []⟩,
  ⟨some 79, none, .p (.mov (.tmp 131)), []⟩]
def b60_2 : ACode := .seq (.region r60_15) (.seq (.cond (.tmp 80) (.skip) (.exit 4)) (.seq (.block 5 (.seq (.region r60_16) (.seq (.seq (.region r60_17) (.cond (.tmp 94) (.exit 5) (.skip))) (.seq (.region r60_18) (.seq (.region r60_19) (.region r60_20)))))) (.region r60_21)))
def r60_22 : List AOper := [
  ⟨some 132, none, .p (.mov (.tmp 5)), []⟩,
  ⟨some 133, none, .l 2 true (.tmp 12), []⟩,
  ⟨some 134, none, .a (.bslice (made [.slice none 0 0, .slice none 0 0] 2) 1 [(0, 2, (.tmp 133))]), []⟩,
  ⟨some 135, none, .e (.append 2 48 (.tmp 132) (.tmp 134)), []⟩,
  ⟨some 5, none, .p (.mov (.tmp 135)), []⟩]
def r60_23 : List AOper := [
  ⟨some 136, none, .p (.bin .add (.tmp 58) (.const (.int .i64 1))), []⟩,
  ⟨some 58, none, .p (.mov (.tmp 136)), []⟩]
def b60_3 : ACode := .seq (.region r60_11) (.seq (.cond (.tmp 59) (.skip) (.exit 2)) (.seq (.block 3 (.seq (.region r60_12) (.seq (.region r60_13) (.seq (.seq (.region r60_14) (.block 4 (.loop b60_2))) (.region r60_22))))) (.region r60_23)))
def r60_24 : List AOper := [
  ⟨some 137, none, .p (.mov (.tmp 5)), []⟩,
  ⟨some 4, none, .p (.mov (.tmp 137)), []⟩]
def f60 : AFn := { body := .seq (.region r60_0) (.seq (.region r60_1) (.seq (.seq (.region r60_2) (.block 0 (.loop b60_1))) (.seq (.region r60_9) (.seq (.seq (.region r60_10) (.block 2 (.loop b60_3))) (.seq (.region r60_24) (.ret)))))), results := [.tmp 4], n := 138 }

/-! function 61: "slices.Repeat[[]int,int]" -/
def r61_0 : List AOper := [
  ⟨some 4, none, .p (.mov (.const (.slice none 0 0))), []⟩]
def r61_1 : List AOper := [
  ⟨some 9, none, .p (.mov (.tmp 1)), []⟩,
  ⟨some 10, none, .p (.bin .lss (.tmp 9) (.const (.int .i64 0))), []⟩]
def r61_2 : List AOper := [
  ⟨some 11, none, .p (.mkif 9 (.const (.string ⟨#[99, 97, 110, 110, 111, 116, 32, 98, 101, 32, 110, 101, 103, 97, 116, 105, 118, 101]⟩))), []⟩,
  ⟨none, none, .p (.stuck (.tmp 11)), []⟩]
def r61_3 : List AOper := [
  ⟨some 13, none, .p (.mov (.tmp 0)), []⟩,
  ⟨some 14, none, .p (.len (.tmp 13)), []⟩,
  ⟨some 15, none, .p (.conv .u64 (.tmp 14)), []⟩,
  ⟨some 16, none, .p (.mov (.tmp 1)), []⟩,
  ⟨some 17, none, .p (.conv .u64 (.tmp 16)), []⟩,
  ⟨some 18, none, .c (.func 72) [(.tmp 15), (.tmp 17)], []⟩,
  ⟨some 12, none, .p (.mov (.tmp 18)), []⟩,
  ⟨some 19, none, .p (.ext (.tmp 12) 0), []⟩,
  ⟨some 20, none, .p (.ext (.tmp 12) 1), []⟩,
  ⟨some 5, none, .p (.mov (.tmp 19)), []⟩,
  ⟨some 6, none, .p (.mov (.tmp 20)), []⟩]
def r61_4 : List AOper := [
  ⟨some 21, none, .p (.mov (.tmp 5)), []⟩,
  ⟨some 22, none, .p (.bin .gtr (.tmp 21) (.const (.int .u64 0))), []⟩,
  ⟨some 23, none, .p (.mov (.tmp 22)), []⟩,
  ⟨some 24, some (23, false), .p (.mov (.tmp 6)), []⟩,
  ⟨some 25, some (23, false), .p (.bin .gtr (.tmp 24) (.const (.int .u64 9223372036854775807))), []⟩,
  ⟨some 26, none, .p (.pick (.tmp 23) (.const (.bool true)) (.tmp 25)), []⟩]
def r61_5 : List AOper := [
  ⟨some 27, none, .p (.mkif 9 (.const (.string ⟨#[116, 104, 101, 32, 114, 101, 115, 117, 108, 116, 32, 111, 102, 32, 40, 108, 101, 110, 40, 120, 41, 32, 42, 32, 99, 111, 117, 110, 116, 41, 32, 111, 118, 101, 114, 102, 108, 111, 119, 115]⟩))), []⟩,
  ⟨none, none, .p (.stuck (.tmp 27)), []⟩]
def r61_6 : List AOper := [
  ⟨some 28, none, .p (.mov (.tmp 6)), []⟩,
  ⟨some 29, none, .p (.conv .i64 (.tmp 28)), []⟩,
  ⟨some 30, none, .a (.mslice 8 [.int .i64 0] (.tmp 29) (.tmp 29)), []⟩,
  ⟨some 7, none, .p (.mov (.tmp 30)), []⟩]
def r61_7 : List AOper := [
  ⟨some 31, none, .p (.mov (.tmp 7)), []⟩,
  ⟨some 32, none, .p (.mov (.tmp 0)), []⟩,
  ⟨some 33, none, .e (.copy 1 (.tmp 31) (.tmp 32)), []⟩,
  ⟨some 8, none, .p (.mov (.tmp 33)), []⟩]
def r61_8 : List AOper := [
  ⟨some 34, none, .p (.mov (.tmp 8)), []⟩,
  ⟨some 35, none, .p (.mov (.tmp 7)), []⟩,
  ⟨some 36, none, .p (.len (.tmp 35)), []⟩,
  ⟨some 37, none, .p (.bin .lss (.tmp 34) (.tmp 36)), []⟩]
def r61_9 : List AOper := [
  ⟨some 38, none, .p (.mov (.tmp 8)), []⟩,
  ⟨some 39, none, .p (.mov (.tmp 7)), []⟩,
  ⟨some 40, none, .p (.mov (.tmp 8)), []⟩,
  ⟨some 41, none, .p (.slice 1 (.tmp 39) (some (.tmp 40)) none none), []⟩,
  ⟨some 42, none, .p (.mov (.tmp 7)), []⟩,
  ⟨some 43, none, .p (.mov (.tmp 8)), []⟩,
  ⟨some 44, none, .p (.slice 1 (.tmp 42) none (some (.tmp 43)) none), []⟩,
  ⟨some 45, none, .e (.copy 1 (.tmp 41) (.tmp 44)), []⟩,
  ⟨some 46, none, .p (.bin .add (.tmp 38) (.tmp 45)), []⟩,
  ⟨some 8, none, .p (.mov (.tmp 46)), []⟩]
def b61_1 : ACode := .seq (.seq (.region r61_8) (.cond (.tmp 37) (.skip) (.exit 0))) (.block 1 (.region r61_9))
def r61_10 : List AOper := [
  ⟨some 47, none, .p (.mov (.tmp 7)), []⟩,
  ⟨some 4, none, .p (.mov (.tmp 47)), []⟩]
def f61 : AFn := { body := .seq (.region r61_0) (.seq (.seq (.region r61_1) (.cond (.tmp 10) (.region r61_2) (.skip))) (.seq (.region r61_3) (.seq (.seq (.region r61_4) (.cond (.tmp 26) (.region r61_5) (.skip))) (.seq (.region r61_6) (.seq (.region r61_7) (.seq (.block 0 (.loop b61_1)) (.seq (.region r61_10) (.ret)))))))), results := [.tmp 4], n := 48 }

/-! function 62: "slices.Contains[[]int,int]" -/
def r62_0 : List AOper := [
  ⟨some 4, none, .p (.mov (.const (.bool false))), []⟩]
def r62_1 : List AOper := [
  ⟨some 5, none, .p (.mov (.tmp 0)), []⟩,
  ⟨some 6, none, .p (.mov (.tmp 1)), []⟩,
  ⟨some 7, none, .c (.func 73) [(.tmp 5), (.tmp 6)], []⟩,
  ⟨some 8, none, .p (.bin .geq (.tmp 7) (.const (.int .i64 0))), []⟩,
  ⟨some 4, none, .p (.mov (.tmp 8)), []⟩]
def f62 : AFn := { body := .seq (.region r62_0) (.seq (.region r62_1) (.ret)), results := [.tmp 4], n := 9 }

/-! function 63: "woggle/track.states$1" -/
def r63_0 : List AOper := [
  ⟨some 3, none, .p (.mov (.const (.bool false))), []⟩]
def r63_1 : List AOper := [
  ⟨some 4, none, .p (.mov (.tmp 0)), []⟩,
  ⟨some 5, none, .p (.bin .lss (.tmp 4) (.const (.int .i64 0))), []⟩,
  ⟨some 6, none, .p (.mov (.tmp 5)), []⟩,
  ⟨some 7, some (6, false), .p (.mov (.tmp 0)), []⟩,
  ⟨some 8, some (6, false), .l 1 false (.tmp 1), []⟩,
  ⟨some 9, some (6, false), .p (.bin .geq (.tmp 7) (.tmp 8)), []⟩,
  ⟨some 10, none, .p (.pick (.tmp 6) (.const (.bool true)) (.tmp 9)), []⟩,
  ⟨some 3, none, .p (.mov (.tmp 10)), []⟩]
def f63 : AFn := { body := .seq (.region r63_0) (.seq (.region r63_1) (.ret)), results := [.tmp 3], n := 11 }

/-! function 64: "woggle/track.rows$1" -/
def r64_0 : List AOper := [
  ⟨some 3, none, .p (.mov (.const (.bool false))), []⟩]
def r64_1 : List AOper := [
  ⟨some 4, none, .p (.mov (.tmp 0)), []⟩,
  ⟨some 5, none, .l 1 false (.tmp 1), []⟩,
  ⟨some 6, none, .p (.iaddr 1 (.tmp 5) (.const (.int .i64 0))), []⟩,
  ⟨some 7, none, .l 1 false (.tmp 6), []⟩,
  ⟨some 8, none, .p (.len (.tmp 7)), []⟩,
  ⟨some 9, none, .c (.func 46) [(.tmp 4), (.tmp 8), (.const (.int .i64 4))], []⟩,
  ⟨some 10, none, .p (.not (.tmp 9)), []⟩,
  ⟨some 3, none, .p (.mov (.tmp 10)), []⟩]
def f64 : AFn := { body := .seq (.region r64_0) (.seq (.region r64_1) (.ret)), results := [.tmp 3], n := 11 }

/-! function 65: "slices.DeleteFunc[[]int,int]" -/
def r65_0 : List AOper := [
  ⟨some 4, none, .p (.mov (.const (.slice none 0 0))), []⟩]
def r65_1 : List AOper := [
  ⟨some 8, none, .p (.mov (.tmp 0)), []⟩,
  ⟨some 9, none, .p (.mov (.tmp 1)), []⟩,
  ⟨some 10, none, .c (.func 69) [(.tmp 8), (.tmp 9)], []⟩,
  ⟨some 5, none, .p (.mov (.tmp 10)), []⟩]
def r65_2 : List AOper := [
  ⟨some 11, none, .p (.mov (.tmp 5)), []⟩,
  ⟨some 12, none, .p (.bin .eql (.tmp 11) (.const (.int .i64 (-1)))), []⟩]
def r65_3 : List AOper := [
  ⟨some 13, none, .p (.mov (.tmp 0)), []⟩,
  ⟨some 4, none, .p (.mov (.tmp 13)), []⟩]
def r65_4 : List AOper := [
  ⟨some 14, none, .p (.mov (.tmp 5)), []⟩,
  ⟨some 15, none, .p (.bin .add (.tmp 14) (.const (.int .i64 1))), []⟩,
  ⟨some 6, none, .p (.mov (.tmp 15)), []⟩]
def r65_5 : List AOper := [
  ⟨some 16, none, .p (.mov (.tmp 6)), []⟩,
  ⟨some 17, none, .p (.mov (.tmp 0)), []⟩,
  ⟨some 18, none, .p (.len (.tmp 17)), []⟩,
  ⟨some 19, none, .p (.bin .lss (.tmp 16) (.tmp 18)), []⟩]
def r65_7 : List AOper := [
  ⟨some 22, none, .p (.mov (.tmp 0)), []⟩,
  ⟨some 23, none, .p (.mov (.tmp 6)), []⟩,
  ⟨some 24, none, .p (.iaddr 1 (.tmp 22) (.tmp 23)), []⟩,
  ⟨some 25, none, .l 1 false (.tmp 24), []⟩,
  ⟨some 7, none, .p (.mov (.tmp 25)), []⟩]
def r65_8 : List AOper := [
  ⟨some 26, none, .p (.mov (.tmp 1)), []⟩,
  ⟨some 27, none, .p (.mov (.tmp 7)), []⟩,
  ⟨some 28, none, .c (.tmp 26) [(.tmp 27)], []⟩,
  ⟨some 29, none, .p (.not (.tmp 28)), []⟩]
def r65_9 : List AOper := [
  ⟨some 30, none, .p (.mov (.tmp 0)), []⟩,
  ⟨some 31, none, .p (.mov (.tmp 5)), []⟩,
  ⟨some 32, none, .p (.mov (.tmp 7)), []⟩,
  ⟨some 33, none, .p (.iaddr 1 (.tmp 30) (.tmp 31)), []⟩,
  ⟨none, none, .e (.store 1 (.tmp 33) (.tmp 32)), []⟩]
def r65_10 : List AOper := [
  ⟨some 34, none, .p (.mov (.tmp 5)), []⟩,
  ⟨some 35, none, .p (.bin .add (.tmp 34) (.const (.int .i64 1))), []⟩,
  ⟨some 5, none, .p (.mov (.tmp 35)), []⟩]
def r65_6 : List AOper := [
  ⟨some 20, none, .p (.mov (.tmp 6)), []⟩,
  ⟨some 21, none, .p (.bin .add (.tmp 20) (.const (.int .i64 1))), []⟩,
  ⟨some 6, none, .p (.mov (.tmp 21)), []⟩]
def b65_1 : ACode := .seq (.seq (.region r65_5) (.cond (.tmp 19) (.skip) (.exit 0))) (.seq (.block 1 (.seq (.region r65_7) (.seq (.region r65_8) (.cond (.tmp 29) (.seq (.region r65_9) (.region r65_10)) (.skip))))) (.region r65_6))
def r65_11 : List AOper := [
  ⟨some 36, none, .p (.mov (.tmp 0)), []⟩,
  ⟨some 37, none, .p (.mov (.tmp 5)), []⟩,
  ⟨some 38, none, .p (.slice 1 (.tmp 36) (some (.tmp 37)) none none), []⟩,
  ⟨none, none, .e (.clear [.int .i64 0] (.tmp 38)), []⟩]
def r65_12 : List AOper := [
  ⟨some 39, none, .p (.mov (.tmp 0)), []⟩,
  ⟨some 40, none, .p (.mov (.tmp 5)), []⟩,
  ⟨some 41, none, .p (.slice 1 (.tmp 39) none (some (.tmp 40)) none), []⟩,
  ⟨some 4, none, .p (.mov (.tmp 41)), []⟩]
def f65 : AFn := { body := .seq (.region r65_0) (.seq (.region r65_1) (.seq (.seq (.region r65_2) (.cond (.tmp 12) (.seq (.region r65_3) (.ret)) (.skip))) (.seq (.seq (.region r65_4) (.block 0 (.loop b65_1))) (.seq (.region r65_11) (.seq (.region r65_12) (.ret)))))), results := [.tmp 4], n := 42 }

/-! function 66: "slices.Clone[[]int,int]" -/
def r66_0 : List AOper := [
  ⟨some 2, none, .p (.mov (.const (.slice none 0 0))), []⟩]
def r66_1 : List AOper := [
  ⟨some 3, none, .p (.mov (.tmp 0)), []⟩,
  ⟨some 4, none, .p (.eqv false .slice (.tmp 3) (.const (.slice none 0 0))), []⟩]
def r66_2 : List AOper := [
  ⟨some 2, none, .p (.mov (.const (.slice none 0 0))), []⟩]
def r66_3 : List AOper := [
  ⟨some 5, none, .a (.bslice (made [.int .i64 0] 0) 0 []), []⟩,
  ⟨some 6, none, .p (.mov (.tmp 0)), []⟩,
  ⟨some 7, none, .e (.append 1 8 (.tmp 5) (.tmp 6)), []⟩,
  ⟨some 2, none, .p (.mov (.tmp 7)), []⟩]
def f66 : AFn := { body := .seq (.region r66_0) (.seq (.seq (.region r66_1) (.cond (.tmp 4) (.seq (.region r66_2) (.ret)) (.skip))) (.seq (.region r66_3) (.ret))), results := [.tmp 2], n := 8 }

/-! function 67: "woggle/track.best$1" -/
def r67_0 : List AOper := [
  ⟨some 4, none, .p (.mov (.const (.bool false))), []⟩]
def r67_1 : List AOper := [
  ⟨some 5, none, .p (.mov (.tmp 0)), []⟩,
  ⟨some 6, none, .l 1 false (.tmp 1), []⟩,
  ⟨some 7, none, .p (.bin .eql (.tmp 5) (.tmp 6)), []⟩,
  ⟨some 8, none, .p (.mov (.tmp 7)), []⟩,
  ⟨some 9, some (8, false), .p (.mov (.tmp 0)), []⟩,
  ⟨some 10, some (8, false), .l 1 false (.tmp 2), []⟩,
  ⟨some 11, some (8, false), .p (.bin .eql (.tmp 9) (.tmp 10)), []⟩,
  ⟨some 12, none, .p (.pick (.tmp 8) (.const (.bool true)) (.tmp 11)), []⟩,
  ⟨some 4, none, .p (.mov (.tmp 12)), []⟩]
def f67 : AFn := { body := .seq (.region r67_0) (.seq (.region r67_1) (.ret)), results := [.tmp 4], n := 13 }

/-! function 68: "slices.Clone[[]woggle/api.Pair,woggle/api.Pair]" -/
def r68_0 : List AOper := [
  ⟨some 2, none, .p (.mov (.const (.slice none 0 0))), []⟩]
def r68_1 : List AOper := [
  ⟨some 3, none, .p (.mov (.tmp 0)), []⟩,
  ⟨some 4, none, .p (.eqv false .slice (.tmp 3) (.const (.slice none 0 0))), []⟩]
def r68_2 : List AOper := [
  ⟨some 2, none, .p (.mov (.const (.slice none 0 0))), []⟩]
def r68_3 : List AOper := [
  ⟨some 5, none, .a (.bslice (made [.int .i64 0, .int .i64 0] 0) 0 []), []⟩,
  ⟨some 6, none, .p (.mov (.tmp 0)), []⟩,
  ⟨some 7, none, .e (.append 2 16 (.tmp 5) (.tmp 6)), []⟩,
  ⟨some 2, none, .p (.mov (.tmp 7)), []⟩]
def f68 : AFn := { body := .seq (.region r68_0) (.seq (.seq (.region r68_1) (.cond (.tmp 4) (.seq (.region r68_2) (.ret)) (.skip))) (.seq (.region r68_3) (.ret))), results := [.tmp 2], n := 8 }

/-! function 69: "slices.IndexFunc[[]int,int]" -/
def r69_0 : List AOper := [
  ⟨some 4, none, .p (.mov (.const (.int .i64 0))), []⟩]
def r69_1 : List AOper := [
  ⟨some 6, none, .p (.mov (.tmp 0)), []⟩,
  ⟨some 7, none, .p (.len (.tmp 6)), []⟩,
  ⟨some 8, none, .p (.mov (.const (.int .i64 0))), []⟩]
def r69_2 : List AOper := [
  ⟨some 9, none, .p (.bin .lss (.tmp 8) (.tmp 7)), []⟩]
def r69_3 : List AOper := [
  ⟨some 10, none, .p (.mov (.tmp 8)), []⟩,
  ⟨some 5, none, .p (.mov (.tmp 10)), []⟩]
def r69_4 : List AOper := [
  ⟨some 11, none, .p (.mov (.tmp 1)), []⟩,
  ⟨some 12, none, .p (.mov (.tmp 0)), []⟩,
  ⟨some 13, none, .p (.mov (.tmp 5)), []⟩,
  ⟨some 14, none, .p (.iaddr 1 (.tmp 12) (.tmp 13)), []⟩,
  ⟨some 15, none, .l 1 false (.tmp 14), []⟩,
  ⟨some 16, none, .c (.tmp 11) [(.tmp 15)], []⟩]
def r69_5 : List AOper := [
  ⟨some 17, none, .p (.mov (.tmp 5)), []⟩,
  ⟨some 4, none, .p (.mov (.tmp 17)), []⟩]
def r69_6 : List AOper := [
  ⟨some 18, none, .p (.bin .add (.tmp 8) (.const (.int .i64 1))), []⟩,
  ⟨some 8, none, .p (.mov (.tmp 18)), []⟩]
def b69_1 : ACode := .seq (.region r69_2) (.seq (.cond (.tmp 9) (.skip) (.exit 0)) (.seq (.block 1 (.seq (.region r69_3) (.seq (.region r69_4) (.cond (.tmp 16) (.seq (.region r69_5) (.ret)) (.skip))))) (.region r69_6)))
def r69_7 : List AOper := [
  ⟨some 4, none, .p (.mov (.const (.int .i64 (-1)))), []⟩]
def f69 : AFn := { body := .seq (.region r69_0) (.seq (.seq (.region r69_1) (.block 0 (.loop b69_1))) (.seq (.region r69_7) (.ret))), results := [.tmp 4], n := 19 }

/-! function 70: "slices.IndexFunc[[][]int,[]int]" -/
def r70_0 : List AOper := [
  ⟨some 4, none, .p (.mov (.const (.int .i64 0))), []⟩]
def r70_1 : List AOper := [
  ⟨some 6, none, .p (.mov (.tmp 0)), []⟩,
  ⟨some 7, none, .p (.len (.tmp 6)), []⟩,
  ⟨some 8, none, .p (.mov (.const (.int .i64 0))), []⟩]
def r70_2 : List AOper := [
  ⟨some 9, none, .p (.bin .lss (.tmp 8) (.tmp 7)), []⟩]
def r70_3 : List AOper := [
  ⟨some 10, none, .p (.mov (.tmp 8)), []⟩,
  ⟨some 5, none, .p (.mov (.tmp 10)), []⟩]
def r70_4 : List AOper := [
  ⟨some 11, none, .p (.mov (.tmp 1)), []⟩,
  ⟨some 12, none, .p (.mov (.tmp 0)), []⟩,
  ⟨some 13, none, .p (.mov (.tmp 5)), []⟩,
  ⟨some 14, none, .p (.iaddr 1 (.tmp 12) (.tmp 13)), []⟩,
  ⟨some 15, none, .l 1 false (.tmp 14), []⟩,
  ⟨some 16, none, .c (.tmp 11) [(.tmp 15)], []⟩]
def r70_5 : List AOper := [
  ⟨some 17, none, .p (.mov (.tmp 5)), []⟩,
  ⟨some 4, none, .p (.mov (.tmp 17)), []⟩]
def r70_6 : List AOper := [
  ⟨some 18, none, .p (.bin .add (.tmp 8) (.const (.int .i64 1))), []⟩,
  ⟨some 8, none, .p (.mov (.tmp 18)), []⟩]
def b70_1 : ACode := .seq (.region r70_2) (.seq (.cond (.tmp 9) (.skip) (.exit 0)) (.seq (.block 1 (.seq (.region r70_3) (.seq (.region r70_4) (.cond (.tmp 16) (.seq (.region r70_5) (.ret)) (.skip))))) (.region r70_6)))
def r70_7 : List AOper := [
  ⟨some 4, none, .p (.mov (.const (.int .i64 (-1)))), []⟩]
def f70 : AFn := { body := .seq (.region r70_0) (.seq (.seq (.region r70_1) (.block 0 (.loop b70_1))) (.seq (.region r70_7) (.ret))), results := [.tmp 4], n := 19 }

/-! function 71: "(*woggle/track.problem).sankoff$1" -/
def r71_0 : List AOper := [
  ⟨some 3, none, .a (.box (.tmp 0)), []⟩,
  ⟨some 5, none, .p (.mov (.const (.int .i64 0))), []⟩,
  ⟨some 6, none, .p (.mov (.const (.int .i64 0))), []⟩]
def r71_1 : List AOper := [
  ⟨some 7, none, .p (.mov (.const (.int .i64 1073741824))), []⟩,
  ⟨some 8, none, .p (.mov (.const (.int .i64 0))), []⟩]
def r71_2 : List AOper := [
  ⟨some 11, none, .l 1 false (.tmp 2), []⟩,
  ⟨some 12, none, .p (.nilc (.tmp 11)), []⟩,
  ⟨some 13, none, .p (.faddr 3 (.tmp 12)), []⟩,
  ⟨some 14, none, .l 1 false (.tmp 13), []⟩,
  ⟨some 15, none, .p (.mov (.const (.int .i64 0))), []⟩]
def r71_3 : List AOper := [
  ⟨some 16, none, .p (.bin .lss (.tmp 15) (.tmp 14)), []⟩]
def r71_4 : List AOper := [
  ⟨some 17, none, .p (.mov (.tmp 15)), []⟩,
  ⟨some 9, none, .p (.mov (.tmp 17)), []⟩]
def r71_5 : List AOper := [
  ⟨some 18, none, .p (.faddr 1 (.tmp 3)), []⟩,
  ⟨some 19, none, .l 1 false (.tmp 18), []⟩,
  ⟨some 20, none, .p (.mov (.tmp 9)), []⟩,
  ⟨some 21, none, .p (.iaddr 1 (.tmp 19) (.tmp 20)), []⟩,
  ⟨some 22, none, .l 1 false (.tmp 21), []⟩,
  ⟨some 23, none, .p (.bin .eql (.tmp 22) (.const (.int .i64 0))), []⟩]
def r71_6 : List AOper := [
  ⟨some 24, none, .p (.faddr 0 (.tmp 3)), []⟩,
  ⟨some 25, none, .l 1 false (.tmp 24), []⟩,
  ⟨some 26, none, .p (.mov (.tmp 9)), []⟩,
  ⟨some 27, none, .p (.iaddr 1 (.tmp 25) (.tmp 26)), []⟩,
  ⟨some 28, none, .l 1 false (.tmp 27), []⟩,
  ⟨some 29, none, .l 1 false (.tmp 2), []⟩,
  ⟨some 30, none, .p (.nilc (.tmp 29)), []⟩,
  ⟨some 31, none, .p (.faddr 4 (.tmp 30)), []⟩,
  ⟨some 32, none, .l 1 false (.tmp 31), []⟩,
  ⟨some 33, none, .p (.mov (.tmp 1)), []⟩,
  ⟨some 34, none, .p (.mov (.tmp 9)), []⟩,
  ⟨some 35, none, .c (.tmp 32) [(.tmp 33), (.tmp 34)], [((.tmp 24), 1), ((.tmp 27), 1)]⟩,
  ⟨some 36, none, .p (.bin .add (.tmp 28) (.tmp 35)), []⟩,
  ⟨some 10, none, .p (.mov (.tmp 36)), []⟩]
def r71_7 : List AOper := [
  ⟨some 38, none, .p (.mov (.tmp 10)), []⟩,
  ⟨some 39, none, .p (.mov (.tmp 7)), []⟩,
  ⟨some 40, none, .p (.bin .lss (.tmp 38) (.tmp 39)), []⟩,
  ⟨some 37, none, .p (.mov (.tmp 40)), []⟩]
def r71_8 : List AOper := [
  ⟨some 41, none, .p (.mov (.tmp 10)), []⟩,
  ⟨some 42, none, .p (.faddr 1 (.tmp 3)), []⟩,
  ⟨some 43, none, .l 1 false (.tmp 42), []⟩,
  ⟨some 44, none, .p (.mov (.tmp 9)), []⟩,
  ⟨some 45, none, .p (.iaddr 1 (.tmp 43) (.tmp 44)), []⟩,
  ⟨some 46, none, .l 1 false (.tmp 45), []⟩,
  ⟨some 7, none, .p (.mov (.tmp 41)), []⟩,
  ⟨some 8, none, .p (.mov (.tmp 46)), []⟩]
def r71_9 : List AOper := [
  ⟨some 48, none, .p (.mov (.tmp 10)), []⟩,
  ⟨some 49, none, .p (.mov (.tmp 7)), []⟩,
  ⟨some 50, none, .p (.bin .eql (.tmp 48) (.tmp 49)), []⟩,
  ⟨some 47, none, .p (.mov (.tmp 50)), []⟩]
def r71_10 : List AOper := [
  ⟨some 51, none, .p (.mov (.tmp 8)), []⟩,
  ⟨some 52, none, .p (.faddr 1 (.tmp 3)), []⟩,
  ⟨some 53, none, .l 1 false (.tmp 52), []⟩,
  ⟨some 54, none, .p (.mov (.tmp 9)), []⟩,
  ⟨some 55, none, .p (.iaddr 1 (.tmp 53) (.tmp 54)), []⟩,
  ⟨some 56, none, .l 1 false (.tmp 55), []⟩,
  ⟨some 57, none, .p (.bin .add (.tmp 51) (.tmp 56)), []⟩,
  ⟨some 8, none, .p (.mov (.tmp 57)), []⟩]
def r71_11 : List AOper := [
  ⟨some 58, none, .p (.bin .add (.tmp 15) (.const (.int .i64 1))), []⟩,
  ⟨some 15, none, .p (.mov (.tmp 58)), []⟩]
def b71_1 : ACode := .seq (.region r71_3) (.seq (.cond (.tmp 16) (.skip) (.exit 0)) (.seq (.block 1 (.seq (.region r71_4) (.seq (.seq (.region r71_5) (.cond (.tmp 23) (.exit 1) (.skip))) (.seq (.region r71_6) (.block 2 (.seq (.region r71_7) (.cond (.tmp 37) (.region r71_8) (.seq (.region r71_9) (.cond (.tmp 47) (.region r71_10) (.skip)))))))))) (.region r71_11)))
def r71_12 : List AOper := [
  ⟨some 59, none, .p (.mov (.tmp 7)), []⟩,
  ⟨some 60, none, .p (.mov (.tmp 8)), []⟩,
  ⟨some 5, none, .p (.mov (.tmp 59)), []⟩,
  ⟨some 6, none, .p (.mov (.tmp 60)), []⟩]
def f71 : AFn := { body := .seq (.region r71_0) (.seq (.region r71_1) (.seq (.seq (.region r71_2) (.block 0 (.loop b71_1))) (.seq (.region r71_12) (.ret)))), results := [.tmp 5, .tmp 6], n := 61 }

/-! function 72: "math/bits.Mul" -/
def r72_0 : List AOper := [
  ⟨some 4, none, .p (.mov (.const (.int .u64 0))), []⟩,
  ⟨some 5, none, .p (.mov (.const (.int .u64 0))), []⟩]
def r72_1 : List AOper := [
  ⟨some 11, none, .p (.mov (.tmp 0)), []⟩,
  ⟨some 12, none, .p (.conv .u32 (.tmp 11)), []⟩,
  ⟨some 13, none, .p (.mov (.tmp 1)), []⟩,
  ⟨some 14, none, .p (.conv .u32 (.tmp 13)), []⟩,
  ⟨some 15, none, .c (.func 74) [(.tmp 12), (.tmp 14)], []⟩,
  ⟨some 10, none, .p (.mov (.tmp 15)), []⟩,
  ⟨some 16, none, .p (.ext (.tmp 10) 0), []⟩,
  ⟨some 17, none, .p (.ext (.tmp 10) 1), []⟩,
  ⟨some 6, none, .p (.mov (.tmp 16)), []⟩,
  ⟨some 7, none, .p (.mov (.tmp 17)), []⟩]
def r72_2 : List AOper := [
  ⟨some 18, none, .p (.mov (.tmp 6)), []⟩,
  ⟨some 19, none, .p (.conv .u64 (.tmp 18)), []⟩,
  ⟨some 20, none, .p (.mov (.tmp 7)), []⟩,
  ⟨some 21, none, .p (.conv .u64 (.tmp 20)), []⟩,
  ⟨some 4, none, .p (.mov (.tmp 19)), []⟩,
  ⟨some 5, none, .p (.mov (.tmp 21)), []⟩]
def r72_3 : List AOper := [
  ⟨some 23, none, .p (.mov (.tmp 0)), []⟩,
  ⟨some 24, none, .p (.mov (.tmp 1)), []⟩,
  ⟨some 25, none, .c (.func 75) [(.tmp 23), (.tmp 24)], []⟩,
  ⟨some 22, none, .p (.mov (.tmp 25)), []⟩,
  ⟨some 26, none, .p (.ext (.tmp 22) 0), []⟩,
  ⟨some 27, none, .p (.ext (.tmp 22) 1), []⟩,
  ⟨some 8, none, .p (.mov (.tmp 26)), []⟩,
  ⟨some 9, none, .p (.mov (.tmp 27)), []⟩]
def r72_4 : List AOper := [
  ⟨some 28, none, .p (.mov (.tmp 8)), []⟩,
  ⟨some 29, none, .p (.mov (.tmp 9)), []⟩,
  ⟨some 4, none, .p (.mov (.tmp 28)), []⟩,
  ⟨some 5, none, .p (.mov (.tmp 29)), []⟩]
def f72 : AFn := { body := .seq (.region r72_0) (.seq (.cond (.const (.bool false)) (.seq (.region r72_1) (.seq (.region r72_2) (.ret))) (.skip)) (.seq (.region r72_3) (.seq (.region r72_4) (.ret)))), results := [.tmp 4, .tmp 5], n := 30 }

/-! function 73: "slices.Index[[]int,int]" -/
def r73_0 : List AOper := [
  ⟨some 4, none, .p (.mov (.const (.int .i64 0))), []⟩]
def r73_1 : List AOper := [
  ⟨some 6, none, .p (.mov (.tmp 0)), []⟩,
  ⟨some 7, none, .p (.len (.tmp 6)), []⟩,
  ⟨some 8, none, .p (.mov (.const (.int .i64 0))), []⟩]
def r73_2 : List AOper := [
  ⟨some 9, none, .p (.bin .lss (.tmp 8) (.tmp 7)), []⟩]
def r73_3 : List AOper := [
  ⟨some 10, none, .p (.mov (.tmp 8)), []⟩,
  ⟨some 5, none, .p (.mov (.tmp 10)), []⟩]
def r73_4 : List AOper := [
  ⟨some 11, none, .p (.mov (.tmp 1)), []⟩,
  ⟨some 12, none, .p (.mov (.tmp 0)), []⟩,
  ⟨some 13, none, .p (.mov (.tmp 5)), []⟩,
  ⟨some 14, none, .p (.iaddr 1 (.tmp 12) (.tmp 13)), []⟩,
  ⟨some 15, none, .l 1 false (.tmp 14), []⟩,
  ⟨some 16, none, .p (.bin .eql (.tmp 11) (.tmp 15)), []⟩]
def r73_5 : List AOper := [
  ⟨some 17, none, .p (.mov (.tmp 5)), []⟩,
  ⟨some 4, none, .p (.mov (.tmp 17)), []⟩]
def r73_6 : List AOper := [
  ⟨some 18, none, .p (.bin .add (.tmp 8) (.const (.int .i64 1))), []⟩,
  ⟨some 8, none, .p (.mov (.tmp 18)), []⟩]
def b73_1 : ACode := .seq (.region r73_2) (.seq (.cond (.tmp 9) (.skip) (.exit 0)) (.seq (.block 1 (.seq (.region r73_3) (.seq (.region r73_4) (.cond (.tmp 16) (.seq (.region r73_5) (.ret)) (.skip))))) (.region r73_6)))
def r73_7 : List AOper := [
  ⟨some 4, none, .p (.mov (.const (.int .i64 (-1)))), []⟩]
def f73 : AFn := { body := .seq (.region r73_0) (.seq (.seq (.region r73_1) (.block 0 (.loop b73_1))) (.seq (.region r73_7) (.ret))), results := [.tmp 4], n := 19 }

/-! function 74: "math/bits.Mul32" -/
def r74_0 : List AOper := [
  ⟨some 4, none, .p (.mov (.const (.int .u32 0))), []⟩,
  ⟨some 5, none, .p (.mov (.const (.int .u32 0))), []⟩]
def r74_1 : List AOper := [
  ⟨some 7, none, .p (.mov (.tmp 0)), []⟩,
  ⟨some 8, none, .p (.conv .u64 (.tmp 7)), []⟩,
  ⟨some 9, none, .p (.mov (.tmp 1)), []⟩,
  ⟨some 10, none, .p (.conv .u64 (.tmp 9)), []⟩,
  ⟨some 11, none, .p (.bin .mul (.tmp 8) (.tmp 10)), []⟩,
  ⟨some 6, none, .p (.mov (.tmp 11)), []⟩]
def r74_2 : List AOper := [
  ⟨some 12, none, .p (.mov (.tmp 6)), []⟩,
  ⟨some 13, none, .p (.bin .shr (.tmp 12) (.const (.int .u64 32))), []⟩,
  ⟨some 14, none, .p (.conv .u32 (.tmp 13)), []⟩,
  ⟨some 15, none, .p (.mov (.tmp 6)), []⟩,
  ⟨some 16, none, .p (.conv .u32 (.tmp 15)), []⟩,
  ⟨some 4, none, .p (.mov (.tmp 14)), []⟩,
  ⟨some 5, none, .p (.mov (.tmp 16)), []⟩]
def f74 : AFn := { body := .seq (.region r74_0) (.seq (.region r74_1) (.seq (.region r74_2) (.ret))), results := [.tmp 4, .tmp 5], n := 17 }

/-! function 75: "math/bits.Mul64" -/
def r75_0 : List AOper := [
  ⟨some 4, none, .p (.mov (.const (.int .u64 0))), []⟩,
  ⟨some 5, none, .p (.mov (.const (.int .u64 0))), []⟩]
def r75_1 : List AOper := [
  ⟨some 14, none, .p (.mov (.tmp 0)), []⟩,
  ⟨some 15, none, .p (.bin .and (.tmp 14) (.const (.int .u64 4294967295))), []⟩,
  ⟨some 6, none, .p (.mov (.tmp 15)), []⟩]
def r75_2 : List AOper := [
  ⟨some 16, none, .p (.mov (.tmp 0)), []⟩,
  ⟨some 17, none, .p (.bin .shr (.tmp 16) (.const (.int .u64 32))), []⟩,
  ⟨some 7, none, .p (.mov (.tmp 17)), []⟩]
def r75_3 : List AOper := [
  ⟨some 18, none, .p (.mov (.tmp 1)), []⟩,
  ⟨some 19, none, .p (.bin .and (.tmp 18) (.const (.int .u64 4294967295))), []⟩,
  ⟨some 8, none, .p (.mov (.tmp 19)), []⟩]
def r75_4 : List AOper := [
  ⟨some 20, none, .p (.mov (.tmp 1)), []⟩,
  ⟨some 21, none, .p (.bin .shr (.tmp 20) (.const (.int .u64 32))), []⟩,
  ⟨some 9, none, .p (.mov (.tmp 21)), []⟩]
def r75_5 : List AOper := [
  ⟨some 22, none, .p (.mov (.tmp 6)), []⟩,
  ⟨some 23, none, .p (.mov (.tmp 8)), []⟩,
  ⟨some 24, none, .p (.bin .mul (.tmp 22) (.tmp 23)), []⟩,
  ⟨some 10, none, .p (.mov (.tmp 24)), []⟩]
def r75_6 : List AOper := [
  ⟨some 25, none, .p (.mov (.tmp 7)), []⟩,
  ⟨some 26, none, .p (.mov (.tmp 8)), []⟩,
  ⟨some 27, none, .p (.bin .mul (.tmp 25) (.tmp 26)), []⟩,
  ⟨some 28, none, .p (.mov (.tmp 10)), []⟩,
  ⟨some 29, none, .p (.bin .shr (.tmp 28) (.const (.int .u64 32))), []⟩,
  ⟨some 30, none, .p (.bin .add (.tmp 27) (.tmp 29)), []⟩,
  ⟨some 11, none, .p (.mov (.tmp 30)), []⟩]
def r75_7 : List AOper := [
  ⟨some 31, none, .p (.mov (.tmp 11)), []⟩,
  ⟨some 32, none, .p (.bin .and (.tmp 31) (.const (.int .u64 4294967295))), []⟩,
  ⟨some 12, none, .p (.mov (.tmp 32)), []⟩]
def r75_8 : List AOper := [
  ⟨some 33, none, .p (.mov (.tmp 11)), []⟩,
  ⟨some 34, none, .p (.bin .shr (.tmp 33) (.const (.int .u64 32))), []⟩,
  ⟨some 13, none, .p (.mov (.tmp 34)), []⟩]
def r75_9 : List AOper := [
  ⟨some 35, none, .p (.mov (.tmp 12)), []⟩,
  ⟨some 36, none, .p (.mov (.tmp 6)), []⟩,
  ⟨some 37, none, .p (.mov (.tmp 9)), []⟩,
  ⟨some 38, none, .p (.bin .mul (.tmp 36) (.tmp 37)), []⟩,
  ⟨some 39, none, .p (.bin .add (.tmp 35) (.tmp 38)), []⟩,
  ⟨some 12, none, .p (.mov (.tmp 39)), []⟩]
def r75_10 : List AOper := [
  ⟨some 40, none, .p (.mov (.tmp 7)), []⟩,
  ⟨some 41, none, .p (.mov (.tmp 9)), []⟩,
  ⟨some 42, none, .p (.bin .mul (.tmp 40) (.tmp 41)), []⟩,
  ⟨some 43, none, .p (.mov (.tmp 13)), []⟩,
  ⟨some 44, none, .p (.bin .add (.tmp 42) (.tmp 43)), []⟩,
  ⟨some 45, none, .p (.mov (.tmp 12)), []⟩,
  ⟨some 46, none, .p (.bin .shr (.tmp 45) (.const (.int .u64 32))), []⟩,
  ⟨some 47, none, .p (.bin .add (.tmp 44) (.tmp 46)), []⟩,
  ⟨some 4, none, .p (.mov (.tmp 47)), []⟩]
def r75_11 : List AOper := [
  ⟨some 48, none, .p (.mov (.tmp 0)), []⟩,
  ⟨some 49, none, .p (.mov (.tmp 1)), []⟩,
  ⟨some 50, none, .p (.bin .mul (.tmp 48) (.tmp 49)), []⟩,
  ⟨some 5, none, .p (.mov (.tmp 50)), []⟩]
def f75 : AFn := { body := .seq (.region r75_0) (.seq (.region r75_1) (.seq (.region r75_2) (.seq (.region r75_3) (.seq (.region r75_4) (.seq (.region r75_5) (.seq (.region r75_6) (.seq (.region r75_7) (.seq (.region r75_8) (.seq (.region r75_9) (.seq (.region r75_10) (.seq (.region r75_11) (.ret)))))))))))), results := [.tmp 4, .tmp 5], n := 51 }

def ord : FuncId → Nat → List Nat
  | 5, 3 => [0, 1, 2, 4, 5, 6, 7, 3, 8, 9, 10]
  | 5, 8 => [0, 1, 2, 3, 4, 5, 6]
  | 5, 17 => [0, 1, 2, 3, 4, 5, 6, 8, 9, 10, 11, 12, 13, 7, 14, 15, 16, 17, 18]
  | 5, 18 => [0, 1, 2, 3, 5, 6, 9, 10, 11, 13, 14, 15, 16, 4, 7, 8, 12, 17, 18, 19, 20]
  | 6, 3 => [0, 1, 2, 4, 5, 6, 7, 3, 8, 9, 10]
  | 6, 12 => [0, 1, 2, 3, 4, 5, 6, 7, 8, 9, 10, 11, 12, 13, 14, 15, 16, 17, 18, 19, 20, 21]
  | 7, 7 => [0, 1, 2, 3, 4, 5, 6, 7, 8, 9, 10, 11, 12, 13, 14, 15, 16, 17]
  | 10, 1 => [0, 1, 3, 4, 5, 6, 7, 8, 9, 2, 10, 11, 12]
  | 17, 2 => [0, 1, 2, 3, 4, 5, 6, 7, 8, 9, 10, 11, 12, 13]
  | 18, 11 => [0, 1, 2, 3, 4, 5, 6, 7, 8, 9, 10, 11, 12]
  | 22, 10 => [0, 1, 4, 5, 2, 3, 8, 6, 7, 9, 10, 11]
  | 22, 11 => [0, 1, 4, 5, 2, 3, 8, 6, 7, 9, 10, 11]
  | 22, 20 => [0, 1, 2, 3, 4, 5, 6, 7, 8, 9, 10, 11, 12, 13, 14, 15, 16, 17]
  | 22, 21 => [0, 1, 2, 3, 4, 5, 6, 7, 8, 9, 10, 11, 12, 13, 14, 15, 16, 17]
  | 22, 22 => [0, 1, 2, 3, 4, 7, 8, 9, 10, 11, 5, 6, 14, 12, 13, 15, 16, 17]
  | 24, 23 => [0, 1, 2, 3, 4, 5, 6, 7, 8, 9, 10, 11, 12, 13]
  | 24, 34 => [0, 1, 2, 3, 4, 5, 6, 7, 8, 9, 10, 11, 12, 13, 14, 15, 16, 17, 18, 19, 20, 21, 22, 23, 24, 25, 26, 27, 28, 29]
  | 30, 4 => [0, 1, 2, 3, 4, 5, 6, 7, 8, 9, 10, 11, 12, 13, 14, 15, 16, 17, 18, 19, 20, 21, 22]
  | 31, 17 => [0, 1, 2, 4, 6, 7, 8, 9, 10, 11, 12, 13, 14, 17, 3, 5, 15, 16, 18, 19, 20]
  | 33, 7 => [0, 1, 2, 3, 4, 5, 6, 7, 8, 9, 10, 11]
  | 37, 9 => [0, 1, 2, 3, 4, 5, 6, 7]
  | 43, 6 => [0, 1, 2, 3, 4, 5, 6, 7, 8, 9]
  | 44, 5 => [0, 1, 2, 3, 4, 5, 6, 7, 8, 9, 10]
  | 44, 7 => [0, 1, 2, 3, 4, 5, 6, 7]
  | 47, 11 => [0, 1, 2, 3, 4, 5, 6, 7, 8, 9, 10, 11]
  | 47, 13 => [0, 1, 2, 3, 4, 5, 6, 7, 8, 9, 10, 11]
  | 48, 4 => [0, 1, 2, 3, 4, 5, 6, 7, 8]
  | 48, 5 => [0, 1, 2, 3, 4, 5, 6, 7, 8, 9]
  | 50, 12 => [0, 1, 3, 4, 5, 8, 9, 2, 6, 7, 10, 11, 12, 13, 14, 15, 16, 17]
  | 53, 9 => [0, 1, 2, 3, 4, 5, 6, 7, 8, 9, 10, 11, 12, 13, 14, 15, 16, 17]
  | 60, 5 => [1, 2, 3, 4, 6, 7, 8, 9, 0, 5, 10, 11, 12, 13]
  | 60, 6 => [0, 1, 2, 3, 4, 5, 6, 7, 8, 9]
  | 60, 13 => [1, 2, 3, 4, 6, 7, 8, 9, 0, 5, 10, 11, 12, 13]
  | 60, 20 => [0, 1, 2, 3, 4, 5, 6, 7, 8, 9, 10, 11, 12, 13, 14, 15]
  | 61, 9 => [0, 1, 2, 3, 4, 5, 6, 7, 8, 9]
  | 71, 6 => [0, 1, 2, 3, 4, 5, 6, 7, 8, 9, 10, 11, 12, 13]
  | 71, 8 => [0, 1, 2, 3, 4, 5, 6, 7]
  | _, _ => []

def T : FuncId → Option AFn
  | 3 => some f3
  | 4 => some f4
  | 5 => some f5
  | 6 => some f6
  | 7 => some f7
  | 8 => some f8
  | 9 => some f9
  | 10 => some f10
  | 11 => some f11
  | 12 => some f12
  | 13 => some f13
  | 14 => some f14
  | 15 => some f15
  | 16 => some f16
  | 17 => some f17
  | 18 => some f18
  | 19 => some f19
  | 20 => some f20
  | 21 => some f21
  | 22 => some f22
  | 23 => some f23
  | 24 => some f24
  | 25 => some f25
  | 26 => some f26
  | 27 => some f27
  | 28 => some f28
  | 29 => some f29
  | 30 => some f30
  | 31 => some f31
  | 32 => some f32
  | 33 => some f33
  | 34 => some f34
  | 35 => some f35
  | 36 => some f36
  | 37 => some f37
  | 38 => some f38
  | 39 => some f39
  | 40 => some f40
  | 41 => some f41
  | 42 => some f42
  | 43 => some f43
  | 44 => some f44
  | 45 => some f45
  | 46 => some f46
  | 47 => some f47
  | 48 => some f48
  | 49 => some f49
  | 50 => some f50
  | 51 => some f51
  | 52 => some f52
  | 53 => some f53
  | 54 => some f54
  | 55 => some f55
  | 56 => some f56
  | 57 => some f57
  | 58 => some f58
  | 59 => some f59
  | 60 => some f60
  | 61 => some f61
  | 62 => some f62
  | 63 => some f63
  | 64 => some f64
  | 65 => some f65
  | 66 => some f66
  | 67 => some f67
  | 68 => some f68
  | 69 => some f69
  | 70 => some f70
  | 71 => some f71
  | 72 => some f72
  | 73 => some f73
  | 74 => some f74
  | 75 => some f75
  | _ => none
end Go.AM.Fn
