/- The code of the functions that a law reaches, as the abstract machine reads it: part 0. -/
import Derived.Test.YtmlfcopllfdjfaaGreatAm0
namespace Go.Proofs.YtmlfcopllfdjfaaGreat.Am.Dn
set_option maxRecDepth 100000
def f4 : AF := ⟨143, [.c 6 false 1], (.seq (.reg [
⟨(some 3), .box 9 (.t 0), none⟩,
⟨(some 4), .box 16 (.t 1), none⟩,
⟨(some 6), .alloc [(.b false)], none⟩])
(.seq (.reg [
⟨(some 7), .mv (.c .np), none⟩])
(.seq (.reg [
⟨(some 15), .mv (.t 7), none⟩,
⟨(some 16), .call 13 [(.t 15)], none⟩,
⟨(some 8), .mv (.t 16), none⟩])
(.seq (.reg [
⟨(some 18), .call 14 [(.c (.i .i64 0)), (.c (.i .i64 2))], none⟩,
⟨(some 17), .mv (.t 18), none⟩,
⟨(some 19), .xt (.t 17) 0, none⟩,
⟨(some 20), .xt (.t 17) 1, none⟩,
⟨(some 9), .mv (.t 19), none⟩,
⟨(some 10), .mv (.t 20), none⟩])
(.seq (.seq (.reg [
⟨(some 21), .call 15 [], none⟩,
⟨(some 22), .un .not (.t 21), none⟩,
⟨(some 23), .mv (.t 22), none⟩,
⟨(some 24), .mv (.t 8), (some (23, false))⟩,
⟨(some 25), .bin .eql .nilf (.t 24) (.c .nf), (some (23, false))⟩,
⟨(some 26), .pick (.t 23) (.c (.b true)) (.t 25), none⟩,
⟨(some 27), .mv (.t 26), none⟩,
⟨(some 28), .mv (.t 10), (some (27, false))⟩,
⟨(some 29), .bin .neq .int (.t 28) (.c (.i .i64 0)), (some (27, false))⟩,
⟨(some 30), .pick (.t 27) (.c (.b true)) (.t 29), none⟩,
⟨(some 31), .mv (.t 30), none⟩,
⟨(some 32), .mv (.t 9), (some (31, false))⟩,
⟨(some 33), .bin .eql .ptr (.t 32) (.c .np), (some (31, false))⟩,
⟨(some 34), .pick (.t 31) (.c (.b true)) (.t 33), none⟩,
⟨(some 35), .mv (.t 34), none⟩,
⟨(some 36), .fa 8 (.t 3), (some (35, false))⟩,
⟨(some 37), .ld false 1 (.t 36), (some (35, false))⟩,
⟨(some 38), .len 1 (.t 37), (some (35, false))⟩,
⟨(some 39), .bin .gtr .no (.t 38) (.c (.i .i64 100)), (some (35, false))⟩,
⟨(some 40), .pick (.t 35) (.c (.b true)) (.t 39), none⟩,
⟨(some 41), .mv (.t 40), none⟩,
⟨(some 42), .fa 2 (.t 4), (some (41, false))⟩,
⟨(some 43), .ld false 1 (.t 42), (some (41, false))⟩,
⟨(some 44), .len 1 (.t 43), (some (41, false))⟩,
⟨(some 45), .bin .gtr .no (.t 44) (.c (.i .i64 100)), (some (41, false))⟩,
⟨(some 46), .pick (.t 41) (.c (.b true)) (.t 45), none⟩,
⟨(some 47), .mv (.t 46), none⟩,
⟨(some 48), .fa 3 (.t 4), (some (47, false))⟩,
⟨(some 49), .fa 8 (.t 48), (some (47, false))⟩,
⟨(some 50), .ld false 1 (.t 49), (some (47, false))⟩,
⟨(some 51), .len 1 (.t 50), (some (47, false))⟩,
⟨(some 52), .bin .gtr .no (.t 51) (.c (.i .i64 100)), (some (47, false))⟩,
⟨(some 53), .pick (.t 47) (.c (.b true)) (.t 52), none⟩])
(.cond (.t 53)
(.seq (.reg [
⟨(some 54), .call 15 [], none⟩,
⟨(some 55), .mv (.t 54), none⟩,
⟨(some 56), .mv (.t 8), (some (55, true))⟩,
⟨(some 57), .bin .neq .nilf (.t 56) (.c .nf), (some (55, true))⟩,
⟨(some 58), .pick (.t 55) (.t 57) (.c (.b false)), none⟩,
⟨none, .st 1 (.t 6) (.t 58), none⟩])
.ret)
.skip))
(.seq (.seq (.reg [
⟨(some 59), .mv (.t 8), none⟩])
(.blk 0 (.rf (.t 59) [60] .skip
(.blk 1 (.seq (.reg [
⟨none, .st 1 (.t 6) (.c (.b false)), none⟩])
.ret)))))
(.seq (.reg [
⟨(some 62), .mv (.t 7), none⟩,
⟨(some 63), .fa 3 (.t 3), none⟩,
⟨(some 64), .ld false 1 (.t 63), none⟩,
⟨(some 65), .call 16 [(.t 62), (.t 64)], none⟩,
⟨(some 61), .mv (.t 65), none⟩,
⟨(some 66), .xt (.t 61) 0, none⟩,
⟨(some 67), .xt (.t 61) 1, none⟩,
⟨(some 11), .alloc [(.i .i64 0), (.i .i64 0), (.i .i64 0), .nsl, (.b false), (.i .i64 0), (.i .i64 0), .nsl, .nsl, (.b false)], none⟩,
⟨none, .st 10 (.t 11) (.t 66), none⟩,
⟨(some 12), .mv (.t 67), none⟩])
(.seq (.reg [
⟨(some 69), .mv (.t 7), none⟩,
⟨(some 70), .fa 3 (.t 3), none⟩,
⟨(some 71), .ld false 1 (.t 70), none⟩,
⟨(some 72), .call 17 [(.t 69), (.t 71)], none⟩,
⟨(some 68), .mv (.t 72), none⟩,
⟨(some 73), .xt (.t 68) 0, none⟩,
⟨(some 74), .xt (.t 68) 1, none⟩,
⟨(some 13), .alloc [(.i .i64 0), .nsl, .nsl, .nsl], none⟩,
⟨none, .st 4 (.t 13) (.t 73), none⟩,
⟨(some 14), .mv (.t 74), none⟩])
(.seq (.seq (.reg [
⟨(some 75), .fa 0 (.t 3), none⟩,
⟨(some 76), .ld false 1 (.t 75), none⟩,
⟨(some 77), .bin .rem .no (.t 76) (.c (.i .i64 2)), none⟩,
⟨(some 78), .bin .neq .int (.t 77) (.c (.i .i64 0)), none⟩,
⟨(some 79), .mv (.t 78), none⟩,
⟨(some 80), .mv (.t 9), (some (79, true))⟩,
⟨(some 81), .ld true 9 (.t 3), (some (79, true))⟩,
⟨(some 82), .call 18 [(.t 80), (.t 81), (.c (.i .i64 0))], (some (79, true))⟩,
⟨(some 83), .len 1 (.t 82), (some (79, true))⟩,
⟨(some 84), .bin .neq .int (.t 83) (.c (.i .i64 0)), (some (79, true))⟩,
⟨(some 85), .pick (.t 79) (.t 84) (.c (.b false)), none⟩,
⟨(some 86), .mv (.t 85), none⟩,
⟨(some 87), .mv (.t 2), (some (86, false))⟩,
⟨(some 88), .bin .lss .no (.t 87) (.c (.i .i64 0)), (some (86, false))⟩,
⟨(some 89), .mv (.t 88), (some (86, false))⟩,
⟨(some 90), .mv (.t 9), (some (89, true))⟩,
⟨(some 91), .ld true 16 (.t 4), (some (89, true))⟩,
⟨(some 92), .mv (.t 2), (some (89, true))⟩,
⟨(some 93), .call 19 [(.t 90), (.t 91), (.t 92)], (some (89, true))⟩,
⟨(some 94), .len 1 (.t 93), (some (89, true))⟩,
⟨(some 95), .bin .neq .int (.t 94) (.c (.i .i64 0)), (some (89, true))⟩,
⟨(some 96), .pick (.t 89) (.t 95) (.c (.b false)), (some (86, false))⟩,
⟨(some 97), .pick (.t 86) (.c (.b true)) (.t 96), none⟩,
⟨(some 98), .mv (.t 97), none⟩,
⟨(some 99), .mv (.t 9), (some (98, false))⟩,
⟨(some 100), .ld true 9 (.t 3), (some (98, false))⟩,
⟨(some 101), .call 18 [(.t 99), (.t 100), (.c (.i .i64 2))], (some (98, false))⟩,
⟨(some 102), .len 1 (.t 101), (some (98, false))⟩,
⟨(some 103), .bin .neq .int (.t 102) (.c (.i .i64 0)), (some (98, false))⟩,
⟨(some 104), .pick (.t 98) (.c (.b true)) (.t 103), none⟩])
(.cond (.t 104)
(.seq (.reg [
⟨none, .st 1 (.t 6) (.c (.b false)), none⟩])
.ret)
.skip))
(.seq (.reg [
⟨(some 105), .mv (.t 7), none⟩,
⟨(some 106), .ld true 9 (.t 3), none⟩,
⟨(some 107), .mv (.t 2), none⟩,
⟨(some 108), .call 18 [(.t 105), (.t 106), (.t 107)], none⟩,
⟨(some 109), .len 1 (.t 108), none⟩,
⟨(some 110), .bin .eql .int (.t 109) (.c (.i .i64 0)), none⟩,
⟨(some 111), .mv (.t 110), none⟩,
⟨(some 112), .mv (.t 7), (some (111, true))⟩,
⟨(some 113), .ld true 16 (.t 4), (some (111, true))⟩,
⟨(some 114), .mv (.t 2), (some (111, true))⟩,
⟨(some 115), .call 19 [(.t 112), (.t 113), (.t 114)], (some (111, true))⟩,
⟨(some 116), .len 1 (.t 115), (some (111, true))⟩,
⟨(some 117), .bin .eql .int (.t 116) (.c (.i .i64 0)), (some (111, true))⟩,
⟨(some 118), .pick (.t 111) (.t 117) (.c (.b false)), none⟩,
⟨(some 119), .mv (.t 118), none⟩,
⟨(some 120), .mv (.t 12), (some (119, true))⟩,
⟨(some 121), .un .not (.t 120), (some (119, true))⟩,
⟨(some 122), .pick (.t 119) (.t 121) (.c (.b false)), none⟩,
⟨(some 123), .mv (.t 122), none⟩,
⟨(some 124), .mv (.t 14), (some (123, true))⟩,
⟨(some 125), .un .not (.t 124), (some (123, true))⟩,
⟨(some 126), .pick (.t 123) (.t 125) (.c (.b false)), none⟩,
⟨(some 127), .mv (.t 126), none⟩,
⟨(some 128), .mv (.t 7), (some (127, true))⟩,
⟨(some 129), .call 20 [(.t 128)], (some (127, true))⟩,
⟨(some 130), .bin .eql .int (.t 129) (.c (.i .i64 0)), (some (127, true))⟩,
⟨(some 131), .pick (.t 127) (.t 130) (.c (.b false)), none⟩,
⟨(some 132), .mv (.t 131), none⟩,
⟨(some 133), .mv (.t 7), (some (132, true))⟩,
⟨(some 134), .call 21 [(.t 133)], (some (132, true))⟩,
⟨(some 135), .bin .eql .int (.t 134) (.c (.i .i64 0)), (some (132, true))⟩,
⟨(some 136), .pick (.t 132) (.t 135) (.c (.b false)), none⟩,
⟨(some 137), .mv (.t 136), none⟩,
⟨(some 138), .mv (.t 7), (some (137, true))⟩,
⟨(some 139), .call 22 [(.t 138)], (some (137, true))⟩,
⟨(some 140), .len 1 (.t 139), (some (137, true))⟩,
⟨(some 141), .bin .eql .int (.t 140) (.c (.i .i64 0)), (some (137, true))⟩,
⟨(some 142), .pick (.t 137) (.t 141) (.c (.b false)), none⟩,
⟨none, .st 1 (.t 6) (.t 142), none⟩])
.ret))))))))))⟩
def f13 : AF := ⟨4, [.t 2], (.seq (.reg [
⟨(some 1), .box 1 (.t 0), none⟩,
⟨(some 2), .mv (.c .nf), none⟩])
(.seq (.reg [
⟨(some 3), .mkf 42 [] [(.t 1)], none⟩,
⟨(some 2), .mv (.t 3), none⟩])
.ret))⟩
def f14 : AF := ⟨31, [.t 4, .t 5], (.seq (.reg [
⟨(some 4), .mv (.c .np), none⟩,
⟨(some 5), .mv (.c (.i .i64 0)), none⟩])
(.seq (.seq (.reg [
⟨(some 6), .mv (.t 1), none⟩,
⟨(some 7), .bin .lss .no (.t 6) (.c (.i .i64 1)), none⟩,
⟨(some 8), .mv (.t 7), none⟩,
⟨(some 9), .mv (.t 1), (some (8, false))⟩,
⟨(some 10), .bin .gtr .no (.t 9) (.c (.i .i64 8)), (some (8, false))⟩,
⟨(some 11), .pick (.t 8) (.c (.b true)) (.t 10), none⟩,
⟨(some 12), .mv (.t 11), none⟩,
⟨(some 13), .mv (.t 0), (some (12, false))⟩,
⟨(some 14), .bin .lss .no (.t 13) (.c (.i .i64 0)), (some (12, false))⟩,
⟨(some 15), .pick (.t 12) (.c (.b true)) (.t 14), none⟩,
⟨(some 16), .mv (.t 15), none⟩,
⟨(some 17), .mv (.t 0), (some (16, false))⟩,
⟨(some 18), .mv (.t 1), (some (16, false))⟩,
⟨(some 19), .bin .geq .no (.t 17) (.t 18), (some (16, false))⟩,
⟨(some 20), .pick (.t 16) (.c (.b true)) (.t 19), none⟩])
(.cond (.t 20)
(.seq (.reg [
⟨(some 4), .mv (.c .np), none⟩,
⟨(some 5), .mv (.c (.i .i64 1)), none⟩])
.ret)
.skip))
(.seq (.reg [
⟨(some 21), .mv (.t 0), none⟩,
⟨(some 22), .mv (.t 1), none⟩,
⟨(some 23), .call 45 [], none⟩,
⟨(some 24), .mkm, none⟩,
⟨(some 25), .mkm, none⟩,
⟨(some 26), .mkm, none⟩,
⟨(some 27), .call 46 [], none⟩,
⟨(some 28), .call 47 [], none⟩,
⟨(some 29), .build [(.i .i64 0), (.i .i64 0), .np, .nm, .nm, .nm, .np, .np, .nsl] [(0, 1, (.t 21)), (1, 1, (.t 22)), (2, 1, (.t 23)), (3, 1, (.t 24)), (4, 1, (.t 25)), (5, 1, (.t 26)), (6, 1, (.t 27)), (7, 1, (.t 28))], none⟩,
⟨(some 30), .box 9 (.t 29), none⟩,
⟨(some 4), .mv (.t 30), none⟩,
⟨(some 5), .mv (.c (.i .i64 0)), none⟩])
.ret)))⟩
def f15 : AF := ⟨107, [.t 0], (.seq (.reg [
⟨(some 0), .mv (.c (.b false)), none⟩])
(.seq (.reg [
⟨(some 12), .call 14 [(.c (.i .i64 0)), (.c (.i .i64 1))], none⟩,
⟨(some 11), .mv (.t 12), none⟩,
⟨(some 13), .xt (.t 11) 0, none⟩,
⟨(some 14), .xt (.t 11) 1, none⟩,
⟨(some 1), .mv (.t 13), none⟩,
⟨(some 2), .mv (.t 14), none⟩])
(.seq (.reg [
⟨(some 16), .call 14 [(.c (.i .i64 1)), (.c (.i .i64 1))], none⟩,
⟨(some 15), .mv (.t 16), none⟩,
⟨(some 17), .xt (.t 15) 0, none⟩,
⟨(some 18), .xt (.t 15) 1, none⟩,
⟨(some 3), .mv (.t 17), none⟩,
⟨(some 4), .mv (.t 18), none⟩])
(.seq (.seq (.reg [
⟨(some 19), .mv (.t 2), none⟩,
⟨(some 20), .bin .neq .int (.t 19) (.c (.i .i64 0)), none⟩,
⟨(some 21), .mv (.t 20), none⟩,
⟨(some 22), .mv (.t 4), (some (21, false))⟩,
⟨(some 23), .bin .neq .int (.t 22) (.c (.i .i64 1)), (some (21, false))⟩,
⟨(some 24), .pick (.t 21) (.c (.b true)) (.t 23), none⟩,
⟨(some 25), .mv (.t 24), none⟩,
⟨(some 26), .mv (.t 1), (some (25, false))⟩,
⟨(some 27), .bin .eql .ptr (.t 26) (.c .np), (some (25, false))⟩,
⟨(some 28), .pick (.t 25) (.c (.b true)) (.t 27), none⟩,
⟨(some 29), .mv (.t 28), none⟩,
⟨(some 30), .mv (.t 1), (some (29, false))⟩,
⟨(some 31), .call 13 [(.t 30)], (some (29, false))⟩,
⟨(some 32), .bin .eql .nilf (.t 31) (.c .nf), (some (29, false))⟩,
⟨(some 33), .pick (.t 29) (.c (.b true)) (.t 32), none⟩])
(.cond (.t 33)
(.seq (.reg [
⟨(some 0), .mv (.c (.b false)), none⟩])
.ret)
.skip))
(.seq (.reg [
⟨(some 34), .build [(.s []), (.i .i64 0)] [(0, 1, (.c (.s [97]))), (1, 1, (.c (.i .i64 5)))], none⟩,
⟨(some 35), .bsl 1 [(.s []), (.i .i64 0)] [(0, 2, (.t 34))], none⟩,
⟨(some 36), .build [(.i .i64 0), (.i .i64 0), (.i .i64 0), (.i .i64 0), (.i .i64 0), (.i .i64 0), (.i .i64 0), (.s []), .nsl] [(1, 1, (.c (.i .i64 1))), (2, 1, (.c (.i .i64 1))), (6, 1, (.c (.i .i64 1))), (8, 1, (.t 35))], none⟩,
⟨(some 5), .alloc [(.i .i64 0), (.i .i64 0), (.i .i64 0), (.i .i64 0), (.i .i64 0), (.i .i64 0), (.i .i64 0), (.s []), .nsl], none⟩,
⟨none, .st 9 (.t 5) (.t 36), none⟩])
(.seq (.reg [
⟨(some 37), .mv (.t 1), none⟩,
⟨(some 38), .ld true 9 (.t 5), none⟩,
⟨(some 39), .call 18 [(.t 37), (.t 38), (.c (.i .i64 0))], none⟩,
⟨(some 6), .mv (.t 39), none⟩])
(.seq (.reg [
⟨(some 40), .mv (.t 1), none⟩,
⟨(some 41), .build [(.i .i64 0), (.i .i64 0), .nsl, (.i .i64 0), (.i .i64 0), (.i .i64 0), (.i .i64 0), (.i .i64 0), (.i .i64 0), (.i .i64 0), (.s []), .nsl, (.i .i64 0), (.i .i64 0), (.i .i64 0), (.i .i64 0)] [(0, 1, (.c (.i .i64 4))), (1, 1, (.c (.i .i64 64)))], none⟩,
⟨(some 42), .call 19 [(.t 40), (.t 41), (.c (.i .i64 0))], none⟩,
⟨(some 7), .mv (.t 42), none⟩])
(.seq (.reg [
⟨(some 44), .mv (.t 1), none⟩,
⟨(some 45), .call 16 [(.t 44), (.c (.i .i64 64))], none⟩,
⟨(some 43), .mv (.t 45), none⟩,
⟨(some 46), .xt (.t 43) 0, none⟩,
⟨(some 47), .xt (.t 43) 1, none⟩,
⟨(some 8), .alloc [(.i .i64 0), (.i .i64 0), (.i .i64 0), .nsl, (.b false), (.i .i64 0), (.i .i64 0), .nsl, .nsl, (.b false)], none⟩,
⟨none, .st 10 (.t 8) (.t 46), none⟩,
⟨(some 9), .mv (.t 47), none⟩])
(.seq (.reg [
⟨(some 48), .mv (.t 1), none⟩,
⟨(some 49), .ld true 9 (.t 5), none⟩,
⟨(some 50), .call 18 [(.t 48), (.t 49), (.c (.i .i64 0))], none⟩,
⟨(some 10), .mv (.t 50), none⟩])
(.seq (.drw [
.op ⟨(some 51), .mv (.t 6), none⟩,
.op ⟨(some 52), .len 1 (.t 51), none⟩,
.op ⟨(some 53), .bin .eql .int (.t 52) (.c (.i .i64 1)), none⟩,
.op ⟨(some 54), .mv (.t 53), none⟩,
.op ⟨(some 55), .mv (.t 6), (some (54, true))⟩,
.op ⟨(some 56), .iaL 17 (.t 55) (.c (.i .i64 0)), (some (54, true))⟩,
.op ⟨(some 57), .fa 1 (.t 56), (some (54, true))⟩,
.op ⟨(some 58), .fa 0 (.t 57), (some (54, true))⟩,
.op ⟨(some 59), .ld false 1 (.t 58), (some (54, true))⟩,
.op ⟨(some 60), .bin .eql .int (.t 59) (.c (.i .i64 3)), (some (54, true))⟩,
.op ⟨(some 61), .pick (.t 54) (.t 60) (.c (.b false)), none⟩,
.op ⟨(some 62), .mv (.t 61), none⟩,
.op ⟨(some 63), .mv (.t 7), (some (62, true))⟩,
.op ⟨(some 64), .len 1 (.t 63), (some (62, true))⟩,
.op ⟨(some 65), .bin .eql .int (.t 64) (.c (.i .i64 2)), (some (62, true))⟩,
.op ⟨(some 66), .pick (.t 62) (.t 65) (.c (.b false)), none⟩,
.op ⟨(some 67), .mv (.t 66), none⟩,
.op ⟨(some 68), .mv (.t 7), (some (67, true))⟩,
.op ⟨(some 69), .iaL 17 (.t 68) (.c (.i .i64 0)), (some (67, true))⟩,
.op ⟨(some 70), .fa 1 (.t 69), (some (67, true))⟩,
.op ⟨(some 71), .fa 12 (.t 70), (some (67, true))⟩,
.op ⟨(some 72), .fa 2 (.t 71), (some (67, true))⟩,
.op ⟨(some 73), .ld false 1 (.t 72), (some (67, true))⟩,
.op ⟨(some 74), .bin .eql .int (.t 73) (.c (.i .i64 200)), (some (67, true))⟩,
.op ⟨(some 75), .pick (.t 67) (.t 74) (.c (.b false)), none⟩,
.op ⟨(some 76), .mv (.t 75), none⟩,
.op ⟨(some 77), .mv (.t 9), (some (76, true))⟩,
.op ⟨(some 78), .pick (.t 76) (.t 77) (.c (.b false)), none⟩,
.op ⟨(some 79), .mv (.t 78), none⟩,
.op ⟨(some 80), .fa 5 (.t 8), (some (79, true))⟩,
.op ⟨(some 81), .ld false 1 (.t 80), (some (79, true))⟩,
.op ⟨(some 82), .bin .eql .int (.t 81) (.c (.i .i64 3)), (some (79, true))⟩,
.op ⟨(some 83), .pick (.t 79) (.t 82) (.c (.b false)), none⟩,
.op ⟨(some 84), .mv (.t 83), none⟩,
.op ⟨(some 85), .mv (.t 1), (some (84, true))⟩,
.op ⟨(some 86), .call 21 [(.t 85)], (some (84, true))⟩,
.op ⟨(some 87), .bin .eql .int (.t 86) (.c (.i .i64 1)), (some (84, true))⟩,
.op ⟨(some 88), .pick (.t 84) (.t 87) (.c (.b false)), none⟩,
.op ⟨(some 89), .mv (.t 88), none⟩,
.op ⟨(some 90), .mv (.t 10), (some (89, true))⟩,
.op ⟨(some 91), .len 1 (.t 90), (some (89, true))⟩,
.op ⟨(some 92), .bin .eql .int (.t 91) (.c (.i .i64 1)), (some (89, true))⟩,
.op ⟨(some 93), .pick (.t 89) (.t 92) (.c (.b false)), none⟩,
.op ⟨(some 94), .mv (.t 93), none⟩,
.op ⟨(some 95), .mv (.t 10), (some (94, true))⟩,
.op ⟨(some 96), .iaL 17 (.t 95) (.c (.i .i64 0)), (some (94, true))⟩,
.op ⟨(some 97), .fa 1 (.t 96), (some (94, true))⟩,
.op ⟨(some 98), .fa 12 (.t 97), (some (94, true))⟩,
.op ⟨(some 99), .ld true 4 (.t 98), (some (94, true))⟩,
.op ⟨(some 100), .mv (.t 7), (some (94, true))⟩,
.op ⟨(some 101), .iaL 17 (.t 100) (.c (.i .i64 0)), (some (94, true))⟩,
.op ⟨(some 102), .fa 1 (.t 101), (some (94, true))⟩,
.op ⟨(some 103), .fa 12 (.t 102), (some (94, true))⟩,
.op ⟨(some 104), .ld true 4 (.t 103), (some (94, true))⟩,
.op ⟨(some 105), .bin .eql (.ag [(0, 1, false, .int), (1, 1, false, .int), (2, 1, false, .int), (3, 1, false, .int)]) (.t 99) (.t 104), (some (94, true))⟩,
.op ⟨(some 106), .pick (.t 94) (.t 105) (.c (.b false)), none⟩,
.op ⟨(some 0), .mv (.t 106), none⟩])
.ret))))))))))⟩
def f16 : AF := ⟨51, [.c 4 true 10, .t 5], (.seq (.reg [
⟨(some 4), .alloc [(.i .i64 0), (.i .i64 0), (.i .i64 0), .nsl, (.b false), (.i .i64 0), (.i .i64 0), .nsl, .nsl, (.b false)], none⟩,
⟨(some 5), .mv (.c (.b false)), none⟩])
(.seq (.seq (.reg [
⟨(some 10), .mv (.t 0), none⟩,
⟨(some 11), .bin .eql .ptr (.t 10) (.c .np), none⟩])
(.cond (.t 11)
(.seq (.reg [
⟨(some 12), .build [(.i .i64 0), (.i .i64 0), (.i .i64 0), .nsl, (.b false), (.i .i64 0), (.i .i64 0), .nsl, .nsl, (.b false)] [], none⟩,
⟨none, .st 10 (.t 4) (.t 12), none⟩,
⟨(some 5), .mv (.c (.b false)), none⟩])
.ret)
.skip))
(.seq (.reg [
⟨(some 14), .mv (.t 0), none⟩,
⟨(some 15), .nck (.t 14), none⟩,
⟨(some 16), .fa 3 (.t 15), none⟩,
⟨(some 17), .ld false 1 (.t 16), none⟩,
⟨(some 18), .mv (.t 1), none⟩,
⟨(some 19), .lk .int (.ag [(.i .i64 0), (.i .i64 0), (.i .i64 0), .nsl, (.b false), (.i .i64 0), (.i .i64 0), .nsl, .nsl, (.b false)]) true (.t 17) (.t 18), none⟩,
⟨(some 13), .mv (.t 19), none⟩,
⟨(some 20), .xt (.t 13) 0, none⟩,
⟨(some 21), .xt (.t 13) 1, none⟩,
⟨(some 6), .alloc [(.i .i64 0), (.i .i64 0), (.i .i64 0), .nsl, (.b false), (.i .i64 0), (.i .i64 0), .nsl, .nsl, (.b false)], none⟩,
⟨none, .st 10 (.t 6) (.t 20), none⟩,
⟨(some 7), .mv (.t 21), none⟩])
(.seq (.drw [
.op ⟨(some 22), .fa 3 (.t 6), none⟩,
.op ⟨(some 23), .ld false 1 (.t 22), none⟩,
.op ⟨(some 25), .fa 8 (.t 6), none⟩,
.op ⟨(some 26), .ld false 1 (.t 25), none⟩,
.op ⟨(some 28), .fa 7 (.t 6), none⟩,
.op ⟨(some 29), .ld false 1 (.t 28), none⟩,
.op ⟨(some 24), .call 48 [(.t 23)], none⟩,
.chk ⟨(some 26), .ld false 1 (.t 25), none⟩,
.chk ⟨(some 29), .ld false 1 (.t 28), none⟩,
.op ⟨(some 31), .fa 3 (.t 6), none⟩,
.op ⟨(some 27), .call 49 [(.t 26)], none⟩,
.chk ⟨(some 29), .ld false 1 (.t 28), none⟩,
.op ⟨(some 30), .call 50 [(.t 29)], none⟩,
.op ⟨none, .st 1 (.t 31) (.t 24), none⟩,
.op ⟨(some 32), .fa 8 (.t 6), none⟩,
.op ⟨none, .st 1 (.t 32) (.t 27), none⟩,
.op ⟨(some 33), .fa 7 (.t 6), none⟩,
.op ⟨none, .st 1 (.t 33) (.t 30), none⟩])
(.seq (.seq (.reg [
⟨(some 34), .fa 7 (.t 6), none⟩,
⟨(some 35), .ld false 1 (.t 34), none⟩,
⟨(some 36), .len 1 (.t 35), none⟩,
⟨(some 37), .mv (.c (.i .i64 0)), none⟩])
(.blk 0 (.loop (.seq (.reg [
⟨(some 38), .bin .lss .no (.t 37) (.t 36), none⟩])
(.seq (.cond (.t 38)
.skip
(.exit 0))
(.seq (.blk 1 (.seq (.reg [
⟨(some 39), .mv (.t 37), none⟩,
⟨(some 40), .iaL 1 (.t 35) (.t 37), none⟩,
⟨(some 41), .ld false 1 (.t 40), none⟩,
⟨(some 8), .mv (.t 39), none⟩,
⟨(some 9), .mv (.t 41), none⟩])
(.drw [
.op ⟨(some 42), .fa 7 (.t 6), none⟩,
.op ⟨(some 43), .ld false 1 (.t 42), none⟩,
.op ⟨(some 44), .mv (.t 8), none⟩,
.op ⟨(some 45), .mv (.t 9), none⟩,
.op ⟨(some 46), .call 48 [(.t 45)], none⟩,
.chk ⟨(some 43), .ld false 1 (.t 42), none⟩,
.op ⟨(some 47), .iaL 1 (.t 43) (.t 44), none⟩,
.op ⟨none, .st 1 (.t 47) (.t 46), none⟩])))
(.reg [
⟨(some 48), .bin .add .no (.t 37) (.c (.i .i64 1)), none⟩,
⟨(some 37), .mv (.t 48), none⟩])))))))
(.seq (.reg [
⟨(some 49), .ld true 10 (.t 6), none⟩,
⟨(some 50), .mv (.t 7), none⟩,
⟨none, .st 10 (.t 4) (.t 49), none⟩,
⟨(some 5), .mv (.t 50), none⟩])
.ret))))))⟩
def f17 : AF := ⟨17, [.c 4 true 4, .t 5], (.seq (.reg [
⟨(some 4), .alloc [(.i .i64 0), .nsl, .nsl, .nsl], none⟩,
⟨(some 5), .mv (.c (.b false)), none⟩])
(.seq (.seq (.reg [
⟨(some 6), .mv (.t 0), none⟩,
⟨(some 7), .bin .eql .ptr (.t 6) (.c .np), none⟩])
(.cond (.t 7)
(.seq (.reg [
⟨(some 8), .build [(.i .i64 0), .nsl, .nsl, .nsl] [], none⟩,
⟨none, .st 4 (.t 4) (.t 8), none⟩,
⟨(some 5), .mv (.c (.b false)), none⟩])
.ret)
.skip))
(.seq (.reg [
⟨(some 9), .mv (.t 0), none⟩,
⟨(some 10), .nck (.t 9), none⟩,
⟨(some 11), .fa 7 (.t 10), none⟩,
⟨(some 12), .ld false 1 (.t 11), none⟩,
⟨(some 13), .mv (.t 1), none⟩,
⟨(some 14), .call 51 [(.t 12), (.t 13)], none⟩,
⟨(some 15), .xt (.t 14) 0, none⟩,
⟨(some 16), .xt (.t 14) 1, none⟩,
⟨none, .st 4 (.t 4) (.t 15), none⟩,
⟨(some 5), .mv (.t 16), none⟩])
.ret)))⟩
def f18 : AF := ⟨114, [.t 6], (.seq (.reg [
⟨(some 3), .box 1 (.t 0), none⟩,
⟨(some 4), .box 9 (.t 1), none⟩,
⟨(some 5), .box 1 (.t 2), none⟩,
⟨(some 6), .mv (.c .nsl), none⟩])
(.seq (.seq (.drw [
.op ⟨(some 12), .ld false 1 (.t 3), none⟩,
.op ⟨(some 13), .bin .eql .ptr (.t 12) (.c .np), none⟩,
.op ⟨(some 14), .mv (.t 13), none⟩,
.op ⟨(some 15), .ld true 9 (.t 4), (some (14, false))⟩,
.op ⟨(some 16), .call 52 [(.t 15)], (some (14, false))⟩,
.op ⟨(some 17), .un .not (.t 16), (some (14, false))⟩,
.op ⟨(some 18), .pick (.t 14) (.c (.b true)) (.t 17), none⟩,
.op ⟨(some 19), .mv (.t 18), none⟩,
.op ⟨(some 20), .ld false 1 (.t 3), (some (19, false))⟩,
.op ⟨(some 21), .ld false 1 (.t 5), (some (19, false))⟩,
.op ⟨(some 22), .call 53 [(.t 20), (.t 21)], (some (19, false))⟩,
.op ⟨(some 23), .un .not (.t 22), (some (19, false))⟩,
.op ⟨(some 24), .pick (.t 19) (.c (.b true)) (.t 23), none⟩,
.op ⟨(some 25), .mv (.t 24), none⟩,
.op ⟨(some 26), .fa 0 (.t 4), (some (25, false))⟩,
.op ⟨(some 27), .ld false 1 (.t 26), (some (25, false))⟩,
.op ⟨(some 28), .ld false 1 (.t 3), (some (25, false))⟩,
.op ⟨(some 29), .nck (.t 28), (some (25, false))⟩,
.op ⟨(some 30), .fa 1 (.t 29), (some (25, false))⟩,
.op ⟨(some 31), .ld false 1 (.t 30), (some (25, false))⟩,
.op ⟨(some 33), .ld false 1 (.t 3), (some (25, false))⟩,
.op ⟨(some 34), .nck (.t 33), (some (25, false))⟩,
.op ⟨(some 35), .fa 0 (.t 34), (some (25, false))⟩,
.op ⟨(some 36), .ld false 1 (.t 35), (some (25, false))⟩,
.op ⟨(some 32), .call 54 [(.t 27), (.t 31)], (some (25, false))⟩,
.chk ⟨(some 33), .ld false 1 (.t 3), (some (25, false))⟩,
.chk ⟨(some 36), .ld false 1 (.t 35), (some (25, false))⟩,
.op ⟨(some 37), .bin .neq .int (.t 32) (.t 36), (some (25, false))⟩,
.op ⟨(some 38), .pick (.t 25) (.c (.b true)) (.t 37), none⟩])
(.cond (.t 38)
(.seq (.reg [
⟨(some 6), .mv (.c .nsl), none⟩])
.ret)
.skip))
(.seq (.reg [
⟨(some 39), .fa 0 (.t 4), none⟩,
⟨(some 40), .ld false 1 (.t 39), none⟩,
⟨(some 41), .fa 1 (.t 4), none⟩,
⟨(some 42), .ld false 1 (.t 41), none⟩,
⟨(some 43), .build [(.i .i64 0), (.i .i64 0)] [(0, 1, (.t 40)), (1, 1, (.t 42))], none⟩,
⟨(some 7), .alloc [(.i .i64 0), (.i .i64 0)], none⟩,
⟨none, .st 2 (.t 7) (.t 43), none⟩])
(.seq (.reg [
⟨(some 44), .mkf 55 [] [(.t 3), (.t 5), (.t 4)], none⟩,
⟨(some 8), .mv (.t 44), none⟩])
(.seq (.drw [
.op ⟨(some 46), .ld false 1 (.t 3), none⟩,
.op ⟨(some 47), .nck (.t 46), none⟩,
.op ⟨(some 48), .fa 2 (.t 47), none⟩,
.op ⟨(some 49), .ld false 1 (.t 48), none⟩,
.op ⟨(some 50), .fa 0 (.t 4), none⟩,
.op ⟨(some 51), .ld false 1 (.t 50), none⟩,
.op ⟨(some 52), .fa 1 (.t 4), none⟩,
.op ⟨(some 53), .ld false 1 (.t 52), none⟩,
.op ⟨(some 54), .ld true 9 (.t 4), none⟩,
.op ⟨(some 55), .call 58 [(.t 54)], none⟩,
.chk ⟨(some 46), .ld false 1 (.t 3), none⟩,
.chk ⟨(some 49), .ld false 1 (.t 48), none⟩,
.chk ⟨(some 51), .ld false 1 (.t 50), none⟩,
.chk ⟨(some 53), .ld false 1 (.t 52), none⟩,
.op ⟨(some 56), .call 57 [(.t 49), (.t 51), (.t 53), (.t 55)], none⟩,
.op ⟨(some 45), .mv (.t 56), none⟩,
.op ⟨(some 57), .xt (.t 45) 0, none⟩,
.op ⟨(some 58), .xt (.t 45) 1, none⟩,
.fl ⟨(some 10), .alloc [(.i .i64 0), (.i .i64 0), (.i .i64 0), (.i .i64 0)], none⟩,
.chk ⟨(some 46), .ld false 1 (.t 3), none⟩,
.chk ⟨(some 49), .ld false 1 (.t 48), none⟩,
.chk ⟨(some 51), .ld false 1 (.t 50), none⟩,
.chk ⟨(some 53), .ld false 1 (.t 52), none⟩,
.chk ⟨(some 54), .ld true 9 (.t 4), none⟩,
.op ⟨(some 9), .mv (.t 57), none⟩,
.op ⟨none, .st 4 (.t 10) (.t 58), none⟩])
(.seq (.seq (.reg [
⟨(some 59), .mv (.t 9), none⟩])
(.blk 0 (.seq (.reg [
⟨(some 61), .bin .eql .int (.t 59) (.c (.i .i64 3)), none⟩,
⟨(some 60), .mv (.t 61), none⟩])
(.cond (.t 60)
(.reg [
⟨(some 62), .ld false 1 (.t 3), none⟩,
⟨(some 63), .ld false 1 (.t 5), none⟩,
⟨(some 64), .ld true 4 (.t 10), none⟩,
⟨(some 65), .call 56 [(.t 62), (.t 63), (.t 64)], none⟩])
(.seq (.reg [
⟨(some 67), .bin .eql .int (.t 59) (.c (.i .i64 2)), none⟩,
⟨(some 66), .mv (.t 67), none⟩])
(.cond (.t 66)
(.seq (.drw [
.op ⟨(some 68), .ld false 1 (.t 3), none⟩,
.op ⟨(some 69), .nck (.t 68), none⟩,
.op ⟨(some 70), .fa 5 (.t 69), none⟩,
.op ⟨(some 71), .ld false 1 (.t 70), none⟩,
.op ⟨(some 72), .ld true 2 (.t 7), none⟩,
.op ⟨(some 73), .lk (.ag [(0, 1, false, .int), (1, 1, false, .int)]) (.ag [(.i .i64 0), (.i .i64 0), (.i .i64 0), (.i .i64 0), (.i .i64 0), (.i .i64 0), (.i .i64 0), (.i .i64 0), (.s []), .nsl]) false (.t 71) (.t 72), none⟩,
.op ⟨(some 11), .alloc [(.i .i64 0), (.i .i64 0), (.i .i64 0), (.i .i64 0), (.i .i64 0), (.i .i64 0), (.i .i64 0), (.i .i64 0), (.s []), .nsl], none⟩,
.chk ⟨(some 68), .ld false 1 (.t 3), none⟩,
.chk ⟨(some 71), .ld false 1 (.t 70), none⟩,
.chk ⟨(some 72), .ld true 2 (.t 7), none⟩,
.chk ⟨(some 73), .lk (.ag [(0, 1, false, .int), (1, 1, false, .int)]) (.ag [(.i .i64 0), (.i .i64 0), (.i .i64 0), (.i .i64 0), (.i .i64 0), (.i .i64 0), (.i .i64 0), (.i .i64 0), (.s []), .nsl]) false (.t 71) (.t 72), none⟩,
.op ⟨none, .st 10 (.t 11) (.t 73), none⟩])
(.seq (.reg [
⟨(some 74), .ld false 1 (.t 5), none⟩,
⟨(some 75), .fa 0 (.t 11), none⟩,
⟨none, .st 1 (.t 75) (.t 74), none⟩])
(.drw [
.op ⟨(some 76), .ld false 1 (.t 3), none⟩,
.op ⟨(some 77), .nck (.t 76), none⟩,
.op ⟨(some 78), .fa 5 (.t 77), none⟩,
.op ⟨(some 79), .ld false 1 (.t 78), none⟩,
.op ⟨(some 80), .ld true 2 (.t 7), none⟩,
.op ⟨(some 81), .ld true 10 (.t 11), none⟩,
.op ⟨none, .mu (.ag [(0, 1, false, .int), (1, 1, false, .int)]) (.t 79) (.t 80) (.t 81), none⟩])))
(.seq (.reg [
⟨(some 83), .bin .eql .int (.t 59) (.c (.i .i64 5)), none⟩,
⟨(some 82), .mv (.t 83), none⟩])
(.cond (.t 82)
(.reg [
⟨(some 84), .mv (.t 8), none⟩,
⟨(some 85), .cald (.t 84) [(.c (.i .i64 91))], none⟩])
(.seq (.reg [
⟨(some 87), .bin .eql .int (.t 59) (.c (.i .i64 4)), none⟩,
⟨(some 86), .mv (.t 87), none⟩])
(.cond (.t 86)
(.reg [
⟨(some 88), .mv (.t 8), none⟩,
⟨(some 89), .cald (.t 88) [(.c (.i .i64 90))], none⟩])
(.seq (.reg [
⟨(some 91), .bin .eql .int (.t 59) (.c (.i .i64 6)), none⟩,
⟨(some 90), .mv (.t 91), none⟩])
(.cond (.t 90)
(.reg [
⟨(some 92), .mv (.t 8), none⟩,
⟨(some 93), .cald (.t 92) [(.c (.i .i64 2))], none⟩])
(.seq (.reg [
⟨(some 95), .bin .eql .int (.t 59) (.c (.i .i64 1)), none⟩,
⟨(some 94), .mv (.t 95), none⟩])
(.cond (.t 94)
(.seq (.reg [
⟨(some 96), .fa 8 (.t 4), none⟩,
⟨(some 97), .ld false 1 (.t 96), none⟩,
⟨(some 98), .call 48 [(.t 97)], none⟩,
⟨(some 99), .fa 8 (.t 4), none⟩,
⟨none, .st 1 (.t 99) (.t 98), none⟩])
(.seq (.drw [
.op ⟨(some 100), .ld false 1 (.t 3), none⟩,
.op ⟨(some 101), .nck (.t 100), none⟩,
.op ⟨(some 102), .fa 5 (.t 101), none⟩,
.op ⟨(some 103), .ld false 1 (.t 102), none⟩,
.op ⟨(some 104), .ld true 2 (.t 7), none⟩,
.op ⟨(some 105), .ld false 1 (.t 5), none⟩,
.op ⟨(some 106), .ld true 9 (.t 4), none⟩,
.op ⟨(some 107), .build [(.i .i64 0), (.i .i64 0), (.i .i64 0), (.i .i64 0), (.i .i64 0), (.i .i64 0), (.i .i64 0), (.i .i64 0), (.s []), .nsl] [(0, 1, (.t 105)), (1, 9, (.t 106))], none⟩,
.op ⟨none, .mu (.ag [(0, 1, false, .int), (1, 1, false, .int)]) (.t 103) (.t 104) (.t 107), none⟩])
(.reg [
⟨(some 108), .ld false 1 (.t 3), none⟩,
⟨(some 109), .ld true 2 (.t 7), none⟩,
⟨(some 110), .ld true 9 (.t 4), none⟩,
⟨(some 111), .call 59 [(.t 108), (.t 109), (.t 110)], none⟩])))
.skip))))))))))))))
(.seq (.reg [
⟨(some 112), .ld false 1 (.t 3), none⟩,
⟨(some 113), .call 60 [(.t 112)], none⟩,
⟨(some 6), .mv (.t 113), none⟩])
.ret)))))))⟩
def f19 : AF := ⟨82, [.t 6], (.seq (.reg [
⟨(some 4), .box 16 (.t 1), none⟩,
⟨(some 6), .mv (.c .nsl), none⟩])
(.seq (.seq (.reg [
⟨(some 8), .mv (.t 0), none⟩,
⟨(some 9), .bin .eql .ptr (.t 8) (.c .np), none⟩,
⟨(some 10), .mv (.t 9), none⟩,
⟨(some 11), .ld true 16 (.t 4), (some (10, false))⟩,
⟨(some 12), .call 28 [(.t 11)], (some (10, false))⟩,
⟨(some 13), .un .not (.t 12), (some (10, false))⟩,
⟨(some 14), .pick (.t 10) (.c (.b true)) (.t 13), none⟩,
⟨(some 15), .mv (.t 14), none⟩,
⟨(some 16), .mv (.t 0), (some (15, false))⟩,
⟨(some 17), .mv (.t 2), (some (15, false))⟩,
⟨(some 18), .call 53 [(.t 16), (.t 17)], (some (15, false))⟩,
⟨(some 19), .un .not (.t 18), (some (15, false))⟩,
⟨(some 20), .pick (.t 15) (.c (.b true)) (.t 19), none⟩])
(.cond (.t 20)
(.seq (.reg [
⟨(some 6), .mv (.c .nsl), none⟩])
.ret)
.skip))
(.seq (.reg [
⟨(some 21), .mv (.t 2), none⟩,
⟨(some 22), .fa 2 (.t 4), none⟩,
⟨(some 23), .ld false 1 (.t 22), none⟩,
⟨(some 24), .build [(.i .i64 0), (.i .i64 0), .nsl] [(1, 1, (.t 21)), (2, 1, (.t 23))], none⟩,
⟨(some 7), .alloc [(.i .i64 0), (.i .i64 0), .nsl], none⟩,
⟨none, .st 3 (.t 7) (.t 24), none⟩])
(.seq (.seq (.reg [
⟨(some 25), .fa 0 (.t 4), none⟩,
⟨(some 26), .ld false 1 (.t 25), none⟩])
(.blk 0 (.seq (.reg [
⟨(some 28), .bin .eql .int (.t 26) (.c (.i .i64 4)), none⟩,
⟨(some 27), .mv (.t 28), none⟩])
(.cond (.t 27)
(.reg [
⟨(some 29), .fa 0 (.t 7), none⟩,
⟨none, .st 1 (.t 29) (.c (.i .i64 1)), none⟩])
(.seq (.reg [
⟨(some 31), .bin .eql .int (.t 26) (.c (.i .i64 6)), none⟩,
⟨(some 30), .mv (.t 31), none⟩])
(.cond (.t 30)
(.reg [
⟨(some 32), .fa 0 (.t 7), none⟩,
⟨none, .st 1 (.t 32) (.c (.i .i64 2)), none⟩])
(.seq (.reg [
⟨(some 34), .bin .eql .int (.t 26) (.c (.i .i64 8)), none⟩,
⟨(some 33), .mv (.t 34), none⟩])
(.cond (.t 33)
(.reg [
⟨(some 35), .fa 0 (.t 7), none⟩,
⟨none, .st 1 (.t 35) (.c (.i .i64 6)), none⟩])
(.seq (.reg [
⟨(some 37), .bin .eql .int (.t 26) (.c (.i .i64 10)), none⟩,
⟨(some 36), .mv (.t 37), none⟩])
(.cond (.t 36)
(.reg [
⟨(some 38), .fa 0 (.t 7), none⟩,
⟨none, .st 1 (.t 38) (.c (.i .i64 8)), none⟩])
(.seq (.reg [
⟨(some 40), .bin .eql .int (.t 26) (.c (.i .i64 12)), none⟩,
⟨(some 39), .mv (.t 40), none⟩])
(.cond (.t 39)
(.reg [
⟨(some 41), .mv (.t 0), none⟩,
⟨(some 42), .fa 12 (.t 4), none⟩,
⟨(some 43), .ld true 4 (.t 42), none⟩,
⟨(some 44), .call 61 [(.t 41), (.t 43)], none⟩])
(.seq (.reg [
⟨(some 46), .bin .eql .int (.t 26) (.c (.i .i64 14)), none⟩,
⟨(some 45), .mv (.t 46), none⟩])
(.cond (.t 45)
(.seq (.reg [
⟨(some 47), .mv (.t 0), none⟩,
⟨(some 48), .nck (.t 47), none⟩,
⟨(some 49), .fa 6 (.t 48), none⟩,
⟨(some 50), .ld false 1 (.t 49), none⟩,
⟨(some 51), .call 62 [(.t 50)], none⟩])
(.reg [
⟨(some 52), .mv (.t 0), none⟩,
⟨(some 53), .call 63 [(.t 52)], none⟩]))
.skip))))))))))))))
(.seq (.seq (.reg [
⟨(some 54), .fa 0 (.t 7), none⟩,
⟨(some 55), .ld false 1 (.t 54), none⟩,
⟨(some 56), .bin .neq .int (.t 55) (.c (.i .i64 0)), none⟩,
⟨(some 57), .mv (.t 56), none⟩,
⟨(some 58), .mv (.t 0), (some (57, true))⟩,
⟨(some 59), .fa 1 (.t 4), (some (57, true))⟩,
⟨(some 60), .ld false 1 (.t 59), (some (57, true))⟩,
⟨(some 61), .ld true 3 (.t 7), (some (57, true))⟩,
⟨(some 62), .call 64 [(.t 58), (.t 60), (.t 61)], (some (57, true))⟩,
⟨(some 63), .bin .eql .int (.t 62) (.c (.i .i64 0)), (some (57, true))⟩,
⟨(some 64), .pick (.t 57) (.t 63) (.c (.b false)), none⟩,
⟨(some 65), .mv (.t 64), none⟩,
⟨(some 66), .fa 0 (.t 7), (some (65, true))⟩,
⟨(some 67), .ld false 1 (.t 66), (some (65, true))⟩,
⟨(some 68), .bin .eql .int (.t 67) (.c (.i .i64 8)), (some (65, true))⟩,
⟨(some 69), .pick (.t 65) (.t 68) (.c (.b false)), none⟩])
(.cond (.t 69)
(.drw [
.op ⟨(some 70), .mv (.t 0), none⟩,
.op ⟨(some 71), .nck (.t 70), none⟩,
.op ⟨(some 72), .fa 7 (.t 71), none⟩,
.op ⟨(some 73), .ld false 1 (.t 72), none⟩,
.op ⟨(some 74), .fa 1 (.t 4), none⟩,
.op ⟨(some 75), .ld false 1 (.t 74), none⟩,
.op ⟨(some 76), .mv (.t 2), none⟩,
.op ⟨(some 77), .fa 2 (.t 4), none⟩,
.op ⟨(some 78), .ld false 1 (.t 77), none⟩,
.op ⟨(some 79), .call 65 [(.t 73), (.t 75), (.t 76), (.t 78)], none⟩])
.skip))
(.seq (.reg [
⟨(some 80), .mv (.t 0), none⟩,
⟨(some 81), .call 60 [(.t 80)], none⟩,
⟨(some 6), .mv (.t 81), none⟩])
.ret))))))⟩
def f20 : AF := ⟨10, [.t 2], (.seq (.reg [
⟨(some 2), .mv (.c (.i .i64 0)), none⟩])
(.seq (.seq (.reg [
⟨(some 3), .mv (.t 0), none⟩,
⟨(some 4), .bin .eql .ptr (.t 3) (.c .np), none⟩])
(.cond (.t 4)
(.seq (.reg [
⟨(some 2), .mv (.c (.i .i64 0)), none⟩])
.ret)
.skip))
(.seq (.reg [
⟨(some 5), .mv (.t 0), none⟩,
⟨(some 6), .nck (.t 5), none⟩,
⟨(some 7), .fa 5 (.t 6), none⟩,
⟨(some 8), .ld false 1 (.t 7), none⟩,
⟨(some 9), .len 2 (.t 8), none⟩,
⟨(some 2), .mv (.t 9), none⟩])
.ret)))⟩
def f21 : AF := ⟨10, [.t 2], (.seq (.reg [
⟨(some 2), .mv (.c (.i .i64 0)), none⟩])
(.seq (.seq (.reg [
⟨(some 3), .mv (.t 0), none⟩,
⟨(some 4), .bin .eql .ptr (.t 3) (.c .np), none⟩])
(.cond (.t 4)
(.seq (.reg [
⟨(some 2), .mv (.c (.i .i64 0)), none⟩])
.ret)
.skip))
(.seq (.reg [
⟨(some 5), .mv (.t 0), none⟩,
⟨(some 6), .nck (.t 5), none⟩,
⟨(some 7), .fa 6 (.t 6), none⟩,
⟨(some 8), .ld false 1 (.t 7), none⟩,
⟨(some 9), .call 66 [(.t 8)], none⟩,
⟨(some 2), .mv (.t 9), none⟩])
.ret)))⟩
def f22 : AF := ⟨10, [.t 2], (.seq (.reg [
⟨(some 2), .mv (.c .nsl), none⟩])
(.seq (.seq (.reg [
⟨(some 3), .mv (.t 0), none⟩,
⟨(some 4), .bin .eql .ptr (.t 3) (.c .np), none⟩])
(.cond (.t 4)
(.seq (.reg [
⟨(some 2), .mv (.c .nsl), none⟩])
.ret)
.skip))
(.seq (.reg [
⟨(some 5), .mv (.t 0), none⟩,
⟨(some 6), .nck (.t 5), none⟩,
⟨(some 7), .fa 2 (.t 6), none⟩,
⟨(some 8), .ld false 1 (.t 7), none⟩,
⟨(some 9), .call 67 [(.t 8)], none⟩,
⟨(some 2), .mv (.t 9), none⟩])
.ret)))⟩
def f28 : AF := ⟨65, [.t 2], (.seq (.reg [
⟨(some 1), .box 16 (.t 0), none⟩,
⟨(some 2), .mv (.c (.b false)), none⟩])
(.seq (.reg [
⟨(some 5), .fa 0 (.t 1), none⟩,
⟨(some 6), .ld false 1 (.t 5), none⟩,
⟨(some 7), .call 75 [(.t 6)], none⟩,
⟨(some 3), .alloc [(.s [])], none⟩,
⟨none, .st 1 (.t 3) (.t 7), none⟩])
(.seq (.reg [
⟨(some 8), .mkf 76 [] [(.t 3)], none⟩,
⟨(some 4), .mv (.t 8), none⟩])
(.seq (.blk 0 (.seq (.reg [
⟨(some 10), .fa 0 (.t 1), none⟩,
⟨(some 11), .ld false 1 (.t 10), none⟩,
⟨(some 12), .bin .lss .no (.t 11) (.c (.i .i64 1)), none⟩,
⟨(some 13), .mv (.t 12), none⟩,
⟨(some 14), .fa 0 (.t 1), (some (13, false))⟩,
⟨(some 15), .ld false 1 (.t 14), (some (13, false))⟩,
⟨(some 16), .bin .gtr .no (.t 15) (.c (.i .i64 14)), (some (13, false))⟩,
⟨(some 17), .pick (.t 13) (.c (.b true)) (.t 16), none⟩,
⟨(some 9), .mv (.t 17), none⟩])
(.cond (.t 9)
(.seq (.reg [
⟨(some 2), .mv (.c (.b false)), none⟩])
.ret)
(.seq (.drw [
.op ⟨(some 19), .mv (.t 4), none⟩,
.op ⟨(some 20), .fa 1 (.t 1), none⟩,
.op ⟨(some 21), .ld false 1 (.t 20), none⟩,
.op ⟨(some 22), .bin .geq .no (.t 21) (.c (.i .i64 1)), none⟩,
.op ⟨(some 23), .mv (.t 22), none⟩,
.op ⟨(some 24), .fa 1 (.t 1), (some (23, true))⟩,
.op ⟨(some 25), .ld false 1 (.t 24), (some (23, true))⟩,
.op ⟨(some 26), .bin .leq .no (.t 25) (.c (.i .i64 1099511627776)), (some (23, true))⟩,
.op ⟨(some 27), .pick (.t 23) (.t 26) (.c (.b false)), none⟩,
.op ⟨(some 28), .fa 1 (.t 1), none⟩,
.op ⟨(some 29), .ld false 1 (.t 28), none⟩,
.op ⟨(some 30), .bin .eql .int (.t 29) (.c (.i .i64 0)), none⟩,
.op ⟨(some 31), .cald (.t 19) [(.c (.s [111])), (.t 27), (.t 30)], none⟩,
.op ⟨(some 32), .un .not (.t 31), none⟩,
.op ⟨(some 33), .mv (.t 32), none⟩,
.op ⟨(some 34), .mv (.t 4), (some (33, false))⟩,
.op ⟨(some 35), .fa 2 (.t 1), (some (33, false))⟩,
.op ⟨(some 36), .ld false 1 (.t 35), (some (33, false))⟩,
.op ⟨(some 38), .fa 2 (.t 1), (some (33, false))⟩,
.op ⟨(some 39), .ld false 1 (.t 38), (some (33, false))⟩,
.op ⟨(some 40), .len 1 (.t 39), (some (33, false))⟩,
.op ⟨(some 41), .bin .eql .int (.t 40) (.c (.i .i64 0)), (some (33, false))⟩,
.op ⟨(some 37), .call 78 [(.t 36)], (some (33, false))⟩,
.chk ⟨(some 39), .ld false 1 (.t 38), (some (33, false))⟩,
.chk ⟨(some 40), .len 1 (.t 39), (some (33, false))⟩,
.op ⟨(some 42), .cald (.t 34) [(.c (.s [105])), (.t 37), (.t 41)], (some (33, false))⟩,
.op ⟨(some 43), .un .not (.t 42), (some (33, false))⟩,
.op ⟨(some 44), .pick (.t 33) (.c (.b true)) (.t 43), none⟩,
.op ⟨(some 18), .mv (.t 44), none⟩])
(.cond (.t 18)
(.seq (.reg [
⟨(some 2), .mv (.c (.b false)), none⟩])
.ret)
.skip)))))
(.seq (.drw [
.op ⟨(some 45), .mv (.t 4), none⟩,
.op ⟨(some 46), .fa 3 (.t 1), none⟩,
.op ⟨(some 47), .ld true 9 (.t 46), none⟩,
.op ⟨(some 49), .fa 3 (.t 1), none⟩,
.op ⟨(some 50), .ld true 9 (.t 49), none⟩,
.op ⟨(some 51), .build [(.i .i64 0), (.i .i64 0), (.i .i64 0), (.i .i64 0), (.i .i64 0), (.i .i64 0), (.i .i64 0), (.s []), .nsl] [], none⟩,
.op ⟨(some 48), .call 52 [(.t 47)], none⟩,
.chk ⟨(some 50), .ld true 9 (.t 49), none⟩,
.op ⟨(some 52), .call 79 [(.t 50), (.t 51)], none⟩,
.op ⟨(some 53), .cald (.t 45) [(.c (.s [97])), (.t 48), (.t 52)], none⟩,
.op ⟨(some 54), .mv (.t 53), none⟩,
.op ⟨(some 55), .mv (.t 4), (some (54, true))⟩,
.op ⟨(some 56), .fa 12 (.t 1), (some (54, true))⟩,
.op ⟨(some 57), .ld true 4 (.t 56), (some (54, true))⟩,
.op ⟨(some 59), .fa 12 (.t 1), (some (54, true))⟩,
.op ⟨(some 60), .ld true 4 (.t 59), (some (54, true))⟩,
.op ⟨(some 61), .build [(.i .i64 0), (.i .i64 0), (.i .i64 0), (.i .i64 0)] [], (some (54, true))⟩,
.op ⟨(some 62), .bin .eql (.ag [(0, 1, false, .int), (1, 1, false, .int), (2, 1, false, .int), (3, 1, false, .int)]) (.t 60) (.t 61), (some (54, true))⟩,
.op ⟨(some 58), .call 80 [(.t 57)], (some (54, true))⟩,
.chk ⟨(some 60), .ld true 4 (.t 59), (some (54, true))⟩,
.op ⟨(some 63), .cald (.t 55) [(.c (.s [121])), (.t 58), (.t 62)], (some (54, true))⟩,
.op ⟨(some 64), .pick (.t 54) (.t 63) (.c (.b false)), none⟩,
.op ⟨(some 2), .mv (.t 64), none⟩])
.ret)))))⟩
def f42 : AF := ⟨31, [], (.seq (.seq (.reg [
⟨(some 7), .ld false 1 (.t 1), none⟩,
⟨(some 8), .bin .eql .ptr (.t 7) (.c .np), none⟩])
(.cond (.t 8)
.ret
.skip))
(.seq (.reg [
⟨(some 9), .ld false 1 (.t 1), none⟩,
⟨(some 10), .nck (.t 9), none⟩,
⟨(some 11), .fa 3 (.t 10), none⟩,
⟨(some 12), .ld false 1 (.t 11), none⟩,
⟨(some 13), .call 44 [(.t 12)], none⟩,
⟨(some 14), .call 43 [(.t 13)], none⟩,
⟨(some 15), .len 1 (.t 14), none⟩,
⟨(some 16), .mv (.c (.i .i64 0)), none⟩])
(.blk 0 (.loop (.seq (.reg [
⟨(some 17), .bin .lss .no (.t 16) (.t 15), none⟩])
(.seq (.cond (.t 17)
.skip
(.exit 0))
(.seq (.blk 1 (.seq (.reg [
⟨(some 18), .iaL 1 (.t 14) (.t 16), none⟩,
⟨(some 19), .ld false 1 (.t 18), none⟩,
⟨(some 4), .mv (.t 19), none⟩])
(.seq (.reg [
⟨(some 21), .ld false 1 (.t 1), none⟩,
⟨(some 22), .mv (.t 4), none⟩,
⟨(some 23), .call 16 [(.t 21), (.t 22)], none⟩,
⟨(some 20), .mv (.t 23), none⟩,
⟨(some 24), .xt (.t 20) 0, none⟩,
⟨(some 25), .xt (.t 20) 1, none⟩,
⟨(some 5), .alloc [(.i .i64 0), (.i .i64 0), (.i .i64 0), .nsl, (.b false), (.i .i64 0), (.i .i64 0), .nsl, .nsl, (.b false)], none⟩,
⟨none, .st 10 (.t 5) (.t 24), none⟩,
⟨(some 6), .mv (.t 25), none⟩])
(.seq (.reg [
⟨(some 26), .mv (.t 0), none⟩,
⟨(some 27), .ld true 10 (.t 5), none⟩,
⟨(some 28), .cald (.t 26) [(.t 27)], none⟩,
⟨(some 29), .un .not (.t 28), none⟩])
(.cond (.t 29)
.ret
.skip)))))
(.reg [
⟨(some 30), .bin .add .no (.t 16) (.c (.i .i64 1)), none⟩,
⟨(some 16), .mv (.t 30), none⟩]))))))))⟩
def f43 : AF := ⟨9, [.t 2], (.seq (.reg [
⟨(some 2), .mv (.c .nsl), none⟩])
(.seq (.reg [
⟨(some 4), .mv (.t 0), none⟩,
⟨(some 5), .call 104 [(.t 4)], none⟩,
⟨(some 3), .mv (.t 5), none⟩])
(.seq (.reg [
⟨(some 6), .mv (.t 3), none⟩,
⟨(some 7), .call 105 [(.t 6)], none⟩])
(.seq (.reg [
⟨(some 8), .mv (.t 3), none⟩,
⟨(some 2), .mv (.t 8), none⟩])
.ret))))⟩
def f44 : AF := ⟨4, [.t 2], (.seq (.reg [
⟨(some 1), .box 1 (.t 0), none⟩,
⟨(some 2), .mv (.c .nf), none⟩])
(.seq (.reg [
⟨(some 3), .mkf 106 [] [(.t 1)], none⟩,
⟨(some 2), .mv (.t 3), none⟩])
.ret))⟩
def f45 : AF := ⟨4, [.t 0], (.seq (.reg [
⟨(some 0), .mv (.c .np), none⟩])
(.seq (.reg [
⟨(some 1), .mkm, none⟩,
⟨(some 2), .build [.nm] [(0, 1, (.t 1))], none⟩,
⟨(some 3), .box 1 (.t 2), none⟩,
⟨(some 0), .mv (.t 3), none⟩])
.ret))⟩
def f46 : AF := ⟨3, [.t 0], (.seq (.reg [
⟨(some 0), .mv (.c .np), none⟩])
(.seq (.reg [
⟨(some 1), .build [.nsl, (.i .i64 0)] [], none⟩,
⟨(some 2), .box 2 (.t 1), none⟩,
⟨(some 0), .mv (.t 2), none⟩])
.ret))⟩
def f47 : AF := ⟨4, [.t 0], (.seq (.reg [
⟨(some 0), .mv (.c .np), none⟩])
(.seq (.reg [
⟨(some 1), .mkm, none⟩,
⟨(some 2), .build [.nm] [(0, 1, (.t 1))], none⟩,
⟨(some 3), .box 1 (.t 2), none⟩,
⟨(some 0), .mv (.t 3), none⟩])
.ret))⟩
def f48 : AF := ⟨8, [.t 2], (.seq (.reg [
⟨(some 2), .mv (.c .nsl), none⟩])
(.seq (.seq (.reg [
⟨(some 3), .mv (.t 0), none⟩,
⟨(some 4), .bin .eql .nils (.t 3) (.c .nsl), none⟩])
(.cond (.t 4)
(.seq (.reg [
⟨(some 2), .mv (.c .nsl), none⟩])
.ret)
.skip))
(.seq (.reg [
⟨(some 5), .bsl 0 [(.s []), (.i .i64 0)] [], none⟩,
⟨(some 6), .mv (.t 0), none⟩,
⟨(some 7), .app 2 24 [(.s []), (.i .i64 0)] (.t 5) (.t 6), none⟩,
⟨(some 2), .mv (.t 7), none⟩])
.ret)))⟩
def f49 : AF := ⟨8, [.t 2], (.seq (.reg [
⟨(some 2), .mv (.c .nsl), none⟩])
(.seq (.seq (.reg [
⟨(some 3), .mv (.t 0), none⟩,
⟨(some 4), .bin .eql .nils (.t 3) (.c .nsl), none⟩])
(.cond (.t 4)
(.seq (.reg [
⟨(some 2), .mv (.c .nsl), none⟩])
.ret)
.skip))
(.seq (.reg [
⟨(some 5), .bsl 0 [(.i .i64 0)] [], none⟩,
⟨(some 6), .mv (.t 0), none⟩,
⟨(some 7), .app 1 8 [(.i .i64 0)] (.t 5) (.t 6), none⟩,
⟨(some 2), .mv (.t 7), none⟩])
.ret)))⟩
def f50 : AF := ⟨8, [.t 2], (.seq (.reg [
⟨(some 2), .mv (.c .nsl), none⟩])
(.seq (.seq (.reg [
⟨(some 3), .mv (.t 0), none⟩,
⟨(some 4), .bin .eql .nils (.t 3) (.c .nsl), none⟩])
(.cond (.t 4)
(.seq (.reg [
⟨(some 2), .mv (.c .nsl), none⟩])
.ret)
.skip))
(.seq (.reg [
⟨(some 5), .bsl 0 [.nsl] [], none⟩,
⟨(some 6), .mv (.t 0), none⟩,
⟨(some 7), .app 1 24 [.nsl] (.t 5) (.t 6), none⟩,
⟨(some 2), .mv (.t 7), none⟩])
.ret)))⟩
def f51 : AF := ⟨20, [.c 4 true 4, .t 5], (.seq (.reg [
⟨(some 4), .alloc [(.i .i64 0), .nsl, .nsl, .nsl], none⟩,
⟨(some 5), .mv (.c (.b false)), none⟩])
(.seq (.reg [
⟨(some 9), .mv (.t 0), none⟩,
⟨(some 10), .mv (.t 1), none⟩,
⟨(some 11), .call 107 [(.t 9), (.t 10), (.c .nsl)], none⟩,
⟨(some 8), .mv (.t 11), none⟩,
⟨(some 12), .xt (.t 8) 0, none⟩,
⟨(some 13), .xt (.t 8) 1, none⟩,
⟨(some 6), .alloc [(.i .i64 0), .nsl, .nsl, .nsl, .nm], none⟩,
⟨none, .st 5 (.t 6) (.t 12), none⟩,
⟨(some 7), .mv (.t 13), none⟩])
(.seq (.seq (.reg [
⟨(some 14), .mv (.t 7), none⟩,
⟨(some 15), .bin .neq .int (.t 14) (.c (.i .i64 0)), none⟩])
(.cond (.t 15)
(.seq (.reg [
⟨(some 16), .build [(.i .i64 0), .nsl, .nsl, .nsl] [], none⟩,
⟨none, .st 4 (.t 4) (.t 16), none⟩,
⟨(some 5), .mv (.c (.b false)), none⟩])
.ret)
.skip))
(.seq (.reg [
⟨(some 17), .fa 0 (.t 6), none⟩,
⟨(some 18), .ld true 4 (.t 17), none⟩,
⟨(some 19), .call 108 [(.t 18)], none⟩,
⟨none, .st 4 (.t 4) (.t 19), none⟩,
⟨(some 5), .mv (.c (.b true)), none⟩])
.ret))))⟩
def f52 : AF := ⟨95, [.t 2], (.seq (.reg [
⟨(some 1), .box 9 (.t 0), none⟩,
⟨(some 2), .mv (.c (.b false)), none⟩])
(.seq (.reg [
⟨(some 6), .fa 2 (.t 1), none⟩,
⟨(some 7), .ld false 1 (.t 6), none⟩,
⟨(some 8), .call 109 [(.t 7)], none⟩,
⟨(some 3), .alloc [(.s [])], none⟩,
⟨none, .st 1 (.t 3) (.t 8), none⟩])
(.seq (.reg [
⟨(some 9), .mkf 110 [] [(.t 3)], none⟩,
⟨(some 4), .mv (.t 9), none⟩])
(.seq (.reg [
⟨(some 5), .mv (.c (.f (.func 111) [] [])), none⟩])
(.seq (.blk 0 (.seq (.reg [
⟨(some 11), .ld false 1 (.t 3), none⟩,
⟨(some 12), .bin .eql .str (.t 11) (.c (.s [])), none⟩,
⟨(some 13), .mv (.t 12), none⟩,
⟨(some 14), .fa 0 (.t 1), (some (13, false))⟩,
⟨(some 15), .ld false 1 (.t 14), (some (13, false))⟩,
⟨(some 16), .call 112 [(.t 15), (.c (.i .i64 0)), (.c (.i .i64 63))], (some (13, false))⟩,
⟨(some 17), .un .not (.t 16), (some (13, false))⟩,
⟨(some 18), .pick (.t 13) (.c (.b true)) (.t 17), none⟩,
⟨(some 19), .mv (.t 18), none⟩,
⟨(some 20), .fa 1 (.t 1), (some (19, false))⟩,
⟨(some 21), .ld false 1 (.t 20), (some (19, false))⟩,
⟨(some 22), .call 112 [(.t 21), (.c (.i .i64 1)), (.c (.i .i64 4294967296))], (some (19, false))⟩,
⟨(some 23), .un .not (.t 22), (some (19, false))⟩,
⟨(some 24), .pick (.t 19) (.c (.b true)) (.t 23), none⟩,
⟨(some 10), .mv (.t 24), none⟩])
(.cond (.t 10)
(.seq (.reg [
⟨(some 2), .mv (.c (.b false)), none⟩])
.ret)
(.seq (.drw [
.op ⟨(some 26), .mv (.t 4), none⟩,
.op ⟨(some 27), .fa 3 (.t 1), none⟩,
.op ⟨(some 28), .ld false 1 (.t 27), none⟩,
.op ⟨(some 30), .fa 3 (.t 1), none⟩,
.op ⟨(some 31), .ld false 1 (.t 30), none⟩,
.op ⟨(some 32), .bin .eql .int (.t 31) (.c (.i .i64 0)), none⟩,
.op ⟨(some 29), .call 112 [(.t 28), (.c (.i .i64 1)), (.c (.i .i64 1099511627776))], none⟩,
.chk ⟨(some 31), .ld false 1 (.t 30), none⟩,
.op ⟨(some 33), .cald (.t 26) [(.c (.s [111])), (.t 29), (.t 32)], none⟩,
.op ⟨(some 34), .un .not (.t 33), none⟩,
.op ⟨(some 35), .mv (.t 34), none⟩,
.op ⟨(some 36), .mv (.t 4), (some (35, false))⟩,
.op ⟨(some 37), .mv (.t 5), (some (35, false))⟩,
.op ⟨(some 38), .fa 4 (.t 1), (some (35, false))⟩,
.op ⟨(some 39), .ld false 1 (.t 38), (some (35, false))⟩,
.op ⟨(some 41), .fa 4 (.t 1), (some (35, false))⟩,
.op ⟨(some 42), .ld false 1 (.t 41), (some (35, false))⟩,
.op ⟨(some 43), .bin .eql .int (.t 42) (.c (.i .i64 0)), (some (35, false))⟩,
.op ⟨(some 40), .cald (.t 37) [(.t 39)], (some (35, false))⟩,
.chk ⟨(some 42), .ld false 1 (.t 41), (some (35, false))⟩,
.op ⟨(some 44), .cald (.t 36) [(.c (.s [114])), (.t 40), (.t 43)], (some (35, false))⟩,
.op ⟨(some 45), .un .not (.t 44), (some (35, false))⟩,
.op ⟨(some 46), .pick (.t 35) (.c (.b true)) (.t 45), none⟩,
.op ⟨(some 25), .mv (.t 46), none⟩])
(.cond (.t 25)
(.seq (.reg [
⟨(some 2), .mv (.c (.b false)), none⟩])
.ret)
(.seq (.drw [
.op ⟨(some 48), .mv (.t 4), none⟩,
.op ⟨(some 49), .mv (.t 5), none⟩,
.op ⟨(some 50), .fa 5 (.t 1), none⟩,
.op ⟨(some 51), .ld false 1 (.t 50), none⟩,
.op ⟨(some 60), .fa 5 (.t 1), none⟩,
.op ⟨(some 61), .ld false 1 (.t 60), none⟩,
.op ⟨(some 62), .bin .eql .int (.t 61) (.c (.i .i64 0)), none⟩,
.op ⟨(some 52), .cald (.t 49) [(.t 51)], none⟩,
.chk ⟨(some 61), .ld false 1 (.t 60), none⟩,
.op ⟨(some 53), .mv (.t 52), none⟩,
.op ⟨(some 54), .fa 5 (.t 1), (some (53, true))⟩,
.op ⟨(some 55), .ld false 1 (.t 54), (some (53, true))⟩,
.op ⟨(some 56), .fa 4 (.t 1), (some (53, true))⟩,
.op ⟨(some 57), .ld false 1 (.t 56), (some (53, true))⟩,
.op ⟨(some 58), .bin .neq .int (.t 55) (.t 57), (some (53, true))⟩,
.op ⟨(some 59), .pick (.t 53) (.t 58) (.c (.b false)), none⟩,
.op ⟨(some 63), .cald (.t 48) [(.c (.s [116])), (.t 59), (.t 62)], none⟩,
.op ⟨(some 64), .un .not (.t 63), none⟩,
.op ⟨(some 65), .mv (.t 64), none⟩,
.op ⟨(some 66), .mv (.t 4), (some (65, false))⟩,
.op ⟨(some 67), .fa 7 (.t 1), (some (65, false))⟩,
.op ⟨(some 68), .ld false 1 (.t 67), (some (65, false))⟩,
.op ⟨(some 70), .fa 7 (.t 1), (some (65, false))⟩,
.op ⟨(some 71), .ld false 1 (.t 70), (some (65, false))⟩,
.op ⟨(some 72), .bin .eql .str (.t 71) (.c (.s [])), (some (65, false))⟩,
.op ⟨(some 69), .call 113 [(.t 68)], (some (65, false))⟩,
.chk ⟨(some 71), .ld false 1 (.t 70), (some (65, false))⟩,
.op ⟨(some 73), .cald (.t 66) [(.c (.s [103])), (.t 69), (.t 72)], (some (65, false))⟩,
.op ⟨(some 74), .un .not (.t 73), (some (65, false))⟩,
.op ⟨(some 75), .pick (.t 65) (.c (.b true)) (.t 74), none⟩,
.op ⟨(some 47), .mv (.t 75), none⟩])
(.cond (.t 47)
(.seq (.reg [
⟨(some 2), .mv (.c (.b false)), none⟩])
.ret)
.skip)))))))
(.seq (.drw [
.op ⟨(some 76), .mv (.t 4), none⟩,
.op ⟨(some 77), .fa 8 (.t 1), none⟩,
.op ⟨(some 78), .ld false 1 (.t 77), none⟩,
.op ⟨(some 79), .len 1 (.t 78), none⟩,
.op ⟨(some 80), .bin .gtr .no (.t 79) (.c (.i .i64 0)), none⟩,
.op ⟨(some 81), .mv (.t 80), none⟩,
.op ⟨(some 82), .fa 8 (.t 1), (some (81, true))⟩,
.op ⟨(some 83), .ld false 1 (.t 82), (some (81, true))⟩,
.op ⟨(some 86), .fa 8 (.t 1), none⟩,
.op ⟨(some 87), .ld false 1 (.t 86), none⟩,
.op ⟨(some 88), .len 1 (.t 87), none⟩,
.op ⟨(some 89), .bin .eql .int (.t 88) (.c (.i .i64 0)), none⟩,
.op ⟨(some 84), .call 78 [(.t 83)], (some (81, true))⟩,
.chk ⟨(some 87), .ld false 1 (.t 86), none⟩,
.chk ⟨(some 88), .len 1 (.t 87), none⟩,
.op ⟨(some 85), .pick (.t 81) (.t 84) (.c (.b false)), none⟩,
.op ⟨(some 90), .cald (.t 76) [(.c (.s [105])), (.t 85), (.t 89)], none⟩,
.op ⟨(some 91), .mv (.t 90), none⟩,
.op ⟨(some 92), .ld true 9 (.t 1), (some (91, true))⟩,
.op ⟨(some 93), .call 114 [(.t 92)], (some (91, true))⟩,
.op ⟨(some 94), .pick (.t 91) (.t 93) (.c (.b false)), none⟩,
.op ⟨(some 2), .mv (.t 94), none⟩])
.ret))))))⟩
def f53 : AF := ⟨15, [.t 4], (.seq (.reg [
⟨(some 4), .mv (.c (.b false)), none⟩])
(.seq (.reg [
⟨(some 5), .mv (.t 1), none⟩,
⟨(some 6), .bin .geq .no (.t 5) (.c (.i .i64 0)), none⟩,
⟨(some 7), .mv (.t 6), none⟩,
⟨(some 8), .mv (.t 1), (some (7, true))⟩,
⟨(some 9), .mv (.t 0), (some (7, true))⟩,
⟨(some 10), .nck (.t 9), (some (7, true))⟩,
⟨(some 11), .fa 1 (.t 10), (some (7, true))⟩,
⟨(some 12), .ld false 1 (.t 11), (some (7, true))⟩,
⟨(some 13), .bin .lss .no (.t 8) (.t 12), (some (7, true))⟩,
⟨(some 14), .pick (.t 7) (.t 13) (.c (.b false)), none⟩,
⟨(some 4), .mv (.t 14), none⟩])
.ret))⟩
def f54 : AF := ⟨14, [.t 4], (.seq (.reg [
⟨(some 4), .mv (.c (.i .i64 0)), none⟩])
(.seq (.seq (.reg [
⟨(some 5), .mv (.t 0), none⟩,
⟨(some 6), .bin .lss .no (.t 5) (.c (.i .i64 0)), none⟩,
⟨(some 7), .mv (.t 6), none⟩,
⟨(some 8), .mv (.t 1), (some (7, false))⟩,
⟨(some 9), .bin .lss .no (.t 8) (.c (.i .i64 1)), (some (7, false))⟩,
⟨(some 10), .pick (.t 7) (.c (.b true)) (.t 9), none⟩])
(.cond (.t 10)
(.seq (.reg [
⟨(some 4), .mv (.c (.i .i64 0)), none⟩])
.ret)
.skip))
(.seq (.reg [
⟨(some 11), .mv (.t 0), none⟩,
⟨(some 12), .mv (.t 1), none⟩,
⟨(some 13), .bin .rem .no (.t 11) (.t 12), none⟩,
⟨(some 4), .mv (.t 13), none⟩])
.ret)))⟩
def f55 : AF := ⟨14, [], (.reg [
⟨(some 5), .ld false 1 (.t 1), none⟩,
⟨(some 6), .ld false 1 (.t 2), none⟩,
⟨(some 7), .fa 0 (.t 3), none⟩,
⟨(some 8), .ld false 1 (.t 7), none⟩,
⟨(some 9), .fa 1 (.t 3), none⟩,
⟨(some 10), .ld false 1 (.t 9), none⟩,
⟨(some 11), .mv (.t 0), none⟩,
⟨(some 12), .build [(.i .i64 0), (.i .i64 0), (.i .i64 0), (.i .i64 0)] [(0, 1, (.t 8)), (1, 1, (.t 10)), (2, 1, (.t 11))], none⟩,
⟨(some 13), .call 56 [(.t 5), (.t 6), (.t 12)], none⟩])⟩
def f56 : AF := ⟨11, [], (.seq (.reg [
⟨(some 5), .box 4 (.t 2), none⟩])
(.reg [
⟨(some 6), .mv (.t 0), none⟩,
⟨(some 7), .mv (.t 1), none⟩,
⟨(some 8), .ld true 4 (.t 5), none⟩,
⟨(some 9), .build [(.i .i64 0), (.i .i64 0), .nsl, (.i .i64 0), (.i .i64 0), (.i .i64 0), (.i .i64 0), (.i .i64 0), (.i .i64 0), (.i .i64 0), (.s []), .nsl, (.i .i64 0), (.i .i64 0), (.i .i64 0), (.i .i64 0)] [(0, 1, (.c (.i .i64 2))), (12, 4, (.t 8))], none⟩,
⟨(some 10), .call 115 [(.t 6), (.t 7), (.t 9)], none⟩]))⟩
def f57 : AF := ⟨84, [.t 8, .c 9 true 4], (.seq (.reg [
⟨(some 8), .mv (.c (.i .i64 0)), none⟩,
⟨(some 9), .alloc [(.i .i64 0), (.i .i64 0), (.i .i64 0), (.i .i64 0)], none⟩])
(.seq (.seq (.reg [
⟨(some 14), .mv (.t 0), none⟩,
⟨(some 15), .call 116 [(.t 14)], none⟩,
⟨(some 16), .un .not (.t 15), none⟩,
⟨(some 17), .mv (.t 16), none⟩,
⟨(some 18), .mv (.t 1), (some (17, false))⟩,
⟨(some 19), .call 117 [(.t 18)], (some (17, false))⟩,
⟨(some 20), .un .not (.t 19), (some (17, false))⟩,
⟨(some 21), .pick (.t 17) (.c (.b true)) (.t 20), none⟩,
⟨(some 22), .mv (.t 21), none⟩,
⟨(some 23), .mv (.t 2), (some (22, false))⟩,
⟨(some 24), .call 118 [(.t 23)], (some (22, false))⟩,
⟨(some 25), .un .not (.t 24), (some (22, false))⟩,
⟨(some 26), .pick (.t 22) (.c (.b true)) (.t 25), none⟩])
(.cond (.t 26)
(.seq (.reg [
⟨(some 27), .build [(.i .i64 0), (.i .i64 0), (.i .i64 0), (.i .i64 0)] [], none⟩,
⟨(some 8), .mv (.c (.i .i64 0)), none⟩,
⟨none, .st 4 (.t 9) (.t 27), none⟩])
.ret)
.skip))
(.seq (.reg [
⟨(some 28), .mv (.t 0), none⟩,
⟨(some 29), .mv (.t 1), none⟩,
⟨(some 30), .call 119 [(.t 28), (.t 29)], none⟩,
⟨(some 31), .mv (.t 3), none⟩,
⟨(some 32), .call 120 [(.c (.i .u64 7)), (.t 31)], none⟩,
⟨(some 10), .alloc [(.i .i64 0), .nm], none⟩,
⟨none, .st 2 (.t 10) (.t 30), none⟩,
⟨(some 11), .mv (.t 32), none⟩])
(.seq (.reg [
⟨(some 34), .fa 1 (.t 10), none⟩,
⟨(some 35), .ld false 1 (.t 34), none⟩,
⟨(some 36), .mv (.t 2), none⟩,
⟨(some 37), .lk .int (.ag [(.i .u64 0), (.b false), (.i .i64 0), (.i .i64 0), (.i .i64 0), (.i .i64 0)]) true (.t 35) (.t 36), none⟩,
⟨(some 33), .mv (.t 37), none⟩,
⟨(some 38), .xt (.t 33) 0, none⟩,
⟨(some 39), .xt (.t 33) 1, none⟩,
⟨(some 12), .alloc [(.i .u64 0), (.b false), (.i .i64 0), (.i .i64 0), (.i .i64 0), (.i .i64 0)], none⟩,
⟨none, .st 6 (.t 12) (.t 38), none⟩,
⟨(some 13), .mv (.t 39), none⟩])
(.seq (.blk 0 (.seq (.reg [
⟨(some 41), .mv (.t 2), none⟩,
⟨(some 42), .fa 0 (.t 10), none⟩,
⟨(some 43), .ld false 1 (.t 42), none⟩,
⟨(some 44), .bin .lss .no (.t 41) (.t 43), none⟩,
⟨(some 40), .mv (.t 44), none⟩])
(.cond (.t 40)
(.seq (.reg [
⟨(some 45), .build [(.i .i64 0), (.i .i64 0), (.i .i64 0), (.i .i64 0)] [], none⟩,
⟨(some 8), .mv (.c (.i .i64 5)), none⟩,
⟨none, .st 4 (.t 9) (.t 45), none⟩])
.ret)
(.seq (.reg [
⟨(some 47), .mv (.t 13), none⟩,
⟨(some 48), .mv (.t 47), none⟩,
⟨(some 49), .fa 0 (.t 12), (some (48, true))⟩,
⟨(some 50), .ld false 1 (.t 49), (some (48, true))⟩,
⟨(some 51), .mv (.t 11), (some (48, true))⟩,
⟨(some 52), .bin .neq .int (.t 50) (.t 51), (some (48, true))⟩,
⟨(some 53), .pick (.t 48) (.t 52) (.c (.b false)), none⟩,
⟨(some 46), .mv (.t 53), none⟩])
(.cond (.t 46)
(.seq (.reg [
⟨(some 54), .build [(.i .i64 0), (.i .i64 0), (.i .i64 0), (.i .i64 0)] [], none⟩,
⟨(some 8), .mv (.c (.i .i64 4)), none⟩,
⟨none, .st 4 (.t 9) (.t 54), none⟩])
.ret)
(.seq (.reg [
⟨(some 56), .mv (.t 13), none⟩,
⟨(some 57), .mv (.t 56), none⟩,
⟨(some 58), .fa 1 (.t 12), (some (57, true))⟩,
⟨(some 59), .ld false 1 (.t 58), (some (57, true))⟩,
⟨(some 60), .pick (.t 57) (.t 59) (.c (.b false)), none⟩,
⟨(some 55), .mv (.t 60), none⟩])
(.cond (.t 55)
(.seq (.drw [
.op ⟨(some 61), .fa 2 (.t 12), none⟩,
.op ⟨(some 62), .ld true 4 (.t 61), none⟩,
.op ⟨(some 8), .mv (.c (.i .i64 3)), none⟩,
.op ⟨none, .st 4 (.t 9) (.t 62), none⟩])
.ret)
(.seq (.reg [
⟨(some 64), .mv (.t 13), none⟩,
⟨(some 63), .mv (.t 64), none⟩])
(.cond (.t 63)
(.seq (.reg [
⟨(some 65), .build [(.i .i64 0), (.i .i64 0), (.i .i64 0), (.i .i64 0)] [], none⟩,
⟨(some 8), .mv (.c (.i .i64 2)), none⟩,
⟨none, .st 4 (.t 9) (.t 65), none⟩])
.ret)
(.seq (.reg [
⟨(some 67), .fa 1 (.t 10), none⟩,
⟨(some 68), .ld false 1 (.t 67), none⟩,
⟨(some 69), .len 2 (.t 68), none⟩,
⟨(some 70), .bin .geq .no (.t 69) (.c (.i .i64 128)), none⟩,
⟨(some 66), .mv (.t 70), none⟩])
(.cond (.t 66)
(.seq (.reg [
⟨(some 71), .build [(.i .i64 0), (.i .i64 0), (.i .i64 0), (.i .i64 0)] [], none⟩,
⟨(some 8), .mv (.c (.i .i64 6)), none⟩,
⟨none, .st 4 (.t 9) (.t 71), none⟩])
.ret)
.skip)))))))))))
(.seq (.reg [
⟨(some 72), .fa 1 (.t 10), none⟩,
⟨(some 73), .ld false 1 (.t 72), none⟩,
⟨(some 74), .mv (.t 2), none⟩,
⟨(some 75), .mv (.t 11), none⟩,
⟨(some 76), .build [(.i .u64 0), (.b false), (.i .i64 0), (.i .i64 0), (.i .i64 0), (.i .i64 0)] [(0, 1, (.t 75))], none⟩,
⟨none, .mu .int (.t 73) (.t 74) (.t 76), none⟩])
(.seq (.drw [
.op ⟨(some 77), .mv (.t 0), none⟩,
.op ⟨(some 78), .nck (.t 77), none⟩,
.op ⟨(some 79), .fa 0 (.t 78), none⟩,
.op ⟨(some 80), .ld false 1 (.t 79), none⟩,
.op ⟨(some 81), .mv (.t 1), none⟩,
.op ⟨(some 82), .ld true 2 (.t 10), none⟩,
.op ⟨none, .mu .int (.t 80) (.t 81) (.t 82), none⟩])
(.seq (.reg [
⟨(some 83), .build [(.i .i64 0), (.i .i64 0), (.i .i64 0), (.i .i64 0)] [], none⟩,
⟨(some 8), .mv (.c (.i .i64 1)), none⟩,
⟨none, .st 4 (.t 9) (.t 83), none⟩])
.ret))))))))⟩
def f58 : AF := ⟨19, [.t 2], (.seq (.reg [
⟨(some 1), .box 9 (.t 0), none⟩,
⟨(some 2), .mv (.c .nsl), none⟩])
(.seq (.seq (.reg [
⟨(some 6), .ld true 9 (.t 1), none⟩,
⟨(some 7), .call 52 [(.t 6)], none⟩,
⟨(some 8), .un .not (.t 7), none⟩])
(.cond (.t 8)
(.seq (.reg [
⟨(some 2), .mv (.c .nsl), none⟩])
.ret)
.skip))
(.seq (.reg [
⟨(some 9), .call 98 [], none⟩,
⟨(some 3), .mv (.t 9), none⟩])
(.seq (.reg [
⟨(some 10), .mv (.t 3), none⟩,
⟨(some 11), .ld true 9 (.t 1), none⟩,
⟨(some 12), .call 121 [(.t 10), (.t 11)], none⟩])
(.seq (.reg [
⟨(some 14), .mv (.t 3), none⟩,
⟨(some 15), .call 103 [(.t 14)], none⟩,
⟨(some 13), .mv (.t 15), none⟩,
⟨(some 16), .xt (.t 13) 0, none⟩,
⟨(some 17), .xt (.t 13) 1, none⟩,
⟨(some 4), .mv (.t 16), none⟩,
⟨(some 5), .mv (.t 17), none⟩])
(.seq (.reg [
⟨(some 18), .mv (.t 4), none⟩,
⟨(some 2), .mv (.t 18), none⟩])
.ret))))))⟩
def f59 : AF := ⟨50, [], (.seq (.reg [
⟨(some 4), .box 2 (.t 1), none⟩,
⟨(some 5), .box 9 (.t 2), none⟩])
(.seq (.reg [
⟨(some 6), .fa 2 (.t 5), none⟩,
⟨(some 7), .ld false 1 (.t 6), none⟩])
(.blk 0 (.seq (.reg [
⟨(some 13), .bin .eql .int (.t 7) (.c (.i .i64 1)), none⟩,
⟨(some 12), .mv (.t 13), none⟩])
(.cond (.t 12)
(.reg [
⟨(some 14), .mv (.t 0), none⟩,
⟨(some 15), .ld true 2 (.t 4), none⟩,
⟨(some 16), .ld true 9 (.t 5), none⟩,
⟨(some 17), .call 122 [(.t 14), (.t 15), (.t 16)], none⟩])
(.seq (.reg [
⟨(some 19), .bin .eql .int (.t 7) (.c (.i .i64 2)), none⟩,
⟨(some 18), .mv (.t 19), none⟩])
(.cond (.t 18)
(.reg [
⟨(some 20), .mv (.t 0), none⟩,
⟨(some 21), .ld true 2 (.t 4), none⟩,
⟨(some 22), .ld true 9 (.t 5), none⟩,
⟨(some 23), .call 123 [(.t 20), (.t 21), (.t 22), (.c (.i .i64 3))], none⟩])
(.seq (.reg [
⟨(some 25), .bin .eql .int (.t 7) (.c (.i .i64 3)), none⟩,
⟨(some 24), .mv (.t 25), none⟩])
(.cond (.t 24)
(.reg [
⟨(some 26), .mv (.t 0), none⟩,
⟨(some 27), .ld true 2 (.t 4), none⟩,
⟨(some 28), .ld true 9 (.t 5), none⟩,
⟨(some 29), .call 123 [(.t 26), (.t 27), (.t 28), (.c (.i .i64 5))], none⟩])
(.seq (.reg [
⟨(some 31), .bin .eql .int (.t 7) (.c (.i .i64 4)), none⟩,
⟨(some 30), .mv (.t 31), none⟩])
(.cond (.t 30)
(.reg [
⟨(some 32), .mv (.t 0), none⟩,
⟨(some 33), .ld true 2 (.t 4), none⟩,
⟨(some 34), .ld true 9 (.t 5), none⟩,
⟨(some 35), .call 123 [(.t 32), (.t 33), (.t 34), (.c (.i .i64 7))], none⟩])
(.seq (.reg [
⟨(some 37), .bin .eql .int (.t 7) (.c (.i .i64 11)), none⟩,
⟨(some 36), .mv (.t 37), none⟩])
(.cond (.t 36)
(.drw [
.op ⟨(some 38), .mv (.t 0), none⟩,
.op ⟨(some 39), .ld true 2 (.t 4), none⟩,
.op ⟨(some 40), .mv (.t 0), none⟩,
.op ⟨(some 41), .nck (.t 40), none⟩,
.op ⟨(some 42), .fa 2 (.t 41), none⟩,
.op ⟨(some 43), .ld false 1 (.t 42), none⟩,
.op ⟨(some 44), .fa 0 (.t 5), none⟩,
.op ⟨(some 45), .ld false 1 (.t 44), none⟩,
.op ⟨(some 46), .fa 6 (.t 5), none⟩,
.op ⟨(some 47), .ld false 1 (.t 46), none⟩,
.op ⟨(some 48), .call 125 [(.t 43), (.t 45), (.t 47)], none⟩,
.chk ⟨(some 39), .ld true 2 (.t 4), none⟩,
.op ⟨(some 49), .call 124 [(.t 38), (.t 39), (.t 48), (.c (.i .i64 0))], none⟩])
(.reg [
⟨(some 8), .mv (.t 0), none⟩,
⟨(some 9), .ld true 2 (.t 4), none⟩,
⟨(some 10), .ld true 9 (.t 5), none⟩,
⟨(some 11), .call 126 [(.t 8), (.t 9), (.t 10)], none⟩]))))))))))))))⟩
def f60 : AF := ⟨12, [.t 2], (.seq (.reg [
⟨(some 2), .mv (.c .nsl), none⟩])
(.seq (.reg [
⟨(some 4), .mv (.t 0), none⟩,
⟨(some 5), .nck (.t 4), none⟩,
⟨(some 6), .fa 8 (.t 5), none⟩,
⟨(some 7), .ld false 1 (.t 6), none⟩,
⟨(some 3), .mv (.t 7), none⟩])
(.seq (.reg [
⟨(some 8), .mv (.t 0), none⟩,
⟨(some 9), .nck (.t 8), none⟩,
⟨(some 10), .fa 8 (.t 9), none⟩,
⟨none, .st 1 (.t 10) (.c .nsl), none⟩])
(.seq (.reg [
⟨(some 11), .mv (.t 3), none⟩,
⟨(some 2), .mv (.t 11), none⟩])
.ret))))⟩
def f61 : AF := ⟨50, [], (.seq (.reg [
⟨(some 3), .box 4 (.t 1), none⟩])
(.seq (.reg [
⟨(some 7), .fa 0 (.t 3), none⟩,
⟨(some 8), .ld false 1 (.t 7), none⟩,
⟨(some 9), .fa 1 (.t 3), none⟩,
⟨(some 10), .ld false 1 (.t 9), none⟩,
⟨(some 11), .build [(.i .i64 0), (.i .i64 0)] [(0, 1, (.t 8)), (1, 1, (.t 10))], none⟩,
⟨(some 4), .alloc [(.i .i64 0), (.i .i64 0)], none⟩,
⟨none, .st 2 (.t 4) (.t 11), none⟩])
(.seq (.drw [
.op ⟨(some 13), .mv (.t 0), none⟩,
.op ⟨(some 14), .nck (.t 13), none⟩,
.op ⟨(some 15), .fa 5 (.t 14), none⟩,
.op ⟨(some 16), .ld false 1 (.t 15), none⟩,
.op ⟨(some 17), .ld true 2 (.t 4), none⟩,
.op ⟨(some 18), .lk (.ag [(0, 1, false, .int), (1, 1, false, .int)]) (.ag [(.i .i64 0), (.i .i64 0), (.i .i64 0), (.i .i64 0), (.i .i64 0), (.i .i64 0), (.i .i64 0), (.i .i64 0), (.s []), .nsl]) true (.t 16) (.t 17), none⟩,
.op ⟨(some 12), .mv (.t 18), none⟩,
.op ⟨(some 19), .xt (.t 12) 0, none⟩,
.op ⟨(some 20), .xt (.t 12) 1, none⟩,
.op ⟨(some 5), .alloc [(.i .i64 0), (.i .i64 0), (.i .i64 0), (.i .i64 0), (.i .i64 0), (.i .i64 0), (.i .i64 0), (.i .i64 0), (.s []), .nsl], none⟩,
.chk ⟨(some 16), .ld false 1 (.t 15), none⟩,
.chk ⟨(some 17), .ld true 2 (.t 4), none⟩,
.chk ⟨(some 18), .lk (.ag [(0, 1, false, .int), (1, 1, false, .int)]) (.ag [(.i .i64 0), (.i .i64 0), (.i .i64 0), (.i .i64 0), (.i .i64 0), (.i .i64 0), (.i .i64 0), (.i .i64 0), (.s []), .nsl]) true (.t 16) (.t 17), none⟩,
.op ⟨none, .st 10 (.t 5) (.t 19), none⟩,
.op ⟨(some 6), .mv (.t 20), none⟩])
(.seq (.seq (.reg [
⟨(some 21), .mv (.t 6), none⟩,
⟨(some 22), .un .not (.t 21), none⟩])
(.cond (.t 22)
.ret
.skip))
(.seq (.seq (.reg [
⟨(some 23), .fa 1 (.t 5), none⟩,
⟨(some 24), .fa 2 (.t 23), none⟩,
⟨(some 25), .ld false 1 (.t 24), none⟩,
⟨(some 26), .bin .eql .int (.t 25) (.c (.i .i64 5)), none⟩,
⟨(some 27), .mv (.t 26), none⟩,
⟨(some 28), .fa 2 (.t 3), (some (27, true))⟩,
⟨(some 29), .ld false 1 (.t 28), (some (27, true))⟩,
⟨(some 30), .bin .neq .int (.t 29) (.c (.i .i64 0)), (some (27, true))⟩,
⟨(some 31), .pick (.t 27) (.t 30) (.c (.b false)), none⟩])
(.cond (.t 31)
(.drw [
.op ⟨(some 32), .mv (.t 0), none⟩,
.op ⟨(some 33), .nck (.t 32), none⟩,
.op ⟨(some 34), .fa 7 (.t 33), none⟩,
.op ⟨(some 35), .ld false 1 (.t 34), none⟩,
.op ⟨(some 36), .fa 1 (.t 5), none⟩,
.op ⟨(some 37), .fa 3 (.t 36), none⟩,
.op ⟨(some 38), .ld false 1 (.t 37), none⟩,
.op ⟨(some 39), .fa 1 (.t 5), none⟩,
.op ⟨(some 40), .fa 8 (.t 39), none⟩,
.op ⟨(some 41), .ld false 1 (.t 40), none⟩,
.op ⟨(some 42), .call 127 [(.t 35), (.t 38), (.t 41)], none⟩])
.skip))
(.reg [
⟨(some 43), .mv (.t 0), none⟩,
⟨(some 44), .ld true 2 (.t 4), none⟩,
⟨(some 45), .fa 2 (.t 3), none⟩,
⟨(some 46), .ld false 1 (.t 45), none⟩,
⟨(some 47), .fa 3 (.t 3), none⟩,
⟨(some 48), .ld false 1 (.t 47), none⟩,
⟨(some 49), .call 124 [(.t 43), (.t 44), (.t 46), (.t 48)], none⟩]))))))⟩
def f62 : AF := ⟨39, [], (.seq (.seq (.reg [
⟨(some 4), .mv (.t 0), none⟩,
⟨(some 5), .bin .eql .ptr (.t 4) (.c .np), none⟩])
(.cond (.t 5)
.ret
.skip))
(.seq (.reg [
⟨(some 6), .mv (.t 0), none⟩,
⟨(some 7), .nck (.t 6), none⟩,
⟨(some 8), .fa 0 (.t 7), none⟩,
⟨(some 9), .ld false 1 (.t 8), none⟩,
⟨(some 10), .len 1 (.t 9), none⟩,
⟨(some 11), .mv (.c (.i .i64 0)), none⟩])
(.blk 0 (.loop (.seq (.reg [
⟨(some 12), .bin .lss .no (.t 11) (.t 10), none⟩])
(.seq (.cond (.t 12)
.skip
(.exit 0))
(.seq (.blk 1 (.seq (.reg [
⟨(some 13), .mv (.t 11), none⟩,
⟨(some 2), .mv (.t 13), none⟩])
(.seq (.reg [
⟨(some 14), .mv (.t 0), none⟩,
⟨(some 15), .nck (.t 14), none⟩,
⟨(some 16), .fa 0 (.t 15), none⟩,
⟨(some 17), .ld false 1 (.t 16), none⟩,
⟨(some 18), .mv (.t 2), none⟩,
⟨(some 19), .iaL 2 (.t 17) (.t 18), none⟩,
⟨(some 3), .mv (.t 19), none⟩])
(.drw [
.op ⟨(some 20), .mv (.t 3), none⟩,
.op ⟨(some 21), .mv (.t 3), none⟩,
.op ⟨(some 22), .nck (.t 21), none⟩,
.op ⟨(some 23), .fa 1 (.t 22), none⟩,
.op ⟨(some 24), .ld false 1 (.t 23), none⟩,
.op ⟨(some 25), .mv (.t 24), none⟩,
.op ⟨(some 26), .mv (.t 3), (some (25, false))⟩,
.op ⟨(some 27), .nck (.t 26), (some (25, false))⟩,
.op ⟨(some 28), .fa 0 (.t 27), (some (25, false))⟩,
.op ⟨(some 29), .ld false 1 (.t 28), (some (25, false))⟩,
.op ⟨(some 30), .mv (.t 0), (some (25, false))⟩,
.op ⟨(some 31), .nck (.t 30), (some (25, false))⟩,
.op ⟨(some 32), .fa 1 (.t 31), (some (25, false))⟩,
.op ⟨(some 33), .ld false 1 (.t 32), (some (25, false))⟩,
.op ⟨(some 34), .bin .neq .int (.t 29) (.t 33), (some (25, false))⟩,
.op ⟨(some 35), .pick (.t 25) (.c (.b true)) (.t 34), none⟩,
.op ⟨(some 36), .nck (.t 20), none⟩,
.op ⟨(some 37), .fa 1 (.t 36), none⟩,
.op ⟨none, .st 1 (.t 37) (.t 35), none⟩]))))
(.reg [
⟨(some 38), .bin .add .no (.t 11) (.c (.i .i64 1)), none⟩,
⟨(some 11), .mv (.t 38), none⟩]))))))))⟩
def f63 : AF := ⟨17, [], (.seq (.reg [
⟨(some 5), .mv (.t 0), none⟩,
⟨(some 6), .nck (.t 5), none⟩,
⟨(some 7), .fa 6 (.t 6), none⟩,
⟨(some 8), .ld false 1 (.t 7), none⟩,
⟨(some 9), .call 128 [(.t 8)], none⟩,
⟨(some 4), .mv (.t 9), none⟩,
⟨(some 10), .xt (.t 4) 0, none⟩,
⟨(some 11), .xt (.t 4) 1, none⟩,
⟨(some 2), .mv (.t 10), none⟩,
⟨(some 3), .mv (.t 11), none⟩])
(.seq (.reg [
⟨(some 12), .mv (.t 3), none⟩])
(.cond (.t 12)
(.reg [
⟨(some 13), .mv (.t 0), none⟩,
⟨(some 14), .mv (.t 2), none⟩,
⟨(some 15), .build [(.i .i64 0), (.i .i64 0), .nsl] [(0, 1, (.c (.i .i64 4)))], none⟩,
⟨(some 16), .call 64 [(.t 13), (.t 14), (.t 15)], none⟩])
.skip)))⟩
def f64 : AF := ⟨43, [.t 6], (.seq (.reg [
⟨(some 5), .box 3 (.t 2), none⟩,
⟨(some 6), .mv (.c (.i .i64 0)), none⟩])
(.seq (.reg [
⟨(some 13), .mv (.t 0), none⟩,
⟨(some 14), .nck (.t 13), none⟩,
⟨(some 15), .fa 3 (.t 14), none⟩,
⟨(some 16), .ld false 1 (.t 15), none⟩,
⟨(some 17), .mv (.t 1), none⟩,
⟨(some 18), .lk .int (.ag [(.i .i64 0), (.i .i64 0), (.i .i64 0), .nsl, (.b false), (.i .i64 0), (.i .i64 0), .nsl, .nsl, (.b false)]) true (.t 16) (.t 17), none⟩,
⟨(some 12), .mv (.t 18), none⟩,
⟨(some 19), .xt (.t 12) 0, none⟩,
⟨(some 20), .xt (.t 12) 1, none⟩,
⟨(some 7), .alloc [(.i .i64 0), (.i .i64 0), (.i .i64 0), .nsl, (.b false), (.i .i64 0), (.i .i64 0), .nsl, .nsl, (.b false)], none⟩,
⟨none, .st 10 (.t 7) (.t 19), none⟩,
⟨(some 8), .mv (.t 20), none⟩])
(.seq (.seq (.reg [
⟨(some 21), .mv (.t 8), none⟩,
⟨(some 22), .un .not (.t 21), none⟩])
(.cond (.t 22)
(.seq (.reg [
⟨(some 6), .mv (.c (.i .i64 4)), none⟩])
.ret)
.skip))
(.seq (.reg [
⟨(some 24), .ld true 10 (.t 7), none⟩,
⟨(some 25), .ld true 3 (.t 5), none⟩,
⟨(some 26), .call 129 [(.t 24), (.t 25)], none⟩,
⟨(some 23), .mv (.t 26), none⟩,
⟨(some 27), .xt (.t 23) 0, none⟩,
⟨(some 28), .xt (.t 23) 1, none⟩,
⟨(some 29), .xt (.t 23) 2, none⟩,
⟨(some 9), .alloc [(.i .i64 0), (.i .i64 0), (.i .i64 0), .nsl, (.b false), (.i .i64 0), (.i .i64 0), .nsl, .nsl, (.b false)], none⟩,
⟨none, .st 10 (.t 9) (.t 27), none⟩,
⟨(some 10), .mv (.t 28), none⟩,
⟨(some 11), .mv (.t 29), none⟩])
(.seq (.seq (.reg [
⟨(some 30), .mv (.t 11), none⟩,
⟨(some 31), .bin .eql .int (.t 30) (.c (.i .i64 0)), none⟩])
(.cond (.t 31)
(.seq (.drw [
.op ⟨(some 32), .mv (.t 0), none⟩,
.op ⟨(some 33), .nck (.t 32), none⟩,
.op ⟨(some 34), .fa 3 (.t 33), none⟩,
.op ⟨(some 35), .ld false 1 (.t 34), none⟩,
.op ⟨(some 36), .mv (.t 1), none⟩,
.op ⟨(some 37), .ld true 10 (.t 9), none⟩,
.op ⟨none, .mu .int (.t 35) (.t 36) (.t 37), none⟩])
(.reg [
⟨(some 38), .mv (.t 0), none⟩,
⟨(some 39), .mv (.t 1), none⟩,
⟨(some 40), .mv (.t 10), none⟩,
⟨(some 41), .call 130 [(.t 38), (.t 39), (.t 40)], none⟩]))
.skip))
(.seq (.reg [
⟨(some 42), .mv (.t 11), none⟩,
⟨(some 6), .mv (.t 42), none⟩])
.ret))))))⟩
def f65 : AF := ⟨62, [.t 8], (.seq (.reg [
⟨(some 8), .mv (.c (.i .i64 0)), none⟩])
(.seq (.seq (.reg [
⟨(some 12), .mv (.t 0), none⟩,
⟨(some 13), .call 131 [(.t 12)], none⟩,
⟨(some 14), .mv (.t 13), none⟩,
⟨(some 15), .mv (.t 2), (some (14, true))⟩,
⟨(some 16), .bin .lss .no (.t 15) (.c (.i .i64 0)), (some (14, true))⟩,
⟨(some 17), .mv (.t 16), (some (14, true))⟩,
⟨(some 18), .mv (.t 2), (some (17, false))⟩,
⟨(some 19), .bin .geq .no (.t 18) (.c (.i .i64 8)), (some (17, false))⟩,
⟨(some 20), .pick (.t 17) (.c (.b true)) (.t 19), (some (14, true))⟩,
⟨(some 21), .pick (.t 14) (.t 20) (.c (.b false)), none⟩])
(.cond (.t 21)
(.seq (.reg [
⟨(some 8), .mv (.c (.i .i64 1)), none⟩])
.ret)
.skip))
(.seq (.reg [
⟨(some 23), .mv (.t 0), none⟩,
⟨(some 24), .mv (.t 1), none⟩,
⟨(some 25), .mv (.t 3), none⟩,
⟨(some 26), .call 107 [(.t 23), (.t 24), (.t 25)], none⟩,
⟨(some 22), .mv (.t 26), none⟩,
⟨(some 27), .xt (.t 22) 0, none⟩,
⟨(some 28), .xt (.t 22) 1, none⟩,
⟨(some 9), .alloc [(.i .i64 0), .nsl, .nsl, .nsl, .nm], none⟩,
⟨none, .st 5 (.t 9) (.t 27), none⟩,
⟨(some 10), .mv (.t 28), none⟩])
(.seq (.seq (.reg [
⟨(some 29), .mv (.t 10), none⟩,
⟨(some 30), .bin .neq .int (.t 29) (.c (.i .i64 0)), none⟩])
(.cond (.t 30)
(.seq (.reg [
⟨(some 31), .mv (.t 10), none⟩,
⟨(some 8), .mv (.t 31), none⟩])
.ret)
.skip))
(.seq (.seq (.reg [
⟨(some 32), .fa 4 (.t 9), none⟩,
⟨(some 33), .ld false 1 (.t 32), none⟩,
⟨(some 34), .mv (.t 2), none⟩,
⟨(some 35), .lk .int (.b false) false (.t 33) (.t 34), none⟩])
(.cond (.t 35)
(.seq (.reg [
⟨(some 8), .mv (.c (.i .i64 5)), none⟩])
.ret)
.skip))
(.seq (.reg [
⟨(some 37), .fa 0 (.t 9), none⟩,
⟨(some 38), .fa 1 (.t 37), none⟩,
⟨(some 39), .ld false 1 (.t 38), none⟩,
⟨(some 40), .fa 0 (.t 9), none⟩,
⟨(some 41), .fa 2 (.t 40), none⟩,
⟨(some 42), .ld false 1 (.t 41), none⟩,
⟨(some 43), .mv (.t 3), none⟩,
⟨(some 44), .call 132 [(.t 39), (.t 42), (.t 43)], none⟩,
⟨(some 36), .mv (.t 44), none⟩,
⟨(some 45), .xt (.t 36) 0, none⟩,
⟨(some 46), .xt (.t 36) 1, none⟩,
⟨(some 11), .mv (.t 45), none⟩,
⟨(some 10), .mv (.t 46), none⟩])
(.seq (.seq (.reg [
⟨(some 47), .mv (.t 10), none⟩,
⟨(some 48), .bin .eql .int (.t 47) (.c (.i .i64 0)), none⟩])
(.cond (.t 48)
(.seq (.reg [
⟨(some 49), .fa 4 (.t 9), none⟩,
⟨(some 50), .ld false 1 (.t 49), none⟩,
⟨(some 51), .mv (.t 2), none⟩,
⟨(some 52), .mv (.t 11), none⟩,
⟨(some 53), .fa 0 (.t 9), none⟩,
⟨(some 54), .fa 2 (.t 53), none⟩,
⟨none, .st 1 (.t 54) (.t 52), none⟩,
⟨none, .mu .int (.t 50) (.t 51) (.c (.b true)), none⟩])
(.drw [
.op ⟨(some 55), .mv (.t 0), none⟩,
.op ⟨(some 56), .nck (.t 55), none⟩,
.op ⟨(some 57), .fa 0 (.t 56), none⟩,
.op ⟨(some 58), .ld false 1 (.t 57), none⟩,
.op ⟨(some 59), .mv (.t 1), none⟩,
.op ⟨(some 60), .ld true 5 (.t 9), none⟩,
.op ⟨none, .mu .int (.t 58) (.t 59) (.t 60), none⟩]))
.skip))
(.seq (.reg [
⟨(some 61), .mv (.t 10), none⟩,
⟨(some 8), .mv (.t 61), none⟩])
.ret))))))))⟩
def f66 : AF := ⟨10, [.t 2], (.seq (.reg [
⟨(some 2), .mv (.c (.i .i64 0)), none⟩])
(.seq (.seq (.reg [
⟨(some 3), .mv (.t 0), none⟩,
⟨(some 4), .bin .eql .ptr (.t 3) (.c .np), none⟩])
(.cond (.t 4)
(.seq (.reg [
⟨(some 2), .mv (.c (.i .i64 0)), none⟩])
.ret)
.skip))
(.seq (.reg [
⟨(some 5), .mv (.t 0), none⟩,
⟨(some 6), .nck (.t 5), none⟩,
⟨(some 7), .fa 0 (.t 6), none⟩,
⟨(some 8), .ld false 1 (.t 7), none⟩,
⟨(some 9), .len 1 (.t 8), none⟩,
⟨(some 2), .mv (.t 9), none⟩])
.ret)))⟩
def f67 : AF := ⟨70, [.t 2], (.seq (.reg [
⟨(some 2), .mv (.c .nsl), none⟩])
(.seq (.seq (.reg [
⟨(some 11), .mv (.t 0), none⟩,
⟨(some 12), .call 116 [(.t 11)], none⟩,
⟨(some 13), .un .not (.t 12), none⟩])
(.cond (.t 13)
(.seq (.reg [
⟨(some 2), .mv (.c .nsl), none⟩])
.ret)
.skip))
(.seq (.drw [
.op ⟨(some 15), .mv (.t 0), none⟩,
.op ⟨(some 16), .nck (.t 15), none⟩,
.op ⟨(some 17), .fa 0 (.t 16), none⟩,
.op ⟨(some 18), .ld false 1 (.t 17), none⟩,
.op ⟨(some 14), .call 98 [], none⟩,
.chk ⟨(some 18), .ld false 1 (.t 17), none⟩,
.op ⟨(some 19), .len 2 (.t 18), none⟩,
.op ⟨(some 20), .call 101 [(.t 14), (.t 19)], none⟩,
.op ⟨(some 3), .mv (.t 20), none⟩])
(.seq (.seq (.reg [
⟨(some 21), .mv (.t 0), none⟩,
⟨(some 22), .nck (.t 21), none⟩,
⟨(some 23), .fa 0 (.t 22), none⟩,
⟨(some 24), .ld false 1 (.t 23), none⟩,
⟨(some 25), .call 133 [(.t 24)], none⟩,
⟨(some 26), .len 1 (.t 25), none⟩,
⟨(some 27), .mv (.c (.i .i64 0)), none⟩])
(.blk 0 (.loop (.seq (.reg [
⟨(some 28), .bin .lss .no (.t 27) (.t 26), none⟩])
(.seq (.cond (.t 28)
.skip
(.exit 0))
(.seq (.blk 1 (.seq (.reg [
⟨(some 29), .iaL 1 (.t 25) (.t 27), none⟩,
⟨(some 30), .ld false 1 (.t 29), none⟩,
⟨(some 5), .mv (.t 30), none⟩])
(.seq (.reg [
⟨(some 31), .mv (.t 0), none⟩,
⟨(some 32), .nck (.t 31), none⟩,
⟨(some 33), .fa 0 (.t 32), none⟩,
⟨(some 34), .ld false 1 (.t 33), none⟩,
⟨(some 35), .mv (.t 5), none⟩,
⟨(some 36), .lk .int (.ag [(.i .i64 0), .nm]) false (.t 34) (.t 35), none⟩,
⟨(some 6), .alloc [(.i .i64 0), .nm], none⟩,
⟨none, .st 2 (.t 6) (.t 36), none⟩])
(.seq (.drw [
.op ⟨(some 37), .mv (.t 3), none⟩,
.op ⟨(some 38), .mv (.t 5), none⟩,
.op ⟨(some 40), .fa 0 (.t 6), none⟩,
.op ⟨(some 41), .ld false 1 (.t 40), none⟩,
.op ⟨(some 43), .fa 1 (.t 6), none⟩,
.op ⟨(some 44), .ld false 1 (.t 43), none⟩,
.op ⟨(some 39), .call 101 [(.t 37), (.t 38)], none⟩,
.chk ⟨(some 41), .ld false 1 (.t 40), none⟩,
.chk ⟨(some 44), .ld false 1 (.t 43), none⟩,
.op ⟨(some 42), .call 101 [(.t 39), (.t 41)], none⟩,
.chk ⟨(some 44), .ld false 1 (.t 43), none⟩,
.op ⟨(some 45), .len 2 (.t 44), none⟩,
.op ⟨(some 46), .call 101 [(.t 42), (.t 45)], none⟩])
(.seq (.reg [
⟨(some 47), .fa 1 (.t 6), none⟩,
⟨(some 48), .ld false 1 (.t 47), none⟩,
⟨(some 49), .call 134 [(.t 48)], none⟩,
⟨(some 50), .len 1 (.t 49), none⟩,
⟨(some 51), .mv (.c (.i .i64 0)), none⟩])
(.blk 2 (.loop (.seq (.reg [
⟨(some 52), .bin .lss .no (.t 51) (.t 50), none⟩])
(.seq (.cond (.t 52)
.skip
(.exit 2))
(.seq (.blk 3 (.seq (.reg [
⟨(some 53), .iaL 1 (.t 49) (.t 51), none⟩,
⟨(some 54), .ld false 1 (.t 53), none⟩,
⟨(some 8), .mv (.t 54), none⟩])
(.reg [
⟨(some 55), .mv (.t 3), none⟩,
⟨(some 56), .mv (.t 8), none⟩,
⟨(some 57), .fa 1 (.t 6), none⟩,
⟨(some 58), .ld false 1 (.t 57), none⟩,
⟨(some 59), .mv (.t 8), none⟩,
⟨(some 60), .lk .int (.ag [(.i .u64 0), (.b false), (.i .i64 0), (.i .i64 0), (.i .i64 0), (.i .i64 0)]) false (.t 58) (.t 59), none⟩,
⟨(some 61), .call 135 [(.t 55), (.t 56), (.t 60)], none⟩])))
(.reg [
⟨(some 62), .bin .add .no (.t 51) (.c (.i .i64 1)), none⟩,
⟨(some 51), .mv (.t 62), none⟩])))))))))))
(.reg [
⟨(some 63), .bin .add .no (.t 27) (.c (.i .i64 1)), none⟩,
⟨(some 27), .mv (.t 63), none⟩])))))))
(.seq (.reg [
⟨(some 65), .mv (.t 3), none⟩,
⟨(some 66), .call 103 [(.t 65)], none⟩,
⟨(some 64), .mv (.t 66), none⟩,
⟨(some 67), .xt (.t 64) 0, none⟩,
⟨(some 68), .xt (.t 64) 1, none⟩,
⟨(some 9), .mv (.t 67), none⟩,
⟨(some 10), .mv (.t 68), none⟩])
(.seq (.reg [
⟨(some 69), .mv (.t 9), none⟩,
⟨(some 2), .mv (.t 69), none⟩])
.ret))))))⟩
def f75 : AF := ⟨21, [.t 2], (.seq (.reg [
⟨(some 2), .mv (.c (.s [])), none⟩])
(.seq (.seq (.reg [
⟨(some 3), .mv (.t 0), none⟩])
(.blk 0 (.seq (.seq (.reg [
⟨(some 5), .bin .eql .int (.t 3) (.c (.i .i64 1)), none⟩,
⟨(some 4), .mv (.t 5), none⟩])
(.cond (.t 4)
.skip
(.reg [
⟨(some 6), .bin .eql .int (.t 3) (.c (.i .i64 11)), none⟩,
⟨(some 4), .mv (.t 6), none⟩])))
(.cond (.t 4)
(.seq (.reg [
⟨(some 2), .mv (.c (.s [97])), none⟩])
.ret)
(.seq (.seq (.reg [
⟨(some 8), .bin .eql .int (.t 3) (.c (.i .i64 2)), none⟩,
⟨(some 7), .mv (.t 8), none⟩])
(.cond (.t 7)
.skip
(.reg [
⟨(some 9), .bin .eql .int (.t 3) (.c (.i .i64 12)), none⟩,
⟨(some 7), .mv (.t 9), none⟩])))
(.cond (.t 7)
(.seq (.reg [
⟨(some 2), .mv (.c (.s [121])), none⟩])
.ret)
(.seq (.seq (.reg [
⟨(some 11), .bin .eql .int (.t 3) (.c (.i .i64 3)), none⟩,
⟨(some 10), .mv (.t 11), none⟩])
(.cond (.t 10)
.skip
(.seq (.reg [
⟨(some 12), .bin .eql .int (.t 3) (.c (.i .i64 4)), none⟩,
⟨(some 10), .mv (.t 12), none⟩])
(.cond (.t 10)
.skip
(.seq (.reg [
⟨(some 13), .bin .eql .int (.t 3) (.c (.i .i64 8)), none⟩,
⟨(some 10), .mv (.t 13), none⟩])
(.cond (.t 10)
.skip
(.seq (.reg [
⟨(some 14), .bin .eql .int (.t 3) (.c (.i .i64 10)), none⟩,
⟨(some 10), .mv (.t 14), none⟩])
(.cond (.t 10)
.skip
(.reg [
⟨(some 15), .bin .eql .int (.t 3) (.c (.i .i64 13)), none⟩,
⟨(some 10), .mv (.t 15), none⟩])))))))))
(.cond (.t 10)
(.seq (.reg [
⟨(some 2), .mv (.c (.s [111, 105])), none⟩])
.ret)
(.seq (.seq (.reg [
⟨(some 17), .bin .eql .int (.t 3) (.c (.i .i64 5)), none⟩,
⟨(some 16), .mv (.t 17), none⟩])
(.cond (.t 16)
.skip
(.seq (.reg [
⟨(some 18), .bin .eql .int (.t 3) (.c (.i .i64 6)), none⟩,
⟨(some 16), .mv (.t 18), none⟩])
(.cond (.t 16)
.skip
(.seq (.reg [
⟨(some 19), .bin .eql .int (.t 3) (.c (.i .i64 7)), none⟩,
⟨(some 16), .mv (.t 19), none⟩])
(.cond (.t 16)
.skip
(.reg [
⟨(some 20), .bin .eql .int (.t 3) (.c (.i .i64 9)), none⟩,
⟨(some 16), .mv (.t 20), none⟩])))))))
(.cond (.t 16)
(.seq (.reg [
⟨(some 2), .mv (.c (.s [111])), none⟩])
.ret)
.skip))))))))))
(.seq (.reg [
⟨(some 2), .mv (.c (.s [])), none⟩])
.ret)))⟩
def f76 : AF := ⟨13, [.t 7], (.seq (.reg [
⟨(some 7), .mv (.c (.b false)), none⟩])
(.seq (.seq (.reg [
⟨(some 8), .ld false 1 (.t 3), none⟩,
⟨(some 9), .mv (.t 0), none⟩,
⟨(some 10), .call 77 [(.t 8), (.t 9)], none⟩])
(.cond (.t 10)
(.seq (.reg [
⟨(some 11), .mv (.t 1), none⟩,
⟨(some 7), .mv (.t 11), none⟩])
.ret)
.skip))
(.seq (.reg [
⟨(some 12), .mv (.t 2), none⟩,
⟨(some 7), .mv (.t 12), none⟩])
.ret)))⟩
def f77 : AF := ⟨9, [.t 4], (.seq (.reg [
⟨(some 4), .mv (.c (.b false)), none⟩])
(.seq (.reg [
⟨(some 5), .mv (.t 0), none⟩,
⟨(some 6), .mv (.t 1), none⟩,
⟨(some 7), .call 138 [(.t 5), (.t 6)], none⟩,
⟨(some 8), .bin .geq .no (.t 7) (.c (.i .i64 0)), none⟩,
⟨(some 4), .mv (.t 8), none⟩])
.ret))⟩
def f78 : AF := ⟨31, [.c 2 false 1], (.seq (.reg [
⟨(some 2), .alloc [(.b false)], none⟩])
(.seq (.reg [
⟨(some 3), .alloc [(.s [])], none⟩,
⟨none, .st 1 (.t 3) (.c (.s [])), none⟩])
(.seq (.seq (.reg [
⟨(some 6), .mv (.t 0), none⟩,
⟨(some 7), .call 97 [(.t 6)], none⟩])
(.blk 0 (.rf (.t 7) [8, 9] (.seq (.reg [
⟨(some 4), .mv (.t 8), none⟩])
(.reg [
⟨(some 5), .mv (.t 9), none⟩]))
(.blk 1 (.seq (.seq (.reg [
⟨(some 10), .mv (.t 4), none⟩,
⟨(some 11), .call 113 [(.t 10)], none⟩,
⟨(some 12), .un .not (.t 11), none⟩,
⟨(some 13), .mv (.t 12), none⟩,
⟨(some 14), .mv (.t 5), (some (13, false))⟩,
⟨(some 15), .bin .lss .no (.t 14) (.c (.i .i64 1)), (some (13, false))⟩,
⟨(some 16), .pick (.t 13) (.c (.b true)) (.t 15), none⟩,
⟨(some 17), .mv (.t 16), none⟩,
⟨(some 18), .mv (.t 5), (some (17, false))⟩,
⟨(some 19), .call 139 [(.t 18)], (some (17, false))⟩,
⟨(some 20), .un .not (.t 19), (some (17, false))⟩,
⟨(some 21), .pick (.t 17) (.c (.b true)) (.t 20), none⟩,
⟨(some 22), .mv (.t 21), none⟩,
⟨(some 23), .mv (.t 4), (some (22, false))⟩,
⟨(some 24), .ld false 1 (.t 3), (some (22, false))⟩,
⟨(some 25), .bin .leq .no (.t 23) (.t 24), (some (22, false))⟩,
⟨(some 26), .pick (.t 22) (.c (.b true)) (.t 25), none⟩])
(.cond (.t 26)
(.seq (.reg [
⟨none, .st 1 (.t 2) (.c (.b false)), none⟩])
.ret)
.skip))
(.reg [
⟨(some 27), .mv (.t 4), none⟩,
⟨none, .st 1 (.t 3) (.t 27), none⟩]))))))
(.seq (.reg [
⟨(some 28), .mv (.t 0), none⟩,
⟨(some 29), .len 1 (.t 28), none⟩,
⟨(some 30), .bin .leq .no (.t 29) (.c (.i .i64 16)), none⟩,
⟨none, .st 1 (.t 2) (.t 30), none⟩])
.ret))))⟩
def f79 : AF := ⟨68, [.t 4], (.seq (.reg [
⟨(some 2), .box 9 (.t 0), none⟩,
⟨(some 3), .box 9 (.t 1), none⟩,
⟨(some 4), .mv (.c (.b false)), none⟩])
(.seq (.reg [
⟨(some 6), .fa 0 (.t 2), none⟩,
⟨(some 7), .ld false 1 (.t 6), none⟩,
⟨(some 8), .fa 0 (.t 3), none⟩,
⟨(some 9), .ld false 1 (.t 8), none⟩,
⟨(some 10), .bin .eql .int (.t 7) (.t 9), none⟩,
⟨(some 11), .mv (.t 10), none⟩,
⟨(some 12), .fa 1 (.t 2), (some (11, true))⟩,
⟨(some 13), .ld false 1 (.t 12), (some (11, true))⟩,
⟨(some 14), .fa 1 (.t 3), (some (11, true))⟩,
⟨(some 15), .ld false 1 (.t 14), (some (11, true))⟩,
⟨(some 16), .bin .eql .int (.t 13) (.t 15), (some (11, true))⟩,
⟨(some 17), .pick (.t 11) (.t 16) (.c (.b false)), none⟩,
⟨(some 18), .mv (.t 17), none⟩,
⟨(some 19), .fa 2 (.t 2), (some (18, true))⟩,
⟨(some 20), .ld false 1 (.t 19), (some (18, true))⟩,
⟨(some 21), .fa 2 (.t 3), (some (18, true))⟩,
⟨(some 22), .ld false 1 (.t 21), (some (18, true))⟩,
⟨(some 23), .bin .eql .int (.t 20) (.t 22), (some (18, true))⟩,
⟨(some 24), .pick (.t 18) (.t 23) (.c (.b false)), none⟩,
⟨(some 25), .mv (.t 24), none⟩,
⟨(some 26), .fa 3 (.t 2), (some (25, true))⟩,
⟨(some 27), .ld false 1 (.t 26), (some (25, true))⟩,
⟨(some 28), .fa 3 (.t 3), (some (25, true))⟩,
⟨(some 29), .ld false 1 (.t 28), (some (25, true))⟩,
⟨(some 30), .bin .eql .int (.t 27) (.t 29), (some (25, true))⟩,
⟨(some 31), .pick (.t 25) (.t 30) (.c (.b false)), none⟩,
⟨(some 5), .mv (.t 31), none⟩])
(.seq (.reg [
⟨(some 32), .mv (.t 5), none⟩,
⟨(some 33), .mv (.t 32), none⟩,
⟨(some 34), .fa 4 (.t 2), (some (33, true))⟩,
⟨(some 35), .ld false 1 (.t 34), (some (33, true))⟩,
⟨(some 36), .fa 4 (.t 3), (some (33, true))⟩,
⟨(some 37), .ld false 1 (.t 36), (some (33, true))⟩,
⟨(some 38), .bin .eql .int (.t 35) (.t 37), (some (33, true))⟩,
⟨(some 39), .pick (.t 33) (.t 38) (.c (.b false)), none⟩,
⟨(some 40), .mv (.t 39), none⟩,
⟨(some 41), .fa 5 (.t 2), (some (40, true))⟩,
⟨(some 42), .ld false 1 (.t 41), (some (40, true))⟩,
⟨(some 43), .fa 5 (.t 3), (some (40, true))⟩,
⟨(some 44), .ld false 1 (.t 43), (some (40, true))⟩,
⟨(some 45), .bin .eql .int (.t 42) (.t 44), (some (40, true))⟩,
⟨(some 46), .pick (.t 40) (.t 45) (.c (.b false)), none⟩,
⟨(some 47), .mv (.t 46), none⟩,
⟨(some 48), .fa 6 (.t 2), (some (47, true))⟩,
⟨(some 49), .ld false 1 (.t 48), (some (47, true))⟩,
⟨(some 50), .fa 6 (.t 3), (some (47, true))⟩,
⟨(some 51), .ld false 1 (.t 50), (some (47, true))⟩,
⟨(some 52), .bin .eql .int (.t 49) (.t 51), (some (47, true))⟩,
⟨(some 53), .pick (.t 47) (.t 52) (.c (.b false)), none⟩,
⟨(some 54), .mv (.t 53), none⟩,
⟨(some 55), .fa 7 (.t 2), (some (54, true))⟩,
⟨(some 56), .ld false 1 (.t 55), (some (54, true))⟩,
⟨(some 57), .fa 7 (.t 3), (some (54, true))⟩,
⟨(some 58), .ld false 1 (.t 57), (some (54, true))⟩,
⟨(some 59), .bin .eql .str (.t 56) (.t 58), (some (54, true))⟩,
⟨(some 60), .pick (.t 54) (.t 59) (.c (.b false)), none⟩,
⟨(some 61), .mv (.t 60), none⟩,
⟨(some 62), .fa 8 (.t 2), (some (61, true))⟩,
⟨(some 63), .ld false 1 (.t 62), (some (61, true))⟩,
⟨(some 64), .fa 8 (.t 3), (some (61, true))⟩,
⟨(some 65), .ld false 1 (.t 64), (some (61, true))⟩,
⟨(some 66), .call 140 [(.t 63), (.t 65)], (some (61, true))⟩,
⟨(some 67), .pick (.t 61) (.t 66) (.c (.b false)), none⟩,
⟨(some 4), .mv (.t 67), none⟩])
.ret)))⟩
def f80 : AF := ⟨33, [.t 2], (.seq (.reg [
⟨(some 1), .box 4 (.t 0), none⟩,
⟨(some 2), .mv (.c (.b false)), none⟩])
(.seq (.reg [
⟨(some 4), .fa 0 (.t 1), none⟩,
⟨(some 5), .ld false 1 (.t 4), none⟩,
⟨(some 6), .bin .geq .no (.t 5) (.c (.i .i64 0)), none⟩,
⟨(some 7), .mv (.t 6), none⟩,
⟨(some 8), .fa 0 (.t 1), (some (7, true))⟩,
⟨(some 9), .ld false 1 (.t 8), (some (7, true))⟩,
⟨(some 10), .bin .lss .no (.t 9) (.c (.i .i64 64)), (some (7, true))⟩,
⟨(some 11), .pick (.t 7) (.t 10) (.c (.b false)), none⟩,
⟨(some 12), .mv (.t 11), none⟩,
⟨(some 13), .fa 1 (.t 1), (some (12, true))⟩,
⟨(some 14), .ld false 1 (.t 13), (some (12, true))⟩,
⟨(some 15), .bin .geq .no (.t 14) (.c (.i .i64 1)), (some (12, true))⟩,
⟨(some 16), .pick (.t 12) (.t 15) (.c (.b false)), none⟩,
⟨(some 17), .mv (.t 16), none⟩,
⟨(some 18), .fa 1 (.t 1), (some (17, true))⟩,
⟨(some 19), .ld false 1 (.t 18), (some (17, true))⟩,
⟨(some 20), .bin .leq .no (.t 19) (.c (.i .i64 4294967296)), (some (17, true))⟩,
⟨(some 21), .pick (.t 17) (.t 20) (.c (.b false)), none⟩,
⟨(some 3), .mv (.t 21), none⟩])
(.seq (.reg [
⟨(some 22), .mv (.t 3), none⟩,
⟨(some 23), .mv (.t 22), none⟩,
⟨(some 24), .fa 2 (.t 1), (some (23, true))⟩,
⟨(some 25), .ld false 1 (.t 24), (some (23, true))⟩,
⟨(some 26), .bin .geq .no (.t 25) (.c (.i .i64 0)), (some (23, true))⟩,
⟨(some 27), .pick (.t 23) (.t 26) (.c (.b false)), none⟩,
⟨(some 28), .mv (.t 27), none⟩,
⟨(some 29), .fa 2 (.t 1), (some (28, true))⟩,
⟨(some 30), .ld false 1 (.t 29), (some (28, true))⟩,
⟨(some 31), .bin .leq .no (.t 30) (.c (.i .i64 1000)), (some (28, true))⟩,
⟨(some 32), .pick (.t 28) (.t 31) (.c (.b false)), none⟩,
⟨(some 2), .mv (.t 32), none⟩])
.ret)))⟩
def f83 : AF := ⟨21, [.t 4, .t 5], (.seq (.reg [
⟨(some 4), .mv (.c .nsl), none⟩,
⟨(some 5), .mv (.c (.i .i64 0)), none⟩])
(.seq (.seq (.reg [
⟨(some 6), .mv (.t 0), none⟩,
⟨(some 7), .call 78 [(.t 6)], none⟩,
⟨(some 8), .un .not (.t 7), none⟩,
⟨(some 9), .mv (.t 8), none⟩,
⟨(some 10), .mv (.t 1), (some (9, false))⟩,
⟨(some 11), .call 78 [(.t 10)], (some (9, false))⟩,
⟨(some 12), .un .not (.t 11), (some (9, false))⟩,
⟨(some 13), .pick (.t 9) (.c (.b true)) (.t 12), none⟩])
(.cond (.t 13)
(.seq (.reg [
⟨(some 4), .mv (.c .nsl), none⟩,
⟨(some 5), .mv (.c (.i .i64 60)), none⟩])
.ret)
.skip))
(.seq (.reg [
⟨(some 14), .mv (.t 0), none⟩,
⟨(some 15), .mv (.t 1), none⟩,
⟨(some 16), .bsl 2 [.nsl] [(0, 1, (.t 14)), (1, 1, (.t 15))], none⟩,
⟨(some 17), .call 143 [(.t 16)], none⟩,
⟨(some 18), .call 142 [(.t 17)], none⟩,
⟨(some 19), .xt (.t 18) 0, none⟩,
⟨(some 20), .xt (.t 18) 1, none⟩,
⟨(some 4), .mv (.t 19), none⟩,
⟨(some 5), .mv (.t 20), none⟩])
.ret)))⟩
def f97 : AF := ⟨4, [.t 2], (.seq (.reg [
⟨(some 1), .box 1 (.t 0), none⟩,
⟨(some 2), .mv (.c .nf), none⟩])
(.seq (.reg [
⟨(some 3), .mkf 156 [] [(.t 1)], none⟩,
⟨(some 2), .mv (.t 3), none⟩])
.ret))⟩
def f98 : AF := ⟨3, [.t 0], (.seq (.reg [
⟨(some 0), .mv (.c .np), none⟩])
(.seq (.reg [
⟨(some 1), .build [.nsl, (.b false)] [], none⟩,
⟨(some 2), .box 2 (.t 1), none⟩,
⟨(some 0), .mv (.t 2), none⟩])
.ret))⟩
def f99 : AF := ⟨13, [.t 4], (.seq (.reg [
⟨(some 4), .mv (.c .np), none⟩])
(.seq (.reg [
⟨(some 5), .mv (.t 0), none⟩,
⟨(some 6), .mv (.t 1), none⟩,
⟨(some 7), .len 0 (.t 6), none⟩,
⟨(some 8), .call 158 [(.t 7)], none⟩,
⟨(some 9), .mv (.t 1), none⟩,
⟨(some 10), .cvsb (.t 9), none⟩,
⟨(some 11), .bsl 2 [.nsl] [(0, 1, (.t 8)), (1, 1, (.t 10))], none⟩,
⟨(some 12), .call 157 [(.t 5), (.t 11)], none⟩,
⟨(some 4), .mv (.t 12), none⟩])
.ret))⟩
def f101 : AF := ⟨10, [.t 4], (.seq (.reg [
⟨(some 4), .mv (.c .np), none⟩])
(.seq (.reg [
⟨(some 5), .mv (.t 0), none⟩,
⟨(some 6), .mv (.t 1), none⟩,
⟨(some 7), .call 158 [(.t 6)], none⟩,
⟨(some 8), .bsl 1 [.nsl] [(0, 1, (.t 7))], none⟩,
⟨(some 9), .call 157 [(.t 5), (.t 8)], none⟩,
⟨(some 4), .mv (.t 9), none⟩])
.ret))⟩
def f103 : AF := ⟨17, [.t 2, .t 3], (.seq (.reg [
⟨(some 2), .mv (.c .nsl), none⟩,
⟨(some 3), .mv (.c (.i .i64 0)), none⟩])
(.seq (.blk 0 (.seq (.reg [
⟨(some 5), .mv (.t 0), none⟩,
⟨(some 6), .bin .eql .ptr (.t 5) (.c .np), none⟩,
⟨(some 4), .mv (.t 6), none⟩])
(.cond (.t 4)
(.seq (.reg [
⟨(some 2), .mv (.c .nsl), none⟩,
⟨(some 3), .mv (.c (.i .i64 6)), none⟩])
.ret)
(.seq (.reg [
⟨(some 8), .mv (.t 0), none⟩,
⟨(some 9), .nck (.t 8), none⟩,
⟨(some 10), .fa 1 (.t 9), none⟩,
⟨(some 11), .ld false 1 (.t 10), none⟩,
⟨(some 7), .mv (.t 11), none⟩])
(.cond (.t 7)
(.seq (.reg [
⟨(some 2), .mv (.c .nsl), none⟩,
⟨(some 3), .mv (.c (.i .i64 3)), none⟩])
.ret)
.skip)))))
(.seq (.reg [
⟨(some 12), .mv (.t 0), none⟩,
⟨(some 13), .nck (.t 12), none⟩,
⟨(some 14), .fa 0 (.t 13), none⟩,
⟨(some 15), .ld false 1 (.t 14), none⟩,
⟨(some 16), .call 160 [(.t 15)], none⟩,
⟨(some 2), .mv (.t 16), none⟩,
⟨(some 3), .mv (.c (.i .i64 0)), none⟩])
.ret)))⟩
def f104 : AF := ⟨5, [.t 2], (.seq (.reg [
⟨(some 2), .mv (.c .nsl), none⟩])
(.seq (.reg [
⟨(some 3), .mv (.t 0), none⟩,
⟨(some 4), .call 161 [(.c .nsl), (.t 3)], none⟩,
⟨(some 2), .mv (.t 4), none⟩])
.ret))⟩
def f105 : AF := ⟨11, [], (.seq (.reg [
⟨(some 3), .mv (.t 0), none⟩,
⟨(some 4), .len 1 (.t 3), none⟩,
⟨(some 2), .mv (.t 4), none⟩])
(.reg [
⟨(some 5), .mv (.t 0), none⟩,
⟨(some 6), .mv (.t 2), none⟩,
⟨(some 7), .mv (.t 2), none⟩,
⟨(some 8), .cvi .u64 (.t 7), none⟩,
⟨(some 9), .call 163 [(.t 8)], none⟩,
⟨(some 10), .call 162 [(.t 5), (.c (.i .i64 0)), (.t 6), (.t 9)], none⟩]))⟩
def f106 : AF := ⟨14, [], (.seq (.reg [
⟨(some 4), .ld false 1 (.t 1), none⟩,
⟨(some 5), .rng false (.t 4), none⟩])
(.blk 0 (.loop (.seq (.reg [
⟨(some 6), .nxt false (.t 5), none⟩,
⟨(some 7), .xt (.t 6) 0, none⟩])
(.seq (.cond (.t 7)
.skip
(.exit 0))
(.blk 1 (.seq (.reg [
⟨(some 8), .ent (.t 5), none⟩,
⟨(some 9), .xt (.t 8) 0, none⟩,
⟨(some 3), .mv (.t 9), none⟩])
(.seq (.reg [
⟨(some 10), .mv (.t 0), none⟩,
⟨(some 11), .mv (.t 3), none⟩,
⟨(some 12), .cald (.t 10) [(.t 11)], none⟩,
⟨(some 13), .un .not (.t 12), none⟩])
(.cond (.t 13)
.ret
.skip)))))))))⟩
def f107 : AF := ⟨33, [.c 6 true 5, .t 7], (.seq (.reg [
⟨(some 6), .alloc [(.i .i64 0), .nsl, .nsl, .nsl, .nm], none⟩,
⟨(some 7), .mv (.c (.i .i64 0)), none⟩])
(.seq (.seq (.reg [
⟨(some 10), .mv (.t 0), none⟩,
⟨(some 11), .call 131 [(.t 10)], none⟩,
⟨(some 12), .un .not (.t 11), none⟩])
(.cond (.t 12)
(.seq (.reg [
⟨(some 13), .build [(.i .i64 0), .nsl, .nsl, .nsl, .nm] [], none⟩,
⟨none, .st 5 (.t 6) (.t 13), none⟩,
⟨(some 7), .mv (.c (.i .i64 6)), none⟩])
.ret)
.skip))
(.seq (.reg [
⟨(some 15), .mv (.t 0), none⟩,
⟨(some 16), .nck (.t 15), none⟩,
⟨(some 17), .fa 0 (.t 16), none⟩,
⟨(some 18), .ld false 1 (.t 17), none⟩,
⟨(some 19), .mv (.t 1), none⟩,
⟨(some 20), .lk .int (.ag [(.i .i64 0), .nsl, .nsl, .nsl, .nm]) true (.t 18) (.t 19), none⟩,
⟨(some 14), .mv (.t 20), none⟩,
⟨(some 21), .xt (.t 14) 0, none⟩,
⟨(some 22), .xt (.t 14) 1, none⟩,
⟨(some 8), .alloc [(.i .i64 0), .nsl, .nsl, .nsl, .nm], none⟩,
⟨none, .st 5 (.t 8) (.t 21), none⟩,
⟨(some 9), .mv (.t 22), none⟩])
(.seq (.blk 0 (.seq (.reg [
⟨(some 24), .mv (.t 9), none⟩,
⟨(some 25), .un .not (.t 24), none⟩,
⟨(some 23), .mv (.t 25), none⟩])
(.cond (.t 23)
(.seq (.reg [
⟨(some 26), .build [(.i .i64 0), .nsl, .nsl, .nsl, .nm] [], none⟩,
⟨none, .st 5 (.t 6) (.t 26), none⟩,
⟨(some 7), .mv (.c (.i .i64 4)), none⟩])
.ret)
(.seq (.reg [
⟨(some 28), .mv (.t 2), none⟩,
⟨(some 29), .call 78 [(.t 28)], none⟩,
⟨(some 30), .un .not (.t 29), none⟩,
⟨(some 27), .mv (.t 30), none⟩])
(.cond (.t 27)
(.seq (.reg [
⟨(some 31), .build [(.i .i64 0), .nsl, .nsl, .nsl, .nm] [], none⟩,
⟨none, .st 5 (.t 6) (.t 31), none⟩,
⟨(some 7), .mv (.c (.i .i64 60)), none⟩])
.ret)
.skip)))))
(.seq (.reg [
⟨(some 32), .ld true 5 (.t 8), none⟩,
⟨none, .st 5 (.t 6) (.t 32), none⟩,
⟨(some 7), .mv (.c (.i .i64 0)), none⟩])
.ret)))))⟩
def f108 : AF := ⟨15, [.c 2 true 4], (.seq (.reg [
⟨(some 1), .box 4 (.t 0), none⟩,
⟨(some 2), .alloc [(.i .i64 0), .nsl, .nsl, .nsl], none⟩])
(.seq (.drw [
.op ⟨(some 3), .fa 0 (.t 1), none⟩,
.op ⟨(some 4), .ld false 1 (.t 3), none⟩,
.op ⟨(some 5), .fa 1 (.t 1), none⟩,
.op ⟨(some 6), .ld false 1 (.t 5), none⟩,
.op ⟨(some 8), .fa 2 (.t 1), none⟩,
.op ⟨(some 9), .ld false 1 (.t 8), none⟩,
.op ⟨(some 11), .fa 3 (.t 1), none⟩,
.op ⟨(some 12), .ld false 1 (.t 11), none⟩,
.op ⟨(some 7), .call 48 [(.t 6)], none⟩,
.chk ⟨(some 4), .ld false 1 (.t 3), none⟩,
.chk ⟨(some 9), .ld false 1 (.t 8), none⟩,
.chk ⟨(some 12), .ld false 1 (.t 11), none⟩,
.op ⟨(some 10), .call 48 [(.t 9)], none⟩,
.chk ⟨(some 4), .ld false 1 (.t 3), none⟩,
.chk ⟨(some 12), .ld false 1 (.t 11), none⟩,
.op ⟨(some 13), .call 48 [(.t 12)], none⟩,
.chk ⟨(some 4), .ld false 1 (.t 3), none⟩,
.op ⟨(some 14), .build [(.i .i64 0), .nsl, .nsl, .nsl] [(0, 1, (.t 4)), (1, 1, (.t 7)), (2, 1, (.t 10)), (3, 1, (.t 13))], none⟩,
.op ⟨none, .st 4 (.t 2) (.t 14), none⟩])
.ret))⟩
def f109 : AF := ⟨22, [.t 2], (.seq (.reg [
⟨(some 2), .mv (.c (.s [])), none⟩])
(.seq (.seq (.reg [
⟨(some 3), .mv (.t 0), none⟩])
(.blk 0 (.seq (.reg [
⟨(some 5), .bin .eql .int (.t 3) (.c (.i .i64 1)), none⟩,
⟨(some 4), .mv (.t 5), none⟩])
(.cond (.t 4)
(.seq (.reg [
⟨(some 2), .mv (.c (.s [110, 105])), none⟩])
.ret)
(.seq (.seq (.reg [
⟨(some 7), .bin .eql .int (.t 3) (.c (.i .i64 2)), none⟩,
⟨(some 6), .mv (.t 7), none⟩])
(.cond (.t 6)
.skip
(.seq (.reg [
⟨(some 8), .bin .eql .int (.t 3) (.c (.i .i64 3)), none⟩,
⟨(some 6), .mv (.t 8), none⟩])
(.cond (.t 6)
.skip
(.reg [
⟨(some 9), .bin .eql .int (.t 3) (.c (.i .i64 4)), none⟩,
⟨(some 6), .mv (.t 9), none⟩])))))
(.cond (.t 6)
(.seq (.reg [
⟨(some 2), .mv (.c (.s [111])), none⟩])
.ret)
(.seq (.reg [
⟨(some 11), .bin .eql .int (.t 3) (.c (.i .i64 5)), none⟩,
⟨(some 10), .mv (.t 11), none⟩])
(.cond (.t 10)
(.seq (.reg [
⟨(some 2), .mv (.c (.s [111, 114, 105])), none⟩])
.ret)
(.seq (.seq (.reg [
⟨(some 13), .bin .eql .int (.t 3) (.c (.i .i64 6)), none⟩,
⟨(some 12), .mv (.t 13), none⟩])
(.cond (.t 12)
.skip
(.seq (.reg [
⟨(some 14), .bin .eql .int (.t 3) (.c (.i .i64 8)), none⟩,
⟨(some 12), .mv (.t 14), none⟩])
(.cond (.t 12)
.skip
(.reg [
⟨(some 15), .bin .eql .int (.t 3) (.c (.i .i64 9)), none⟩,
⟨(some 12), .mv (.t 15), none⟩])))))
(.cond (.t 12)
(.seq (.reg [
⟨(some 2), .mv (.c (.s [114, 105])), none⟩])
.ret)
(.seq (.reg [
⟨(some 17), .bin .eql .int (.t 3) (.c (.i .i64 7)), none⟩,
⟨(some 16), .mv (.t 17), none⟩])
(.cond (.t 16)
(.seq (.reg [
⟨(some 2), .mv (.c (.s [114, 110, 103])), none⟩])
.ret)
(.seq (.reg [
⟨(some 19), .bin .eql .int (.t 3) (.c (.i .i64 10)), none⟩,
⟨(some 18), .mv (.t 19), none⟩])
(.cond (.t 18)
(.seq (.reg [
⟨(some 2), .mv (.c (.s [114, 116, 105])), none⟩])
.ret)
(.seq (.reg [
⟨(some 21), .bin .eql .int (.t 3) (.c (.i .i64 11)), none⟩,
⟨(some 20), .mv (.t 21), none⟩])
(.cond (.t 20)
(.seq (.reg [
⟨(some 2), .mv (.c (.s [110])), none⟩])
.ret)
.skip))))))))))))))))
(.seq (.reg [
⟨(some 2), .mv (.c (.s [])), none⟩])
.ret)))⟩
def f110 : AF := ⟨13, [.t 7], (.seq (.reg [
⟨(some 7), .mv (.c (.b false)), none⟩])
(.seq (.seq (.reg [
⟨(some 8), .ld false 1 (.t 3), none⟩,
⟨(some 9), .mv (.t 0), none⟩,
⟨(some 10), .call 77 [(.t 8), (.t 9)], none⟩])
(.cond (.t 10)
(.seq (.reg [
⟨(some 11), .mv (.t 1), none⟩,
⟨(some 7), .mv (.t 11), none⟩])
.ret)
.skip))
(.seq (.reg [
⟨(some 12), .mv (.t 2), none⟩,
⟨(some 7), .mv (.t 12), none⟩])
.ret)))⟩
def f111 : AF := ⟨5, [.t 2], (.seq (.reg [
⟨(some 2), .mv (.c (.b false)), none⟩])
(.seq (.reg [
⟨(some 3), .mv (.t 0), none⟩,
⟨(some 4), .call 112 [(.t 3), (.c (.i .i64 0)), (.c (.i .i64 7))], none⟩,
⟨(some 2), .mv (.t 4), none⟩])
.ret))⟩
def f112 : AF := ⟨15, [.t 6], (.seq (.reg [
⟨(some 6), .mv (.c (.b false)), none⟩])
(.seq (.reg [
⟨(some 7), .mv (.t 0), none⟩,
⟨(some 8), .mv (.t 1), none⟩,
⟨(some 9), .bin .geq .no (.t 7) (.t 8), none⟩,
⟨(some 10), .mv (.t 9), none⟩,
⟨(some 11), .mv (.t 0), (some (10, true))⟩,
⟨(some 12), .mv (.t 2), (some (10, true))⟩,
⟨(some 13), .bin .leq .no (.t 11) (.t 12), (some (10, true))⟩,
⟨(some 14), .pick (.t 10) (.t 13) (.c (.b false)), none⟩,
⟨(some 6), .mv (.t 14), none⟩])
.ret))⟩
def f113 : AF := ⟨35, [.t 2], (.seq (.reg [
⟨(some 2), .mv (.c (.b false)), none⟩])
(.seq (.seq (.reg [
⟨(some 5), .mv (.t 0), none⟩,
⟨(some 6), .rng true (.t 5), none⟩])
(.blk 0 (.loop (.seq (.reg [
⟨(some 7), .nxt true (.t 6), none⟩,
⟨(some 8), .xt (.t 7) 0, none⟩])
(.seq (.cond (.t 8)
.skip
(.exit 0))
(.blk 1 (.seq (.reg [
⟨(some 9), .xt (.t 7) 2, none⟩,
⟨(some 4), .mv (.t 9), none⟩])
(.seq (.reg [
⟨(some 10), .mv (.t 4), none⟩,
⟨(some 11), .bin .lss .no (.t 10) (.c (.i .i32 97)), none⟩,
⟨(some 12), .mv (.t 11), none⟩,
⟨(some 13), .mv (.t 4), (some (12, false))⟩,
⟨(some 14), .bin .gtr .no (.t 13) (.c (.i .i32 122)), (some (12, false))⟩,
⟨(some 15), .pick (.t 12) (.c (.b true)) (.t 14), none⟩,
⟨(some 16), .mv (.t 15), none⟩,
⟨(some 17), .mv (.t 4), (some (16, true))⟩,
⟨(some 18), .bin .lss .no (.t 17) (.c (.i .i32 48)), (some (16, true))⟩,
⟨(some 19), .mv (.t 18), (some (16, true))⟩,
⟨(some 20), .mv (.t 4), (some (19, false))⟩,
⟨(some 21), .bin .gtr .no (.t 20) (.c (.i .i32 57)), (some (19, false))⟩,
⟨(some 22), .pick (.t 19) (.c (.b true)) (.t 21), (some (16, true))⟩,
⟨(some 23), .pick (.t 16) (.t 22) (.c (.b false)), none⟩,
⟨(some 24), .mv (.t 23), none⟩,
⟨(some 25), .mv (.t 4), (some (24, true))⟩,
⟨(some 26), .bin .neq .int (.t 25) (.c (.i .i32 45)), (some (24, true))⟩,
⟨(some 27), .pick (.t 24) (.t 26) (.c (.b false)), none⟩])
(.cond (.t 27)
(.seq (.reg [
⟨(some 2), .mv (.c (.b false)), none⟩])
.ret)
.skip)))))))))
(.seq (.reg [
⟨(some 28), .mv (.t 0), none⟩,
⟨(some 29), .bin .neq .str (.t 28) (.c (.s [])), none⟩,
⟨(some 30), .mv (.t 29), none⟩,
⟨(some 31), .mv (.t 0), (some (30, true))⟩,
⟨(some 32), .len 0 (.t 31), (some (30, true))⟩,
⟨(some 33), .bin .leq .no (.t 32) (.c (.i .i64 16)), (some (30, true))⟩,
⟨(some 34), .pick (.t 30) (.t 33) (.c (.b false)), none⟩,
⟨(some 2), .mv (.t 34), none⟩])
.ret)))⟩
def f114 : AF := ⟨23, [.t 2], (.seq (.reg [
⟨(some 1), .box 9 (.t 0), none⟩,
⟨(some 2), .mv (.c (.b false)), none⟩])
(.seq (.seq (.reg [
⟨(some 3), .fa 2 (.t 1), none⟩,
⟨(some 4), .ld false 1 (.t 3), none⟩])
(.blk 0 (.seq (.reg [
⟨(some 6), .bin .eql .int (.t 4) (.c (.i .i64 1)), none⟩,
⟨(some 5), .mv (.t 6), none⟩])
(.cond (.t 5)
(.seq (.reg [
⟨(some 7), .fa 6 (.t 1), none⟩,
⟨(some 8), .ld false 1 (.t 7), none⟩,
⟨(some 9), .call 112 [(.t 8), (.c (.i .i64 0)), (.c (.i .i64 1))], none⟩,
⟨(some 2), .mv (.t 9), none⟩])
.ret)
(.seq (.reg [
⟨(some 11), .bin .eql .int (.t 4) (.c (.i .i64 7)), none⟩,
⟨(some 10), .mv (.t 11), none⟩])
(.cond (.t 10)
(.seq (.reg [
⟨(some 12), .fa 6 (.t 1), none⟩,
⟨(some 13), .ld false 1 (.t 12), none⟩,
⟨(some 14), .call 139 [(.t 13)], none⟩,
⟨(some 2), .mv (.t 14), none⟩])
.ret)
(.seq (.reg [
⟨(some 16), .bin .eql .int (.t 4) (.c (.i .i64 11)), none⟩,
⟨(some 15), .mv (.t 16), none⟩])
(.cond (.t 15)
(.seq (.reg [
⟨(some 17), .fa 6 (.t 1), none⟩,
⟨(some 18), .ld false 1 (.t 17), none⟩,
⟨(some 19), .call 112 [(.t 18), (.c (.i .i64 1)), (.c (.i .i64 4294967297))], none⟩,
⟨(some 2), .mv (.t 19), none⟩])
.ret)
.skip))))))))
(.seq (.reg [
⟨(some 20), .fa 6 (.t 1), none⟩,
⟨(some 21), .ld false 1 (.t 20), none⟩,
⟨(some 22), .bin .eql .int (.t 21) (.c (.i .i64 0)), none⟩,
⟨(some 2), .mv (.t 22), none⟩])
.ret)))⟩
def f115 : AF := ⟨18, [], (.seq (.reg [
⟨(some 5), .box 16 (.t 2), none⟩])
(.drw [
.op ⟨(some 6), .mv (.t 0), none⟩,
.op ⟨(some 7), .mv (.t 0), none⟩,
.op ⟨(some 8), .nck (.t 7), none⟩,
.op ⟨(some 9), .fa 8 (.t 8), none⟩,
.op ⟨(some 10), .ld false 1 (.t 9), none⟩,
.op ⟨(some 11), .mv (.t 1), none⟩,
.op ⟨(some 12), .ld true 16 (.t 5), none⟩,
.op ⟨(some 13), .build [(.i .i64 0), (.i .i64 0), (.i .i64 0), .nsl, (.i .i64 0), (.i .i64 0), (.i .i64 0), (.i .i64 0), (.i .i64 0), (.i .i64 0), (.i .i64 0), (.s []), .nsl, (.i .i64 0), (.i .i64 0), (.i .i64 0), (.i .i64 0)] [(0, 1, (.t 11)), (1, 16, (.t 12))], none⟩,
.op ⟨(some 14), .bsl 1 [(.i .i64 0), (.i .i64 0), (.i .i64 0), .nsl, (.i .i64 0), (.i .i64 0), (.i .i64 0), (.i .i64 0), (.i .i64 0), (.i .i64 0), (.i .i64 0), (.s []), .nsl, (.i .i64 0), (.i .i64 0), (.i .i64 0), (.i .i64 0)] [(0, 17, (.t 13))], none⟩,
.chk ⟨(some 10), .ld false 1 (.t 9), none⟩,
.op ⟨(some 15), .app 17 176 [(.i .i64 0), (.i .i64 0), (.i .i64 0), .nsl, (.i .i64 0), (.i .i64 0), (.i .i64 0), (.i .i64 0), (.i .i64 0), (.i .i64 0), (.i .i64 0), (.s []), .nsl, (.i .i64 0), (.i .i64 0), (.i .i64 0), (.i .i64 0)] (.t 10) (.t 14), none⟩,
.op ⟨(some 16), .nck (.t 6), none⟩,
.op ⟨(some 17), .fa 8 (.t 16), none⟩,
.op ⟨none, .st 1 (.t 17) (.t 15), none⟩]))⟩
def f116 : AF := ⟨12, [.t 2], (.seq (.reg [
⟨(some 2), .mv (.c (.b false)), none⟩])
(.seq (.reg [
⟨(some 3), .mv (.t 0), none⟩,
⟨(some 4), .bin .neq .ptr (.t 3) (.c .np), none⟩,
⟨(some 5), .mv (.t 4), none⟩,
⟨(some 6), .mv (.t 0), (some (5, true))⟩,
⟨(some 7), .nck (.t 6), (some (5, true))⟩,
⟨(some 8), .fa 0 (.t 7), (some (5, true))⟩,
⟨(some 9), .ld false 1 (.t 8), (some (5, true))⟩,
⟨(some 10), .bin .neq .nilm (.t 9) (.c .nm), (some (5, true))⟩,
⟨(some 11), .pick (.t 5) (.t 10) (.c (.b false)), none⟩,
⟨(some 2), .mv (.t 11), none⟩])
.ret))⟩
def f117 : AF := ⟨9, [.t 2], (.seq (.reg [
⟨(some 2), .mv (.c (.b false)), none⟩])
(.seq (.reg [
⟨(some 3), .mv (.t 0), none⟩,
⟨(some 4), .bin .geq .no (.t 3) (.c (.i .i64 0)), none⟩,
⟨(some 5), .mv (.t 4), none⟩,
⟨(some 6), .mv (.t 0), (some (5, true))⟩,
⟨(some 7), .bin .lss .no (.t 6) (.c (.i .i64 64)), (some (5, true))⟩,
⟨(some 8), .pick (.t 5) (.t 7) (.c (.b false)), none⟩,
⟨(some 2), .mv (.t 8), none⟩])
.ret))⟩
def f118 : AF := ⟨9, [.t 2], (.seq (.reg [
⟨(some 2), .mv (.c (.b false)), none⟩])
(.seq (.reg [
⟨(some 3), .mv (.t 0), none⟩,
⟨(some 4), .bin .geq .no (.t 3) (.c (.i .i64 1)), none⟩,
⟨(some 5), .mv (.t 4), none⟩,
⟨(some 6), .mv (.t 0), (some (5, true))⟩,
⟨(some 7), .bin .leq .no (.t 6) (.c (.i .i64 4294967296)), (some (5, true))⟩,
⟨(some 8), .pick (.t 5) (.t 7) (.c (.b false)), none⟩,
⟨(some 2), .mv (.t 8), none⟩])
.ret))⟩
def f119 : AF := ⟨21, [.c 4 true 2], (.seq (.reg [
⟨(some 4), .alloc [(.i .i64 0), .nm], none⟩])
(.seq (.reg [
⟨(some 8), .mv (.t 0), none⟩,
⟨(some 9), .nck (.t 8), none⟩,
⟨(some 10), .fa 0 (.t 9), none⟩,
⟨(some 11), .ld false 1 (.t 10), none⟩,
⟨(some 12), .mv (.t 1), none⟩,
⟨(some 13), .lk .int (.ag [(.i .i64 0), .nm]) true (.t 11) (.t 12), none⟩,
⟨(some 7), .mv (.t 13), none⟩,
⟨(some 14), .xt (.t 7) 0, none⟩,
⟨(some 15), .xt (.t 7) 1, none⟩,
⟨(some 5), .alloc [(.i .i64 0), .nm], none⟩,
⟨none, .st 2 (.t 5) (.t 14), none⟩,
⟨(some 6), .mv (.t 15), none⟩])
(.seq (.seq (.reg [
⟨(some 16), .mv (.t 6), none⟩,
⟨(some 17), .un .not (.t 16), none⟩])
(.cond (.t 17)
(.reg [
⟨(some 18), .mkm, none⟩,
⟨(some 19), .build [(.i .i64 0), .nm] [(0, 1, (.c (.i .i64 1))), (1, 1, (.t 18))], none⟩,
⟨none, .st 2 (.t 5) (.t 19), none⟩])
.skip))
(.seq (.reg [
⟨(some 20), .ld true 2 (.t 5), none⟩,
⟨none, .st 2 (.t 4) (.t 20), none⟩])
.ret))))⟩
def f120 : AF := ⟨76, [.t 4], (.seq (.reg [
⟨(some 4), .mv (.c (.i .u64 0)), none⟩])
(.seq (.reg [
⟨(some 9), .mv (.t 0), none⟩,
⟨(some 10), .bin .xor .no (.t 9) (.c (.i .u64 8317987319222330741)), none⟩,
⟨(some 11), .mv (.t 0), none⟩,
⟨(some 12), .bin .xor .no (.t 11) (.c (.i .u64 7816392313619706465)), none⟩,
⟨(some 13), .build [(.i .u64 0), (.i .u64 0), (.i .u64 0), (.i .u64 0)] [(0, 1, (.t 10)), (1, 1, (.c (.i .u64 368457802846855779))), (2, 1, (.t 12)), (3, 1, (.c (.i .u64 1519701440043968637)))], none⟩,
⟨(some 14), .box 4 (.t 13), none⟩,
⟨(some 5), .mv (.t 14), none⟩])
(.seq (.reg [
⟨(some 6), .mv (.c (.i .u64 0)), none⟩])
(.seq (.seq (.reg [
⟨(some 15), .mv (.t 1), none⟩,
⟨(some 16), .len 1 (.t 15), none⟩,
⟨(some 17), .mv (.c (.i .i64 0)), none⟩])
(.blk 0 (.loop (.seq (.reg [
⟨(some 18), .bin .lss .no (.t 17) (.t 16), none⟩])
(.seq (.cond (.t 18)
.skip
(.exit 0))
(.seq (.blk 1 (.seq (.reg [
⟨(some 19), .mv (.t 17), none⟩,
⟨(some 20), .iaL 1 (.t 15) (.t 17), none⟩,
⟨(some 21), .ld false 1 (.t 20), none⟩,
⟨(some 7), .mv (.t 19), none⟩,
⟨(some 8), .mv (.t 21), none⟩])
(.seq (.reg [
⟨(some 22), .mv (.t 6), none⟩,
⟨(some 23), .mv (.t 8), none⟩,
⟨(some 24), .cvi .u64 (.t 23), none⟩,
⟨(some 25), .mv (.t 7), none⟩,
⟨(some 26), .bin .rem .no (.t 25) (.c (.i .i64 8)), none⟩,
⟨(some 27), .bin .mul .no (.c (.i .i64 8)) (.t 26), none⟩,
⟨(some 28), .bin .shl .no (.t 24) (.t 27), none⟩,
⟨(some 29), .bin .or .no (.t 22) (.t 28), none⟩,
⟨(some 6), .mv (.t 29), none⟩])
(.seq (.reg [
⟨(some 30), .mv (.t 7), none⟩,
⟨(some 31), .bin .rem .no (.t 30) (.c (.i .i64 8)), none⟩,
⟨(some 32), .bin .eql .int (.t 31) (.c (.i .i64 7)), none⟩])
(.cond (.t 32)
(.seq (.reg [
⟨(some 33), .mv (.t 5), none⟩,
⟨(some 34), .mv (.t 6), none⟩,
⟨(some 35), .call 164 [(.t 33), (.t 34)], none⟩])
(.reg [
⟨(some 6), .mv (.c (.i .u64 0)), none⟩]))
.skip)))))
(.reg [
⟨(some 36), .bin .add .no (.t 17) (.c (.i .i64 1)), none⟩,
⟨(some 17), .mv (.t 36), none⟩])))))))
(.seq (.reg [
⟨(some 37), .mv (.t 5), none⟩,
⟨(some 38), .mv (.t 6), none⟩,
⟨(some 39), .mv (.t 1), none⟩,
⟨(some 40), .len 1 (.t 39), none⟩,
⟨(some 41), .cvi .u64 (.t 40), none⟩,
⟨(some 42), .bin .shl .no (.t 41) (.c (.i .u64 56)), none⟩,
⟨(some 43), .bin .or .no (.t 38) (.t 42), none⟩,
⟨(some 44), .call 164 [(.t 37), (.t 43)], none⟩])
(.seq (.reg [
⟨(some 45), .mv (.t 5), none⟩,
⟨(some 46), .nck (.t 45), none⟩,
⟨(some 47), .fa 2 (.t 46), none⟩,
⟨(some 48), .ld false 1 (.t 47), none⟩,
⟨(some 49), .bin .xor .no (.t 48) (.c (.i .u64 255)), none⟩,
⟨(some 50), .nck (.t 45), none⟩,
⟨(some 51), .fa 2 (.t 50), none⟩,
⟨none, .st 1 (.t 51) (.t 49), none⟩])
(.seq (.seq (.reg [
⟨(some 52), .mv (.c (.i .i64 0)), none⟩])
(.blk 2 (.loop (.seq (.reg [
⟨(some 53), .bin .lss .no (.t 52) (.c (.i .i64 4)), none⟩])
(.seq (.cond (.t 53)
.skip
(.exit 2))
(.seq (.blk 3 (.reg [
⟨(some 54), .mv (.t 5), none⟩,
⟨(some 55), .call 165 [(.t 54)], none⟩]))
(.reg [
⟨(some 56), .bin .add .no (.t 52) (.c (.i .i64 1)), none⟩,
⟨(some 52), .mv (.t 56), none⟩])))))))
(.seq (.drw [
.op ⟨(some 57), .mv (.t 5), none⟩,
.op ⟨(some 58), .nck (.t 57), none⟩,
.op ⟨(some 59), .fa 0 (.t 58), none⟩,
.op ⟨(some 60), .ld false 1 (.t 59), none⟩,
.op ⟨(some 61), .mv (.t 5), none⟩,
.op ⟨(some 62), .nck (.t 61), none⟩,
.op ⟨(some 63), .fa 1 (.t 62), none⟩,
.op ⟨(some 64), .ld false 1 (.t 63), none⟩,
.op ⟨(some 65), .bin .xor .no (.t 60) (.t 64), none⟩,
.op ⟨(some 66), .mv (.t 5), none⟩,
.op ⟨(some 67), .nck (.t 66), none⟩,
.op ⟨(some 68), .fa 2 (.t 67), none⟩,
.op ⟨(some 69), .ld false 1 (.t 68), none⟩,
.op ⟨(some 70), .bin .xor .no (.t 65) (.t 69), none⟩,
.op ⟨(some 71), .mv (.t 5), none⟩,
.op ⟨(some 72), .nck (.t 71), none⟩,
.op ⟨(some 73), .fa 3 (.t 72), none⟩,
.op ⟨(some 74), .ld false 1 (.t 73), none⟩,
.op ⟨(some 75), .bin .xor .no (.t 70) (.t 74), none⟩,
.op ⟨(some 4), .mv (.t 75), none⟩])
.ret))))))))⟩
def f121 : AF := ⟨39, [], (.seq (.reg [
⟨(some 2), .box 1 (.t 0), none⟩,
⟨(some 3), .box 9 (.t 1), none⟩])
(.seq (.drw [
.op ⟨(some 6), .ld false 1 (.t 2), none⟩,
.op ⟨(some 7), .fa 2 (.t 3), none⟩,
.op ⟨(some 8), .ld false 1 (.t 7), none⟩,
.op ⟨(some 10), .fa 3 (.t 3), none⟩,
.op ⟨(some 11), .ld false 1 (.t 10), none⟩,
.op ⟨(some 13), .fa 4 (.t 3), none⟩,
.op ⟨(some 14), .ld false 1 (.t 13), none⟩,
.op ⟨(some 16), .fa 5 (.t 3), none⟩,
.op ⟨(some 17), .ld false 1 (.t 16), none⟩,
.op ⟨(some 19), .fa 6 (.t 3), none⟩,
.op ⟨(some 20), .ld false 1 (.t 19), none⟩,
.op ⟨(some 22), .fa 7 (.t 3), none⟩,
.op ⟨(some 23), .ld false 1 (.t 22), none⟩,
.op ⟨(some 25), .fa 8 (.t 3), none⟩,
.op ⟨(some 26), .ld false 1 (.t 25), none⟩,
.op ⟨(some 27), .len 1 (.t 26), none⟩,
.op ⟨(some 9), .call 101 [(.t 6), (.t 8)], none⟩,
.chk ⟨(some 11), .ld false 1 (.t 10), none⟩,
.chk ⟨(some 14), .ld false 1 (.t 13), none⟩,
.chk ⟨(some 17), .ld false 1 (.t 16), none⟩,
.chk ⟨(some 20), .ld false 1 (.t 19), none⟩,
.chk ⟨(some 23), .ld false 1 (.t 22), none⟩,
.chk ⟨(some 26), .ld false 1 (.t 25), none⟩,
.chk ⟨(some 27), .len 1 (.t 26), none⟩,
.op ⟨(some 12), .call 101 [(.t 9), (.t 11)], none⟩,
.chk ⟨(some 14), .ld false 1 (.t 13), none⟩,
.chk ⟨(some 17), .ld false 1 (.t 16), none⟩,
.chk ⟨(some 20), .ld false 1 (.t 19), none⟩,
.chk ⟨(some 23), .ld false 1 (.t 22), none⟩,
.chk ⟨(some 26), .ld false 1 (.t 25), none⟩,
.chk ⟨(some 27), .len 1 (.t 26), none⟩,
.op ⟨(some 15), .call 101 [(.t 12), (.t 14)], none⟩,
.chk ⟨(some 17), .ld false 1 (.t 16), none⟩,
.chk ⟨(some 20), .ld false 1 (.t 19), none⟩,
.chk ⟨(some 23), .ld false 1 (.t 22), none⟩,
.chk ⟨(some 26), .ld false 1 (.t 25), none⟩,
.chk ⟨(some 27), .len 1 (.t 26), none⟩,
.op ⟨(some 18), .call 101 [(.t 15), (.t 17)], none⟩,
.chk ⟨(some 20), .ld false 1 (.t 19), none⟩,
.chk ⟨(some 23), .ld false 1 (.t 22), none⟩,
.chk ⟨(some 26), .ld false 1 (.t 25), none⟩,
.chk ⟨(some 27), .len 1 (.t 26), none⟩,
.op ⟨(some 21), .call 101 [(.t 18), (.t 20)], none⟩,
.chk ⟨(some 23), .ld false 1 (.t 22), none⟩,
.chk ⟨(some 26), .ld false 1 (.t 25), none⟩,
.chk ⟨(some 27), .len 1 (.t 26), none⟩,
.op ⟨(some 24), .call 99 [(.t 21), (.t 23)], none⟩,
.chk ⟨(some 26), .ld false 1 (.t 25), none⟩,
.chk ⟨(some 27), .len 1 (.t 26), none⟩,
.op ⟨(some 28), .call 101 [(.t 24), (.t 27)], none⟩])
(.seq (.reg [
⟨(some 29), .fa 8 (.t 3), none⟩,
⟨(some 30), .ld false 1 (.t 29), none⟩,
⟨(some 31), .call 97 [(.t 30)], none⟩])
(.blk 0 (.rf (.t 31) [32, 33] (.seq (.reg [
⟨(some 4), .mv (.t 32), none⟩])
(.reg [
⟨(some 5), .mv (.t 33), none⟩]))
(.blk 1 (.reg [
⟨(some 34), .ld false 1 (.t 2), none⟩,
⟨(some 35), .mv (.t 4), none⟩,
⟨(some 36), .call 99 [(.t 34), (.t 35)], none⟩,
⟨(some 37), .mv (.t 5), none⟩,
⟨(some 38), .call 101 [(.t 36), (.t 37)], none⟩])))))))⟩
def f122 : AF := ⟨83, [], (.seq (.reg [
⟨(some 4), .box 2 (.t 1), none⟩,
⟨(some 5), .box 9 (.t 2), none⟩])
(.seq (.seq (.reg [
⟨(some 10), .mv (.t 0), none⟩,
⟨(some 11), .nck (.t 10), none⟩,
⟨(some 12), .fa 3 (.t 11), none⟩,
⟨(some 13), .ld false 1 (.t 12), none⟩,
⟨(some 14), .len 2 (.t 13), none⟩,
⟨(some 15), .bin .geq .no (.t 14) (.c (.i .i64 128)), none⟩])
(.cond (.t 15)
(.seq (.reg [
⟨(some 16), .mv (.t 0), none⟩,
⟨(some 17), .ld true 2 (.t 4), none⟩,
⟨(some 18), .call 124 [(.t 16), (.t 17), (.c (.i .i64 2)), (.c (.i .i64 0))], none⟩])
.ret)
.skip))
(.seq (.reg [
⟨(some 19), .ld true 9 (.t 5), none⟩,
⟨(some 20), .call 166 [(.t 19)], none⟩,
⟨(some 6), .mv (.t 20), none⟩])
(.seq (.drw [
.op ⟨(some 22), .mv (.t 6), none⟩,
.op ⟨(some 23), .mv (.t 0), none⟩,
.op ⟨(some 24), .nck (.t 23), none⟩,
.op ⟨(some 25), .fa 0 (.t 24), none⟩,
.op ⟨(some 26), .ld false 1 (.t 25), none⟩,
.op ⟨(some 27), .mv (.t 0), none⟩,
.op ⟨(some 28), .nck (.t 27), none⟩,
.op ⟨(some 29), .fa 1 (.t 28), none⟩,
.op ⟨(some 30), .ld false 1 (.t 29), none⟩,
.op ⟨(some 31), .fa 8 (.t 5), none⟩,
.op ⟨(some 32), .ld false 1 (.t 31), none⟩,
.op ⟨(some 33), .fa 6 (.t 5), none⟩,
.op ⟨(some 34), .ld false 1 (.t 33), none⟩,
.op ⟨(some 35), .bin .eql .int (.t 34) (.c (.i .i64 1)), none⟩,
.op ⟨(some 36), .call 167 [(.t 22), (.t 26), (.t 30), (.t 32), (.t 35)], none⟩,
.op ⟨(some 21), .mv (.t 36), none⟩,
.op ⟨(some 37), .xt (.t 21) 0, none⟩,
.op ⟨(some 38), .xt (.t 21) 1, none⟩,
.op ⟨(some 39), .xt (.t 21) 2, none⟩,
.fl ⟨(some 7), .alloc [(.i .i64 0), (.i .i64 0), (.i .i64 0), .nsl, (.b false), (.i .i64 0), (.i .i64 0), .nsl, .nsl, (.b false)], none⟩,
.chk ⟨(some 26), .ld false 1 (.t 25), none⟩,
.chk ⟨(some 30), .ld false 1 (.t 29), none⟩,
.chk ⟨(some 32), .ld false 1 (.t 31), none⟩,
.chk ⟨(some 34), .ld false 1 (.t 33), none⟩,
.op ⟨none, .st 10 (.t 7) (.t 37), none⟩,
.op ⟨(some 8), .mv (.t 38), none⟩,
.op ⟨(some 9), .mv (.t 39), none⟩])
(.seq (.seq (.reg [
⟨(some 40), .mv (.t 9), none⟩,
⟨(some 41), .bin .eql .int (.t 40) (.c (.i .i64 0)), none⟩])
(.cond (.t 41)
(.drw [
.op ⟨(some 42), .mv (.t 0), none⟩,
.op ⟨(some 43), .nck (.t 42), none⟩,
.op ⟨(some 44), .fa 7 (.t 43), none⟩,
.op ⟨(some 45), .ld false 1 (.t 44), none⟩,
.op ⟨(some 46), .mv (.t 6), none⟩,
.op ⟨(some 47), .fa 8 (.t 5), none⟩,
.op ⟨(some 48), .ld false 1 (.t 47), none⟩,
.op ⟨(some 49), .call 168 [(.t 45), (.t 46), (.t 48)], none⟩,
.op ⟨(some 9), .mv (.t 49), none⟩])
.skip))
(.seq (.seq (.reg [
⟨(some 50), .mv (.t 9), none⟩,
⟨(some 51), .bin .neq .int (.t 50) (.c (.i .i64 0)), none⟩])
(.cond (.t 51)
(.seq (.reg [
⟨(some 52), .mv (.t 0), none⟩,
⟨(some 53), .ld true 2 (.t 4), none⟩,
⟨(some 54), .mv (.t 9), none⟩,
⟨(some 55), .call 124 [(.t 52), (.t 53), (.t 54), (.c (.i .i64 0))], none⟩])
.ret)
.skip))
(.seq (.drw [
.op ⟨(some 56), .mv (.t 0), none⟩,
.op ⟨(some 57), .nck (.t 56), none⟩,
.op ⟨(some 58), .fa 3 (.t 57), none⟩,
.op ⟨(some 59), .ld false 1 (.t 58), none⟩,
.op ⟨(some 60), .mv (.t 6), none⟩,
.op ⟨(some 61), .ld true 10 (.t 7), none⟩,
.op ⟨none, .mu .int (.t 59) (.t 60) (.t 61), none⟩])
(.seq (.drw [
.op ⟨(some 62), .mv (.t 0), none⟩,
.op ⟨(some 63), .nck (.t 62), none⟩,
.op ⟨(some 64), .fa 4 (.t 63), none⟩,
.op ⟨(some 65), .ld false 1 (.t 64), none⟩,
.op ⟨(some 66), .mv (.t 6), none⟩,
.op ⟨(some 67), .mv (.t 0), none⟩,
.op ⟨(some 68), .nck (.t 67), none⟩,
.op ⟨(some 69), .fa 4 (.t 68), none⟩,
.op ⟨(some 70), .ld false 1 (.t 69), none⟩,
.op ⟨(some 71), .mv (.t 6), none⟩,
.op ⟨(some 72), .lk .int .nsl false (.t 70) (.t 71), none⟩,
.op ⟨(some 73), .ld true 2 (.t 4), none⟩,
.op ⟨(some 74), .fa 2 (.t 5), none⟩,
.op ⟨(some 75), .ld false 1 (.t 74), none⟩,
.op ⟨(some 76), .build [(.i .i64 0), (.i .i64 0), (.i .i64 0)] [(0, 2, (.t 73)), (2, 1, (.t 75))], none⟩,
.op ⟨(some 77), .bsl 1 [(.i .i64 0), (.i .i64 0), (.i .i64 0)] [(0, 3, (.t 76))], none⟩,
.chk ⟨(some 65), .ld false 1 (.t 64), none⟩,
.chk ⟨(some 70), .ld false 1 (.t 69), none⟩,
.chk ⟨(some 72), .lk .int .nsl false (.t 70) (.t 71), none⟩,
.op ⟨(some 78), .app 3 24 [(.i .i64 0), (.i .i64 0), (.i .i64 0)] (.t 72) (.t 77), none⟩,
.chk ⟨(some 65), .ld false 1 (.t 64), none⟩,
.op ⟨none, .mu .int (.t 65) (.t 66) (.t 78), none⟩])
(.reg [
⟨(some 79), .mv (.t 0), none⟩,
⟨(some 80), .mv (.t 6), none⟩,
⟨(some 81), .mv (.t 8), none⟩,
⟨(some 82), .call 130 [(.t 79), (.t 80), (.t 81)], none⟩])))))))))⟩
def f123 : AF := ⟨62, [], (.seq (.reg [
⟨(some 5), .box 2 (.t 1), none⟩,
⟨(some 6), .box 9 (.t 2), none⟩])
(.seq (.seq (.reg [
⟨(some 9), .mv (.t 0), none⟩,
⟨(some 10), .ld true 9 (.t 6), none⟩,
⟨(some 11), .call 169 [(.t 9), (.t 10)], none⟩,
⟨(some 12), .un .not (.t 11), none⟩])
(.cond (.t 12)
(.seq (.reg [
⟨(some 13), .mv (.t 0), none⟩,
⟨(some 14), .ld true 2 (.t 5), none⟩,
⟨(some 15), .call 124 [(.t 13), (.t 14), (.c (.i .i64 4)), (.c (.i .i64 0))], none⟩])
.ret)
.skip))
(.seq (.drw [
.op ⟨(some 16), .mv (.t 0), none⟩,
.op ⟨(some 17), .nck (.t 16), none⟩,
.op ⟨(some 18), .fa 4 (.t 17), none⟩,
.op ⟨(some 19), .ld false 1 (.t 18), none⟩,
.op ⟨(some 20), .fa 3 (.t 6), none⟩,
.op ⟨(some 21), .ld false 1 (.t 20), none⟩,
.op ⟨(some 22), .mv (.t 0), none⟩,
.op ⟨(some 23), .nck (.t 22), none⟩,
.op ⟨(some 24), .fa 4 (.t 23), none⟩,
.op ⟨(some 25), .ld false 1 (.t 24), none⟩,
.op ⟨(some 26), .fa 3 (.t 6), none⟩,
.op ⟨(some 27), .ld false 1 (.t 26), none⟩,
.op ⟨(some 28), .lk .int .nsl false (.t 25) (.t 27), none⟩,
.op ⟨(some 29), .ld true 2 (.t 5), none⟩,
.op ⟨(some 30), .fa 2 (.t 6), none⟩,
.op ⟨(some 31), .ld false 1 (.t 30), none⟩,
.op ⟨(some 32), .build [(.i .i64 0), (.i .i64 0), (.i .i64 0)] [(0, 2, (.t 29)), (2, 1, (.t 31))], none⟩,
.op ⟨(some 33), .bsl 1 [(.i .i64 0), (.i .i64 0), (.i .i64 0)] [(0, 3, (.t 32))], none⟩,
.chk ⟨(some 19), .ld false 1 (.t 18), none⟩,
.chk ⟨(some 21), .ld false 1 (.t 20), none⟩,
.chk ⟨(some 25), .ld false 1 (.t 24), none⟩,
.chk ⟨(some 27), .ld false 1 (.t 26), none⟩,
.chk ⟨(some 28), .lk .int .nsl false (.t 25) (.t 27), none⟩,
.op ⟨(some 34), .app 3 24 [(.i .i64 0), (.i .i64 0), (.i .i64 0)] (.t 28) (.t 33), none⟩,
.chk ⟨(some 19), .ld false 1 (.t 18), none⟩,
.chk ⟨(some 21), .ld false 1 (.t 20), none⟩,
.op ⟨none, .mu .int (.t 19) (.t 21) (.t 34), none⟩])
(.seq (.reg [
⟨(some 35), .mv (.t 0), none⟩,
⟨(some 36), .fa 3 (.t 6), none⟩,
⟨(some 37), .ld false 1 (.t 36), none⟩,
⟨(some 38), .mv (.t 3), none⟩,
⟨(some 39), .build [(.i .i64 0), (.i .i64 0), .nsl] [(0, 1, (.t 38))], none⟩,
⟨(some 40), .call 64 [(.t 35), (.t 37), (.t 39)], none⟩,
⟨(some 8), .mv (.t 40), none⟩])
(.seq (.reg [
⟨(some 41), .mv (.t 8), none⟩,
⟨(some 42), .bin .neq .int (.t 41) (.c (.i .i64 0)), none⟩])
(.cond (.t 42)
(.seq (.drw [
.op ⟨(some 43), .mv (.t 0), none⟩,
.op ⟨(some 44), .nck (.t 43), none⟩,
.op ⟨(some 45), .fa 4 (.t 44), none⟩,
.op ⟨(some 46), .ld false 1 (.t 45), none⟩,
.op ⟨(some 47), .fa 3 (.t 6), none⟩,
.op ⟨(some 48), .ld false 1 (.t 47), none⟩,
.op ⟨(some 49), .mv (.t 0), none⟩,
.op ⟨(some 50), .nck (.t 49), none⟩,
.op ⟨(some 51), .fa 4 (.t 50), none⟩,
.op ⟨(some 52), .ld false 1 (.t 51), none⟩,
.op ⟨(some 53), .fa 3 (.t 6), none⟩,
.op ⟨(some 54), .ld false 1 (.t 53), none⟩,
.op ⟨(some 55), .lk .int .nsl false (.t 52) (.t 54), none⟩,
.op ⟨(some 56), .mkf 171 [] [(.t 5)], none⟩,
.op ⟨(some 57), .call 170 [(.t 55), (.t 56)], none⟩,
.chk ⟨(some 46), .ld false 1 (.t 45), none⟩,
.chk ⟨(some 48), .ld false 1 (.t 47), none⟩,
.op ⟨none, .mu .int (.t 46) (.t 48) (.t 57), none⟩])
(.reg [
⟨(some 58), .mv (.t 0), none⟩,
⟨(some 59), .ld true 2 (.t 5), none⟩,
⟨(some 60), .mv (.t 8), none⟩,
⟨(some 61), .call 124 [(.t 58), (.t 59), (.t 60), (.c (.i .i64 0))], none⟩]))
.skip))))))⟩
def f124 : AF := ⟨45, [], (.seq (.reg [
⟨(some 5), .box 2 (.t 1), none⟩])
(.seq (.drw [
.op ⟨(some 12), .mv (.t 0), none⟩,
.op ⟨(some 13), .nck (.t 12), none⟩,
.op ⟨(some 14), .fa 5 (.t 13), none⟩,
.op ⟨(some 15), .ld false 1 (.t 14), none⟩,
.op ⟨(some 16), .ld true 2 (.t 5), none⟩,
.op ⟨(some 17), .lk (.ag [(0, 1, false, .int), (1, 1, false, .int)]) (.ag [(.i .i64 0), (.i .i64 0), (.i .i64 0), (.i .i64 0), (.i .i64 0), (.i .i64 0), (.i .i64 0), (.i .i64 0), (.s []), .nsl]) true (.t 15) (.t 16), none⟩,
.op ⟨(some 11), .mv (.t 17), none⟩,
.op ⟨(some 18), .xt (.t 11) 0, none⟩,
.op ⟨(some 19), .xt (.t 11) 1, none⟩,
.op ⟨(some 8), .alloc [(.i .i64 0), (.i .i64 0), (.i .i64 0), (.i .i64 0), (.i .i64 0), (.i .i64 0), (.i .i64 0), (.i .i64 0), (.s []), .nsl], none⟩,
.chk ⟨(some 15), .ld false 1 (.t 14), none⟩,
.chk ⟨(some 16), .ld true 2 (.t 5), none⟩,
.chk ⟨(some 17), .lk (.ag [(0, 1, false, .int), (1, 1, false, .int)]) (.ag [(.i .i64 0), (.i .i64 0), (.i .i64 0), (.i .i64 0), (.i .i64 0), (.i .i64 0), (.i .i64 0), (.i .i64 0), (.s []), .nsl]) true (.t 15) (.t 16), none⟩,
.op ⟨none, .st 10 (.t 8) (.t 18), none⟩,
.op ⟨(some 9), .mv (.t 19), none⟩])
(.seq (.seq (.reg [
⟨(some 20), .mv (.t 9), none⟩,
⟨(some 21), .un .not (.t 20), none⟩])
(.cond (.t 21)
.ret
.skip))
(.seq (.reg [
⟨(some 22), .fa 0 (.t 5), none⟩,
⟨(some 23), .ld false 1 (.t 22), none⟩,
⟨(some 24), .fa 1 (.t 5), none⟩,
⟨(some 25), .ld false 1 (.t 24), none⟩,
⟨(some 26), .mv (.t 2), none⟩,
⟨(some 27), .mv (.t 3), none⟩,
⟨(some 28), .build [(.i .i64 0), (.i .i64 0), (.i .i64 0), (.i .i64 0)] [(0, 1, (.t 23)), (1, 1, (.t 25)), (2, 1, (.t 26)), (3, 1, (.t 27))], none⟩,
⟨(some 10), .alloc [(.i .i64 0), (.i .i64 0), (.i .i64 0), (.i .i64 0)], none⟩,
⟨none, .st 4 (.t 10) (.t 28), none⟩])
(.seq (.drw [
.op ⟨(some 29), .mv (.t 0), none⟩,
.op ⟨(some 30), .nck (.t 29), none⟩,
.op ⟨(some 31), .fa 2 (.t 30), none⟩,
.op ⟨(some 32), .ld false 1 (.t 31), none⟩,
.op ⟨(some 33), .ld true 4 (.t 10), none⟩,
.op ⟨(some 34), .call 172 [(.t 32), (.t 33)], none⟩])
(.seq (.drw [
.op ⟨(some 35), .mv (.t 0), none⟩,
.op ⟨(some 36), .nck (.t 35), none⟩,
.op ⟨(some 37), .fa 5 (.t 36), none⟩,
.op ⟨(some 38), .ld false 1 (.t 37), none⟩,
.op ⟨(some 39), .ld true 2 (.t 5), none⟩,
.op ⟨none, .del (.ag [(0, 1, false, .int), (1, 1, false, .int)]) (.t 38) (.t 39), none⟩])
(.reg [
⟨(some 40), .mv (.t 0), none⟩,
⟨(some 41), .fa 0 (.t 8), none⟩,
⟨(some 42), .ld false 1 (.t 41), none⟩,
⟨(some 43), .ld true 4 (.t 10), none⟩,
⟨(some 44), .call 56 [(.t 40), (.t 42), (.t 43)], none⟩])))))))⟩
def f125 : AF := ⟨62, [.t 6], (.seq (.reg [
⟨(some 5), .box 1 (.t 2), none⟩,
⟨(some 6), .mv (.c (.i .i64 0)), none⟩])
(.seq (.blk 0 (.seq (.reg [
⟨(some 11), .mv (.t 0), none⟩,
⟨(some 12), .call 116 [(.t 11)], none⟩,
⟨(some 13), .un .not (.t 12), none⟩,
⟨(some 10), .mv (.t 13), none⟩])
(.cond (.t 10)
(.seq (.reg [
⟨(some 6), .mv (.c (.i .i64 6)), none⟩])
.ret)
(.seq (.reg [
⟨(some 15), .mv (.t 1), none⟩,
⟨(some 16), .call 117 [(.t 15)], none⟩,
⟨(some 17), .un .not (.t 16), none⟩,
⟨(some 18), .mv (.t 17), none⟩,
⟨(some 19), .ld false 1 (.t 5), (some (18, false))⟩,
⟨(some 20), .bin .lss .no (.t 19) (.c (.i .i64 1)), (some (18, false))⟩,
⟨(some 21), .pick (.t 18) (.c (.b true)) (.t 20), none⟩,
⟨(some 22), .mv (.t 21), none⟩,
⟨(some 23), .ld false 1 (.t 5), (some (22, false))⟩,
⟨(some 24), .bin .gtr .no (.t 23) (.c (.i .i64 4294967297)), (some (22, false))⟩,
⟨(some 25), .pick (.t 22) (.c (.b true)) (.t 24), none⟩,
⟨(some 14), .mv (.t 25), none⟩])
(.cond (.t 14)
(.seq (.reg [
⟨(some 6), .mv (.c (.i .i64 1)), none⟩])
.ret)
.skip)))))
(.seq (.reg [
⟨(some 26), .mv (.t 0), none⟩,
⟨(some 27), .mv (.t 1), none⟩,
⟨(some 28), .call 119 [(.t 26), (.t 27)], none⟩,
⟨(some 7), .alloc [(.i .i64 0), .nm], none⟩,
⟨none, .st 2 (.t 7) (.t 28), none⟩])
(.seq (.seq (.reg [
⟨(some 29), .fa 1 (.t 7), none⟩,
⟨(some 30), .ld false 1 (.t 29), none⟩,
⟨(some 31), .rng false (.t 30), none⟩])
(.blk 1 (.loop (.seq (.reg [
⟨(some 32), .nxt false (.t 31), none⟩,
⟨(some 33), .xt (.t 32) 0, none⟩])
(.seq (.cond (.t 33)
.skip
(.exit 1))
(.blk 2 (.seq (.reg [
⟨(some 34), .ent (.t 31), none⟩,
⟨(some 35), .xt (.t 34) 0, none⟩,
⟨(some 36), .xt (.t 34) 1, none⟩,
⟨(some 9), .alloc [(.i .u64 0), (.b false), (.i .i64 0), (.i .i64 0), (.i .i64 0), (.i .i64 0)], none⟩,
⟨(some 8), .mv (.t 35), none⟩,
⟨none, .st 6 (.t 9) (.t 36), none⟩])
(.seq (.reg [
⟨(some 37), .mv (.t 8), none⟩,
⟨(some 38), .ld false 1 (.t 5), none⟩,
⟨(some 39), .bin .lss .no (.t 37) (.t 38), none⟩,
⟨(some 40), .mv (.t 39), none⟩,
⟨(some 41), .fa 1 (.t 9), (some (40, true))⟩,
⟨(some 42), .ld false 1 (.t 41), (some (40, true))⟩,
⟨(some 43), .un .not (.t 42), (some (40, true))⟩,
⟨(some 44), .pick (.t 40) (.t 43) (.c (.b false)), none⟩])
(.cond (.t 44)
(.seq (.reg [
⟨(some 6), .mv (.c (.i .i64 80)), none⟩])
.ret)
.skip)))))))))
(.seq (.seq (.reg [
⟨(some 45), .ld false 1 (.t 5), none⟩,
⟨(some 46), .fa 0 (.t 7), none⟩,
⟨(some 47), .ld false 1 (.t 46), none⟩,
⟨(some 48), .bin .gtr .no (.t 45) (.t 47), none⟩])
(.cond (.t 48)
(.seq (.reg [
⟨(some 49), .fa 1 (.t 7), none⟩,
⟨(some 50), .ld false 1 (.t 49), none⟩,
⟨(some 51), .mkf 174 [] [(.t 5)], none⟩,
⟨(some 52), .call 173 [(.t 50), (.t 51)], none⟩])
(.drw [
.op ⟨(some 53), .mv (.t 0), none⟩,
.op ⟨(some 54), .nck (.t 53), none⟩,
.op ⟨(some 55), .fa 0 (.t 54), none⟩,
.op ⟨(some 56), .ld false 1 (.t 55), none⟩,
.op ⟨(some 57), .mv (.t 1), none⟩,
.op ⟨(some 58), .ld false 1 (.t 5), none⟩,
.op ⟨(some 59), .fa 1 (.t 7), none⟩,
.op ⟨(some 60), .ld false 1 (.t 59), none⟩,
.op ⟨(some 61), .build [(.i .i64 0), .nm] [(0, 1, (.t 58)), (1, 1, (.t 60))], none⟩,
.op ⟨none, .mu .int (.t 56) (.t 57) (.t 61), none⟩]))
.skip))
(.seq (.reg [
⟨(some 6), .mv (.c (.i .i64 0)), none⟩])
.ret))))))⟩
def f126 : AF := ⟨61, [], (.seq (.reg [
⟨(some 4), .box 2 (.t 1), none⟩,
⟨(some 5), .box 9 (.t 2), none⟩])
(.seq (.blk 0 (.seq (.reg [
⟨(some 8), .fa 2 (.t 5), none⟩,
⟨(some 9), .ld false 1 (.t 8), none⟩,
⟨(some 10), .bin .eql .int (.t 9) (.c (.i .i64 5)), none⟩,
⟨(some 11), .mv (.t 10), none⟩,
⟨(some 12), .mv (.t 0), (some (11, true))⟩,
⟨(some 13), .ld true 9 (.t 5), (some (11, true))⟩,
⟨(some 14), .call 169 [(.t 12), (.t 13)], (some (11, true))⟩,
⟨(some 15), .un .not (.t 14), (some (11, true))⟩,
⟨(some 16), .pick (.t 11) (.t 15) (.c (.b false)), none⟩,
⟨(some 7), .mv (.t 16), none⟩])
(.cond (.t 7)
(.seq (.reg [
⟨(some 17), .mv (.t 0), none⟩,
⟨(some 18), .ld true 2 (.t 4), none⟩,
⟨(some 19), .call 124 [(.t 17), (.t 18), (.c (.i .i64 4)), (.c (.i .i64 0))], none⟩])
.ret)
(.seq (.reg [
⟨(some 21), .mv (.t 0), none⟩,
⟨(some 22), .fa 4 (.t 5), none⟩,
⟨(some 23), .ld false 1 (.t 22), none⟩,
⟨(some 24), .call 53 [(.t 21), (.t 23)], none⟩,
⟨(some 25), .un .not (.t 24), none⟩,
⟨(some 26), .mv (.t 25), none⟩,
⟨(some 27), .mv (.t 0), (some (26, false))⟩,
⟨(some 28), .fa 5 (.t 5), (some (26, false))⟩,
⟨(some 29), .ld false 1 (.t 28), (some (26, false))⟩,
⟨(some 30), .call 53 [(.t 27), (.t 29)], (some (26, false))⟩,
⟨(some 31), .un .not (.t 30), (some (26, false))⟩,
⟨(some 32), .pick (.t 26) (.c (.b true)) (.t 31), none⟩,
⟨(some 20), .mv (.t 32), none⟩])
(.cond (.t 20)
(.seq (.reg [
⟨(some 33), .mv (.t 0), none⟩,
⟨(some 34), .ld true 2 (.t 4), none⟩,
⟨(some 35), .call 124 [(.t 33), (.t 34), (.c (.i .i64 1)), (.c (.i .i64 0))], none⟩])
.ret)
(.seq (.reg [
⟨(some 37), .fa 2 (.t 5), none⟩,
⟨(some 38), .ld false 1 (.t 37), none⟩,
⟨(some 39), .bin .eql .int (.t 38) (.c (.i .i64 5)), none⟩,
⟨(some 36), .mv (.t 39), none⟩])
(.cond (.t 36)
(.seq (.drw [
.op ⟨(some 40), .mv (.t 0), none⟩,
.op ⟨(some 41), .nck (.t 40), none⟩,
.op ⟨(some 42), .fa 7 (.t 41), none⟩,
.op ⟨(some 43), .ld false 1 (.t 42), none⟩,
.op ⟨(some 44), .fa 3 (.t 5), none⟩,
.op ⟨(some 45), .ld false 1 (.t 44), none⟩,
.op ⟨(some 46), .fa 8 (.t 5), none⟩,
.op ⟨(some 47), .ld false 1 (.t 46), none⟩,
.op ⟨(some 48), .call 175 [(.t 43), (.t 45), (.t 47)], none⟩,
.op ⟨(some 6), .mv (.t 48), none⟩])
(.seq (.reg [
⟨(some 49), .mv (.t 6), none⟩,
⟨(some 50), .bin .neq .int (.t 49) (.c (.i .i64 0)), none⟩])
(.cond (.t 50)
(.seq (.reg [
⟨(some 51), .mv (.t 0), none⟩,
⟨(some 52), .ld true 2 (.t 4), none⟩,
⟨(some 53), .mv (.t 6), none⟩,
⟨(some 54), .call 124 [(.t 51), (.t 52), (.t 53), (.c (.i .i64 0))], none⟩])
.ret)
.skip)))
.skip)))))))
(.reg [
⟨(some 55), .mv (.t 0), none⟩,
⟨(some 56), .fa 4 (.t 5), none⟩,
⟨(some 57), .ld false 1 (.t 56), none⟩,
⟨(some 58), .ld true 9 (.t 5), none⟩,
⟨(some 59), .build [(.i .i64 0), (.i .i64 0), .nsl, (.i .i64 0), (.i .i64 0), (.i .i64 0), (.i .i64 0), (.i .i64 0), (.i .i64 0), (.i .i64 0), (.s []), .nsl, (.i .i64 0), (.i .i64 0), (.i .i64 0), (.i .i64 0)] [(0, 1, (.c (.i .i64 11))), (3, 9, (.t 58))], none⟩,
⟨(some 60), .call 115 [(.t 55), (.t 57), (.t 59)], none⟩])))⟩
def f127 : AF := ⟨40, [.t 6], (.seq (.reg [
⟨(some 6), .mv (.c (.i .i64 0)), none⟩])
(.seq (.reg [
⟨(some 11), .mv (.t 0), none⟩,
⟨(some 12), .mv (.t 1), none⟩,
⟨(some 13), .mv (.t 2), none⟩,
⟨(some 14), .call 107 [(.t 11), (.t 12), (.t 13)], none⟩,
⟨(some 10), .mv (.t 14), none⟩,
⟨(some 15), .xt (.t 10) 0, none⟩,
⟨(some 16), .xt (.t 10) 1, none⟩,
⟨(some 7), .alloc [(.i .i64 0), .nsl, .nsl, .nsl, .nm], none⟩,
⟨none, .st 5 (.t 7) (.t 15), none⟩,
⟨(some 8), .mv (.t 16), none⟩])
(.seq (.seq (.reg [
⟨(some 17), .mv (.t 8), none⟩,
⟨(some 18), .bin .neq .int (.t 17) (.c (.i .i64 0)), none⟩])
(.cond (.t 18)
(.seq (.reg [
⟨(some 19), .mv (.t 8), none⟩,
⟨(some 6), .mv (.t 19), none⟩])
.ret)
.skip))
(.seq (.reg [
⟨(some 21), .fa 0 (.t 7), none⟩,
⟨(some 22), .fa 3 (.t 21), none⟩,
⟨(some 23), .ld false 1 (.t 22), none⟩,
⟨(some 24), .mv (.t 2), none⟩,
⟨(some 25), .call 176 [(.t 23), (.t 24)], none⟩,
⟨(some 20), .mv (.t 25), none⟩,
⟨(some 26), .xt (.t 20) 0, none⟩,
⟨(some 27), .xt (.t 20) 1, none⟩,
⟨(some 9), .mv (.t 26), none⟩,
⟨(some 8), .mv (.t 27), none⟩])
(.seq (.seq (.reg [
⟨(some 28), .mv (.t 8), none⟩,
⟨(some 29), .bin .eql .int (.t 28) (.c (.i .i64 0)), none⟩])
(.cond (.t 29)
(.seq (.reg [
⟨(some 30), .mv (.t 9), none⟩,
⟨(some 31), .fa 0 (.t 7), none⟩,
⟨(some 32), .fa 3 (.t 31), none⟩,
⟨none, .st 1 (.t 32) (.t 30), none⟩])
(.drw [
.op ⟨(some 33), .mv (.t 0), none⟩,
.op ⟨(some 34), .nck (.t 33), none⟩,
.op ⟨(some 35), .fa 0 (.t 34), none⟩,
.op ⟨(some 36), .ld false 1 (.t 35), none⟩,
.op ⟨(some 37), .mv (.t 1), none⟩,
.op ⟨(some 38), .ld true 5 (.t 7), none⟩,
.op ⟨none, .mu .int (.t 36) (.t 37) (.t 38), none⟩]))
.skip))
(.seq (.reg [
⟨(some 39), .mv (.t 8), none⟩,
⟨(some 6), .mv (.t 39), none⟩])
.ret))))))⟩
def f128 : AF := ⟨43, [.t 2, .t 3], (.seq (.reg [
⟨(some 2), .mv (.c (.i .i64 0)), none⟩,
⟨(some 3), .mv (.c (.b false)), none⟩])
(.seq (.seq (.reg [
⟨(some 5), .mv (.t 0), none⟩,
⟨(some 6), .bin .eql .ptr (.t 5) (.c .np), none⟩,
⟨(some 7), .mv (.t 6), none⟩,
⟨(some 8), .mv (.t 0), (some (7, false))⟩,
⟨(some 9), .nck (.t 8), (some (7, false))⟩,
⟨(some 10), .fa 1 (.t 9), (some (7, false))⟩,
⟨(some 11), .ld false 1 (.t 10), (some (7, false))⟩,
⟨(some 12), .bin .neq .int (.t 11) (.c (.i .i64 0)), (some (7, false))⟩,
⟨(some 13), .pick (.t 7) (.c (.b true)) (.t 12), none⟩])
(.cond (.t 13)
(.seq (.reg [
⟨(some 2), .mv (.c (.i .i64 0)), none⟩,
⟨(some 3), .mv (.c (.b false)), none⟩])
.ret)
.skip))
(.seq (.reg [
⟨(some 14), .mv (.t 0), none⟩,
⟨(some 15), .nck (.t 14), none⟩,
⟨(some 16), .fa 0 (.t 15), none⟩,
⟨(some 17), .ld false 1 (.t 16), none⟩,
⟨(some 18), .call 177 [(.t 17), (.c (.f (.func 178) [] []))], none⟩,
⟨(some 4), .mv (.t 18), none⟩])
(.seq (.seq (.reg [
⟨(some 19), .mv (.t 4), none⟩,
⟨(some 20), .bin .eql .int (.t 19) (.c (.i .i64 (-1))), none⟩])
(.cond (.t 20)
(.seq (.reg [
⟨(some 2), .mv (.c (.i .i64 0)), none⟩,
⟨(some 3), .mv (.c (.b false)), none⟩])
.ret)
.skip))
(.seq (.drw [
.op ⟨(some 21), .mv (.t 0), none⟩,
.op ⟨(some 22), .nck (.t 21), none⟩,
.op ⟨(some 23), .fa 0 (.t 22), none⟩,
.op ⟨(some 24), .ld false 1 (.t 23), none⟩,
.op ⟨(some 25), .mv (.t 4), none⟩,
.op ⟨(some 26), .mv (.t 0), none⟩,
.op ⟨(some 27), .mv (.t 0), none⟩,
.op ⟨(some 28), .nck (.t 27), none⟩,
.op ⟨(some 29), .fa 0 (.t 28), none⟩,
.op ⟨(some 30), .ld false 1 (.t 29), none⟩,
.op ⟨(some 31), .mv (.t 4), none⟩,
.op ⟨(some 32), .iaL 2 (.t 30) (.t 31), none⟩,
.op ⟨(some 33), .fa 0 (.t 32), none⟩,
.op ⟨(some 34), .ld false 1 (.t 33), none⟩,
.op ⟨(some 35), .iaL 2 (.t 24) (.t 25), none⟩,
.op ⟨(some 36), .fa 1 (.t 35), none⟩,
.op ⟨none, .st 1 (.t 36) (.c (.b false)), none⟩,
.op ⟨(some 37), .nck (.t 26), none⟩,
.op ⟨(some 38), .fa 1 (.t 37), none⟩,
.op ⟨none, .st 1 (.t 38) (.t 34), none⟩])
(.seq (.reg [
⟨(some 39), .mv (.t 0), none⟩,
⟨(some 40), .nck (.t 39), none⟩,
⟨(some 41), .fa 1 (.t 40), none⟩,
⟨(some 42), .ld false 1 (.t 41), none⟩,
⟨(some 2), .mv (.t 42), none⟩,
⟨(some 3), .mv (.c (.b true)), none⟩])
.ret))))))⟩
def f129 : AF := ⟨27, [.c 4 true 10, .t 5, .t 6], (.seq (.reg [
⟨(some 2), .box 10 (.t 0), none⟩,
⟨(some 3), .box 3 (.t 1), none⟩,
⟨(some 4), .alloc [(.i .i64 0), (.i .i64 0), (.i .i64 0), .nsl, (.b false), (.i .i64 0), (.i .i64 0), .nsl, .nsl, (.b false)], none⟩,
⟨(some 5), .mv (.c .nsl), none⟩,
⟨(some 6), .mv (.c (.i .i64 0)), none⟩])
(.seq (.seq (.reg [
⟨(some 10), .ld true 10 (.t 2), none⟩,
⟨(some 11), .call 179 [(.t 10)], none⟩,
⟨(some 12), .un .not (.t 11), none⟩])
(.cond (.t 12)
(.seq (.reg [
⟨(some 13), .build [(.i .i64 0), (.i .i64 0), (.i .i64 0), .nsl, (.b false), (.i .i64 0), (.i .i64 0), .nsl, .nsl, (.b false)] [], none⟩,
⟨none, .st 10 (.t 4) (.t 13), none⟩,
⟨(some 5), .mv (.c .nsl), none⟩,
⟨(some 6), .mv (.c (.i .i64 1)), none⟩])
.ret)
.skip))
(.seq (.reg [
⟨(some 14), .ld true 10 (.t 2), none⟩,
⟨(some 15), .call 180 [(.t 14)], none⟩,
⟨(some 7), .alloc [(.i .i64 0), (.i .i64 0), (.i .i64 0), .nsl, (.b false), (.i .i64 0), (.i .i64 0), .nsl, .nsl, (.b false)], none⟩,
⟨none, .st 10 (.t 7) (.t 15), none⟩])
(.seq (.reg [
⟨(some 17), .ld true 3 (.t 3), none⟩,
⟨(some 18), .call 181 [(.t 7), (.t 17)], none⟩,
⟨(some 16), .mv (.t 18), none⟩,
⟨(some 19), .xt (.t 16) 0, none⟩,
⟨(some 20), .xt (.t 16) 1, none⟩,
⟨(some 8), .mv (.t 19), none⟩,
⟨(some 9), .mv (.t 20), none⟩])
(.seq (.seq (.reg [
⟨(some 21), .mv (.t 9), none⟩,
⟨(some 22), .bin .neq .int (.t 21) (.c (.i .i64 0)), none⟩])
(.cond (.t 22)
(.seq (.reg [
⟨(some 23), .build [(.i .i64 0), (.i .i64 0), (.i .i64 0), .nsl, (.b false), (.i .i64 0), (.i .i64 0), .nsl, .nsl, (.b false)] [], none⟩,
⟨(some 24), .mv (.t 9), none⟩,
⟨none, .st 10 (.t 4) (.t 23), none⟩,
⟨(some 5), .mv (.c .nsl), none⟩,
⟨(some 6), .mv (.t 24), none⟩])
.ret)
.skip))
(.seq (.reg [
⟨(some 25), .ld true 10 (.t 7), none⟩,
⟨(some 26), .mv (.t 8), none⟩,
⟨none, .st 10 (.t 4) (.t 25), none⟩,
⟨(some 5), .mv (.t 26), none⟩,
⟨(some 6), .mv (.c (.i .i64 0)), none⟩])
.ret))))))⟩
def f130 : AF := ⟨33, [], (.seq (.reg [
⟨(some 8), .mv (.t 2), none⟩,
⟨(some 9), .len 1 (.t 8), none⟩,
⟨(some 10), .mv (.c (.i .i64 0)), none⟩])
(.blk 0 (.loop (.seq (.reg [
⟨(some 11), .bin .lss .no (.t 10) (.t 9), none⟩])
(.seq (.cond (.t 11)
.skip
(.exit 0))
(.seq (.blk 1 (.seq (.reg [
⟨(some 12), .iaL 4 (.t 8) (.t 10), none⟩,
⟨(some 13), .ld true 4 (.t 12), none⟩,
⟨(some 7), .alloc [(.i .i64 0), (.i .i64 0), .nsl, (.i .i64 0)], none⟩,
⟨none, .st 4 (.t 7) (.t 13), none⟩])
(.seq (.seq (.reg [
⟨(some 14), .fa 0 (.t 7), none⟩,
⟨(some 15), .ld false 1 (.t 14), none⟩,
⟨(some 16), .bin .eql .int (.t 15) (.c (.i .i64 100)), none⟩])
(.cond (.t 16)
(.seq (.reg [
⟨(some 17), .mv (.t 0), none⟩,
⟨(some 18), .mv (.t 1), none⟩,
⟨(some 19), .fa 3 (.t 7), none⟩,
⟨(some 20), .ld false 1 (.t 19), none⟩,
⟨(some 21), .call 182 [(.t 17), (.t 18), (.t 20)], none⟩])
(.exit 1))
.skip))
(.reg [
⟨(some 22), .mv (.t 0), none⟩,
⟨(some 23), .fa 1 (.t 7), none⟩,
⟨(some 24), .ld false 1 (.t 23), none⟩,
⟨(some 25), .fa 0 (.t 7), none⟩,
⟨(some 26), .ld false 1 (.t 25), none⟩,
⟨(some 27), .mv (.t 1), none⟩,
⟨(some 28), .fa 2 (.t 7), none⟩,
⟨(some 29), .ld false 1 (.t 28), none⟩,
⟨(some 30), .build [(.i .i64 0), (.i .i64 0), .nsl, (.i .i64 0), (.i .i64 0), (.i .i64 0), (.i .i64 0), (.i .i64 0), (.i .i64 0), (.i .i64 0), (.s []), .nsl, (.i .i64 0), (.i .i64 0), (.i .i64 0), (.i .i64 0)] [(0, 1, (.t 26)), (1, 1, (.t 27)), (2, 1, (.t 29))], none⟩,
⟨(some 31), .call 115 [(.t 22), (.t 24), (.t 30)], none⟩]))))
(.reg [
⟨(some 32), .bin .add .no (.t 10) (.c (.i .i64 1)), none⟩,
⟨(some 10), .mv (.t 32), none⟩])))))))⟩
def f131 : AF := ⟨12, [.t 2], (.seq (.reg [
⟨(some 2), .mv (.c (.b false)), none⟩])
(.seq (.reg [
⟨(some 3), .mv (.t 0), none⟩,
⟨(some 4), .bin .neq .ptr (.t 3) (.c .np), none⟩,
⟨(some 5), .mv (.t 4), none⟩,
⟨(some 6), .mv (.t 0), (some (5, true))⟩,
⟨(some 7), .nck (.t 6), (some (5, true))⟩,
⟨(some 8), .fa 0 (.t 7), (some (5, true))⟩,
⟨(some 9), .ld false 1 (.t 8), (some (5, true))⟩,
⟨(some 10), .bin .neq .nilm (.t 9) (.c .nm), (some (5, true))⟩,
⟨(some 11), .pick (.t 5) (.t 10) (.c (.b false)), none⟩,
⟨(some 2), .mv (.t 11), none⟩])
.ret))⟩
def f132 : AF := ⟨25, [.t 6, .t 7], (.seq (.reg [
⟨(some 6), .mv (.c .nsl), none⟩,
⟨(some 7), .mv (.c (.i .i64 0)), none⟩])
(.seq (.reg [
⟨(some 11), .mv (.t 1), none⟩,
⟨(some 12), .mv (.t 2), none⟩,
⟨(some 13), .call 83 [(.t 11), (.t 12)], none⟩,
⟨(some 10), .mv (.t 13), none⟩,
⟨(some 14), .xt (.t 10) 0, none⟩,
⟨(some 15), .xt (.t 10) 1, none⟩,
⟨(some 8), .mv (.t 14), none⟩,
⟨(some 9), .mv (.t 15), none⟩])
(.seq (.seq (.reg [
⟨(some 16), .mv (.t 9), none⟩,
⟨(some 17), .bin .neq .int (.t 16) (.c (.i .i64 0)), none⟩,
⟨(some 18), .mv (.t 17), none⟩,
⟨(some 19), .mv (.t 0), (some (18, false))⟩,
⟨(some 20), .mv (.t 8), (some (18, false))⟩,
⟨(some 21), .call 183 [(.t 19), (.t 20)], (some (18, false))⟩,
⟨(some 22), .un .not (.t 21), (some (18, false))⟩,
⟨(some 23), .pick (.t 18) (.c (.b true)) (.t 22), none⟩])
(.cond (.t 23)
(.seq (.reg [
⟨(some 6), .mv (.c .nsl), none⟩,
⟨(some 7), .mv (.c (.i .i64 50)), none⟩])
.ret)
.skip))
(.seq (.reg [
⟨(some 24), .mv (.t 8), none⟩,
⟨(some 6), .mv (.t 24), none⟩,
⟨(some 7), .mv (.c (.i .i64 0)), none⟩])
.ret))))⟩
def f133 : AF := ⟨6, [.t 2], (.seq (.reg [
⟨(some 2), .mv (.c .nsl), none⟩])
(.seq (.reg [
⟨(some 3), .mv (.t 0), none⟩,
⟨(some 4), .call 184 [(.t 3)], none⟩,
⟨(some 5), .call 43 [(.t 4)], none⟩,
⟨(some 2), .mv (.t 5), none⟩])
.ret))⟩
def f134 : AF := ⟨6, [.t 2], (.seq (.reg [
⟨(some 2), .mv (.c .nsl), none⟩])
(.seq (.reg [
⟨(some 3), .mv (.t 0), none⟩,
⟨(some 4), .call 185 [(.t 3)], none⟩,
⟨(some 5), .call 43 [(.t 4)], none⟩,
⟨(some 2), .mv (.t 5), none⟩])
.ret))⟩
def f135 : AF := ⟨33, [], (.seq (.reg [
⟨(some 5), .box 6 (.t 2), none⟩])
(.seq (.drw [
.op ⟨(some 6), .mv (.t 0), none⟩,
.op ⟨(some 7), .mv (.t 1), none⟩,
.op ⟨(some 9), .fa 0 (.t 5), none⟩,
.op ⟨(some 10), .ld false 1 (.t 9), none⟩,
.op ⟨(some 11), .bin .shr .no (.t 10) (.c (.i .u64 32)), none⟩,
.op ⟨(some 12), .cvi .i64 (.t 11), none⟩,
.op ⟨(some 14), .fa 0 (.t 5), none⟩,
.op ⟨(some 15), .ld false 1 (.t 14), none⟩,
.op ⟨(some 16), .bin .and .no (.t 15) (.c (.i .u64 4294967295)), none⟩,
.op ⟨(some 17), .cvi .i64 (.t 16), none⟩,
.op ⟨(some 19), .fa 1 (.t 5), none⟩,
.op ⟨(some 20), .ld false 1 (.t 19), none⟩,
.op ⟨(some 8), .call 101 [(.t 6), (.t 7)], none⟩,
.chk ⟨(some 10), .ld false 1 (.t 9), none⟩,
.chk ⟨(some 15), .ld false 1 (.t 14), none⟩,
.chk ⟨(some 20), .ld false 1 (.t 19), none⟩,
.op ⟨(some 13), .call 101 [(.t 8), (.t 12)], none⟩,
.chk ⟨(some 15), .ld false 1 (.t 14), none⟩,
.chk ⟨(some 20), .ld false 1 (.t 19), none⟩,
.op ⟨(some 18), .call 101 [(.t 13), (.t 17)], none⟩,
.chk ⟨(some 20), .ld false 1 (.t 19), none⟩,
.op ⟨(some 21), .call 186 [(.t 18), (.t 20)], none⟩])
(.seq (.reg [
⟨(some 22), .fa 1 (.t 5), none⟩,
⟨(some 23), .ld false 1 (.t 22), none⟩])
(.cond (.t 23)
(.drw [
.op ⟨(some 24), .mv (.t 0), none⟩,
.op ⟨(some 25), .fa 2 (.t 5), none⟩,
.op ⟨(some 26), .fa 2 (.t 25), none⟩,
.op ⟨(some 27), .ld false 1 (.t 26), none⟩,
.op ⟨(some 29), .fa 2 (.t 5), none⟩,
.op ⟨(some 30), .fa 3 (.t 29), none⟩,
.op ⟨(some 31), .ld false 1 (.t 30), none⟩,
.op ⟨(some 28), .call 101 [(.t 24), (.t 27)], none⟩,
.chk ⟨(some 31), .ld false 1 (.t 30), none⟩,
.op ⟨(some 32), .call 101 [(.t 28), (.t 31)], none⟩])
.skip))))⟩
def f138 : AF := ⟨8, [.t 4], (.seq (.reg [
⟨(some 4), .mv (.c (.i .i64 0)), none⟩])
(.seq (.reg [
⟨(some 5), .mv (.t 0), none⟩,
⟨(some 6), .mv (.t 1), none⟩,
⟨(some 7), .call 188 [(.t 5), (.t 6)], none⟩,
⟨(some 4), .mv (.t 7), none⟩])
.ret))⟩
def f139 : AF := ⟨9, [.t 2], (.seq (.reg [
⟨(some 2), .mv (.c (.b false)), none⟩])
(.seq (.reg [
⟨(some 3), .mv (.t 0), none⟩,
⟨(some 4), .bin .geq .no (.t 3) (.c (.i .i64 0)), none⟩,
⟨(some 5), .mv (.t 4), none⟩,
⟨(some 6), .mv (.t 0), (some (5, true))⟩,
⟨(some 7), .bin .leq .no (.t 6) (.c (.i .i64 1099511627776)), (some (5, true))⟩,
⟨(some 8), .pick (.t 5) (.t 7) (.c (.b false)), none⟩,
⟨(some 2), .mv (.t 8), none⟩])
.ret))⟩
def f140 : AF := ⟨26, [.t 4], (.seq (.reg [
⟨(some 4), .mv (.c (.b false)), none⟩])
(.seq (.seq (.reg [
⟨(some 6), .mv (.t 0), none⟩,
⟨(some 7), .len 1 (.t 6), none⟩,
⟨(some 8), .mv (.t 1), none⟩,
⟨(some 9), .len 1 (.t 8), none⟩,
⟨(some 10), .bin .neq .int (.t 7) (.t 9), none⟩])
(.cond (.t 10)
(.seq (.reg [
⟨(some 4), .mv (.c (.b false)), none⟩])
.ret)
.skip))
(.seq (.seq (.reg [
⟨(some 11), .mv (.t 0), none⟩,
⟨(some 12), .len 1 (.t 11), none⟩,
⟨(some 13), .mv (.c (.i .i64 0)), none⟩])
(.blk 0 (.loop (.seq (.reg [
⟨(some 14), .bin .lss .no (.t 13) (.t 12), none⟩])
(.seq (.cond (.t 14)
.skip
(.exit 0))
(.seq (.blk 1 (.seq (.reg [
⟨(some 15), .mv (.t 13), none⟩,
⟨(some 5), .mv (.t 15), none⟩])
(.seq (.drw [
.op ⟨(some 16), .mv (.t 0), none⟩,
.op ⟨(some 17), .mv (.t 5), none⟩,
.op ⟨(some 18), .iaL 2 (.t 16) (.t 17), none⟩,
.op ⟨(some 19), .ld true 2 (.t 18), none⟩,
.op ⟨(some 20), .mv (.t 1), none⟩,
.op ⟨(some 21), .mv (.t 5), none⟩,
.op ⟨(some 22), .iaL 2 (.t 20) (.t 21), none⟩,
.op ⟨(some 23), .ld true 2 (.t 22), none⟩,
.op ⟨(some 24), .bin .neq (.ag [(0, 1, false, .str), (1, 1, false, .int)]) (.t 19) (.t 23), none⟩])
(.cond (.t 24)
(.seq (.reg [
⟨(some 4), .mv (.c (.b false)), none⟩])
.ret)
.skip))))
(.reg [
⟨(some 25), .bin .add .no (.t 13) (.c (.i .i64 1)), none⟩,
⟨(some 13), .mv (.t 25), none⟩])))))))
(.seq (.reg [
⟨(some 4), .mv (.c (.b true)), none⟩])
.ret))))⟩
def f142 : AF := ⟨42, [.t 2, .t 3], (.seq (.reg [
⟨(some 2), .mv (.c .nsl), none⟩,
⟨(some 3), .mv (.c (.i .i64 0)), none⟩])
(.seq (.reg [
⟨(some 11), .mv (.t 0), none⟩,
⟨(some 12), .call 189 [(.t 11)], none⟩,
⟨(some 10), .mv (.t 12), none⟩,
⟨(some 13), .xt (.t 10) 0, none⟩,
⟨(some 14), .xt (.t 10) 1, none⟩,
⟨(some 4), .mv (.t 13), none⟩,
⟨(some 5), .mv (.t 14), none⟩])
(.seq (.seq (.reg [
⟨(some 15), .mv (.t 5), none⟩,
⟨(some 16), .bin .neq .int (.t 15) (.c (.i .i64 0)), none⟩])
(.cond (.t 16)
(.seq (.reg [
⟨(some 17), .mv (.t 5), none⟩,
⟨(some 2), .mv (.c .nsl), none⟩,
⟨(some 3), .mv (.t 17), none⟩])
.ret)
.skip))
(.seq (.reg [
⟨(some 6), .mv (.c .nsl), none⟩])
(.seq (.seq (.reg [
⟨(some 18), .mv (.t 4), none⟩,
⟨(some 19), .call 190 [(.t 18)], none⟩,
⟨(some 20), .call 150 [(.t 19)], none⟩,
⟨(some 21), .len 1 (.t 20), none⟩,
⟨(some 22), .mv (.c (.i .i64 0)), none⟩])
(.blk 0 (.loop (.seq (.reg [
⟨(some 23), .bin .lss .no (.t 22) (.t 21), none⟩])
(.seq (.cond (.t 23)
.skip
(.exit 0))
(.seq (.blk 1 (.seq (.reg [
⟨(some 24), .iaL 1 (.t 20) (.t 22), none⟩,
⟨(some 25), .ld false 1 (.t 24), none⟩,
⟨(some 8), .mv (.t 25), none⟩])
(.seq (.reg [
⟨(some 26), .mv (.t 4), none⟩,
⟨(some 27), .mv (.t 8), none⟩,
⟨(some 28), .lk .str (.i .i64 0) false (.t 26) (.t 27), none⟩,
⟨(some 9), .mv (.t 28), none⟩])
(.seq (.reg [
⟨(some 29), .mv (.t 9), none⟩,
⟨(some 30), .bin .gtr .no (.t 29) (.c (.i .i64 0)), none⟩])
(.cond (.t 30)
(.reg [
⟨(some 31), .mv (.t 6), none⟩,
⟨(some 32), .mv (.t 8), none⟩,
⟨(some 33), .mv (.t 9), none⟩,
⟨(some 34), .build [(.s []), (.i .i64 0)] [(0, 1, (.t 32)), (1, 1, (.t 33))], none⟩,
⟨(some 35), .bsl 1 [(.s []), (.i .i64 0)] [(0, 2, (.t 34))], none⟩,
⟨(some 36), .app 2 24 [(.s []), (.i .i64 0)] (.t 31) (.t 35), none⟩,
⟨(some 6), .mv (.t 36), none⟩])
.skip)))))
(.reg [
⟨(some 37), .bin .add .no (.t 22) (.c (.i .i64 1)), none⟩,
⟨(some 22), .mv (.t 37), none⟩])))))))
(.seq (.seq (.reg [
⟨(some 38), .mv (.t 6), none⟩,
⟨(some 39), .len 1 (.t 38), none⟩,
⟨(some 40), .bin .gtr .no (.t 39) (.c (.i .i64 16)), none⟩])
(.cond (.t 40)
(.seq (.reg [
⟨(some 2), .mv (.c .nsl), none⟩,
⟨(some 3), .mv (.c (.i .i64 3)), none⟩])
.ret)
.skip))
(.seq (.reg [
⟨(some 41), .mv (.t 6), none⟩,
⟨(some 2), .mv (.t 41), none⟩,
⟨(some 3), .mv (.c (.i .i64 0)), none⟩])
.ret)))))))⟩
def f143 : AF := ⟨36, [.t 2], (.seq (.reg [
⟨(some 2), .mv (.c .nsl), none⟩])
(.seq (.reg [
⟨(some 3), .mv (.c (.i .i64 0)), none⟩])
(.seq (.seq (.reg [
⟨(some 9), .mv (.t 0), none⟩,
⟨(some 10), .len 1 (.t 9), none⟩,
⟨(some 11), .mv (.c (.i .i64 0)), none⟩])
(.blk 0 (.loop (.seq (.reg [
⟨(some 12), .bin .lss .no (.t 11) (.t 10), none⟩])
(.seq (.cond (.t 12)
.skip
(.exit 0))
(.seq (.blk 1 (.seq (.reg [
⟨(some 13), .iaL 1 (.t 9) (.t 11), none⟩,
⟨(some 14), .ld false 1 (.t 13), none⟩,
⟨(some 5), .mv (.t 14), none⟩])
(.seq (.reg [
⟨(some 15), .mv (.t 3), none⟩,
⟨(some 16), .mv (.t 5), none⟩,
⟨(some 17), .len 1 (.t 16), none⟩,
⟨(some 18), .bin .add .no (.t 15) (.t 17), none⟩,
⟨(some 3), .mv (.t 18), none⟩])
(.seq (.reg [
⟨(some 19), .mv (.t 3), none⟩,
⟨(some 20), .bin .lss .no (.t 19) (.c (.i .i64 0)), none⟩])
(.cond (.t 20)
(.reg [
⟨(some 21), .mki 9 (.c (.s [108, 101, 110, 32, 111, 117, 116, 32, 111, 102, 32, 114, 97, 110, 103, 101])), none⟩,
⟨none, .bad 0, none⟩])
.skip)))))
(.reg [
⟨(some 22), .bin .add .no (.t 11) (.c (.i .i64 1)), none⟩,
⟨(some 11), .mv (.t 22), none⟩])))))))
(.seq (.reg [
⟨(some 23), .mv (.t 3), none⟩,
⟨(some 24), .call 191 [(.c .nsl), (.t 23)], none⟩,
⟨(some 6), .mv (.t 24), none⟩])
(.seq (.seq (.reg [
⟨(some 25), .mv (.t 0), none⟩,
⟨(some 26), .len 1 (.t 25), none⟩,
⟨(some 27), .mv (.c (.i .i64 0)), none⟩])
(.blk 2 (.loop (.seq (.reg [
⟨(some 28), .bin .lss .no (.t 27) (.t 26), none⟩])
(.seq (.cond (.t 28)
.skip
(.exit 2))
(.seq (.blk 3 (.seq (.reg [
⟨(some 29), .iaL 1 (.t 25) (.t 27), none⟩,
⟨(some 30), .ld false 1 (.t 29), none⟩,
⟨(some 8), .mv (.t 30), none⟩])
(.reg [
⟨(some 31), .mv (.t 6), none⟩,
⟨(some 32), .mv (.t 8), none⟩,
⟨(some 33), .app 2 24 [(.s []), (.i .i64 0)] (.t 31) (.t 32), none⟩,
⟨(some 6), .mv (.t 33), none⟩])))
(.reg [
⟨(some 34), .bin .add .no (.t 27) (.c (.i .i64 1)), none⟩,
⟨(some 27), .mv (.t 34), none⟩])))))))
(.seq (.reg [
⟨(some 35), .mv (.t 6), none⟩,
⟨(some 2), .mv (.t 35), none⟩])
.ret))))))⟩
def f150 : AF := ⟨9, [.t 2], (.seq (.reg [
⟨(some 2), .mv (.c .nsl), none⟩])
(.seq (.reg [
⟨(some 4), .mv (.t 0), none⟩,
⟨(some 5), .call 194 [(.t 4)], none⟩,
⟨(some 3), .mv (.t 5), none⟩])
(.seq (.reg [
⟨(some 6), .mv (.t 3), none⟩,
⟨(some 7), .call 195 [(.t 6)], none⟩])
(.seq (.reg [
⟨(some 8), .mv (.t 3), none⟩,
⟨(some 2), .mv (.t 8), none⟩])
.ret))))⟩
def f156 : AF := ⟨19, [], (.seq (.reg [
⟨(some 5), .ld false 1 (.t 1), none⟩,
⟨(some 6), .len 1 (.t 5), none⟩,
⟨(some 7), .mv (.c (.i .i64 0)), none⟩])
(.blk 0 (.loop (.seq (.reg [
⟨(some 8), .bin .lss .no (.t 7) (.t 6), none⟩])
(.seq (.cond (.t 8)
.skip
(.exit 0))
(.seq (.blk 1 (.seq (.reg [
⟨(some 9), .iaL 2 (.t 5) (.t 7), none⟩,
⟨(some 10), .ld true 2 (.t 9), none⟩,
⟨(some 4), .alloc [(.s []), (.i .i64 0)], none⟩,
⟨none, .st 2 (.t 4) (.t 10), none⟩])
(.seq (.reg [
⟨(some 11), .mv (.t 0), none⟩,
⟨(some 12), .fa 0 (.t 4), none⟩,
⟨(some 13), .ld false 1 (.t 12), none⟩,
⟨(some 14), .fa 1 (.t 4), none⟩,
⟨(some 15), .ld false 1 (.t 14), none⟩,
⟨(some 16), .cald (.t 11) [(.t 13), (.t 15)], none⟩,
⟨(some 17), .un .not (.t 16), none⟩])
(.cond (.t 17)
.ret
.skip))))
(.reg [
⟨(some 18), .bin .add .no (.t 7) (.c (.i .i64 1)), none⟩,
⟨(some 7), .mv (.t 18), none⟩])))))))⟩
def f157 : AF := ⟨43, [.t 4], (.seq (.reg [
⟨(some 4), .mv (.c .np), none⟩])
(.seq (.seq (.reg [
⟨(some 6), .mv (.t 0), none⟩,
⟨(some 7), .bin .eql .ptr (.t 6) (.c .np), none⟩])
(.cond (.t 7)
(.seq (.reg [
⟨(some 4), .mv (.c .np), none⟩])
.ret)
.skip))
(.seq (.reg [
⟨(some 8), .mv (.t 1), none⟩,
⟨(some 9), .call 200 [(.t 8)], none⟩,
⟨(some 5), .mv (.t 9), none⟩])
(.seq (.seq (.reg [
⟨(some 10), .mv (.t 0), none⟩,
⟨(some 11), .mv (.t 0), none⟩,
⟨(some 12), .nck (.t 11), none⟩,
⟨(some 13), .fa 1 (.t 12), none⟩,
⟨(some 14), .ld false 1 (.t 13), none⟩,
⟨(some 15), .mv (.t 14), none⟩,
⟨(some 16), .mv (.t 5), (some (15, false))⟩,
⟨(some 17), .len 1 (.t 16), (some (15, false))⟩,
⟨(some 18), .mv (.t 0), (some (15, false))⟩,
⟨(some 19), .nck (.t 18), (some (15, false))⟩,
⟨(some 20), .fa 0 (.t 19), (some (15, false))⟩,
⟨(some 21), .ld false 1 (.t 20), (some (15, false))⟩,
⟨(some 22), .len 1 (.t 21), (some (15, false))⟩,
⟨(some 23), .bin .sub .no (.c (.i .i64 262144)) (.t 22), (some (15, false))⟩,
⟨(some 24), .bin .gtr .no (.t 17) (.t 23), (some (15, false))⟩,
⟨(some 25), .pick (.t 15) (.c (.b true)) (.t 24), none⟩,
⟨(some 26), .nck (.t 10), none⟩,
⟨(some 27), .fa 1 (.t 26), none⟩,
⟨none, .st 1 (.t 27) (.t 25), none⟩])
(.seq (.reg [
⟨(some 28), .mv (.t 0), none⟩,
⟨(some 29), .nck (.t 28), none⟩,
⟨(some 30), .fa 1 (.t 29), none⟩,
⟨(some 31), .ld false 1 (.t 30), none⟩,
⟨(some 32), .un .not (.t 31), none⟩])
(.cond (.t 32)
(.reg [
⟨(some 33), .mv (.t 0), none⟩,
⟨(some 34), .mv (.t 0), none⟩,
⟨(some 35), .nck (.t 34), none⟩,
⟨(some 36), .fa 0 (.t 35), none⟩,
⟨(some 37), .ld false 1 (.t 36), none⟩,
⟨(some 38), .mv (.t 5), none⟩,
⟨(some 39), .app 1 1 [(.i .u8 0)] (.t 37) (.t 38), none⟩,
⟨(some 40), .nck (.t 33), none⟩,
⟨(some 41), .fa 0 (.t 40), none⟩,
⟨none, .st 1 (.t 41) (.t 39), none⟩])
.skip)))
(.seq (.reg [
⟨(some 42), .mv (.t 0), none⟩,
⟨(some 4), .mv (.t 42), none⟩])
.ret)))))⟩
def f158 : AF := ⟨49, [.t 2], (.seq (.reg [
⟨(some 2), .mv (.c .nsl), none⟩])
(.seq (.seq (.reg [
⟨(some 8), .mv (.t 0), none⟩,
⟨(some 9), .bin .geq .no (.t 8) (.c (.i .i64 0)), none⟩,
⟨(some 10), .mv (.t 9), none⟩,
⟨(some 11), .mv (.t 0), (some (10, true))⟩,
⟨(some 12), .bin .lss .no (.t 11) (.c (.i .i64 128)), (some (10, true))⟩,
⟨(some 13), .pick (.t 10) (.t 12) (.c (.b false)), none⟩])
(.cond (.t 13)
(.seq (.reg [
⟨(some 14), .mv (.t 0), none⟩,
⟨(some 15), .cvi .u8 (.t 14), none⟩,
⟨(some 16), .bsl 1 [(.i .u8 0)] [(0, 1, (.t 15))], none⟩,
⟨(some 2), .mv (.t 16), none⟩])
.ret)
.skip))
(.seq (.reg [
⟨(some 17), .mv (.t 0), none⟩,
⟨(some 18), .cvi .u64 (.t 17), none⟩,
⟨(some 3), .mv (.c (.i .u8 128)), none⟩,
⟨(some 4), .mv (.t 18), none⟩])
(.seq (.seq (.reg [
⟨(some 19), .mv (.t 0), none⟩,
⟨(some 20), .bin .lss .no (.t 19) (.c (.i .i64 0)), none⟩])
(.cond (.t 20)
(.reg [
⟨(some 21), .mv (.t 4), none⟩,
⟨(some 22), .un .xor (.t 21), none⟩,
⟨(some 3), .mv (.c (.i .u8 144)), none⟩,
⟨(some 4), .mv (.t 22), none⟩])
.skip))
(.seq (.reg [
⟨(some 23), .mv (.t 4), none⟩,
⟨(some 24), .call 201 [(.t 23)], none⟩,
⟨(some 25), .bin .add .no (.t 24) (.c (.i .i64 8)), none⟩,
⟨(some 26), .bin .sub .no (.t 25) (.c (.i .i64 1)), none⟩,
⟨(some 27), .bin .quo .no (.t 26) (.c (.i .i64 8)), none⟩,
⟨(some 5), .mv (.t 27), none⟩])
(.seq (.reg [
⟨(some 28), .mv (.t 3), none⟩,
⟨(some 29), .mv (.t 5), none⟩,
⟨(some 30), .cvi .u8 (.t 29), none⟩,
⟨(some 31), .bin .add .no (.t 28) (.t 30), none⟩,
⟨(some 32), .bsl 1 [(.i .u8 0)] [(0, 1, (.t 31))], none⟩,
⟨(some 6), .mv (.t 32), none⟩])
(.seq (.seq (.reg [
⟨(some 33), .mv (.t 5), none⟩,
⟨(some 34), .bin .sub .no (.t 33) (.c (.i .i64 1)), none⟩,
⟨(some 7), .mv (.t 34), none⟩])
(.blk 0 (.loop (.seq (.seq (.reg [
⟨(some 35), .mv (.t 7), none⟩,
⟨(some 36), .bin .geq .no (.t 35) (.c (.i .i64 0)), none⟩])
(.cond (.t 36)
.skip
(.exit 0)))
(.seq (.blk 1 (.reg [
⟨(some 39), .mv (.t 6), none⟩,
⟨(some 40), .mv (.t 4), none⟩,
⟨(some 41), .mv (.t 7), none⟩,
⟨(some 42), .bin .mul .no (.c (.i .i64 8)) (.t 41), none⟩,
⟨(some 43), .bin .shr .no (.t 40) (.t 42), none⟩,
⟨(some 44), .cvi .u8 (.t 43), none⟩,
⟨(some 45), .bsl 1 [(.i .u8 0)] [(0, 1, (.t 44))], none⟩,
⟨(some 46), .app 1 1 [(.i .u8 0)] (.t 39) (.t 45), none⟩,
⟨(some 6), .mv (.t 46), none⟩]))
(.reg [
⟨(some 37), .mv (.t 7), none⟩,
⟨(some 38), .bin .sub .no (.t 37) (.c (.i .i64 1)), none⟩,
⟨(some 7), .mv (.t 38), none⟩]))))))
(.seq (.reg [
⟨(some 47), .mv (.t 6), none⟩,
⟨(some 48), .call 202 [(.t 47)], none⟩,
⟨(some 2), .mv (.t 48), none⟩])
.ret))))))))⟩
def f160 : AF := ⟨8, [.t 2], (.seq (.reg [
⟨(some 2), .mv (.c .nsl), none⟩])
(.seq (.seq (.reg [
⟨(some 3), .mv (.t 0), none⟩,
⟨(some 4), .bin .eql .nils (.t 3) (.c .nsl), none⟩])
(.cond (.t 4)
(.seq (.reg [
⟨(some 2), .mv (.c .nsl), none⟩])
.ret)
.skip))
(.seq (.reg [
⟨(some 5), .bsl 0 [(.i .u8 0)] [], none⟩,
⟨(some 6), .mv (.t 0), none⟩,
⟨(some 7), .app 1 1 [(.i .u8 0)] (.t 5) (.t 6), none⟩,
⟨(some 2), .mv (.t 7), none⟩])
.ret)))⟩
def f161 : AF := ⟨13, [.t 4], (.seq (.reg [
⟨(some 2), .box 1 (.t 0), none⟩,
⟨(some 4), .mv (.c .nsl), none⟩])
(.seq (.seq (.reg [
⟨(some 6), .mv (.t 1), none⟩])
(.blk 0 (.rf (.t 6) [7] (.reg [
⟨(some 5), .mv (.t 7), none⟩])
(.blk 1 (.reg [
⟨(some 8), .ld false 1 (.t 2), none⟩,
⟨(some 9), .mv (.t 5), none⟩,
⟨(some 10), .bsl 1 [(.i .i64 0)] [(0, 1, (.t 9))], none⟩,
⟨(some 11), .app 1 8 [(.i .i64 0)] (.t 8) (.t 10), none⟩,
⟨none, .st 1 (.t 2) (.t 11), none⟩])))))
(.seq (.reg [
⟨(some 12), .ld false 1 (.t 2), none⟩,
⟨(some 4), .mv (.t 12), none⟩])
.ret)))⟩
def f162 : AF := ⟨134, [], (.seq (.reg [
⟨(some 8), .mv (.c (.b true)), none⟩])
(.seq (.reg [
⟨(some 9), .mv (.c (.b true)), none⟩])
(.blk 0 (.loop (.blk 1 (.seq (.reg [
⟨(some 19), .mv (.t 2), none⟩,
⟨(some 20), .mv (.t 1), none⟩,
⟨(some 21), .bin .sub .no (.t 19) (.t 20), none⟩,
⟨(some 10), .mv (.t 21), none⟩])
(.seq (.seq (.reg [
⟨(some 22), .mv (.t 10), none⟩,
⟨(some 23), .bin .leq .no (.t 22) (.c (.i .i64 12)), none⟩])
(.cond (.t 23)
(.seq (.reg [
⟨(some 24), .mv (.t 0), none⟩,
⟨(some 25), .mv (.t 1), none⟩,
⟨(some 26), .mv (.t 2), none⟩,
⟨(some 27), .call 203 [(.t 24), (.t 25), (.t 26)], none⟩])
.ret)
.skip))
(.seq (.seq (.reg [
⟨(some 28), .mv (.t 3), none⟩,
⟨(some 29), .bin .eql .int (.t 28) (.c (.i .i64 0)), none⟩])
(.cond (.t 29)
(.seq (.reg [
⟨(some 30), .mv (.t 0), none⟩,
⟨(some 31), .mv (.t 1), none⟩,
⟨(some 32), .mv (.t 2), none⟩,
⟨(some 33), .call 204 [(.t 30), (.t 31), (.t 32)], none⟩])
.ret)
.skip))
(.seq (.seq (.reg [
⟨(some 34), .mv (.t 8), none⟩,
⟨(some 35), .un .not (.t 34), none⟩])
(.cond (.t 35)
(.seq (.reg [
⟨(some 36), .mv (.t 0), none⟩,
⟨(some 37), .mv (.t 1), none⟩,
⟨(some 38), .mv (.t 2), none⟩,
⟨(some 39), .call 205 [(.t 36), (.t 37), (.t 38)], none⟩])
(.reg [
⟨(some 40), .mv (.t 3), none⟩,
⟨(some 41), .bin .sub .no (.t 40) (.c (.i .i64 1)), none⟩,
⟨(some 3), .mv (.t 41), none⟩]))
.skip))
(.seq (.reg [
⟨(some 43), .mv (.t 0), none⟩,
⟨(some 44), .mv (.t 1), none⟩,
⟨(some 45), .mv (.t 2), none⟩,
⟨(some 46), .call 206 [(.t 43), (.t 44), (.t 45)], none⟩,
⟨(some 42), .mv (.t 46), none⟩,
⟨(some 47), .xt (.t 42) 0, none⟩,
⟨(some 48), .xt (.t 42) 1, none⟩,
⟨(some 11), .mv (.t 47), none⟩,
⟨(some 12), .mv (.t 48), none⟩])
(.seq (.seq (.reg [
⟨(some 49), .mv (.t 12), none⟩,
⟨(some 50), .bin .eql .int (.t 49) (.c (.i .i64 2)), none⟩])
(.cond (.t 50)
(.seq (.reg [
⟨(some 51), .mv (.t 0), none⟩,
⟨(some 52), .mv (.t 1), none⟩,
⟨(some 53), .mv (.t 2), none⟩,
⟨(some 54), .call 207 [(.t 51), (.t 52), (.t 53)], none⟩])
(.seq (.reg [
⟨(some 55), .mv (.t 2), none⟩,
⟨(some 56), .bin .sub .no (.t 55) (.c (.i .i64 1)), none⟩,
⟨(some 57), .mv (.t 11), none⟩,
⟨(some 58), .mv (.t 1), none⟩,
⟨(some 59), .bin .sub .no (.t 57) (.t 58), none⟩,
⟨(some 60), .bin .sub .no (.t 56) (.t 59), none⟩,
⟨(some 11), .mv (.t 60), none⟩])
(.reg [
⟨(some 12), .mv (.c (.i .i64 1)), none⟩])))
.skip))
(.seq (.seq (.reg [
⟨(some 61), .mv (.t 8), none⟩,
⟨(some 62), .mv (.t 61), none⟩,
⟨(some 63), .mv (.t 9), (some (62, true))⟩,
⟨(some 64), .pick (.t 62) (.t 63) (.c (.b false)), none⟩,
⟨(some 65), .mv (.t 64), none⟩,
⟨(some 66), .mv (.t 12), (some (65, true))⟩,
⟨(some 67), .bin .eql .int (.t 66) (.c (.i .i64 1)), (some (65, true))⟩,
⟨(some 68), .pick (.t 65) (.t 67) (.c (.b false)), none⟩])
(.cond (.t 68)
(.seq (.reg [
⟨(some 69), .mv (.t 0), none⟩,
⟨(some 70), .mv (.t 1), none⟩,
⟨(some 71), .mv (.t 2), none⟩,
⟨(some 72), .call 208 [(.t 69), (.t 70), (.t 71)], none⟩])
(.cond (.t 72)
.ret
.skip))
.skip))
(.seq (.seq (.drw [
.op ⟨(some 73), .mv (.t 1), none⟩,
.op ⟨(some 74), .bin .gtr .no (.t 73) (.c (.i .i64 0)), none⟩,
.op ⟨(some 75), .mv (.t 74), none⟩,
.op ⟨(some 76), .mv (.t 0), (some (75, true))⟩,
.op ⟨(some 77), .mv (.t 1), (some (75, true))⟩,
.op ⟨(some 78), .bin .sub .no (.t 77) (.c (.i .i64 1)), (some (75, true))⟩,
.op ⟨(some 79), .iaL 1 (.t 76) (.t 78), (some (75, true))⟩,
.op ⟨(some 80), .ld false 1 (.t 79), (some (75, true))⟩,
.op ⟨(some 81), .mv (.t 0), (some (75, true))⟩,
.op ⟨(some 82), .mv (.t 11), (some (75, true))⟩,
.op ⟨(some 83), .iaL 1 (.t 81) (.t 82), (some (75, true))⟩,
.op ⟨(some 84), .ld false 1 (.t 83), (some (75, true))⟩,
.op ⟨(some 85), .call 209 [(.t 80), (.t 84)], (some (75, true))⟩,
.op ⟨(some 86), .un .not (.t 85), (some (75, true))⟩,
.op ⟨(some 87), .pick (.t 75) (.t 86) (.c (.b false)), none⟩])
(.cond (.t 87)
(.seq (.reg [
⟨(some 88), .mv (.t 0), none⟩,
⟨(some 89), .mv (.t 1), none⟩,
⟨(some 90), .mv (.t 2), none⟩,
⟨(some 91), .mv (.t 11), none⟩,
⟨(some 92), .call 210 [(.t 88), (.t 89), (.t 90), (.t 91)], none⟩,
⟨(some 13), .mv (.t 92), none⟩])
(.seq (.reg [
⟨(some 93), .mv (.t 13), none⟩,
⟨(some 1), .mv (.t 93), none⟩])
(.exit 1)))
.skip))
(.seq (.reg [
⟨(some 95), .mv (.t 0), none⟩,
⟨(some 96), .mv (.t 1), none⟩,
⟨(some 97), .mv (.t 2), none⟩,
⟨(some 98), .mv (.t 11), none⟩,
⟨(some 99), .call 211 [(.t 95), (.t 96), (.t 97), (.t 98)], none⟩,
⟨(some 94), .mv (.t 99), none⟩,
⟨(some 100), .xt (.t 94) 0, none⟩,
⟨(some 101), .xt (.t 94) 1, none⟩,
⟨(some 14), .mv (.t 100), none⟩,
⟨(some 15), .mv (.t 101), none⟩])
(.seq (.reg [
⟨(some 102), .mv (.t 15), none⟩,
⟨(some 9), .mv (.t 102), none⟩])
(.seq (.reg [
⟨(some 103), .mv (.t 14), none⟩,
⟨(some 104), .mv (.t 1), none⟩,
⟨(some 105), .bin .sub .no (.t 103) (.t 104), none⟩,
⟨(some 106), .mv (.t 2), none⟩,
⟨(some 107), .mv (.t 14), none⟩,
⟨(some 108), .bin .sub .no (.t 106) (.t 107), none⟩,
⟨(some 16), .mv (.t 105), none⟩,
⟨(some 17), .mv (.t 108), none⟩])
(.seq (.reg [
⟨(some 109), .mv (.t 10), none⟩,
⟨(some 110), .bin .quo .no (.t 109) (.c (.i .i64 8)), none⟩,
⟨(some 18), .mv (.t 110), none⟩])
(.seq (.reg [
⟨(some 111), .mv (.t 16), none⟩,
⟨(some 112), .mv (.t 17), none⟩,
⟨(some 113), .bin .lss .no (.t 111) (.t 112), none⟩])
(.cond (.t 113)
(.seq (.reg [
⟨(some 114), .mv (.t 16), none⟩,
⟨(some 115), .mv (.t 18), none⟩,
⟨(some 116), .bin .geq .no (.t 114) (.t 115), none⟩,
⟨(some 8), .mv (.t 116), none⟩])
(.seq (.reg [
⟨(some 117), .mv (.t 0), none⟩,
⟨(some 118), .mv (.t 1), none⟩,
⟨(some 119), .mv (.t 14), none⟩,
⟨(some 120), .mv (.t 3), none⟩,
⟨(some 121), .call 162 [(.t 117), (.t 118), (.t 119), (.t 120)], none⟩])
(.reg [
⟨(some 122), .mv (.t 14), none⟩,
⟨(some 123), .bin .add .no (.t 122) (.c (.i .i64 1)), none⟩,
⟨(some 1), .mv (.t 123), none⟩])))
(.seq (.reg [
⟨(some 124), .mv (.t 17), none⟩,
⟨(some 125), .mv (.t 18), none⟩,
⟨(some 126), .bin .geq .no (.t 124) (.t 125), none⟩,
⟨(some 8), .mv (.t 126), none⟩])
(.seq (.reg [
⟨(some 127), .mv (.t 0), none⟩,
⟨(some 128), .mv (.t 14), none⟩,
⟨(some 129), .bin .add .no (.t 128) (.c (.i .i64 1)), none⟩,
⟨(some 130), .mv (.t 2), none⟩,
⟨(some 131), .mv (.t 3), none⟩,
⟨(some 132), .call 162 [(.t 127), (.t 129), (.t 130), (.t 131)], none⟩])
(.reg [
⟨(some 133), .mv (.t 14), none⟩,
⟨(some 2), .mv (.t 133), none⟩]))))))))))))))))))))))⟩
def f163 : AF := ⟨8, [.t 2], (.seq (.reg [
⟨(some 2), .mv (.c (.i .i64 0)), none⟩])
(.seq (.cond (.c (.b false))
(.seq (.reg [
⟨(some 3), .mv (.t 0), none⟩,
⟨(some 4), .cvi .u32 (.t 3), none⟩,
⟨(some 5), .call 212 [(.t 4)], none⟩,
⟨(some 2), .mv (.t 5), none⟩])
.ret)
.skip)
(.seq (.reg [
⟨(some 6), .mv (.t 0), none⟩,
⟨(some 7), .call 201 [(.t 6)], none⟩,
⟨(some 2), .mv (.t 7), none⟩])
.ret)))⟩
def f164 : AF := ⟨24, [], (.seq (.reg [
⟨(some 4), .mv (.t 0), none⟩,
⟨(some 5), .nck (.t 4), none⟩,
⟨(some 6), .fa 3 (.t 5), none⟩,
⟨(some 7), .ld false 1 (.t 6), none⟩,
⟨(some 8), .mv (.t 1), none⟩,
⟨(some 9), .bin .xor .no (.t 7) (.t 8), none⟩,
⟨(some 10), .nck (.t 4), none⟩,
⟨(some 11), .fa 3 (.t 10), none⟩,
⟨none, .st 1 (.t 11) (.t 9), none⟩])
(.seq (.reg [
⟨(some 12), .mv (.t 0), none⟩,
⟨(some 13), .call 165 [(.t 12)], none⟩])
(.seq (.reg [
⟨(some 14), .mv (.t 0), none⟩,
⟨(some 15), .call 165 [(.t 14)], none⟩])
(.reg [
⟨(some 16), .mv (.t 0), none⟩,
⟨(some 17), .nck (.t 16), none⟩,
⟨(some 18), .fa 0 (.t 17), none⟩,
⟨(some 19), .ld false 1 (.t 18), none⟩,
⟨(some 20), .mv (.t 1), none⟩,
⟨(some 21), .bin .xor .no (.t 19) (.t 20), none⟩,
⟨(some 22), .nck (.t 16), none⟩,
⟨(some 23), .fa 0 (.t 22), none⟩,
⟨none, .st 1 (.t 23) (.t 21), none⟩]))))⟩
def f165 : AF := ⟨114, [], (.seq (.drw [
.op ⟨(some 2), .mv (.t 0), none⟩,
.op ⟨(some 3), .nck (.t 2), none⟩,
.op ⟨(some 4), .fa 0 (.t 3), none⟩,
.op ⟨(some 5), .ld false 1 (.t 4), none⟩,
.op ⟨(some 6), .mv (.t 0), none⟩,
.op ⟨(some 7), .nck (.t 6), none⟩,
.op ⟨(some 8), .fa 1 (.t 7), none⟩,
.op ⟨(some 9), .ld false 1 (.t 8), none⟩,
.op ⟨(some 10), .bin .add .no (.t 5) (.t 9), none⟩,
.op ⟨(some 11), .nck (.t 2), none⟩,
.op ⟨(some 12), .fa 0 (.t 11), none⟩,
.op ⟨none, .st 1 (.t 12) (.t 10), none⟩])
(.seq (.drw [
.op ⟨(some 13), .mv (.t 0), none⟩,
.op ⟨(some 14), .nck (.t 13), none⟩,
.op ⟨(some 15), .fa 2 (.t 14), none⟩,
.op ⟨(some 16), .ld false 1 (.t 15), none⟩,
.op ⟨(some 17), .mv (.t 0), none⟩,
.op ⟨(some 18), .nck (.t 17), none⟩,
.op ⟨(some 19), .fa 3 (.t 18), none⟩,
.op ⟨(some 20), .ld false 1 (.t 19), none⟩,
.op ⟨(some 21), .bin .add .no (.t 16) (.t 20), none⟩,
.op ⟨(some 22), .nck (.t 13), none⟩,
.op ⟨(some 23), .fa 2 (.t 22), none⟩,
.op ⟨none, .st 1 (.t 23) (.t 21), none⟩])
(.seq (.drw [
.op ⟨(some 24), .mv (.t 0), none⟩,
.op ⟨(some 25), .mv (.t 0), none⟩,
.op ⟨(some 26), .nck (.t 25), none⟩,
.op ⟨(some 27), .fa 1 (.t 26), none⟩,
.op ⟨(some 28), .ld false 1 (.t 27), none⟩,
.op ⟨(some 30), .mv (.t 0), none⟩,
.op ⟨(some 31), .nck (.t 30), none⟩,
.op ⟨(some 32), .fa 0 (.t 31), none⟩,
.op ⟨(some 33), .ld false 1 (.t 32), none⟩,
.op ⟨(some 29), .call 213 [(.t 28), (.c (.i .i64 13))], none⟩,
.chk ⟨(some 33), .ld false 1 (.t 32), none⟩,
.op ⟨(some 34), .bin .xor .no (.t 29) (.t 33), none⟩,
.op ⟨(some 35), .nck (.t 24), none⟩,
.op ⟨(some 36), .fa 1 (.t 35), none⟩,
.op ⟨none, .st 1 (.t 36) (.t 34), none⟩])
(.seq (.drw [
.op ⟨(some 37), .mv (.t 0), none⟩,
.op ⟨(some 38), .mv (.t 0), none⟩,
.op ⟨(some 39), .nck (.t 38), none⟩,
.op ⟨(some 40), .fa 3 (.t 39), none⟩,
.op ⟨(some 41), .ld false 1 (.t 40), none⟩,
.op ⟨(some 43), .mv (.t 0), none⟩,
.op ⟨(some 44), .nck (.t 43), none⟩,
.op ⟨(some 45), .fa 2 (.t 44), none⟩,
.op ⟨(some 46), .ld false 1 (.t 45), none⟩,
.op ⟨(some 42), .call 213 [(.t 41), (.c (.i .i64 16))], none⟩,
.chk ⟨(some 46), .ld false 1 (.t 45), none⟩,
.op ⟨(some 47), .bin .xor .no (.t 42) (.t 46), none⟩,
.op ⟨(some 48), .nck (.t 37), none⟩,
.op ⟨(some 49), .fa 3 (.t 48), none⟩,
.op ⟨none, .st 1 (.t 49) (.t 47), none⟩])
(.seq (.reg [
⟨(some 50), .mv (.t 0), none⟩,
⟨(some 51), .mv (.t 0), none⟩,
⟨(some 52), .nck (.t 51), none⟩,
⟨(some 53), .fa 0 (.t 52), none⟩,
⟨(some 54), .ld false 1 (.t 53), none⟩,
⟨(some 55), .call 213 [(.t 54), (.c (.i .i64 32))], none⟩,
⟨(some 56), .nck (.t 50), none⟩,
⟨(some 57), .fa 0 (.t 56), none⟩,
⟨none, .st 1 (.t 57) (.t 55), none⟩])
(.seq (.drw [
.op ⟨(some 58), .mv (.t 0), none⟩,
.op ⟨(some 59), .nck (.t 58), none⟩,
.op ⟨(some 60), .fa 2 (.t 59), none⟩,
.op ⟨(some 61), .ld false 1 (.t 60), none⟩,
.op ⟨(some 62), .mv (.t 0), none⟩,
.op ⟨(some 63), .nck (.t 62), none⟩,
.op ⟨(some 64), .fa 1 (.t 63), none⟩,
.op ⟨(some 65), .ld false 1 (.t 64), none⟩,
.op ⟨(some 66), .bin .add .no (.t 61) (.t 65), none⟩,
.op ⟨(some 67), .nck (.t 58), none⟩,
.op ⟨(some 68), .fa 2 (.t 67), none⟩,
.op ⟨none, .st 1 (.t 68) (.t 66), none⟩])
(.seq (.drw [
.op ⟨(some 69), .mv (.t 0), none⟩,
.op ⟨(some 70), .nck (.t 69), none⟩,
.op ⟨(some 71), .fa 0 (.t 70), none⟩,
.op ⟨(some 72), .ld false 1 (.t 71), none⟩,
.op ⟨(some 73), .mv (.t 0), none⟩,
.op ⟨(some 74), .nck (.t 73), none⟩,
.op ⟨(some 75), .fa 3 (.t 74), none⟩,
.op ⟨(some 76), .ld false 1 (.t 75), none⟩,
.op ⟨(some 77), .bin .add .no (.t 72) (.t 76), none⟩,
.op ⟨(some 78), .nck (.t 69), none⟩,
.op ⟨(some 79), .fa 0 (.t 78), none⟩,
.op ⟨none, .st 1 (.t 79) (.t 77), none⟩])
(.seq (.drw [
.op ⟨(some 80), .mv (.t 0), none⟩,
.op ⟨(some 81), .mv (.t 0), none⟩,
.op ⟨(some 82), .nck (.t 81), none⟩,
.op ⟨(some 83), .fa 1 (.t 82), none⟩,
.op ⟨(some 84), .ld false 1 (.t 83), none⟩,
.op ⟨(some 86), .mv (.t 0), none⟩,
.op ⟨(some 87), .nck (.t 86), none⟩,
.op ⟨(some 88), .fa 2 (.t 87), none⟩,
.op ⟨(some 89), .ld false 1 (.t 88), none⟩,
.op ⟨(some 85), .call 213 [(.t 84), (.c (.i .i64 17))], none⟩,
.chk ⟨(some 89), .ld false 1 (.t 88), none⟩,
.op ⟨(some 90), .bin .xor .no (.t 85) (.t 89), none⟩,
.op ⟨(some 91), .nck (.t 80), none⟩,
.op ⟨(some 92), .fa 1 (.t 91), none⟩,
.op ⟨none, .st 1 (.t 92) (.t 90), none⟩])
(.seq (.drw [
.op ⟨(some 93), .mv (.t 0), none⟩,
.op ⟨(some 94), .mv (.t 0), none⟩,
.op ⟨(some 95), .nck (.t 94), none⟩,
.op ⟨(some 96), .fa 3 (.t 95), none⟩,
.op ⟨(some 97), .ld false 1 (.t 96), none⟩,
.op ⟨(some 99), .mv (.t 0), none⟩,
.op ⟨(some 100), .nck (.t 99), none⟩,
.op ⟨(some 101), .fa 0 (.t 100), none⟩,
.op ⟨(some 102), .ld false 1 (.t 101), none⟩,
.op ⟨(some 98), .call 213 [(.t 97), (.c (.i .i64 21))], none⟩,
.chk ⟨(some 102), .ld false 1 (.t 101), none⟩,
.op ⟨(some 103), .bin .xor .no (.t 98) (.t 102), none⟩,
.op ⟨(some 104), .nck (.t 93), none⟩,
.op ⟨(some 105), .fa 3 (.t 104), none⟩,
.op ⟨none, .st 1 (.t 105) (.t 103), none⟩])
(.reg [
⟨(some 106), .mv (.t 0), none⟩,
⟨(some 107), .mv (.t 0), none⟩,
⟨(some 108), .nck (.t 107), none⟩,
⟨(some 109), .fa 2 (.t 108), none⟩,
⟨(some 110), .ld false 1 (.t 109), none⟩,
⟨(some 111), .call 213 [(.t 110), (.c (.i .i64 32))], none⟩,
⟨(some 112), .nck (.t 106), none⟩,
⟨(some 113), .fa 2 (.t 112), none⟩,
⟨none, .st 1 (.t 113) (.t 111), none⟩]))))))))))⟩
def f166 : AF := ⟨17, [.t 2], (.seq (.reg [
⟨(some 1), .box 9 (.t 0), none⟩,
⟨(some 2), .mv (.c (.i .i64 0)), none⟩])
(.seq (.seq (.reg [
⟨(some 3), .fa 2 (.t 1), none⟩,
⟨(some 4), .ld false 1 (.t 3), none⟩,
⟨(some 5), .bin .neq .int (.t 4) (.c (.i .i64 1)), none⟩,
⟨(some 6), .mv (.t 5), none⟩,
⟨(some 7), .ld true 9 (.t 1), (some (6, false))⟩,
⟨(some 8), .call 52 [(.t 7)], (some (6, false))⟩,
⟨(some 9), .un .not (.t 8), (some (6, false))⟩,
⟨(some 10), .pick (.t 6) (.c (.b true)) (.t 9), none⟩])
(.cond (.t 10)
(.seq (.reg [
⟨(some 2), .mv (.c (.i .i64 0)), none⟩])
.ret)
.skip))
(.seq (.reg [
⟨(some 11), .fa 1 (.t 1), none⟩,
⟨(some 12), .ld false 1 (.t 11), none⟩,
⟨(some 13), .bin .mul .no (.c (.i .i64 64)) (.t 12), none⟩,
⟨(some 14), .fa 0 (.t 1), none⟩,
⟨(some 15), .ld false 1 (.t 14), none⟩,
⟨(some 16), .bin .add .no (.t 13) (.t 15), none⟩,
⟨(some 2), .mv (.t 16), none⟩])
.ret)))⟩
def f167 : AF := ⟨43, [.c 10 true 10, .t 11, .t 12], (.seq (.reg [
⟨(some 10), .alloc [(.i .i64 0), (.i .i64 0), (.i .i64 0), .nsl, (.b false), (.i .i64 0), (.i .i64 0), .nsl, .nsl, (.b false)], none⟩,
⟨(some 11), .mv (.c .nsl), none⟩,
⟨(some 12), .mv (.c (.i .i64 0)), none⟩])
(.seq (.seq (.reg [
⟨(some 14), .mv (.t 1), none⟩,
⟨(some 15), .mv (.t 2), none⟩,
⟨(some 16), .call 214 [(.t 14), (.t 15)], none⟩,
⟨(some 17), .len 1 (.t 16), none⟩,
⟨(some 18), .bin .eql .int (.t 17) (.c (.i .i64 0)), none⟩])
(.cond (.t 18)
(.seq (.reg [
⟨(some 19), .build [(.i .i64 0), (.i .i64 0), (.i .i64 0), .nsl, (.b false), (.i .i64 0), (.i .i64 0), .nsl, .nsl, (.b false)] [], none⟩,
⟨none, .st 10 (.t 10) (.t 19), none⟩,
⟨(some 11), .mv (.c .nsl), none⟩,
⟨(some 12), .mv (.c (.i .i64 1)), none⟩])
.ret)
.skip))
(.seq (.reg [
⟨(some 20), .mv (.t 0), none⟩,
⟨(some 21), .mv (.t 1), none⟩,
⟨(some 22), .mv (.t 2), none⟩,
⟨(some 23), .mv (.t 3), none⟩,
⟨(some 24), .call 48 [(.t 23)], none⟩,
⟨(some 25), .mv (.t 4), none⟩,
⟨(some 26), .build [(.i .i64 0), (.i .i64 0), (.i .i64 0), .nsl, (.b false), (.i .i64 0), (.i .i64 0), .nsl, .nsl, (.b false)] [(0, 1, (.t 20)), (1, 1, (.t 21)), (2, 1, (.t 22)), (3, 1, (.t 24)), (4, 1, (.t 25)), (5, 1, (.c (.i .i64 1))), (6, 1, (.c (.i .i64 1)))], none⟩,
⟨(some 13), .alloc [(.i .i64 0), (.i .i64 0), (.i .i64 0), .nsl, (.b false), (.i .i64 0), (.i .i64 0), .nsl, .nsl, (.b false)], none⟩,
⟨none, .st 10 (.t 13) (.t 26), none⟩])
(.seq (.reg [
⟨(some 27), .mv (.t 2), none⟩,
⟨(some 28), .mks 1 24 [.nsl] (.t 27) (.t 27), none⟩,
⟨(some 29), .mv (.t 1), none⟩,
⟨(some 30), .bsl 1 [(.i .i64 0)] [(0, 1, (.t 29))], none⟩,
⟨(some 31), .fa 7 (.t 13), none⟩,
⟨none, .st 1 (.t 31) (.t 28), none⟩,
⟨(some 32), .fa 8 (.t 13), none⟩,
⟨none, .st 1 (.t 32) (.t 30), none⟩])
(.seq (.seq (.reg [
⟨(some 33), .ld true 10 (.t 13), none⟩,
⟨(some 34), .call 179 [(.t 33)], none⟩,
⟨(some 35), .un .not (.t 34), none⟩])
(.cond (.t 35)
(.seq (.reg [
⟨(some 36), .build [(.i .i64 0), (.i .i64 0), (.i .i64 0), .nsl, (.b false), (.i .i64 0), (.i .i64 0), .nsl, .nsl, (.b false)] [], none⟩,
⟨none, .st 10 (.t 10) (.t 36), none⟩,
⟨(some 11), .mv (.c .nsl), none⟩,
⟨(some 12), .mv (.c (.i .i64 1)), none⟩])
.ret)
.skip))
(.seq (.drw [
.op ⟨(some 37), .ld true 10 (.t 13), none⟩,
.op ⟨(some 38), .mv (.t 1), none⟩,
.op ⟨(some 39), .mv (.t 3), none⟩,
.op ⟨(some 40), .call 48 [(.t 39)], none⟩,
.chk ⟨(some 37), .ld true 10 (.t 13), none⟩,
.op ⟨(some 41), .build [(.i .i64 0), (.i .i64 0), .nsl, (.i .i64 0)] [(0, 1, (.c (.i .i64 3))), (1, 1, (.t 38)), (2, 1, (.t 40))], none⟩,
.op ⟨none, .st 10 (.t 10) (.t 37), none⟩,
.fl ⟨(some 42), .bsl 1 [(.i .i64 0), (.i .i64 0), .nsl, (.i .i64 0)] [(0, 4, (.t 41))], none⟩,
.chk ⟨(some 37), .ld true 10 (.t 13), none⟩,
.op ⟨(some 11), .mv (.t 42), none⟩,
.op ⟨(some 12), .mv (.c (.i .i64 0)), none⟩])
.ret))))))⟩
def f168 : AF := ⟨50, [.t 6], (.seq (.reg [
⟨(some 6), .mv (.c (.i .i64 0)), none⟩])
(.seq (.seq (.reg [
⟨(some 9), .mv (.t 0), none⟩,
⟨(some 10), .call 131 [(.t 9)], none⟩,
⟨(some 11), .un .not (.t 10), none⟩])
(.cond (.t 11)
(.seq (.reg [
⟨(some 6), .mv (.c (.i .i64 6)), none⟩])
.ret)
.skip))
(.seq (.reg [
⟨(some 13), .mv (.t 0), none⟩,
⟨(some 14), .nck (.t 13), none⟩,
⟨(some 15), .fa 0 (.t 14), none⟩,
⟨(some 16), .ld false 1 (.t 15), none⟩,
⟨(some 17), .mv (.t 1), none⟩,
⟨(some 18), .lk .int (.ag [(.i .i64 0), .nsl, .nsl, .nsl, .nm]) true (.t 16) (.t 17), none⟩,
⟨(some 12), .mv (.t 18), none⟩,
⟨(some 19), .xt (.t 12) 0, none⟩,
⟨(some 20), .xt (.t 12) 1, none⟩,
⟨(some 7), .alloc [(.i .i64 0), .nsl, .nsl, .nsl, .nm], none⟩,
⟨none, .st 5 (.t 7) (.t 19), none⟩,
⟨(some 8), .mv (.t 20), none⟩])
(.seq (.blk 0 (.seq (.reg [
⟨(some 22), .mv (.t 1), none⟩,
⟨(some 23), .bin .lss .no (.t 22) (.c (.i .i64 1)), none⟩,
⟨(some 24), .mv (.t 23), none⟩,
⟨(some 25), .mv (.t 1), (some (24, false))⟩,
⟨(some 26), .bin .gtr .no (.t 25) (.c (.i .i64 1099511627776)), (some (24, false))⟩,
⟨(some 27), .pick (.t 24) (.c (.b true)) (.t 26), none⟩,
⟨(some 21), .mv (.t 27), none⟩])
(.cond (.t 21)
(.seq (.reg [
⟨(some 6), .mv (.c (.i .i64 1)), none⟩])
.ret)
(.seq (.reg [
⟨(some 29), .mv (.t 2), none⟩,
⟨(some 30), .call 78 [(.t 29)], none⟩,
⟨(some 31), .un .not (.t 30), none⟩,
⟨(some 32), .mv (.t 31), none⟩,
⟨(some 33), .mv (.t 2), (some (32, false))⟩,
⟨(some 34), .len 1 (.t 33), (some (32, false))⟩,
⟨(some 35), .bin .eql .int (.t 34) (.c (.i .i64 0)), (some (32, false))⟩,
⟨(some 36), .pick (.t 32) (.c (.b true)) (.t 35), none⟩,
⟨(some 28), .mv (.t 36), none⟩])
(.cond (.t 28)
(.seq (.reg [
⟨(some 6), .mv (.c (.i .i64 60)), none⟩])
.ret)
(.seq (.reg [
⟨(some 38), .mv (.t 8), none⟩,
⟨(some 37), .mv (.t 38), none⟩])
(.cond (.t 37)
(.seq (.reg [
⟨(some 6), .mv (.c (.i .i64 5)), none⟩])
.ret)
.skip)))))))
(.seq (.drw [
.op ⟨(some 39), .mv (.t 0), none⟩,
.op ⟨(some 40), .nck (.t 39), none⟩,
.op ⟨(some 41), .fa 0 (.t 40), none⟩,
.op ⟨(some 42), .ld false 1 (.t 41), none⟩,
.op ⟨(some 43), .mv (.t 1), none⟩,
.op ⟨(some 44), .mv (.t 1), none⟩,
.op ⟨(some 45), .mv (.t 2), none⟩,
.op ⟨(some 46), .call 48 [(.t 45)], none⟩,
.chk ⟨(some 42), .ld false 1 (.t 41), none⟩,
.op ⟨(some 47), .build [(.i .i64 0), .nsl, .nsl, .nsl] [(0, 1, (.t 44)), (1, 1, (.t 46))], none⟩,
.fl ⟨(some 48), .mkm, none⟩,
.chk ⟨(some 42), .ld false 1 (.t 41), none⟩,
.op ⟨(some 49), .build [(.i .i64 0), .nsl, .nsl, .nsl, .nm] [(0, 4, (.t 47)), (4, 1, (.t 48))], none⟩,
.op ⟨none, .mu .int (.t 42) (.t 43) (.t 49), none⟩])
(.seq (.reg [
⟨(some 6), .mv (.c (.i .i64 0)), none⟩])
.ret))))))⟩
def f169 : AF := ⟨26, [.t 4], (.seq (.reg [
⟨(some 3), .box 9 (.t 1), none⟩,
⟨(some 4), .mv (.c (.b false)), none⟩])
(.seq (.drw [
.op ⟨(some 8), .mv (.t 0), none⟩,
.op ⟨(some 9), .nck (.t 8), none⟩,
.op ⟨(some 10), .fa 3 (.t 9), none⟩,
.op ⟨(some 11), .ld false 1 (.t 10), none⟩,
.op ⟨(some 12), .fa 3 (.t 3), none⟩,
.op ⟨(some 13), .ld false 1 (.t 12), none⟩,
.op ⟨(some 14), .lk .int (.ag [(.i .i64 0), (.i .i64 0), (.i .i64 0), .nsl, (.b false), (.i .i64 0), (.i .i64 0), .nsl, .nsl, (.b false)]) true (.t 11) (.t 13), none⟩,
.op ⟨(some 7), .mv (.t 14), none⟩,
.op ⟨(some 15), .xt (.t 7) 0, none⟩,
.op ⟨(some 16), .xt (.t 7) 1, none⟩,
.op ⟨(some 5), .alloc [(.i .i64 0), (.i .i64 0), (.i .i64 0), .nsl, (.b false), (.i .i64 0), (.i .i64 0), .nsl, .nsl, (.b false)], none⟩,
.chk ⟨(some 11), .ld false 1 (.t 10), none⟩,
.chk ⟨(some 13), .ld false 1 (.t 12), none⟩,
.chk ⟨(some 14), .lk .int (.ag [(.i .i64 0), (.i .i64 0), (.i .i64 0), .nsl, (.b false), (.i .i64 0), (.i .i64 0), .nsl, .nsl, (.b false)]) true (.t 11) (.t 13), none⟩,
.op ⟨none, .st 10 (.t 5) (.t 15), none⟩,
.op ⟨(some 6), .mv (.t 16), none⟩])
(.seq (.drw [
.op ⟨(some 17), .mv (.t 6), none⟩,
.op ⟨(some 18), .mv (.t 17), none⟩,
.op ⟨(some 19), .fa 3 (.t 3), (some (18, true))⟩,
.op ⟨(some 20), .ld false 1 (.t 19), (some (18, true))⟩,
.op ⟨(some 22), .fa 0 (.t 3), (some (18, true))⟩,
.op ⟨(some 23), .ld false 1 (.t 22), (some (18, true))⟩,
.op ⟨(some 21), .call 215 [(.t 20)], (some (18, true))⟩,
.chk ⟨(some 23), .ld false 1 (.t 22), (some (18, true))⟩,
.op ⟨(some 24), .bin .eql .int (.t 21) (.t 23), (some (18, true))⟩,
.op ⟨(some 25), .pick (.t 18) (.t 24) (.c (.b false)), none⟩,
.op ⟨(some 4), .mv (.t 25), none⟩])
.ret)))⟩
def f170 : AF := ⟨42, [.t 4], (.seq (.reg [
⟨(some 4), .mv (.c .nsl), none⟩])
(.seq (.reg [
⟨(some 8), .mv (.t 0), none⟩,
⟨(some 9), .mv (.t 1), none⟩,
⟨(some 10), .call 216 [(.t 8), (.t 9)], none⟩,
⟨(some 5), .mv (.t 10), none⟩])
(.seq (.seq (.reg [
⟨(some 11), .mv (.t 5), none⟩,
⟨(some 12), .bin .eql .int (.t 11) (.c (.i .i64 (-1))), none⟩])
(.cond (.t 12)
(.seq (.reg [
⟨(some 13), .mv (.t 0), none⟩,
⟨(some 4), .mv (.t 13), none⟩])
.ret)
.skip))
(.seq (.seq (.reg [
⟨(some 14), .mv (.t 5), none⟩,
⟨(some 15), .bin .add .no (.t 14) (.c (.i .i64 1)), none⟩,
⟨(some 6), .mv (.t 15), none⟩])
(.blk 0 (.loop (.seq (.seq (.reg [
⟨(some 16), .mv (.t 6), none⟩,
⟨(some 17), .mv (.t 0), none⟩,
⟨(some 18), .len 1 (.t 17), none⟩,
⟨(some 19), .bin .lss .no (.t 16) (.t 18), none⟩])
(.cond (.t 19)
.skip
(.exit 0)))
(.seq (.blk 1 (.seq (.reg [
⟨(some 22), .mv (.t 0), none⟩,
⟨(some 23), .mv (.t 6), none⟩,
⟨(some 24), .iaL 3 (.t 22) (.t 23), none⟩,
⟨(some 25), .ld true 3 (.t 24), none⟩,
⟨(some 7), .alloc [(.i .i64 0), (.i .i64 0), (.i .i64 0)], none⟩,
⟨none, .st 3 (.t 7) (.t 25), none⟩])
(.seq (.reg [
⟨(some 26), .mv (.t 1), none⟩,
⟨(some 27), .ld true 3 (.t 7), none⟩,
⟨(some 28), .cald (.t 26) [(.t 27)], none⟩,
⟨(some 29), .un .not (.t 28), none⟩])
(.cond (.t 29)
(.seq (.reg [
⟨(some 30), .mv (.t 0), none⟩,
⟨(some 31), .mv (.t 5), none⟩,
⟨(some 32), .ld true 3 (.t 7), none⟩,
⟨(some 33), .iaL 3 (.t 30) (.t 31), none⟩,
⟨none, .st 3 (.t 33) (.t 32), none⟩])
(.reg [
⟨(some 34), .mv (.t 5), none⟩,
⟨(some 35), .bin .add .no (.t 34) (.c (.i .i64 1)), none⟩,
⟨(some 5), .mv (.t 35), none⟩]))
.skip))))
(.reg [
⟨(some 20), .mv (.t 6), none⟩,
⟨(some 21), .bin .add .no (.t 20) (.c (.i .i64 1)), none⟩,
⟨(some 6), .mv (.t 21), none⟩]))))))
(.seq (.reg [
⟨(some 36), .mv (.t 0), none⟩,
⟨(some 37), .mv (.t 5), none⟩,
⟨(some 38), .slL 3 (.t 36) (some (.t 37)) none none, none⟩,
⟨none, .clr false [(.i .i64 0), (.i .i64 0), (.i .i64 0)] (.t 38), none⟩])
(.seq (.reg [
⟨(some 39), .mv (.t 0), none⟩,
⟨(some 40), .mv (.t 5), none⟩,
⟨(some 41), .slL 3 (.t 39) none (some (.t 40)) none, none⟩,
⟨(some 4), .mv (.t 41), none⟩])
.ret))))))⟩
def f171 : AF := ⟨8, [.t 3], (.seq (.reg [
⟨(some 2), .box 3 (.t 0), none⟩,
⟨(some 3), .mv (.c (.b false)), none⟩])
(.seq (.reg [
⟨(some 4), .fa 0 (.t 2), none⟩,
⟨(some 5), .ld true 2 (.t 4), none⟩,
⟨(some 6), .ld true 2 (.t 1), none⟩,
⟨(some 7), .bin .eql (.ag [(0, 1, false, .int), (1, 1, false, .int)]) (.t 5) (.t 6), none⟩,
⟨(some 3), .mv (.t 7), none⟩])
.ret))⟩
def f172 : AF := ⟨57, [.t 4], (.seq (.reg [
⟨(some 3), .box 4 (.t 1), none⟩,
⟨(some 4), .mv (.c (.i .i64 0)), none⟩])
(.seq (.seq (.reg [
⟨(some 8), .mv (.t 0), none⟩,
⟨(some 9), .call 116 [(.t 8)], none⟩,
⟨(some 10), .un .not (.t 9), none⟩])
(.cond (.t 10)
(.seq (.reg [
⟨(some 4), .mv (.c (.i .i64 6)), none⟩])
.ret)
.skip))
(.seq (.seq (.reg [
⟨(some 11), .fa 0 (.t 3), none⟩,
⟨(some 12), .ld false 1 (.t 11), none⟩,
⟨(some 13), .call 117 [(.t 12)], none⟩,
⟨(some 14), .un .not (.t 13), none⟩,
⟨(some 15), .mv (.t 14), none⟩,
⟨(some 16), .fa 1 (.t 3), (some (15, false))⟩,
⟨(some 17), .ld false 1 (.t 16), (some (15, false))⟩,
⟨(some 18), .call 118 [(.t 17)], (some (15, false))⟩,
⟨(some 19), .un .not (.t 18), (some (15, false))⟩,
⟨(some 20), .pick (.t 15) (.c (.b true)) (.t 19), none⟩,
⟨(some 21), .mv (.t 20), none⟩,
⟨(some 22), .fa 2 (.t 3), (some (21, false))⟩,
⟨(some 23), .ld false 1 (.t 22), (some (21, false))⟩,
⟨(some 24), .bin .lss .no (.t 23) (.c (.i .i64 0)), (some (21, false))⟩,
⟨(some 25), .pick (.t 21) (.c (.b true)) (.t 24), none⟩,
⟨(some 26), .mv (.t 25), none⟩,
⟨(some 27), .fa 2 (.t 3), (some (26, false))⟩,
⟨(some 28), .ld false 1 (.t 27), (some (26, false))⟩,
⟨(some 29), .bin .gtr .no (.t 28) (.c (.i .i64 1000)), (some (26, false))⟩,
⟨(some 30), .pick (.t 26) (.c (.b true)) (.t 29), none⟩])
(.cond (.t 30)
(.seq (.reg [
⟨(some 4), .mv (.c (.i .i64 1)), none⟩])
.ret)
.skip))
(.seq (.reg [
⟨(some 31), .mv (.t 0), none⟩,
⟨(some 32), .fa 0 (.t 3), none⟩,
⟨(some 33), .ld false 1 (.t 32), none⟩,
⟨(some 34), .call 119 [(.t 31), (.t 33)], none⟩,
⟨(some 5), .alloc [(.i .i64 0), .nm], none⟩,
⟨none, .st 2 (.t 5) (.t 34), none⟩])
(.seq (.reg [
⟨(some 36), .fa 1 (.t 5), none⟩,
⟨(some 37), .ld false 1 (.t 36), none⟩,
⟨(some 38), .fa 1 (.t 3), none⟩,
⟨(some 39), .ld false 1 (.t 38), none⟩,
⟨(some 40), .lk .int (.ag [(.i .u64 0), (.b false), (.i .i64 0), (.i .i64 0), (.i .i64 0), (.i .i64 0)]) true (.t 37) (.t 39), none⟩,
⟨(some 35), .mv (.t 40), none⟩,
⟨(some 41), .xt (.t 35) 0, none⟩,
⟨(some 42), .xt (.t 35) 1, none⟩,
⟨(some 6), .alloc [(.i .u64 0), (.b false), (.i .i64 0), (.i .i64 0), (.i .i64 0), (.i .i64 0)], none⟩,
⟨none, .st 6 (.t 6) (.t 41), none⟩,
⟨(some 7), .mv (.t 42), none⟩])
(.seq (.blk 0 (.seq (.reg [
⟨(some 44), .mv (.t 7), none⟩,
⟨(some 45), .un .not (.t 44), none⟩,
⟨(some 43), .mv (.t 45), none⟩])
(.cond (.t 43)
(.seq (.reg [
⟨(some 4), .mv (.c (.i .i64 4)), none⟩])
.ret)
(.seq (.reg [
⟨(some 47), .fa 1 (.t 6), none⟩,
⟨(some 48), .ld false 1 (.t 47), none⟩,
⟨(some 46), .mv (.t 48), none⟩])
(.cond (.t 46)
(.seq (.reg [
⟨(some 4), .mv (.c (.i .i64 5)), none⟩])
.ret)
.skip)))))
(.seq (.drw [
.op ⟨(some 49), .ld true 4 (.t 3), none⟩,
.op ⟨(some 50), .fa 1 (.t 6), none⟩,
.op ⟨none, .st 1 (.t 50) (.c (.b true)), none⟩,
.chk ⟨(some 49), .ld true 4 (.t 3), none⟩,
.op ⟨(some 51), .fa 2 (.t 6), none⟩,
.op ⟨none, .st 4 (.t 51) (.t 49), none⟩])
(.seq (.reg [
⟨(some 52), .fa 1 (.t 5), none⟩,
⟨(some 53), .ld false 1 (.t 52), none⟩,
⟨(some 54), .fa 1 (.t 3), none⟩,
⟨(some 55), .ld false 1 (.t 54), none⟩,
⟨(some 56), .ld true 6 (.t 6), none⟩,
⟨none, .mu .int (.t 53) (.t 55) (.t 56), none⟩])
(.seq (.reg [
⟨(some 4), .mv (.c (.i .i64 0)), none⟩])
.ret)))))))))⟩
def f173 : AF := ⟨19, [], (.seq (.reg [
⟨(some 6), .mv (.t 0), none⟩,
⟨(some 7), .rng false (.t 6), none⟩])
(.blk 0 (.loop (.seq (.reg [
⟨(some 8), .nxt false (.t 7), none⟩,
⟨(some 9), .xt (.t 8) 0, none⟩])
(.seq (.cond (.t 9)
.skip
(.exit 0))
(.blk 1 (.seq (.reg [
⟨(some 10), .ent (.t 7), none⟩,
⟨(some 11), .xt (.t 10) 0, none⟩,
⟨(some 12), .xt (.t 10) 1, none⟩,
⟨(some 5), .alloc [(.i .u64 0), (.b false), (.i .i64 0), (.i .i64 0), (.i .i64 0), (.i .i64 0)], none⟩,
⟨(some 4), .mv (.t 11), none⟩,
⟨none, .st 6 (.t 5) (.t 12), none⟩])
(.seq (.reg [
⟨(some 13), .mv (.t 1), none⟩,
⟨(some 14), .mv (.t 4), none⟩,
⟨(some 15), .ld true 6 (.t 5), none⟩,
⟨(some 16), .cald (.t 13) [(.t 14), (.t 15)], none⟩])
(.cond (.t 16)
(.reg [
⟨(some 17), .mv (.t 0), none⟩,
⟨(some 18), .mv (.t 4), none⟩,
⟨none, .del .int (.t 17) (.t 18), none⟩])
.skip)))))))))⟩
def f174 : AF := ⟨9, [.t 5], (.seq (.reg [
⟨(some 4), .box 6 (.t 1), none⟩,
⟨(some 5), .mv (.c (.b false)), none⟩])
(.seq (.reg [
⟨(some 6), .mv (.t 0), none⟩,
⟨(some 7), .ld false 1 (.t 2), none⟩,
⟨(some 8), .bin .lss .no (.t 6) (.t 7), none⟩,
⟨(some 5), .mv (.t 8), none⟩])
.ret))⟩
def f175 : AF := ⟨43, [.t 6], (.seq (.reg [
⟨(some 6), .mv (.c (.i .i64 0)), none⟩])
(.seq (.reg [
⟨(some 11), .mv (.t 0), none⟩,
⟨(some 12), .mv (.t 1), none⟩,
⟨(some 13), .mv (.t 2), none⟩,
⟨(some 14), .call 107 [(.t 11), (.t 12), (.t 13)], none⟩,
⟨(some 10), .mv (.t 14), none⟩,
⟨(some 15), .xt (.t 10) 0, none⟩,
⟨(some 16), .xt (.t 10) 1, none⟩,
⟨(some 7), .alloc [(.i .i64 0), .nsl, .nsl, .nsl, .nm], none⟩,
⟨none, .st 5 (.t 7) (.t 15), none⟩,
⟨(some 8), .mv (.t 16), none⟩])
(.seq (.seq (.reg [
⟨(some 17), .mv (.t 8), none⟩,
⟨(some 18), .bin .neq .int (.t 17) (.c (.i .i64 0)), none⟩])
(.cond (.t 18)
(.seq (.reg [
⟨(some 19), .mv (.t 8), none⟩,
⟨(some 6), .mv (.t 19), none⟩])
.ret)
.skip))
(.seq (.reg [
⟨(some 21), .fa 0 (.t 7), none⟩,
⟨(some 22), .fa 2 (.t 21), none⟩,
⟨(some 23), .ld false 1 (.t 22), none⟩,
⟨(some 24), .fa 0 (.t 7), none⟩,
⟨(some 25), .fa 3 (.t 24), none⟩,
⟨(some 26), .ld false 1 (.t 25), none⟩,
⟨(some 27), .mv (.t 2), none⟩,
⟨(some 28), .call 132 [(.t 23), (.t 26), (.t 27)], none⟩,
⟨(some 20), .mv (.t 28), none⟩,
⟨(some 29), .xt (.t 20) 0, none⟩,
⟨(some 30), .xt (.t 20) 1, none⟩,
⟨(some 9), .mv (.t 29), none⟩,
⟨(some 8), .mv (.t 30), none⟩])
(.seq (.seq (.reg [
⟨(some 31), .mv (.t 8), none⟩,
⟨(some 32), .bin .eql .int (.t 31) (.c (.i .i64 0)), none⟩])
(.cond (.t 32)
(.seq (.reg [
⟨(some 33), .mv (.t 9), none⟩,
⟨(some 34), .fa 0 (.t 7), none⟩,
⟨(some 35), .fa 3 (.t 34), none⟩,
⟨none, .st 1 (.t 35) (.t 33), none⟩])
(.drw [
.op ⟨(some 36), .mv (.t 0), none⟩,
.op ⟨(some 37), .nck (.t 36), none⟩,
.op ⟨(some 38), .fa 0 (.t 37), none⟩,
.op ⟨(some 39), .ld false 1 (.t 38), none⟩,
.op ⟨(some 40), .mv (.t 1), none⟩,
.op ⟨(some 41), .ld true 5 (.t 7), none⟩,
.op ⟨none, .mu .int (.t 39) (.t 40) (.t 41), none⟩]))
.skip))
(.seq (.reg [
⟨(some 42), .mv (.t 8), none⟩,
⟨(some 6), .mv (.t 42), none⟩])
.ret))))))⟩
def f176 : AF := ⟨23, [.t 4, .t 5], (.seq (.reg [
⟨(some 4), .mv (.c .nsl), none⟩,
⟨(some 5), .mv (.c (.i .i64 0)), none⟩])
(.seq (.blk 0 (.seq (.reg [
⟨(some 7), .mv (.t 0), none⟩,
⟨(some 8), .call 78 [(.t 7)], none⟩,
⟨(some 9), .un .not (.t 8), none⟩,
⟨(some 10), .mv (.t 9), none⟩,
⟨(some 11), .mv (.t 1), (some (10, false))⟩,
⟨(some 12), .call 78 [(.t 11)], (some (10, false))⟩,
⟨(some 13), .un .not (.t 12), (some (10, false))⟩,
⟨(some 14), .pick (.t 10) (.c (.b true)) (.t 13), none⟩,
⟨(some 6), .mv (.t 14), none⟩])
(.cond (.t 6)
(.seq (.reg [
⟨(some 4), .mv (.c .nsl), none⟩,
⟨(some 5), .mv (.c (.i .i64 60)), none⟩])
.ret)
(.seq (.reg [
⟨(some 16), .mv (.t 0), none⟩,
⟨(some 17), .mv (.t 1), none⟩,
⟨(some 18), .call 183 [(.t 16), (.t 17)], none⟩,
⟨(some 19), .un .not (.t 18), none⟩,
⟨(some 15), .mv (.t 19), none⟩])
(.cond (.t 15)
(.seq (.reg [
⟨(some 4), .mv (.c .nsl), none⟩,
⟨(some 5), .mv (.c (.i .i64 51)), none⟩])
.ret)
.skip)))))
(.seq (.reg [
⟨(some 20), .mv (.t 0), none⟩,
⟨(some 21), .mv (.t 1), none⟩,
⟨(some 22), .call 217 [(.t 20), (.t 21)], none⟩,
⟨(some 4), .mv (.t 22), none⟩,
⟨(some 5), .mv (.c (.i .i64 0)), none⟩])
.ret)))⟩
def f177 : AF := ⟨19, [.t 4], (.seq (.reg [
⟨(some 4), .mv (.c (.i .i64 0)), none⟩])
(.seq (.seq (.reg [
⟨(some 6), .mv (.t 0), none⟩,
⟨(some 7), .len 1 (.t 6), none⟩,
⟨(some 8), .mv (.c (.i .i64 0)), none⟩])
(.blk 0 (.loop (.seq (.reg [
⟨(some 9), .bin .lss .no (.t 8) (.t 7), none⟩])
(.seq (.cond (.t 9)
.skip
(.exit 0))
(.seq (.blk 1 (.seq (.reg [
⟨(some 10), .mv (.t 8), none⟩,
⟨(some 5), .mv (.t 10), none⟩])
(.seq (.reg [
⟨(some 11), .mv (.t 1), none⟩,
⟨(some 12), .mv (.t 0), none⟩,
⟨(some 13), .mv (.t 5), none⟩,
⟨(some 14), .iaL 2 (.t 12) (.t 13), none⟩,
⟨(some 15), .ld true 2 (.t 14), none⟩,
⟨(some 16), .cald (.t 11) [(.t 15)], none⟩])
(.cond (.t 16)
(.seq (.reg [
⟨(some 17), .mv (.t 5), none⟩,
⟨(some 4), .mv (.t 17), none⟩])
.ret)
.skip))))
(.reg [
⟨(some 18), .bin .add .no (.t 8) (.c (.i .i64 1)), none⟩,
⟨(some 8), .mv (.t 18), none⟩])))))))
(.seq (.reg [
⟨(some 4), .mv (.c (.i .i64 (-1))), none⟩])
.ret)))⟩
def f178 : AF := ⟨5, [.t 2], (.seq (.reg [
⟨(some 1), .box 2 (.t 0), none⟩,
⟨(some 2), .mv (.c (.b false)), none⟩])
(.seq (.reg [
⟨(some 3), .fa 1 (.t 1), none⟩,
⟨(some 4), .ld false 1 (.t 3), none⟩,
⟨(some 2), .mv (.t 4), none⟩])
.ret))⟩
def f179 : AF := ⟨179, [.t 2], (.seq (.reg [
⟨(some 1), .box 10 (.t 0), none⟩,
⟨(some 2), .mv (.c (.b false)), none⟩])
(.seq (.reg [
⟨(some 8), .fa 1 (.t 1), none⟩,
⟨(some 9), .ld false 1 (.t 8), none⟩,
⟨(some 10), .fa 2 (.t 1), none⟩,
⟨(some 11), .ld false 1 (.t 10), none⟩,
⟨(some 12), .call 214 [(.t 9), (.t 11)], none⟩,
⟨(some 3), .mv (.t 12), none⟩])
(.seq (.seq (.reg [
⟨(some 13), .fa 0 (.t 1), none⟩,
⟨(some 14), .ld false 1 (.t 13), none⟩,
⟨(some 15), .bin .lss .no (.t 14) (.c (.i .i64 1)), none⟩,
⟨(some 16), .mv (.t 15), none⟩,
⟨(some 17), .fa 0 (.t 1), (some (16, false))⟩,
⟨(some 18), .ld false 1 (.t 17), (some (16, false))⟩,
⟨(some 19), .bin .gtr .no (.t 18) (.c (.i .i64 1099511627776)), (some (16, false))⟩,
⟨(some 20), .pick (.t 16) (.c (.b true)) (.t 19), none⟩,
⟨(some 21), .mv (.t 20), none⟩,
⟨(some 22), .mv (.t 3), (some (21, false))⟩,
⟨(some 23), .len 1 (.t 22), (some (21, false))⟩,
⟨(some 24), .bin .eql .int (.t 23) (.c (.i .i64 0)), (some (21, false))⟩,
⟨(some 25), .pick (.t 21) (.c (.b true)) (.t 24), none⟩,
⟨(some 26), .mv (.t 25), none⟩,
⟨(some 27), .fa 3 (.t 1), (some (26, false))⟩,
⟨(some 28), .ld false 1 (.t 27), (some (26, false))⟩,
⟨(some 29), .len 1 (.t 28), (some (26, false))⟩,
⟨(some 30), .bin .eql .int (.t 29) (.c (.i .i64 0)), (some (26, false))⟩,
⟨(some 31), .pick (.t 26) (.c (.b true)) (.t 30), none⟩,
⟨(some 32), .mv (.t 31), none⟩,
⟨(some 33), .fa 3 (.t 1), (some (32, false))⟩,
⟨(some 34), .ld false 1 (.t 33), (some (32, false))⟩,
⟨(some 35), .call 78 [(.t 34)], (some (32, false))⟩,
⟨(some 36), .un .not (.t 35), (some (32, false))⟩,
⟨(some 37), .pick (.t 32) (.c (.b true)) (.t 36), none⟩,
⟨(some 38), .mv (.t 37), none⟩,
⟨(some 39), .fa 7 (.t 1), (some (38, false))⟩,
⟨(some 40), .ld false 1 (.t 39), (some (38, false))⟩,
⟨(some 41), .len 1 (.t 40), (some (38, false))⟩,
⟨(some 42), .fa 2 (.t 1), (some (38, false))⟩,
⟨(some 43), .ld false 1 (.t 42), (some (38, false))⟩,
⟨(some 44), .bin .neq .int (.t 41) (.t 43), (some (38, false))⟩,
⟨(some 45), .pick (.t 38) (.c (.b true)) (.t 44), none⟩,
⟨(some 46), .mv (.t 45), none⟩,
⟨(some 47), .ld true 10 (.t 1), (some (46, false))⟩,
⟨(some 48), .call 218 [(.t 47)], (some (46, false))⟩,
⟨(some 49), .un .not (.t 48), (some (46, false))⟩,
⟨(some 50), .pick (.t 46) (.c (.b true)) (.t 49), none⟩,
⟨(some 51), .mv (.t 50), none⟩,
⟨(some 52), .fa 6 (.t 1), (some (51, false))⟩,
⟨(some 53), .ld false 1 (.t 52), (some (51, false))⟩,
⟨(some 54), .bin .lss .no (.t 53) (.c (.i .i64 1)), (some (51, false))⟩,
⟨(some 55), .pick (.t 51) (.c (.b true)) (.t 54), none⟩,
⟨(some 56), .mv (.t 55), none⟩,
⟨(some 57), .fa 6 (.t 1), (some (56, false))⟩,
⟨(some 58), .ld false 1 (.t 57), (some (56, false))⟩,
⟨(some 59), .fa 2 (.t 1), (some (56, false))⟩,
⟨(some 60), .ld false 1 (.t 59), (some (56, false))⟩,
⟨(some 61), .bin .gtr .no (.t 58) (.t 60), (some (56, false))⟩,
⟨(some 62), .pick (.t 56) (.c (.b true)) (.t 61), none⟩])
(.cond (.t 62)
(.seq (.reg [
⟨(some 2), .mv (.c (.b false)), none⟩])
.ret)
.skip))
(.seq (.drw [
.op ⟨(some 63), .ld true 10 (.t 1), none⟩,
.op ⟨(some 65), .ld true 10 (.t 1), none⟩,
.op ⟨(some 64), .call 219 [(.t 63)], none⟩,
.chk ⟨(some 65), .ld true 10 (.t 1), none⟩,
.op ⟨(some 66), .call 220 [(.t 65)], none⟩,
.op ⟨(some 67), .len 1 (.t 66), none⟩,
.op ⟨(some 68), .bin .eql .int (.t 67) (.c (.i .i64 0)), none⟩,
.op ⟨(some 4), .mv (.t 64), none⟩,
.op ⟨(some 5), .mv (.t 68), none⟩])
(.seq (.reg [
⟨(some 69), .fa 8 (.t 1), none⟩,
⟨(some 70), .ld false 1 (.t 69), none⟩,
⟨(some 71), .len 1 (.t 70), none⟩,
⟨(some 72), .bin .eql .int (.t 71) (.c (.i .i64 0)), none⟩,
⟨(some 6), .mv (.t 72), none⟩])
(.seq (.seq (.reg [
⟨(some 73), .fa 5 (.t 1), none⟩,
⟨(some 74), .ld false 1 (.t 73), none⟩])
(.blk 0 (.seq (.reg [
⟨(some 76), .bin .eql .int (.t 74) (.c (.i .i64 1)), none⟩,
⟨(some 75), .mv (.t 76), none⟩])
(.cond (.t 75)
(.seq (.reg [
⟨(some 77), .mv (.t 3), none⟩,
⟨(some 78), .fa 6 (.t 1), none⟩,
⟨(some 79), .ld false 1 (.t 78), none⟩,
⟨(some 80), .bin .sub .no (.t 79) (.c (.i .i64 1)), none⟩,
⟨(some 81), .slL 1 (.t 77) none (some (.t 80)) none, none⟩,
⟨(some 82), .call 221 [(.t 81)], none⟩,
⟨(some 83), .call 43 [(.t 82)], none⟩,
⟨(some 7), .mv (.t 83), none⟩])
(.seq (.drw [
.op ⟨(some 84), .mv (.t 5), none⟩,
.op ⟨(some 85), .un .not (.t 84), none⟩,
.op ⟨(some 86), .mv (.t 85), none⟩,
.op ⟨(some 87), .fa 8 (.t 1), (some (86, true))⟩,
.op ⟨(some 88), .ld false 1 (.t 87), (some (86, true))⟩,
.op ⟨(some 89), .mv (.t 3), (some (86, true))⟩,
.op ⟨(some 90), .fa 6 (.t 1), (some (86, true))⟩,
.op ⟨(some 91), .ld false 1 (.t 90), (some (86, true))⟩,
.op ⟨(some 92), .bin .sub .no (.t 91) (.c (.i .i64 1)), (some (86, true))⟩,
.op ⟨(some 93), .fa 6 (.t 1), (some (86, true))⟩,
.op ⟨(some 94), .ld false 1 (.t 93), (some (86, true))⟩,
.op ⟨(some 95), .slL 1 (.t 89) (some (.t 92)) (some (.t 94)) none, (some (86, true))⟩,
.op ⟨(some 96), .call 222 [(.t 88), (.t 95)], (some (86, true))⟩,
.op ⟨(some 97), .pick (.t 86) (.t 96) (.c (.b false)), none⟩,
.op ⟨(some 98), .mv (.t 97), none⟩,
.op ⟨(some 99), .mv (.t 4), (some (98, true))⟩,
.op ⟨(some 100), .mv (.t 7), (some (98, true))⟩,
.op ⟨(some 101), .call 223 [(.t 99), (.t 100)], (some (98, true))⟩,
.op ⟨(some 102), .pick (.t 98) (.t 101) (.c (.b false)), none⟩,
.op ⟨(some 2), .mv (.t 102), none⟩])
.ret))
(.seq (.seq (.reg [
⟨(some 104), .bin .eql .int (.t 74) (.c (.i .i64 2)), none⟩,
⟨(some 103), .mv (.t 104), none⟩])
(.cond (.t 103)
.skip
(.seq (.reg [
⟨(some 105), .bin .eql .int (.t 74) (.c (.i .i64 8)), none⟩,
⟨(some 103), .mv (.t 105), none⟩])
(.cond (.t 103)
.skip
(.reg [
⟨(some 106), .bin .eql .int (.t 74) (.c (.i .i64 10)), none⟩,
⟨(some 103), .mv (.t 106), none⟩])))))
(.cond (.t 103)
(.seq (.reg [
⟨(some 107), .mv (.t 5), none⟩,
⟨(some 108), .mv (.t 107), none⟩,
⟨(some 109), .mv (.t 6), (some (108, true))⟩,
⟨(some 110), .pick (.t 108) (.t 109) (.c (.b false)), none⟩,
⟨(some 111), .mv (.t 110), none⟩,
⟨(some 112), .fa 9 (.t 1), (some (111, true))⟩,
⟨(some 113), .ld false 1 (.t 112), (some (111, true))⟩,
⟨(some 114), .un .not (.t 113), (some (111, true))⟩,
⟨(some 115), .pick (.t 111) (.t 114) (.c (.b false)), none⟩,
⟨(some 2), .mv (.t 115), none⟩])
.ret)
(.seq (.seq (.reg [
⟨(some 117), .bin .eql .int (.t 74) (.c (.i .i64 7)), none⟩,
⟨(some 116), .mv (.t 117), none⟩])
(.cond (.t 116)
.skip
(.reg [
⟨(some 118), .bin .eql .int (.t 74) (.c (.i .i64 9)), none⟩,
⟨(some 116), .mv (.t 118), none⟩])))
(.cond (.t 116)
(.seq (.reg [
⟨(some 119), .mv (.t 5), none⟩,
⟨(some 120), .mv (.t 119), none⟩,
⟨(some 121), .mv (.t 6), (some (120, true))⟩,
⟨(some 122), .un .not (.t 121), (some (120, true))⟩,
⟨(some 123), .pick (.t 120) (.t 122) (.c (.b false)), none⟩,
⟨(some 124), .mv (.t 123), none⟩,
⟨(some 125), .fa 9 (.t 1), (some (124, true))⟩,
⟨(some 126), .ld false 1 (.t 125), (some (124, true))⟩,
⟨(some 127), .un .not (.t 126), (some (124, true))⟩,
⟨(some 128), .pick (.t 124) (.t 127) (.c (.b false)), none⟩,
⟨(some 129), .mv (.t 128), none⟩,
⟨(some 130), .fa 8 (.t 1), (some (129, true))⟩,
⟨(some 131), .ld false 1 (.t 130), (some (129, true))⟩,
⟨(some 132), .mv (.t 4), (some (129, true))⟩,
⟨(some 133), .call 223 [(.t 131), (.t 132)], (some (129, true))⟩,
⟨(some 134), .pick (.t 129) (.t 133) (.c (.b false)), none⟩,
⟨(some 2), .mv (.t 134), none⟩])
.ret)
(.seq (.reg [
⟨(some 136), .bin .eql .int (.t 74) (.c (.i .i64 4)), none⟩,
⟨(some 135), .mv (.t 136), none⟩])
(.cond (.t 135)
(.seq (.reg [
⟨(some 137), .mv (.t 6), none⟩,
⟨(some 138), .un .not (.t 137), none⟩,
⟨(some 139), .mv (.t 138), none⟩,
⟨(some 140), .fa 8 (.t 1), (some (139, true))⟩,
⟨(some 141), .ld false 1 (.t 140), (some (139, true))⟩,
⟨(some 142), .mv (.t 4), (some (139, true))⟩,
⟨(some 143), .call 222 [(.t 141), (.t 142)], (some (139, true))⟩,
⟨(some 144), .pick (.t 139) (.t 143) (.c (.b false)), none⟩,
⟨(some 2), .mv (.t 144), none⟩])
.ret)
(.seq (.seq (.reg [
⟨(some 146), .bin .eql .int (.t 74) (.c (.i .i64 3)), none⟩,
⟨(some 145), .mv (.t 146), none⟩])
(.cond (.t 145)
.skip
(.reg [
⟨(some 147), .bin .eql .int (.t 74) (.c (.i .i64 5)), none⟩,
⟨(some 145), .mv (.t 147), none⟩])))
(.cond (.t 145)
(.seq (.reg [
⟨(some 148), .mv (.t 4), none⟩,
⟨(some 149), .len 1 (.t 148), none⟩,
⟨(some 150), .bin .eql .int (.t 149) (.c (.i .i64 0)), none⟩,
⟨(some 151), .mv (.t 150), none⟩,
⟨(some 152), .mv (.t 6), (some (151, true))⟩,
⟨(some 153), .pick (.t 151) (.t 152) (.c (.b false)), none⟩,
⟨(some 154), .mv (.t 153), none⟩,
⟨(some 155), .fa 9 (.t 1), (some (154, true))⟩,
⟨(some 156), .ld false 1 (.t 155), (some (154, true))⟩,
⟨(some 157), .un .not (.t 156), (some (154, true))⟩,
⟨(some 158), .pick (.t 154) (.t 157) (.c (.b false)), none⟩,
⟨(some 159), .mv (.t 158), none⟩,
⟨(some 160), .fa 4 (.t 1), (some (159, true))⟩,
⟨(some 161), .ld false 1 (.t 160), (some (159, true))⟩,
⟨(some 162), .fa 5 (.t 1), (some (159, true))⟩,
⟨(some 163), .ld false 1 (.t 162), (some (159, true))⟩,
⟨(some 164), .bin .eql .int (.t 163) (.c (.i .i64 3)), (some (159, true))⟩,
⟨(some 165), .bin .eql .bool (.t 161) (.t 164), (some (159, true))⟩,
⟨(some 166), .pick (.t 159) (.t 165) (.c (.b false)), none⟩,
⟨(some 2), .mv (.t 166), none⟩])
.ret)
(.seq (.reg [
⟨(some 168), .bin .eql .int (.t 74) (.c (.i .i64 6)), none⟩,
⟨(some 167), .mv (.t 168), none⟩])
(.cond (.t 167)
(.seq (.reg [
⟨(some 169), .mv (.t 4), none⟩,
⟨(some 170), .len 1 (.t 169), none⟩,
⟨(some 171), .bin .eql .int (.t 170) (.c (.i .i64 0)), none⟩,
⟨(some 172), .mv (.t 171), none⟩,
⟨(some 173), .mv (.t 6), (some (172, true))⟩,
⟨(some 174), .pick (.t 172) (.t 173) (.c (.b false)), none⟩,
⟨(some 175), .mv (.t 174), none⟩,
⟨(some 176), .fa 9 (.t 1), (some (175, true))⟩,
⟨(some 177), .ld false 1 (.t 176), (some (175, true))⟩,
⟨(some 178), .pick (.t 175) (.t 177) (.c (.b false)), none⟩,
⟨(some 2), .mv (.t 178), none⟩])
.ret)
.skip))))))))))))))
(.seq (.reg [
⟨(some 2), .mv (.c (.b false)), none⟩])
.ret)))))))⟩
def f180 : AF := ⟨33, [.c 2 true 10], (.seq (.reg [
⟨(some 1), .box 10 (.t 0), none⟩,
⟨(some 2), .alloc [(.i .i64 0), (.i .i64 0), (.i .i64 0), .nsl, (.b false), (.i .i64 0), (.i .i64 0), .nsl, .nsl, (.b false)], none⟩])
(.seq (.drw [
.op ⟨(some 5), .fa 3 (.t 1), none⟩,
.op ⟨(some 6), .ld false 1 (.t 5), none⟩,
.op ⟨(some 8), .fa 8 (.t 1), none⟩,
.op ⟨(some 9), .ld false 1 (.t 8), none⟩,
.op ⟨(some 7), .call 48 [(.t 6)], none⟩,
.chk ⟨(some 9), .ld false 1 (.t 8), none⟩,
.op ⟨(some 11), .fa 3 (.t 1), none⟩,
.op ⟨(some 10), .call 49 [(.t 9)], none⟩,
.op ⟨none, .st 1 (.t 11) (.t 7), none⟩,
.op ⟨(some 12), .fa 8 (.t 1), none⟩,
.op ⟨none, .st 1 (.t 12) (.t 10), none⟩])
(.seq (.reg [
⟨(some 13), .fa 7 (.t 1), none⟩,
⟨(some 14), .ld false 1 (.t 13), none⟩,
⟨(some 15), .call 50 [(.t 14)], none⟩,
⟨(some 16), .fa 7 (.t 1), none⟩,
⟨none, .st 1 (.t 16) (.t 15), none⟩])
(.seq (.seq (.reg [
⟨(some 17), .fa 7 (.t 1), none⟩,
⟨(some 18), .ld false 1 (.t 17), none⟩,
⟨(some 19), .len 1 (.t 18), none⟩,
⟨(some 20), .mv (.c (.i .i64 0)), none⟩])
(.blk 0 (.loop (.seq (.reg [
⟨(some 21), .bin .lss .no (.t 20) (.t 19), none⟩])
(.seq (.cond (.t 21)
.skip
(.exit 0))
(.seq (.blk 1 (.seq (.reg [
⟨(some 22), .mv (.t 20), none⟩,
⟨(some 23), .iaL 1 (.t 18) (.t 20), none⟩,
⟨(some 24), .ld false 1 (.t 23), none⟩,
⟨(some 3), .mv (.t 22), none⟩,
⟨(some 4), .mv (.t 24), none⟩])
(.drw [
.op ⟨(some 25), .fa 7 (.t 1), none⟩,
.op ⟨(some 26), .ld false 1 (.t 25), none⟩,
.op ⟨(some 27), .mv (.t 3), none⟩,
.op ⟨(some 28), .mv (.t 4), none⟩,
.op ⟨(some 29), .call 48 [(.t 28)], none⟩,
.chk ⟨(some 26), .ld false 1 (.t 25), none⟩,
.op ⟨(some 30), .iaL 1 (.t 26) (.t 27), none⟩,
.op ⟨none, .st 1 (.t 30) (.t 29), none⟩])))
(.reg [
⟨(some 31), .bin .add .no (.t 20) (.c (.i .i64 1)), none⟩,
⟨(some 20), .mv (.t 31), none⟩])))))))
(.seq (.reg [
⟨(some 32), .ld true 10 (.t 1), none⟩,
⟨none, .st 10 (.t 2) (.t 32), none⟩])
.ret)))))⟩
def f181 : AF := ⟨60, [.t 4, .t 5], (.seq (.reg [
⟨(some 3), .box 3 (.t 1), none⟩,
⟨(some 4), .mv (.c .nsl), none⟩,
⟨(some 5), .mv (.c (.i .i64 0)), none⟩])
(.seq (.seq (.reg [
⟨(some 6), .fa 0 (.t 3), none⟩,
⟨(some 7), .ld false 1 (.t 6), none⟩])
(.blk 0 (.seq (.reg [
⟨(some 9), .bin .eql .int (.t 7) (.c (.i .i64 1)), none⟩,
⟨(some 8), .mv (.t 9), none⟩])
(.cond (.t 8)
(.seq (.reg [
⟨(some 10), .mv (.t 0), none⟩,
⟨(some 11), .ld true 3 (.t 3), none⟩,
⟨(some 12), .call 224 [(.t 10), (.t 11)], none⟩,
⟨(some 13), .xt (.t 12) 0, none⟩,
⟨(some 14), .xt (.t 12) 1, none⟩,
⟨(some 4), .mv (.t 13), none⟩,
⟨(some 5), .mv (.t 14), none⟩])
.ret)
(.seq (.reg [
⟨(some 16), .bin .eql .int (.t 7) (.c (.i .i64 2)), none⟩,
⟨(some 15), .mv (.t 16), none⟩])
(.cond (.t 15)
(.seq (.reg [
⟨(some 17), .mv (.t 0), none⟩,
⟨(some 18), .ld true 3 (.t 3), none⟩,
⟨(some 19), .call 225 [(.t 17), (.t 18)], none⟩,
⟨(some 20), .xt (.t 19) 0, none⟩,
⟨(some 21), .xt (.t 19) 1, none⟩,
⟨(some 4), .mv (.t 20), none⟩,
⟨(some 5), .mv (.t 21), none⟩])
.ret)
(.seq (.reg [
⟨(some 23), .bin .eql .int (.t 7) (.c (.i .i64 3)), none⟩,
⟨(some 22), .mv (.t 23), none⟩])
(.cond (.t 22)
(.seq (.reg [
⟨(some 24), .mv (.t 0), none⟩,
⟨(some 25), .call 226 [(.t 24)], none⟩,
⟨(some 26), .xt (.t 25) 0, none⟩,
⟨(some 27), .xt (.t 25) 1, none⟩,
⟨(some 4), .mv (.t 26), none⟩,
⟨(some 5), .mv (.t 27), none⟩])
.ret)
(.seq (.reg [
⟨(some 29), .bin .eql .int (.t 7) (.c (.i .i64 4)), none⟩,
⟨(some 28), .mv (.t 29), none⟩])
(.cond (.t 28)
(.seq (.reg [
⟨(some 30), .mv (.t 0), none⟩,
⟨(some 31), .call 227 [(.t 30)], none⟩,
⟨(some 32), .xt (.t 31) 0, none⟩,
⟨(some 33), .xt (.t 31) 1, none⟩,
⟨(some 4), .mv (.t 32), none⟩,
⟨(some 5), .mv (.t 33), none⟩])
.ret)
(.seq (.reg [
⟨(some 35), .bin .eql .int (.t 7) (.c (.i .i64 5)), none⟩,
⟨(some 34), .mv (.t 35), none⟩])
(.cond (.t 34)
(.seq (.reg [
⟨(some 36), .mv (.t 0), none⟩,
⟨(some 37), .call 228 [(.t 36), (.c (.i .i64 2)), (.c (.i .i64 7)), (.c (.i .i64 7))], none⟩,
⟨(some 38), .xt (.t 37) 0, none⟩,
⟨(some 39), .xt (.t 37) 1, none⟩,
⟨(some 4), .mv (.t 38), none⟩,
⟨(some 5), .mv (.t 39), none⟩])
.ret)
(.seq (.reg [
⟨(some 41), .bin .eql .int (.t 7) (.c (.i .i64 6)), none⟩,
⟨(some 40), .mv (.t 41), none⟩])
(.cond (.t 40)
(.seq (.reg [
⟨(some 42), .mv (.t 0), none⟩,
⟨(some 43), .ld true 3 (.t 3), none⟩,
⟨(some 44), .call 229 [(.t 42), (.t 43), (.c (.i .i64 7)), (.c (.i .i64 8))], none⟩,
⟨(some 45), .xt (.t 44) 0, none⟩,
⟨(some 46), .xt (.t 44) 1, none⟩,
⟨(some 4), .mv (.t 45), none⟩,
⟨(some 5), .mv (.t 46), none⟩])
.ret)
(.seq (.reg [
⟨(some 48), .bin .eql .int (.t 7) (.c (.i .i64 7)), none⟩,
⟨(some 47), .mv (.t 48), none⟩])
(.cond (.t 47)
(.seq (.reg [
⟨(some 49), .mv (.t 0), none⟩,
⟨(some 50), .call 228 [(.t 49), (.c (.i .i64 8)), (.c (.i .i64 9)), (.c (.i .i64 9))], none⟩,
⟨(some 51), .xt (.t 50) 0, none⟩,
⟨(some 52), .xt (.t 50) 1, none⟩,
⟨(some 4), .mv (.t 51), none⟩,
⟨(some 5), .mv (.t 52), none⟩])
.ret)
(.seq (.reg [
⟨(some 54), .bin .eql .int (.t 7) (.c (.i .i64 8)), none⟩,
⟨(some 53), .mv (.t 54), none⟩])
(.cond (.t 53)
(.seq (.reg [
⟨(some 55), .mv (.t 0), none⟩,
⟨(some 56), .ld true 3 (.t 3), none⟩,
⟨(some 57), .call 229 [(.t 55), (.t 56), (.c (.i .i64 9)), (.c (.i .i64 10))], none⟩,
⟨(some 58), .xt (.t 57) 0, none⟩,
⟨(some 59), .xt (.t 57) 1, none⟩,
⟨(some 4), .mv (.t 58), none⟩,
⟨(some 5), .mv (.t 59), none⟩])
.ret)
.skip))))))))))))))))))
(.seq (.reg [
⟨(some 4), .mv (.c .nsl), none⟩,
⟨(some 5), .mv (.c (.i .i64 1)), none⟩])
.ret)))⟩
def f182 : AF := ⟨85, [], (.seq (.reg [
⟨(some 6), .mv (.c .nsl), none⟩])
(.seq (.seq (.reg [
⟨(some 11), .mv (.t 0), none⟩,
⟨(some 12), .nck (.t 11), none⟩,
⟨(some 13), .fa 4 (.t 12), none⟩,
⟨(some 14), .ld false 1 (.t 13), none⟩,
⟨(some 15), .mv (.t 1), none⟩,
⟨(some 16), .lk .int .nsl false (.t 14) (.t 15), none⟩,
⟨(some 17), .len 1 (.t 16), none⟩,
⟨(some 18), .mv (.c (.i .i64 0)), none⟩])
(.blk 0 (.loop (.seq (.reg [
⟨(some 19), .bin .lss .no (.t 18) (.t 17), none⟩])
(.seq (.cond (.t 19)
.skip
(.exit 0))
(.seq (.blk 1 (.seq (.reg [
⟨(some 20), .iaL 3 (.t 16) (.t 18), none⟩,
⟨(some 21), .ld true 3 (.t 20), none⟩,
⟨(some 8), .alloc [(.i .i64 0), (.i .i64 0), (.i .i64 0)], none⟩,
⟨none, .st 3 (.t 8) (.t 21), none⟩])
(.seq (.reg [
⟨(some 23), .fa 2 (.t 8), none⟩,
⟨(some 24), .ld false 1 (.t 23), none⟩,
⟨(some 25), .mv (.t 2), none⟩,
⟨(some 26), .call 230 [(.t 24), (.t 25)], none⟩,
⟨(some 22), .mv (.t 26), none⟩,
⟨(some 27), .xt (.t 22) 0, none⟩,
⟨(some 28), .xt (.t 22) 1, none⟩,
⟨(some 9), .mv (.t 27), none⟩,
⟨(some 10), .mv (.t 28), none⟩])
(.seq (.reg [
⟨(some 29), .mv (.t 10), none⟩])
(.cond (.t 29)
(.reg [
⟨(some 30), .mv (.t 0), none⟩,
⟨(some 31), .fa 0 (.t 8), none⟩,
⟨(some 32), .ld true 2 (.t 31), none⟩,
⟨(some 33), .mv (.t 9), none⟩,
⟨(some 34), .call 124 [(.t 30), (.t 32), (.t 33), (.c (.i .i64 0))], none⟩])
(.reg [
⟨(some 35), .mv (.t 6), none⟩,
⟨(some 36), .ld true 3 (.t 8), none⟩,
⟨(some 37), .bsl 1 [(.i .i64 0), (.i .i64 0), (.i .i64 0)] [(0, 3, (.t 36))], none⟩,
⟨(some 38), .app 3 24 [(.i .i64 0), (.i .i64 0), (.i .i64 0)] (.t 35) (.t 37), none⟩,
⟨(some 6), .mv (.t 38), none⟩]))))))
(.reg [
⟨(some 39), .bin .add .no (.t 18) (.c (.i .i64 1)), none⟩,
⟨(some 18), .mv (.t 39), none⟩])))))))
(.seq (.reg [
⟨(some 40), .mv (.t 0), none⟩,
⟨(some 41), .nck (.t 40), none⟩,
⟨(some 42), .fa 4 (.t 41), none⟩,
⟨(some 43), .ld false 1 (.t 42), none⟩,
⟨(some 44), .mv (.t 1), none⟩,
⟨(some 45), .mv (.t 6), none⟩,
⟨none, .mu .int (.t 43) (.t 44) (.t 45), none⟩])
(.seq (.seq (.reg [
⟨(some 46), .mv (.t 2), none⟩])
(.blk 2 (.seq (.reg [
⟨(some 48), .bin .eql .int (.t 46) (.c (.i .i64 3)), none⟩,
⟨(some 47), .mv (.t 48), none⟩])
(.cond (.t 47)
(.seq (.seq (.reg [
⟨(some 49), .mv (.t 0), none⟩,
⟨(some 50), .nck (.t 49), none⟩,
⟨(some 51), .fa 6 (.t 50), none⟩,
⟨(some 52), .ld false 1 (.t 51), none⟩,
⟨(some 53), .mv (.t 1), none⟩,
⟨(some 54), .call 231 [(.t 52), (.t 53)], none⟩,
⟨(some 55), .bin .eql .int (.t 54) (.c (.i .i64 0)), none⟩])
(.cond (.t 55)
(.reg [
⟨(some 56), .mv (.t 0), none⟩,
⟨(some 57), .call 232 [(.t 56)], none⟩])
.skip))
(.reg [
⟨(some 58), .mv (.t 0), none⟩,
⟨(some 59), .nck (.t 58), none⟩,
⟨(some 60), .fa 6 (.t 59), none⟩,
⟨(some 61), .ld false 1 (.t 60), none⟩,
⟨(some 62), .mv (.t 1), none⟩,
⟨(some 63), .call 233 [(.t 61), (.t 62)], none⟩]))
(.seq (.reg [
⟨(some 65), .bin .eql .int (.t 46) (.c (.i .i64 2)), none⟩,
⟨(some 64), .mv (.t 65), none⟩])
(.cond (.t 64)
(.reg [
⟨(some 66), .mv (.t 0), none⟩,
⟨(some 67), .nck (.t 66), none⟩,
⟨(some 68), .fa 6 (.t 67), none⟩,
⟨(some 69), .ld false 1 (.t 68), none⟩,
⟨(some 70), .mv (.t 1), none⟩,
⟨(some 71), .call 234 [(.t 69), (.t 70)], none⟩])
(.seq (.seq (.reg [
⟨(some 73), .bin .eql .int (.t 46) (.c (.i .i64 5)), none⟩,
⟨(some 72), .mv (.t 73), none⟩])
(.cond (.t 72)
.skip
(.reg [
⟨(some 74), .bin .eql .int (.t 46) (.c (.i .i64 6)), none⟩,
⟨(some 72), .mv (.t 74), none⟩])))
(.cond (.t 72)
(.seq (.reg [
⟨(some 75), .mv (.t 0), none⟩,
⟨(some 76), .nck (.t 75), none⟩,
⟨(some 77), .fa 6 (.t 76), none⟩,
⟨(some 78), .ld false 1 (.t 77), none⟩,
⟨(some 79), .mv (.t 1), none⟩,
⟨(some 80), .call 234 [(.t 78), (.t 79)], none⟩])
(.reg [
⟨(some 81), .mv (.t 0), none⟩,
⟨(some 82), .call 232 [(.t 81)], none⟩]))
.skip))))))))
(.reg [
⟨(some 83), .mv (.t 0), none⟩,
⟨(some 84), .call 63 [(.t 83)], none⟩])))))⟩
def f183 : AF := ⟨18, [.t 4], (.seq (.reg [
⟨(some 4), .mv (.c (.b false)), none⟩])
(.seq (.reg [
⟨(some 5), .mv (.t 0), none⟩,
⟨(some 6), .call 78 [(.t 5)], none⟩,
⟨(some 7), .mv (.t 6), none⟩,
⟨(some 8), .mv (.t 1), (some (7, true))⟩,
⟨(some 9), .call 78 [(.t 8)], (some (7, true))⟩,
⟨(some 10), .pick (.t 7) (.t 9) (.c (.b false)), none⟩,
⟨(some 11), .mv (.t 10), none⟩,
⟨(some 12), .mv (.t 1), (some (11, true))⟩,
⟨(some 13), .mv (.t 0), (some (11, true))⟩,
⟨(some 14), .call 217 [(.t 12), (.t 13)], (some (11, true))⟩,
⟨(some 15), .len 1 (.t 14), (some (11, true))⟩,
⟨(some 16), .bin .eql .int (.t 15) (.c (.i .i64 0)), (some (11, true))⟩,
⟨(some 17), .pick (.t 11) (.t 16) (.c (.b false)), none⟩,
⟨(some 4), .mv (.t 17), none⟩])
.ret))⟩
def f184 : AF := ⟨4, [.t 2], (.seq (.reg [
⟨(some 1), .box 1 (.t 0), none⟩,
⟨(some 2), .mv (.c .nf), none⟩])
(.seq (.reg [
⟨(some 3), .mkf 235 [] [(.t 1)], none⟩,
⟨(some 2), .mv (.t 3), none⟩])
.ret))⟩
def f185 : AF := ⟨4, [.t 2], (.seq (.reg [
⟨(some 1), .box 1 (.t 0), none⟩,
⟨(some 2), .mv (.c .nf), none⟩])
(.seq (.reg [
⟨(some 3), .mkf 236 [] [(.t 1)], none⟩,
⟨(some 2), .mv (.t 3), none⟩])
.ret))⟩
def f186 : AF := ⟨10, [.t 4], (.seq (.reg [
⟨(some 4), .mv (.c .np), none⟩])
(.seq (.seq (.reg [
⟨(some 5), .mv (.t 1), none⟩])
(.cond (.t 5)
(.seq (.reg [
⟨(some 6), .mv (.t 0), none⟩,
⟨(some 7), .call 101 [(.t 6), (.c (.i .i64 1))], none⟩,
⟨(some 4), .mv (.t 7), none⟩])
.ret)
.skip))
(.seq (.reg [
⟨(some 8), .mv (.t 0), none⟩,
⟨(some 9), .call 101 [(.t 8), (.c (.i .i64 0))], none⟩,
⟨(some 4), .mv (.t 9), none⟩])
.ret)))⟩
def f188 : AF := ⟨143, [.t 4], (.seq (.reg [
⟨(some 4), .mv (.c (.i .i64 0)), none⟩])
(.seq (.reg [
⟨(some 14), .mv (.t 1), none⟩,
⟨(some 15), .len 0 (.t 14), none⟩,
⟨(some 5), .mv (.t 15), none⟩])
(.seq (.blk 0 (.seq (.reg [
⟨(some 17), .mv (.t 5), none⟩,
⟨(some 18), .bin .eql .int (.t 17) (.c (.i .i64 0)), none⟩,
⟨(some 19), .mv (.t 18), none⟩,
⟨(some 20), .mv (.t 1), (some (19, false))⟩,
⟨(some 21), .mv (.t 0), (some (19, false))⟩,
⟨(some 22), .bin .eql .str (.t 20) (.t 21), (some (19, false))⟩,
⟨(some 23), .pick (.t 19) (.c (.b true)) (.t 22), none⟩,
⟨(some 16), .mv (.t 23), none⟩])
(.cond (.t 16)
(.seq (.reg [
⟨(some 4), .mv (.c (.i .i64 0)), none⟩])
.ret)
(.seq (.reg [
⟨(some 25), .mv (.t 5), none⟩,
⟨(some 26), .bin .eql .int (.t 25) (.c (.i .i64 1)), none⟩,
⟨(some 24), .mv (.t 26), none⟩])
(.cond (.t 24)
(.seq (.reg [
⟨(some 27), .mv (.t 0), none⟩,
⟨(some 28), .mv (.t 1), none⟩,
⟨(some 29), .ixS (.t 28) (.c (.i .i64 0)), none⟩,
⟨(some 30), .call 237 [(.t 27), (.t 29)], none⟩,
⟨(some 4), .mv (.t 30), none⟩])
.ret)
(.seq (.reg [
⟨(some 32), .mv (.t 5), none⟩,
⟨(some 33), .mv (.t 0), none⟩,
⟨(some 34), .len 0 (.t 33), none⟩,
⟨(some 35), .bin .geq .no (.t 32) (.t 34), none⟩,
⟨(some 31), .mv (.t 35), none⟩])
(.cond (.t 31)
(.seq (.reg [
⟨(some 4), .mv (.c (.i .i64 (-1))), none⟩])
.ret)
(.seq (.reg [
⟨(some 37), .mv (.t 5), none⟩,
⟨(some 38), .bad 0, none⟩,
⟨(some 39), .bin .leq .no (.t 37) (.t 38), none⟩,
⟨(some 40), .mv (.t 39), none⟩,
⟨(some 41), .mv (.t 0), (some (40, true))⟩,
⟨(some 42), .len 0 (.t 41), (some (40, true))⟩,
⟨(some 43), .bin .leq .no (.t 42) (.c (.i .i64 64)), (some (40, true))⟩,
⟨(some 44), .pick (.t 40) (.t 43) (.c (.b false)), none⟩,
⟨(some 36), .mv (.t 44), none⟩])
(.cond (.t 36)
(.seq (.reg [
⟨(some 45), .mv (.t 0), none⟩,
⟨(some 46), .mv (.t 1), none⟩,
⟨(some 47), .bad 0, none⟩,
⟨(some 4), .mv (.t 47), none⟩])
.ret)
.skip)))))))))
(.seq (.reg [
⟨(some 48), .mv (.t 1), none⟩,
⟨(some 49), .ixS (.t 48) (.c (.i .i64 0)), none⟩,
⟨(some 6), .mv (.t 49), none⟩])
(.seq (.reg [
⟨(some 50), .mv (.t 1), none⟩,
⟨(some 51), .ixS (.t 50) (.c (.i .i64 1)), none⟩,
⟨(some 7), .mv (.t 51), none⟩])
(.seq (.reg [
⟨(some 8), .mv (.c (.i .i64 0)), none⟩])
(.seq (.reg [
⟨(some 52), .mv (.t 0), none⟩,
⟨(some 53), .len 0 (.t 52), none⟩,
⟨(some 54), .mv (.t 5), none⟩,
⟨(some 55), .bin .sub .no (.t 53) (.t 54), none⟩,
⟨(some 56), .bin .add .no (.t 55) (.c (.i .i64 1)), none⟩,
⟨(some 9), .mv (.t 56), none⟩])
(.seq (.reg [
⟨(some 10), .mv (.c (.i .i64 0)), none⟩])
(.seq (.blk 1 (.loop (.seq (.seq (.reg [
⟨(some 57), .mv (.t 8), none⟩,
⟨(some 58), .mv (.t 9), none⟩,
⟨(some 59), .bin .lss .no (.t 57) (.t 58), none⟩])
(.cond (.t 59)
.skip
(.exit 1)))
(.blk 2 (.seq (.seq (.reg [
⟨(some 60), .mv (.t 0), none⟩,
⟨(some 61), .mv (.t 8), none⟩,
⟨(some 62), .ixS (.t 60) (.t 61), none⟩,
⟨(some 63), .mv (.t 6), none⟩,
⟨(some 64), .bin .neq .int (.t 62) (.t 63), none⟩])
(.cond (.t 64)
(.seq (.reg [
⟨(some 65), .mv (.t 0), none⟩,
⟨(some 66), .mv (.t 8), none⟩,
⟨(some 67), .bin .add .no (.t 66) (.c (.i .i64 1)), none⟩,
⟨(some 68), .mv (.t 9), none⟩,
⟨(some 69), .slS (.t 65) (some (.t 67)) (some (.t 68)), none⟩,
⟨(some 70), .mv (.t 6), none⟩,
⟨(some 71), .call 237 [(.t 69), (.t 70)], none⟩,
⟨(some 11), .mv (.t 71), none⟩])
(.seq (.seq (.reg [
⟨(some 72), .mv (.t 11), none⟩,
⟨(some 73), .bin .lss .no (.t 72) (.c (.i .i64 0)), none⟩])
(.cond (.t 73)
(.seq (.reg [
⟨(some 4), .mv (.c (.i .i64 (-1))), none⟩])
.ret)
.skip))
(.reg [
⟨(some 74), .mv (.t 8), none⟩,
⟨(some 75), .mv (.t 11), none⟩,
⟨(some 76), .bin .add .no (.t 75) (.c (.i .i64 1)), none⟩,
⟨(some 77), .bin .add .no (.t 74) (.t 76), none⟩,
⟨(some 8), .mv (.t 77), none⟩])))
.skip))
(.seq (.seq (.reg [
⟨(some 78), .mv (.t 0), none⟩,
⟨(some 79), .mv (.t 8), none⟩,
⟨(some 80), .bin .add .no (.t 79) (.c (.i .i64 1)), none⟩,
⟨(some 81), .ixS (.t 78) (.t 80), none⟩,
⟨(some 82), .mv (.t 7), none⟩,
⟨(some 83), .bin .eql .int (.t 81) (.t 82), none⟩,
⟨(some 84), .mv (.t 83), none⟩,
⟨(some 85), .mv (.t 0), (some (84, true))⟩,
⟨(some 86), .mv (.t 8), (some (84, true))⟩,
⟨(some 87), .mv (.t 8), (some (84, true))⟩,
⟨(some 88), .mv (.t 5), (some (84, true))⟩,
⟨(some 89), .bin .add .no (.t 87) (.t 88), (some (84, true))⟩,
⟨(some 90), .slS (.t 85) (some (.t 86)) (some (.t 89)), (some (84, true))⟩,
⟨(some 91), .mv (.t 1), (some (84, true))⟩,
⟨(some 92), .bin .eql .str (.t 90) (.t 91), (some (84, true))⟩,
⟨(some 93), .pick (.t 84) (.t 92) (.c (.b false)), none⟩])
(.cond (.t 93)
(.seq (.reg [
⟨(some 94), .mv (.t 8), none⟩,
⟨(some 4), .mv (.t 94), none⟩])
.ret)
.skip))
(.seq (.reg [
⟨(some 95), .mv (.t 8), none⟩,
⟨(some 96), .bin .add .no (.t 95) (.c (.i .i64 1)), none⟩,
⟨(some 8), .mv (.t 96), none⟩])
(.seq (.reg [
⟨(some 97), .mv (.t 10), none⟩,
⟨(some 98), .bin .add .no (.t 97) (.c (.i .i64 1)), none⟩,
⟨(some 10), .mv (.t 98), none⟩])
(.seq (.reg [
⟨(some 99), .mv (.t 5), none⟩,
⟨(some 100), .bad 0, none⟩,
⟨(some 101), .bin .leq .no (.t 99) (.t 100), none⟩,
⟨(some 102), .mv (.t 101), none⟩,
⟨(some 103), .mv (.t 10), (some (102, true))⟩,
⟨(some 104), .mv (.t 8), (some (102, true))⟩,
⟨(some 105), .call 239 [(.t 104)], (some (102, true))⟩,
⟨(some 106), .bin .gtr .no (.t 103) (.t 105), (some (102, true))⟩,
⟨(some 107), .pick (.t 102) (.t 106) (.c (.b false)), none⟩])
(.cond (.t 107)
(.seq (.reg [
⟨(some 108), .mv (.t 0), none⟩,
⟨(some 109), .mv (.t 8), none⟩,
⟨(some 110), .slS (.t 108) (some (.t 109)) none, none⟩,
⟨(some 111), .mv (.t 1), none⟩,
⟨(some 112), .bad 0, none⟩,
⟨(some 12), .mv (.t 112), none⟩])
(.seq (.seq (.reg [
⟨(some 113), .mv (.t 12), none⟩,
⟨(some 114), .bin .geq .no (.t 113) (.c (.i .i64 0)), none⟩])
(.cond (.t 114)
(.seq (.reg [
⟨(some 115), .mv (.t 12), none⟩,
⟨(some 116), .mv (.t 8), none⟩,
⟨(some 117), .bin .add .no (.t 115) (.t 116), none⟩,
⟨(some 4), .mv (.t 117), none⟩])
.ret)
.skip))
(.seq (.reg [
⟨(some 4), .mv (.c (.i .i64 (-1))), none⟩])
.ret)))
(.seq (.reg [
⟨(some 118), .mv (.t 5), none⟩,
⟨(some 119), .bad 0, none⟩,
⟨(some 120), .bin .gtr .no (.t 118) (.t 119), none⟩,
⟨(some 121), .mv (.t 120), none⟩,
⟨(some 122), .mv (.t 10), (some (121, true))⟩,
⟨(some 123), .mv (.t 8), (some (121, true))⟩,
⟨(some 124), .bin .shr .no (.t 123) (.c (.i .u64 4)), (some (121, true))⟩,
⟨(some 125), .bin .add .no (.c (.i .i64 4)) (.t 124), (some (121, true))⟩,
⟨(some 126), .bin .geq .no (.t 122) (.t 125), (some (121, true))⟩,
⟨(some 127), .pick (.t 121) (.t 126) (.c (.b false)), none⟩,
⟨(some 128), .mv (.t 127), none⟩,
⟨(some 129), .mv (.t 8), (some (128, true))⟩,
⟨(some 130), .mv (.t 9), (some (128, true))⟩,
⟨(some 131), .bin .lss .no (.t 129) (.t 130), (some (128, true))⟩,
⟨(some 132), .pick (.t 128) (.t 131) (.c (.b false)), none⟩])
(.cond (.t 132)
(.seq (.reg [
⟨(some 133), .mv (.t 0), none⟩,
⟨(some 134), .mv (.t 8), none⟩,
⟨(some 135), .slS (.t 133) (some (.t 134)) none, none⟩,
⟨(some 136), .mv (.t 1), none⟩,
⟨(some 137), .call 240 [(.t 135), (.t 136)], none⟩,
⟨(some 13), .mv (.t 137), none⟩])
(.seq (.seq (.reg [
⟨(some 138), .mv (.t 13), none⟩,
⟨(some 139), .bin .lss .no (.t 138) (.c (.i .i64 0)), none⟩])
(.cond (.t 139)
(.seq (.reg [
⟨(some 4), .mv (.c (.i .i64 (-1))), none⟩])
.ret)
.skip))
(.seq (.reg [
⟨(some 140), .mv (.t 8), none⟩,
⟨(some 141), .mv (.t 13), none⟩,
⟨(some 142), .bin .add .no (.t 140) (.t 141), none⟩,
⟨(some 4), .mv (.t 142), none⟩])
.ret)))
.skip))))))))))))
(.seq (.reg [
⟨(some 4), .mv (.c (.i .i64 (-1))), none⟩])
.ret))))))))))⟩
def f189 : AF := ⟨43, [.c 2 false 1, .c 3 false 1], (.seq (.reg [
⟨(some 2), .alloc [.nm], none⟩,
⟨(some 3), .alloc [(.i .i64 0)], none⟩])
(.seq (.reg [
⟨(some 11), .mkm, none⟩,
⟨(some 4), .alloc [.nm], none⟩,
⟨none, .st 1 (.t 4) (.t 11), none⟩])
(.seq (.seq (.reg [
⟨(some 12), .mv (.t 0), none⟩,
⟨(some 13), .call 97 [(.t 12)], none⟩])
(.blk 0 (.rf (.t 13) [14, 15] (.seq (.reg [
⟨(some 5), .mv (.t 14), none⟩])
(.reg [
⟨(some 6), .mv (.t 15), none⟩]))
(.blk 1 (.seq (.reg [
⟨(some 16), .mv (.t 5), none⟩,
⟨(some 17), .call 113 [(.t 16)], none⟩,
⟨(some 18), .un .not (.t 17), none⟩,
⟨(some 19), .mv (.t 18), none⟩,
⟨(some 20), .mv (.t 6), (some (19, false))⟩,
⟨(some 21), .call 139 [(.t 20)], (some (19, false))⟩,
⟨(some 22), .un .not (.t 21), (some (19, false))⟩,
⟨(some 23), .pick (.t 19) (.c (.b true)) (.t 22), none⟩])
(.cond (.t 23)
(.seq (.reg [
⟨none, .st 1 (.t 2) (.c .nm), none⟩,
⟨none, .st 1 (.t 3) (.c (.i .i64 60)), none⟩])
.ret)
.skip))))))
(.seq (.seq (.reg [
⟨(some 24), .mv (.t 0), none⟩,
⟨(some 25), .call 97 [(.t 24)], none⟩])
(.blk 2 (.rf (.t 25) [26, 27] (.seq (.reg [
⟨(some 7), .mv (.t 26), none⟩])
(.reg [
⟨(some 8), .mv (.t 27), none⟩]))
(.blk 3 (.seq (.reg [
⟨(some 29), .ld false 1 (.t 4), none⟩,
⟨(some 30), .mv (.t 7), none⟩,
⟨(some 31), .lk .str (.i .i64 0) false (.t 29) (.t 30), none⟩,
⟨(some 32), .mv (.t 8), none⟩,
⟨(some 33), .call 241 [(.t 31), (.t 32)], none⟩,
⟨(some 28), .mv (.t 33), none⟩,
⟨(some 34), .xt (.t 28) 0, none⟩,
⟨(some 35), .xt (.t 28) 1, none⟩,
⟨(some 9), .mv (.t 34), none⟩,
⟨(some 10), .mv (.t 35), none⟩])
(.seq (.seq (.reg [
⟨(some 36), .mv (.t 10), none⟩,
⟨(some 37), .bin .neq .int (.t 36) (.c (.i .i64 0)), none⟩])
(.cond (.t 37)
(.seq (.reg [
⟨(some 38), .mv (.t 10), none⟩,
⟨none, .st 1 (.t 2) (.c .nm), none⟩,
⟨none, .st 1 (.t 3) (.t 38), none⟩])
.ret)
.skip))
(.reg [
⟨(some 39), .ld false 1 (.t 4), none⟩,
⟨(some 40), .mv (.t 7), none⟩,
⟨(some 41), .mv (.t 9), none⟩,
⟨none, .mu .str (.t 39) (.t 40) (.t 41), none⟩])))))))
(.seq (.reg [
⟨(some 42), .ld false 1 (.t 4), none⟩,
⟨none, .st 1 (.t 2) (.t 42), none⟩,
⟨none, .st 1 (.t 3) (.c (.i .i64 0)), none⟩])
.ret)))))⟩
def f190 : AF := ⟨4, [.t 2], (.seq (.reg [
⟨(some 1), .box 1 (.t 0), none⟩,
⟨(some 2), .mv (.c .nf), none⟩])
(.seq (.reg [
⟨(some 3), .mkf 242 [] [(.t 1)], none⟩,
⟨(some 2), .mv (.t 3), none⟩])
.ret))⟩
def f191 : AF := ⟨27, [.t 4], (.seq (.reg [
⟨(some 4), .mv (.c .nsl), none⟩])
(.seq (.seq (.reg [
⟨(some 5), .mv (.t 1), none⟩,
⟨(some 6), .bin .lss .no (.t 5) (.c (.i .i64 0)), none⟩])
(.cond (.t 6)
(.reg [
⟨(some 7), .mki 9 (.c (.s [99, 97, 110, 110, 111, 116, 32, 98, 101, 32, 110, 101, 103, 97, 116, 105, 118, 101])), none⟩,
⟨none, .bad 0, none⟩])
.skip))
(.seq (.seq (.reg [
⟨(some 8), .mv (.t 1), none⟩,
⟨(some 9), .mv (.t 0), none⟩,
⟨(some 10), .cap (.t 9), none⟩,
⟨(some 11), .mv (.t 0), none⟩,
⟨(some 12), .len 1 (.t 11), none⟩,
⟨(some 13), .bin .sub .no (.t 10) (.t 12), none⟩,
⟨(some 14), .bin .sub .no (.t 8) (.t 13), none⟩,
⟨(some 1), .mv (.t 14), none⟩])
(.seq (.reg [
⟨(some 15), .mv (.t 1), none⟩,
⟨(some 16), .bin .gtr .no (.t 15) (.c (.i .i64 0)), none⟩])
(.cond (.t 16)
(.reg [
⟨(some 17), .mv (.t 0), none⟩,
⟨(some 18), .mv (.t 0), none⟩,
⟨(some 19), .cap (.t 18), none⟩,
⟨(some 20), .slL 2 (.t 17) none (some (.t 19)) none, none⟩,
⟨(some 21), .mv (.t 1), none⟩,
⟨(some 22), .appz 2 24 [(.s []), (.i .i64 0)] (.t 20) (.t 21), none⟩,
⟨(some 23), .mv (.t 0), none⟩,
⟨(some 24), .len 1 (.t 23), none⟩,
⟨(some 25), .slL 2 (.t 22) none (some (.t 24)) none, none⟩,
⟨(some 0), .mv (.t 25), none⟩])
.skip)))
(.seq (.reg [
⟨(some 26), .mv (.t 0), none⟩,
⟨(some 4), .mv (.t 26), none⟩])
.ret))))⟩
def f194 : AF := ⟨5, [.t 2], (.seq (.reg [
⟨(some 2), .mv (.c .nsl), none⟩])
(.seq (.reg [
⟨(some 3), .mv (.t 0), none⟩,
⟨(some 4), .call 243 [(.c .nsl), (.t 3)], none⟩,
⟨(some 2), .mv (.t 4), none⟩])
.ret))⟩
def f195 : AF := ⟨11, [], (.seq (.reg [
⟨(some 3), .mv (.t 0), none⟩,
⟨(some 4), .len 1 (.t 3), none⟩,
⟨(some 2), .mv (.t 4), none⟩])
(.reg [
⟨(some 5), .mv (.t 0), none⟩,
⟨(some 6), .mv (.t 2), none⟩,
⟨(some 7), .mv (.t 2), none⟩,
⟨(some 8), .cvi .u64 (.t 7), none⟩,
⟨(some 9), .call 163 [(.t 8)], none⟩,
⟨(some 10), .call 244 [(.t 5), (.c (.i .i64 0)), (.t 6), (.t 9)], none⟩]))⟩
def f200 : AF := ⟨36, [.t 2], (.seq (.reg [
⟨(some 2), .mv (.c .nsl), none⟩])
(.seq (.reg [
⟨(some 3), .mv (.c (.i .i64 0)), none⟩])
(.seq (.seq (.reg [
⟨(some 9), .mv (.t 0), none⟩,
⟨(some 10), .len 1 (.t 9), none⟩,
⟨(some 11), .mv (.c (.i .i64 0)), none⟩])
(.blk 0 (.loop (.seq (.reg [
⟨(some 12), .bin .lss .no (.t 11) (.t 10), none⟩])
(.seq (.cond (.t 12)
.skip
(.exit 0))
(.seq (.blk 1 (.seq (.reg [
⟨(some 13), .iaL 1 (.t 9) (.t 11), none⟩,
⟨(some 14), .ld false 1 (.t 13), none⟩,
⟨(some 5), .mv (.t 14), none⟩])
(.seq (.reg [
⟨(some 15), .mv (.t 3), none⟩,
⟨(some 16), .mv (.t 5), none⟩,
⟨(some 17), .len 1 (.t 16), none⟩,
⟨(some 18), .bin .add .no (.t 15) (.t 17), none⟩,
⟨(some 3), .mv (.t 18), none⟩])
(.seq (.reg [
⟨(some 19), .mv (.t 3), none⟩,
⟨(some 20), .bin .lss .no (.t 19) (.c (.i .i64 0)), none⟩])
(.cond (.t 20)
(.reg [
⟨(some 21), .mki 9 (.c (.s [108, 101, 110, 32, 111, 117, 116, 32, 111, 102, 32, 114, 97, 110, 103, 101])), none⟩,
⟨none, .bad 0, none⟩])
.skip)))))
(.reg [
⟨(some 22), .bin .add .no (.t 11) (.c (.i .i64 1)), none⟩,
⟨(some 11), .mv (.t 22), none⟩])))))))
(.seq (.reg [
⟨(some 23), .mv (.t 3), none⟩,
⟨(some 24), .call 245 [(.c .nsl), (.t 23)], none⟩,
⟨(some 6), .mv (.t 24), none⟩])
(.seq (.seq (.reg [
⟨(some 25), .mv (.t 0), none⟩,
⟨(some 26), .len 1 (.t 25), none⟩,
⟨(some 27), .mv (.c (.i .i64 0)), none⟩])
(.blk 2 (.loop (.seq (.reg [
⟨(some 28), .bin .lss .no (.t 27) (.t 26), none⟩])
(.seq (.cond (.t 28)
.skip
(.exit 2))
(.seq (.blk 3 (.seq (.reg [
⟨(some 29), .iaL 1 (.t 25) (.t 27), none⟩,
⟨(some 30), .ld false 1 (.t 29), none⟩,
⟨(some 8), .mv (.t 30), none⟩])
(.reg [
⟨(some 31), .mv (.t 6), none⟩,
⟨(some 32), .mv (.t 8), none⟩,
⟨(some 33), .app 1 1 [(.i .u8 0)] (.t 31) (.t 32), none⟩,
⟨(some 6), .mv (.t 33), none⟩])))
(.reg [
⟨(some 34), .bin .add .no (.t 27) (.c (.i .i64 1)), none⟩,
⟨(some 27), .mv (.t 34), none⟩])))))))
(.seq (.reg [
⟨(some 35), .mv (.t 6), none⟩,
⟨(some 2), .mv (.t 35), none⟩])
.ret))))))⟩
def f201 : AF := ⟨25, [.t 2], (.seq (.reg [
⟨(some 2), .mv (.c (.i .i64 0)), none⟩])
(.seq (.seq (.reg [
⟨(some 3), .mv (.t 0), none⟩,
⟨(some 4), .bin .geq .no (.t 3) (.c (.i .u64 4294967296)), none⟩])
(.cond (.t 4)
(.seq (.reg [
⟨(some 5), .mv (.t 0), none⟩,
⟨(some 6), .bin .shr .no (.t 5) (.c (.i .u64 32)), none⟩,
⟨(some 0), .mv (.t 6), none⟩])
(.reg [
⟨(some 2), .mv (.c (.i .i64 32)), none⟩]))
.skip))
(.seq (.seq (.reg [
⟨(some 7), .mv (.t 0), none⟩,
⟨(some 8), .bin .geq .no (.t 7) (.c (.i .u64 65536)), none⟩])
(.cond (.t 8)
(.seq (.reg [
⟨(some 9), .mv (.t 0), none⟩,
⟨(some 10), .bin .shr .no (.t 9) (.c (.i .u64 16)), none⟩,
⟨(some 0), .mv (.t 10), none⟩])
(.reg [
⟨(some 11), .mv (.t 2), none⟩,
⟨(some 12), .bin .add .no (.t 11) (.c (.i .i64 16)), none⟩,
⟨(some 2), .mv (.t 12), none⟩]))
.skip))
(.seq (.seq (.reg [
⟨(some 13), .mv (.t 0), none⟩,
⟨(some 14), .bin .geq .no (.t 13) (.c (.i .u64 256)), none⟩])
(.cond (.t 14)
(.seq (.reg [
⟨(some 15), .mv (.t 0), none⟩,
⟨(some 16), .bin .shr .no (.t 15) (.c (.i .u64 8)), none⟩,
⟨(some 0), .mv (.t 16), none⟩])
(.reg [
⟨(some 17), .mv (.t 2), none⟩,
⟨(some 18), .bin .add .no (.t 17) (.c (.i .i64 8)), none⟩,
⟨(some 2), .mv (.t 18), none⟩]))
.skip))
(.seq (.reg [
⟨(some 19), .mv (.t 2), none⟩,
⟨(some 20), .mv (.t 0), none⟩,
⟨(some 21), .cvi .u8 (.t 20), none⟩,
⟨(some 22), .ixS (.c (.s [0, 1, 2, 2, 3, 3, 3, 3, 4, 4, 4, 4, 4, 4, 4, 4, 5, 5, 5, 5, 5, 5, 5, 5, 5, 5, 5, 5, 5, 5, 5, 5, 6, 6, 6, 6, 6, 6, 6, 6, 6, 6, 6, 6, 6, 6, 6, 6, 6, 6, 6, 6, 6, 6, 6, 6, 6, 6, 6, 6, 6, 6, 6, 6, 7, 7, 7, 7, 7, 7, 7, 7, 7, 7, 7, 7, 7, 7, 7, 7, 7, 7, 7, 7, 7, 7, 7, 7, 7, 7, 7, 7, 7, 7, 7, 7, 7, 7, 7, 7, 7, 7, 7, 7, 7, 7, 7, 7, 7, 7, 7, 7, 7, 7, 7, 7, 7, 7, 7, 7, 7, 7, 7, 7, 7, 7, 7, 7, 8, 8, 8, 8, 8, 8, 8, 8, 8, 8, 8, 8, 8, 8, 8, 8, 8, 8, 8, 8, 8, 8, 8, 8, 8, 8, 8, 8, 8, 8, 8, 8, 8, 8, 8, 8, 8, 8, 8, 8, 8, 8, 8, 8, 8, 8, 8, 8, 8, 8, 8, 8, 8, 8, 8, 8, 8, 8, 8, 8, 8, 8, 8, 8, 8, 8, 8, 8, 8, 8, 8, 8, 8, 8, 8, 8, 8, 8, 8, 8, 8, 8, 8, 8, 8, 8, 8, 8, 8, 8, 8, 8, 8, 8, 8, 8, 8, 8, 8, 8, 8, 8, 8, 8, 8, 8, 8, 8, 8, 8, 8, 8, 8, 8, 8, 8, 8, 8, 8, 8, 8, 8, 8, 8, 8, 8, 8, 8])) (.t 21), none⟩,
⟨(some 23), .cvi .i64 (.t 22), none⟩,
⟨(some 24), .bin .add .no (.t 19) (.t 23), none⟩,
⟨(some 2), .mv (.t 24), none⟩])
.ret)))))⟩
def f202 : AF := ⟨9, [.t 2], (.seq (.reg [
⟨(some 2), .mv (.c .nsl), none⟩])
(.seq (.reg [
⟨(some 3), .mv (.t 0), none⟩,
⟨(some 4), .mv (.t 0), none⟩,
⟨(some 5), .len 1 (.t 4), none⟩,
⟨(some 6), .mv (.t 0), none⟩,
⟨(some 7), .len 1 (.t 6), none⟩,
⟨(some 8), .slL 1 (.t 3) none (some (.t 5)) (some (.t 7)), none⟩,
⟨(some 2), .mv (.t 8), none⟩])
.ret))⟩
def f203 : AF := ⟨49, [], (.seq (.reg [
⟨(some 8), .mv (.t 1), none⟩,
⟨(some 9), .bin .add .no (.t 8) (.c (.i .i64 1)), none⟩,
⟨(some 6), .mv (.t 9), none⟩])
(.blk 0 (.loop (.seq (.seq (.reg [
⟨(some 10), .mv (.t 6), none⟩,
⟨(some 11), .mv (.t 2), none⟩,
⟨(some 12), .bin .lss .no (.t 10) (.t 11), none⟩])
(.cond (.t 12)
.skip
(.exit 0)))
(.seq (.blk 1 (.seq (.reg [
⟨(some 15), .mv (.t 6), none⟩,
⟨(some 7), .mv (.t 15), none⟩])
(.blk 2 (.loop (.seq (.seq (.drw [
.op ⟨(some 16), .mv (.t 7), none⟩,
.op ⟨(some 17), .mv (.t 1), none⟩,
.op ⟨(some 18), .bin .gtr .no (.t 16) (.t 17), none⟩,
.op ⟨(some 19), .mv (.t 18), none⟩,
.op ⟨(some 20), .mv (.t 0), (some (19, true))⟩,
.op ⟨(some 21), .mv (.t 7), (some (19, true))⟩,
.op ⟨(some 22), .iaL 1 (.t 20) (.t 21), (some (19, true))⟩,
.op ⟨(some 23), .ld false 1 (.t 22), (some (19, true))⟩,
.op ⟨(some 24), .mv (.t 0), (some (19, true))⟩,
.op ⟨(some 25), .mv (.t 7), (some (19, true))⟩,
.op ⟨(some 26), .bin .sub .no (.t 25) (.c (.i .i64 1)), (some (19, true))⟩,
.op ⟨(some 27), .iaL 1 (.t 24) (.t 26), (some (19, true))⟩,
.op ⟨(some 28), .ld false 1 (.t 27), (some (19, true))⟩,
.op ⟨(some 29), .call 209 [(.t 23), (.t 28)], (some (19, true))⟩,
.op ⟨(some 30), .pick (.t 19) (.t 29) (.c (.b false)), none⟩])
(.cond (.t 30)
.skip
(.exit 2)))
(.seq (.blk 3 (.drw [
.op ⟨(some 33), .mv (.t 0), none⟩,
.op ⟨(some 34), .mv (.t 7), none⟩,
.op ⟨(some 35), .mv (.t 0), none⟩,
.op ⟨(some 36), .mv (.t 7), none⟩,
.op ⟨(some 37), .bin .sub .no (.t 36) (.c (.i .i64 1)), none⟩,
.op ⟨(some 38), .mv (.t 0), none⟩,
.op ⟨(some 39), .mv (.t 7), none⟩,
.op ⟨(some 40), .bin .sub .no (.t 39) (.c (.i .i64 1)), none⟩,
.op ⟨(some 41), .iaL 1 (.t 38) (.t 40), none⟩,
.op ⟨(some 42), .ld false 1 (.t 41), none⟩,
.op ⟨(some 43), .mv (.t 0), none⟩,
.op ⟨(some 44), .mv (.t 7), none⟩,
.op ⟨(some 45), .iaL 1 (.t 43) (.t 44), none⟩,
.op ⟨(some 46), .ld false 1 (.t 45), none⟩,
.op ⟨(some 47), .iaL 1 (.t 33) (.t 34), none⟩,
.op ⟨none, .st 1 (.t 47) (.t 42), none⟩,
.op ⟨(some 48), .iaL 1 (.t 35) (.t 37), none⟩,
.op ⟨none, .st 1 (.t 48) (.t 46), none⟩]))
(.reg [
⟨(some 31), .mv (.t 7), none⟩,
⟨(some 32), .bin .sub .no (.t 31) (.c (.i .i64 1)), none⟩,
⟨(some 7), .mv (.t 32), none⟩])))))))
(.reg [
⟨(some 13), .mv (.t 6), none⟩,
⟨(some 14), .bin .add .no (.t 13) (.c (.i .i64 1)), none⟩,
⟨(some 6), .mv (.t 14), none⟩]))))))⟩
def f204 : AF := ⟨56, [], (.seq (.reg [
⟨(some 11), .mv (.t 1), none⟩,
⟨(some 6), .mv (.t 11), none⟩])
(.seq (.reg [
⟨(some 7), .mv (.c (.i .i64 0)), none⟩])
(.seq (.reg [
⟨(some 12), .mv (.t 2), none⟩,
⟨(some 13), .mv (.t 1), none⟩,
⟨(some 14), .bin .sub .no (.t 12) (.t 13), none⟩,
⟨(some 8), .mv (.t 14), none⟩])
(.seq (.seq (.reg [
⟨(some 15), .mv (.t 8), none⟩,
⟨(some 16), .bin .sub .no (.t 15) (.c (.i .i64 1)), none⟩,
⟨(some 17), .bin .quo .no (.t 16) (.c (.i .i64 2)), none⟩,
⟨(some 9), .mv (.t 17), none⟩])
(.blk 0 (.loop (.seq (.seq (.reg [
⟨(some 18), .mv (.t 9), none⟩,
⟨(some 19), .bin .geq .no (.t 18) (.c (.i .i64 0)), none⟩])
(.cond (.t 19)
.skip
(.exit 0)))
(.seq (.blk 1 (.reg [
⟨(some 22), .mv (.t 0), none⟩,
⟨(some 23), .mv (.t 9), none⟩,
⟨(some 24), .mv (.t 8), none⟩,
⟨(some 25), .mv (.t 6), none⟩,
⟨(some 26), .call 246 [(.t 22), (.t 23), (.t 24), (.t 25)], none⟩]))
(.reg [
⟨(some 20), .mv (.t 9), none⟩,
⟨(some 21), .bin .sub .no (.t 20) (.c (.i .i64 1)), none⟩,
⟨(some 9), .mv (.t 21), none⟩]))))))
(.seq (.reg [
⟨(some 27), .mv (.t 8), none⟩,
⟨(some 28), .bin .sub .no (.t 27) (.c (.i .i64 1)), none⟩,
⟨(some 10), .mv (.t 28), none⟩])
(.blk 2 (.loop (.seq (.seq (.reg [
⟨(some 29), .mv (.t 10), none⟩,
⟨(some 30), .bin .geq .no (.t 29) (.c (.i .i64 0)), none⟩])
(.cond (.t 30)
.skip
(.exit 2)))
(.seq (.blk 3 (.seq (.drw [
.op ⟨(some 33), .mv (.t 0), none⟩,
.op ⟨(some 34), .mv (.t 6), none⟩,
.op ⟨(some 35), .mv (.t 0), none⟩,
.op ⟨(some 36), .mv (.t 6), none⟩,
.op ⟨(some 37), .mv (.t 10), none⟩,
.op ⟨(some 38), .bin .add .no (.t 36) (.t 37), none⟩,
.op ⟨(some 39), .mv (.t 0), none⟩,
.op ⟨(some 40), .mv (.t 6), none⟩,
.op ⟨(some 41), .mv (.t 10), none⟩,
.op ⟨(some 42), .bin .add .no (.t 40) (.t 41), none⟩,
.op ⟨(some 43), .iaL 1 (.t 39) (.t 42), none⟩,
.op ⟨(some 44), .ld false 1 (.t 43), none⟩,
.op ⟨(some 45), .mv (.t 0), none⟩,
.op ⟨(some 46), .mv (.t 6), none⟩,
.op ⟨(some 47), .iaL 1 (.t 45) (.t 46), none⟩,
.op ⟨(some 48), .ld false 1 (.t 47), none⟩,
.op ⟨(some 49), .iaL 1 (.t 33) (.t 34), none⟩,
.op ⟨none, .st 1 (.t 49) (.t 44), none⟩,
.op ⟨(some 50), .iaL 1 (.t 35) (.t 38), none⟩,
.op ⟨none, .st 1 (.t 50) (.t 48), none⟩])
(.reg [
⟨(some 51), .mv (.t 0), none⟩,
⟨(some 52), .mv (.t 7), none⟩,
⟨(some 53), .mv (.t 10), none⟩,
⟨(some 54), .mv (.t 6), none⟩,
⟨(some 55), .call 246 [(.t 51), (.t 52), (.t 53), (.t 54)], none⟩])))
(.reg [
⟨(some 31), .mv (.t 10), none⟩,
⟨(some 32), .bin .sub .no (.t 31) (.c (.i .i64 1)), none⟩,
⟨(some 10), .mv (.t 32), none⟩]))))))))))⟩
def f205 : AF := ⟨65, [], (.seq (.reg [
⟨(some 11), .mv (.t 2), none⟩,
⟨(some 12), .mv (.t 1), none⟩,
⟨(some 13), .bin .sub .no (.t 11) (.t 12), none⟩,
⟨(some 6), .mv (.t 13), none⟩])
(.seq (.reg [
⟨(some 14), .mv (.t 6), none⟩,
⟨(some 15), .bin .geq .no (.t 14) (.c (.i .i64 8)), none⟩])
(.cond (.t 15)
(.seq (.reg [
⟨(some 16), .mv (.t 6), none⟩,
⟨(some 17), .cvi .u64 (.t 16), none⟩,
⟨(some 7), .alloc [(.i .u64 0)], none⟩,
⟨none, .st 1 (.t 7) (.t 17), none⟩])
(.seq (.reg [
⟨(some 18), .mv (.t 6), none⟩,
⟨(some 19), .call 247 [(.t 18)], none⟩,
⟨(some 8), .mv (.t 19), none⟩])
(.seq (.reg [
⟨(some 20), .mv (.t 1), none⟩,
⟨(some 21), .mv (.t 6), none⟩,
⟨(some 22), .bin .quo .no (.t 21) (.c (.i .i64 4)), none⟩,
⟨(some 23), .bin .mul .no (.t 22) (.c (.i .i64 2)), none⟩,
⟨(some 24), .bin .add .no (.t 20) (.t 23), none⟩,
⟨(some 25), .bin .sub .no (.t 24) (.c (.i .i64 1)), none⟩,
⟨(some 9), .mv (.t 25), none⟩])
(.blk 0 (.loop (.seq (.seq (.reg [
⟨(some 26), .mv (.t 9), none⟩,
⟨(some 27), .mv (.t 1), none⟩,
⟨(some 28), .mv (.t 6), none⟩,
⟨(some 29), .bin .quo .no (.t 28) (.c (.i .i64 4)), none⟩,
⟨(some 30), .bin .mul .no (.t 29) (.c (.i .i64 2)), none⟩,
⟨(some 31), .bin .add .no (.t 27) (.t 30), none⟩,
⟨(some 32), .bin .add .no (.t 31) (.c (.i .i64 1)), none⟩,
⟨(some 33), .bin .leq .no (.t 26) (.t 32), none⟩])
(.cond (.t 33)
.skip
(.exit 0)))
(.seq (.blk 1 (.seq (.reg [
⟨(some 36), .call 248 [(.t 7)], none⟩,
⟨(some 37), .mv (.t 8), none⟩,
⟨(some 38), .bin .sub .no (.t 37) (.c (.i .u64 1)), none⟩,
⟨(some 39), .bin .and .no (.t 36) (.t 38), none⟩,
⟨(some 40), .cvi .i64 (.t 39), none⟩,
⟨(some 10), .mv (.t 40), none⟩])
(.seq (.seq (.reg [
⟨(some 41), .mv (.t 10), none⟩,
⟨(some 42), .mv (.t 6), none⟩,
⟨(some 43), .bin .geq .no (.t 41) (.t 42), none⟩])
(.cond (.t 43)
(.reg [
⟨(some 44), .mv (.t 10), none⟩,
⟨(some 45), .mv (.t 6), none⟩,
⟨(some 46), .bin .sub .no (.t 44) (.t 45), none⟩,
⟨(some 10), .mv (.t 46), none⟩])
.skip))
(.drw [
.op ⟨(some 47), .mv (.t 0), none⟩,
.op ⟨(some 48), .mv (.t 9), none⟩,
.op ⟨(some 49), .mv (.t 0), none⟩,
.op ⟨(some 50), .mv (.t 1), none⟩,
.op ⟨(some 51), .mv (.t 10), none⟩,
.op ⟨(some 52), .bin .add .no (.t 50) (.t 51), none⟩,
.op ⟨(some 53), .mv (.t 0), none⟩,
.op ⟨(some 54), .mv (.t 1), none⟩,
.op ⟨(some 55), .mv (.t 10), none⟩,
.op ⟨(some 56), .bin .add .no (.t 54) (.t 55), none⟩,
.op ⟨(some 57), .iaL 1 (.t 53) (.t 56), none⟩,
.op ⟨(some 58), .ld false 1 (.t 57), none⟩,
.op ⟨(some 59), .mv (.t 0), none⟩,
.op ⟨(some 60), .mv (.t 9), none⟩,
.op ⟨(some 61), .iaL 1 (.t 59) (.t 60), none⟩,
.op ⟨(some 62), .ld false 1 (.t 61), none⟩,
.op ⟨(some 63), .iaL 1 (.t 47) (.t 48), none⟩,
.op ⟨none, .st 1 (.t 63) (.t 58), none⟩,
.op ⟨(some 64), .iaL 1 (.t 49) (.t 52), none⟩,
.op ⟨none, .st 1 (.t 64) (.t 62), none⟩]))))
(.reg [
⟨(some 34), .mv (.t 9), none⟩,
⟨(some 35), .bin .add .no (.t 34) (.c (.i .i64 1)), none⟩,
⟨(some 9), .mv (.t 35), none⟩]))))))))
.skip)))⟩
def f206 : AF := ⟨57, [.t 6, .t 7], (.seq (.reg [
⟨(some 6), .mv (.c (.i .i64 0)), none⟩,
⟨(some 7), .mv (.c (.i .i64 0)), none⟩])
(.seq (.reg [
⟨(some 13), .mv (.t 2), none⟩,
⟨(some 14), .mv (.t 1), none⟩,
⟨(some 15), .bin .sub .no (.t 13) (.t 14), none⟩,
⟨(some 8), .mv (.t 15), none⟩])
(.seq (.reg [
⟨(some 9), .alloc [(.i .i64 0)], none⟩])
(.seq (.reg [
⟨(some 16), .mv (.t 1), none⟩,
⟨(some 17), .mv (.t 8), none⟩,
⟨(some 18), .bin .quo .no (.t 17) (.c (.i .i64 4)), none⟩,
⟨(some 19), .bin .mul .no (.t 18) (.c (.i .i64 1)), none⟩,
⟨(some 20), .bin .add .no (.t 16) (.t 19), none⟩,
⟨(some 10), .mv (.t 20), none⟩])
(.seq (.reg [
⟨(some 21), .mv (.t 1), none⟩,
⟨(some 22), .mv (.t 8), none⟩,
⟨(some 23), .bin .quo .no (.t 22) (.c (.i .i64 4)), none⟩,
⟨(some 24), .bin .mul .no (.t 23) (.c (.i .i64 2)), none⟩,
⟨(some 25), .bin .add .no (.t 21) (.t 24), none⟩,
⟨(some 11), .mv (.t 25), none⟩])
(.seq (.reg [
⟨(some 26), .mv (.t 1), none⟩,
⟨(some 27), .mv (.t 8), none⟩,
⟨(some 28), .bin .quo .no (.t 27) (.c (.i .i64 4)), none⟩,
⟨(some 29), .bin .mul .no (.t 28) (.c (.i .i64 3)), none⟩,
⟨(some 30), .bin .add .no (.t 26) (.t 29), none⟩,
⟨(some 12), .mv (.t 30), none⟩])
(.seq (.seq (.reg [
⟨(some 31), .mv (.t 8), none⟩,
⟨(some 32), .bin .geq .no (.t 31) (.c (.i .i64 8)), none⟩])
(.cond (.t 32)
(.seq (.seq (.reg [
⟨(some 33), .mv (.t 8), none⟩,
⟨(some 34), .bin .geq .no (.t 33) (.c (.i .i64 50)), none⟩])
(.cond (.t 34)
(.seq (.reg [
⟨(some 35), .mv (.t 0), none⟩,
⟨(some 36), .mv (.t 10), none⟩,
⟨(some 37), .call 249 [(.t 35), (.t 36), (.t 9)], none⟩,
⟨(some 10), .mv (.t 37), none⟩])
(.seq (.reg [
⟨(some 38), .mv (.t 0), none⟩,
⟨(some 39), .mv (.t 11), none⟩,
⟨(some 40), .call 249 [(.t 38), (.t 39), (.t 9)], none⟩,
⟨(some 11), .mv (.t 40), none⟩])
(.reg [
⟨(some 41), .mv (.t 0), none⟩,
⟨(some 42), .mv (.t 12), none⟩,
⟨(some 43), .call 249 [(.t 41), (.t 42), (.t 9)], none⟩,
⟨(some 12), .mv (.t 43), none⟩])))
.skip))
(.reg [
⟨(some 44), .mv (.t 0), none⟩,
⟨(some 45), .mv (.t 10), none⟩,
⟨(some 46), .mv (.t 11), none⟩,
⟨(some 47), .mv (.t 12), none⟩,
⟨(some 48), .call 250 [(.t 44), (.t 45), (.t 46), (.t 47), (.t 9)], none⟩,
⟨(some 11), .mv (.t 48), none⟩]))
.skip))
(.seq (.reg [
⟨(some 49), .ld false 1 (.t 9), none⟩])
(.blk 0 (.seq (.reg [
⟨(some 52), .bin .eql .int (.t 49) (.c (.i .i64 0)), none⟩,
⟨(some 51), .mv (.t 52), none⟩])
(.cond (.t 51)
(.seq (.reg [
⟨(some 53), .mv (.t 11), none⟩,
⟨(some 6), .mv (.t 53), none⟩,
⟨(some 7), .mv (.c (.i .i64 1)), none⟩])
.ret)
(.seq (.reg [
⟨(some 55), .bin .eql .int (.t 49) (.c (.i .i64 12)), none⟩,
⟨(some 54), .mv (.t 55), none⟩])
(.cond (.t 54)
(.seq (.reg [
⟨(some 56), .mv (.t 11), none⟩,
⟨(some 6), .mv (.t 56), none⟩,
⟨(some 7), .mv (.c (.i .i64 2)), none⟩])
.ret)
(.seq (.reg [
⟨(some 50), .mv (.t 11), none⟩,
⟨(some 6), .mv (.t 50), none⟩,
⟨(some 7), .mv (.c (.i .i64 0)), none⟩])
.ret))))))))))))))⟩
def f207 : AF := ⟨32, [], (.seq (.reg [
⟨(some 8), .mv (.t 1), none⟩,
⟨(some 6), .mv (.t 8), none⟩])
(.seq (.reg [
⟨(some 9), .mv (.t 2), none⟩,
⟨(some 10), .bin .sub .no (.t 9) (.c (.i .i64 1)), none⟩,
⟨(some 7), .mv (.t 10), none⟩])
(.blk 0 (.loop (.seq (.seq (.reg [
⟨(some 11), .mv (.t 6), none⟩,
⟨(some 12), .mv (.t 7), none⟩,
⟨(some 13), .bin .lss .no (.t 11) (.t 12), none⟩])
(.cond (.t 13)
.skip
(.exit 0)))
(.blk 1 (.seq (.drw [
.op ⟨(some 14), .mv (.t 0), none⟩,
.op ⟨(some 15), .mv (.t 6), none⟩,
.op ⟨(some 16), .mv (.t 0), none⟩,
.op ⟨(some 17), .mv (.t 7), none⟩,
.op ⟨(some 18), .mv (.t 0), none⟩,
.op ⟨(some 19), .mv (.t 7), none⟩,
.op ⟨(some 20), .iaL 1 (.t 18) (.t 19), none⟩,
.op ⟨(some 21), .ld false 1 (.t 20), none⟩,
.op ⟨(some 22), .mv (.t 0), none⟩,
.op ⟨(some 23), .mv (.t 6), none⟩,
.op ⟨(some 24), .iaL 1 (.t 22) (.t 23), none⟩,
.op ⟨(some 25), .ld false 1 (.t 24), none⟩,
.op ⟨(some 26), .iaL 1 (.t 14) (.t 15), none⟩,
.op ⟨none, .st 1 (.t 26) (.t 21), none⟩,
.op ⟨(some 27), .iaL 1 (.t 16) (.t 17), none⟩,
.op ⟨none, .st 1 (.t 27) (.t 25), none⟩])
(.seq (.reg [
⟨(some 28), .mv (.t 6), none⟩,
⟨(some 29), .bin .add .no (.t 28) (.c (.i .i64 1)), none⟩,
⟨(some 6), .mv (.t 29), none⟩])
(.reg [
⟨(some 30), .mv (.t 7), none⟩,
⟨(some 31), .bin .sub .no (.t 30) (.c (.i .i64 1)), none⟩,
⟨(some 7), .mv (.t 31), none⟩])))))))))⟩
end Go.Proofs.YtmlfcopllfdjfaaGreat.Am.Dn
