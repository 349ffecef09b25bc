/- The code of the functions that a law reaches, as the abstract machine reads it: part 0. -/
import Derived.Test.YtmlfcopllfdjfaaGreatAm0
namespace Go.Proofs.YtmlfcopllfdjfaaGreat.Am.Rn
set_option maxRecDepth 100000
def f3 : AF := ⟨64, [.c 4 false 1], (.seq (.reg [
⟨(some 2), .box 17 (.t 0), none⟩,
⟨(some 4), .alloc [(.b false)], none⟩])
(.seq (.reg [
⟨(some 5), .mv (.c .np), none⟩])
(.seq (.reg [
⟨(some 8), .mv (.t 5), none⟩,
⟨(some 9), .call 5 [(.t 8)], none⟩,
⟨(some 6), .mv (.t 9), none⟩])
(.seq (.seq (.reg [
⟨(some 10), .call 6 [], none⟩,
⟨(some 11), .un .not (.t 10), none⟩,
⟨(some 12), .mv (.t 11), none⟩,
⟨(some 13), .mv (.t 6), (some (12, false))⟩,
⟨(some 14), .bin .eql .nilf (.t 13) (.c .nf), (some (12, false))⟩,
⟨(some 15), .pick (.t 12) (.c (.b true)) (.t 14), none⟩])
(.cond (.t 15)
(.seq (.reg [
⟨none, .st 1 (.t 4) (.c (.b false)), none⟩])
.ret)
.skip))
(.seq (.seq (.reg [
⟨(some 16), .mv (.t 6), none⟩])
(.blk 0 (.rf (.t 16) [17] .skip
(.blk 1 (.seq (.reg [
⟨none, .st 1 (.t 4) (.c (.b false)), none⟩])
.ret)))))
(.seq (.reg [
⟨(some 18), .mv (.t 5), none⟩,
⟨(some 19), .mv (.t 1), none⟩,
⟨(some 20), .call 7 [(.t 18), (.t 19)], none⟩,
⟨(some 7), .alloc [(.i .i64 0), .nsl, .nsl, .nsl], none⟩,
⟨none, .st 4 (.t 7) (.t 20), none⟩])
(.seq (.reg [
⟨(some 21), .mv (.t 5), none⟩,
⟨(some 22), .fa 1 (.t 2), none⟩,
⟨(some 23), .ld true 16 (.t 22), none⟩,
⟨(some 24), .fa 0 (.t 2), none⟩,
⟨(some 25), .ld false 1 (.t 24), none⟩,
⟨(some 26), .call 8 [(.t 21), (.t 23), (.t 25)], none⟩,
⟨(some 27), .len 1 (.t 26), none⟩,
⟨(some 28), .bin .eql .int (.t 27) (.c (.i .i64 0)), none⟩,
⟨(some 29), .mv (.t 28), none⟩,
⟨(some 30), .mv (.t 5), (some (29, true))⟩,
⟨(some 31), .call 9 [(.t 30)], (some (29, true))⟩,
⟨(some 32), .bin .eql .ptr (.t 31) (.c .np), (some (29, true))⟩,
⟨(some 33), .pick (.t 29) (.t 32) (.c (.b false)), none⟩,
⟨(some 34), .mv (.t 33), none⟩,
⟨(some 35), .fa 1 (.t 7), (some (34, true))⟩,
⟨(some 36), .ld false 1 (.t 35), (some (34, true))⟩,
⟨(some 37), .len 1 (.t 36), (some (34, true))⟩,
⟨(some 38), .fa 2 (.t 7), (some (34, true))⟩,
⟨(some 39), .ld false 1 (.t 38), (some (34, true))⟩,
⟨(some 40), .len 1 (.t 39), (some (34, true))⟩,
⟨(some 41), .bin .add .no (.t 37) (.t 40), (some (34, true))⟩,
⟨(some 42), .fa 3 (.t 7), (some (34, true))⟩,
⟨(some 43), .ld false 1 (.t 42), (some (34, true))⟩,
⟨(some 44), .len 1 (.t 43), (some (34, true))⟩,
⟨(some 45), .bin .add .no (.t 41) (.t 44), (some (34, true))⟩,
⟨(some 46), .bin .eql .int (.t 45) (.c (.i .i64 0)), (some (34, true))⟩,
⟨(some 47), .pick (.t 34) (.t 46) (.c (.b false)), none⟩,
⟨(some 48), .mv (.t 47), none⟩,
⟨(some 49), .mv (.t 5), (some (48, true))⟩,
⟨(some 50), .call 10 [(.t 49)], (some (48, true))⟩,
⟨(some 51), .un .not (.t 50), (some (48, true))⟩,
⟨(some 52), .pick (.t 48) (.t 51) (.c (.b false)), none⟩,
⟨(some 53), .mv (.t 52), none⟩,
⟨(some 54), .mv (.t 5), (some (53, true))⟩,
⟨(some 55), .call 11 [(.t 54)], (some (53, true))⟩,
⟨(some 56), .bin .eql .int (.t 55) (.c (.i .i64 0)), (some (53, true))⟩,
⟨(some 57), .pick (.t 53) (.t 56) (.c (.b false)), none⟩,
⟨(some 58), .mv (.t 57), none⟩,
⟨(some 59), .mv (.t 5), (some (58, true))⟩,
⟨(some 60), .call 12 [(.t 59)], (some (58, true))⟩,
⟨(some 61), .len 1 (.t 60), (some (58, true))⟩,
⟨(some 62), .bin .eql .int (.t 61) (.c (.i .i64 0)), (some (58, true))⟩,
⟨(some 63), .pick (.t 58) (.t 62) (.c (.b false)), none⟩,
⟨none, .st 1 (.t 4) (.t 63), none⟩])
.ret)))))))⟩
def f5 : AF := ⟨4, [.t 2], (.seq (.reg [
⟨(some 1), .box 1 (.t 0), none⟩,
⟨(some 2), .mv (.c .nf), none⟩])
(.seq (.reg [
⟨(some 3), .mkf 23 [] [(.t 1)], none⟩,
⟨(some 2), .mv (.t 3), none⟩])
.ret))⟩
def f6 : AF := ⟨91, [.t 0], (.seq (.reg [
⟨(some 0), .mv (.c (.b false)), none⟩])
(.seq (.reg [
⟨(some 9), .call 25 [(.c (.i .i64 1)), (.c (.i .i64 3))], none⟩,
⟨(some 8), .mv (.t 9), none⟩,
⟨(some 10), .xt (.t 8) 0, none⟩,
⟨(some 11), .xt (.t 8) 1, none⟩,
⟨(some 1), .mv (.t 10), none⟩,
⟨(some 2), .mv (.t 11), none⟩])
(.seq (.reg [
⟨(some 13), .call 25 [(.c (.i .i64 3)), (.c (.i .i64 3))], none⟩,
⟨(some 12), .mv (.t 13), none⟩,
⟨(some 14), .xt (.t 12) 0, none⟩,
⟨(some 15), .xt (.t 12) 1, none⟩,
⟨(some 3), .mv (.t 14), none⟩,
⟨(some 4), .mv (.t 15), none⟩])
(.seq (.seq (.reg [
⟨(some 16), .mv (.t 2), none⟩,
⟨(some 17), .bin .neq .int (.t 16) (.c (.i .i64 0)), none⟩,
⟨(some 18), .mv (.t 17), none⟩,
⟨(some 19), .mv (.t 4), (some (18, false))⟩,
⟨(some 20), .bin .neq .int (.t 19) (.c (.i .i64 1)), (some (18, false))⟩,
⟨(some 21), .pick (.t 18) (.c (.b true)) (.t 20), none⟩,
⟨(some 22), .mv (.t 21), none⟩,
⟨(some 23), .mv (.t 1), (some (22, false))⟩,
⟨(some 24), .bin .eql .ptr (.t 23) (.c .np), (some (22, false))⟩,
⟨(some 25), .pick (.t 22) (.c (.b true)) (.t 24), none⟩,
⟨(some 26), .mv (.t 25), none⟩,
⟨(some 27), .mv (.t 1), (some (26, false))⟩,
⟨(some 28), .call 5 [(.t 27)], (some (26, false))⟩,
⟨(some 29), .bin .eql .nilf (.t 28) (.c .nf), (some (26, false))⟩,
⟨(some 30), .pick (.t 26) (.c (.b true)) (.t 29), none⟩])
(.cond (.t 30)
(.seq (.reg [
⟨(some 0), .mv (.c (.b false)), none⟩])
.ret)
.skip))
(.seq (.reg [
⟨(some 31), .build [(.s []), (.i .i64 0)] [(0, 1, (.c (.s [97]))), (1, 1, (.c (.i .i64 5)))], none⟩,
⟨(some 32), .bsl 1 [(.s []), (.i .i64 0)] [(0, 2, (.t 31))], none⟩,
⟨(some 5), .mv (.t 32), none⟩])
(.seq (.reg [
⟨(some 33), .mv (.t 1), none⟩,
⟨(some 34), .mv (.t 5), none⟩,
⟨(some 35), .build [(.i .i64 0), (.i .i64 0), (.i .i64 0), (.i .i64 0), (.i .i64 0), (.i .i64 0), (.i .i64 0), (.s []), .nsl] [(1, 1, (.c (.i .i64 1))), (2, 1, (.c (.i .i64 6))), (4, 1, (.c (.i .i64 1))), (8, 1, (.t 34))], none⟩,
⟨(some 36), .build [(.i .i64 0), (.i .i64 0), .nsl, (.i .i64 0), (.i .i64 0), (.i .i64 0), (.i .i64 0), (.i .i64 0), (.i .i64 0), (.i .i64 0), (.s []), .nsl, (.i .i64 0), (.i .i64 0), (.i .i64 0), (.i .i64 0)] [(0, 1, (.c (.i .i64 11))), (3, 9, (.t 35))], none⟩,
⟨(some 37), .call 8 [(.t 33), (.t 36), (.c (.i .i64 0))], none⟩,
⟨(some 6), .mv (.t 37), none⟩])
(.seq (.reg [
⟨(some 38), .mv (.t 1), none⟩,
⟨(some 39), .build [(.s []), (.i .i64 0)] [(0, 1, (.c (.s [97]))), (1, 1, (.c (.i .i64 7)))], none⟩,
⟨(some 40), .bsl 1 [(.s []), (.i .i64 0)] [(0, 2, (.t 39))], none⟩,
⟨(some 41), .build [(.i .i64 0), (.i .i64 0), .nsl, (.i .i64 0), (.i .i64 0), (.i .i64 0), (.i .i64 0), (.i .i64 0), (.i .i64 0), (.i .i64 0), (.s []), .nsl, (.i .i64 0), (.i .i64 0), (.i .i64 0), (.i .i64 0)] [(0, 1, (.c (.i .i64 3))), (1, 1, (.c (.i .i64 65))), (2, 1, (.t 40))], none⟩,
⟨(some 42), .call 8 [(.t 38), (.t 41), (.c (.i .i64 2))], none⟩,
⟨(some 7), .mv (.t 42), none⟩])
(.seq (.reg [
⟨(some 43), .mv (.t 6), none⟩,
⟨(some 44), .len 1 (.t 43), none⟩,
⟨(some 45), .bin .eql .int (.t 44) (.c (.i .i64 4)), none⟩,
⟨(some 46), .mv (.t 45), none⟩,
⟨(some 47), .mv (.t 6), (some (46, true))⟩,
⟨(some 48), .iaL 17 (.t 47) (.c (.i .i64 0)), (some (46, true))⟩,
⟨(some 49), .fa 1 (.t 48), (some (46, true))⟩,
⟨(some 50), .fa 0 (.t 49), (some (46, true))⟩,
⟨(some 51), .ld false 1 (.t 50), (some (46, true))⟩,
⟨(some 52), .bin .eql .int (.t 51) (.c (.i .i64 12)), (some (46, true))⟩,
⟨(some 53), .pick (.t 46) (.t 52) (.c (.b false)), none⟩,
⟨(some 54), .mv (.t 53), none⟩,
⟨(some 55), .mv (.t 7), (some (54, true))⟩,
⟨(some 56), .len 1 (.t 55), (some (54, true))⟩,
⟨(some 57), .bin .eql .int (.t 56) (.c (.i .i64 1)), (some (54, true))⟩,
⟨(some 58), .pick (.t 54) (.t 57) (.c (.b false)), none⟩,
⟨(some 59), .mv (.t 58), none⟩,
⟨(some 60), .mv (.t 7), (some (59, true))⟩,
⟨(some 61), .iaL 17 (.t 60) (.c (.i .i64 0)), (some (59, true))⟩,
⟨(some 62), .fa 0 (.t 61), (some (59, true))⟩,
⟨(some 63), .ld false 1 (.t 62), (some (59, true))⟩,
⟨(some 64), .bin .eql .int (.t 63) (.c (.i .i64 2)), (some (59, true))⟩,
⟨(some 65), .pick (.t 59) (.t 64) (.c (.b false)), none⟩,
⟨(some 66), .mv (.t 65), none⟩,
⟨(some 67), .mv (.t 7), (some (66, true))⟩,
⟨(some 68), .iaL 17 (.t 67) (.c (.i .i64 0)), (some (66, true))⟩,
⟨(some 69), .fa 1 (.t 68), (some (66, true))⟩,
⟨(some 70), .fa 2 (.t 69), (some (66, true))⟩,
⟨(some 71), .ld false 1 (.t 70), (some (66, true))⟩,
⟨(some 72), .mv (.t 5), (some (66, true))⟩,
⟨(some 73), .call 26 [(.t 71), (.t 72)], (some (66, true))⟩,
⟨(some 74), .pick (.t 66) (.t 73) (.c (.b false)), none⟩,
⟨(some 75), .mv (.t 74), none⟩,
⟨(some 76), .mv (.t 1), (some (75, true))⟩,
⟨(some 77), .call 10 [(.t 76)], (some (75, true))⟩,
⟨(some 78), .pick (.t 75) (.t 77) (.c (.b false)), none⟩,
⟨(some 79), .mv (.t 78), none⟩,
⟨(some 80), .mv (.t 1), (some (79, true))⟩,
⟨(some 81), .call 9 [(.t 80)], (some (79, true))⟩,
⟨(some 82), .bin .neq .ptr (.t 81) (.c .np), (some (79, true))⟩,
⟨(some 83), .pick (.t 79) (.t 82) (.c (.b false)), none⟩,
⟨(some 84), .mv (.t 83), none⟩,
⟨(some 85), .mv (.t 1), (some (84, true))⟩,
⟨(some 86), .call 7 [(.t 85), (.c (.i .i64 65))], (some (84, true))⟩,
⟨(some 87), .fld 1 1 false (.t 86), (some (84, true))⟩,
⟨(some 88), .mv (.t 5), (some (84, true))⟩,
⟨(some 89), .call 26 [(.t 87), (.t 88)], (some (84, true))⟩,
⟨(some 90), .pick (.t 84) (.t 89) (.c (.b false)), none⟩,
⟨(some 0), .mv (.t 90), none⟩])
.ret))))))))⟩
def f7 : AF := ⟨14, [.c 4 true 4], (.seq (.reg [
⟨(some 4), .alloc [(.i .i64 0), .nsl, .nsl, .nsl], none⟩])
(.seq (.seq (.reg [
⟨(some 5), .mv (.t 0), none⟩,
⟨(some 6), .bin .eql .ptr (.t 5) (.c .np), none⟩])
(.cond (.t 6)
(.seq (.reg [
⟨(some 7), .build [(.i .i64 0), .nsl, .nsl, .nsl] [], none⟩,
⟨none, .st 4 (.t 4) (.t 7), none⟩])
.ret)
.skip))
(.seq (.reg [
⟨(some 8), .mv (.t 0), none⟩,
⟨(some 9), .nck (.t 8), none⟩,
⟨(some 10), .fa 2 (.t 9), none⟩,
⟨(some 11), .ld false 1 (.t 10), none⟩,
⟨(some 12), .mv (.t 1), none⟩,
⟨(some 13), .call 27 [(.t 11), (.t 12)], none⟩,
⟨none, .st 4 (.t 4) (.t 13), none⟩])
.ret)))⟩
def f8 : AF := ⟨122, [.t 6], (.seq (.reg [
⟨(some 4), .box 16 (.t 1), none⟩,
⟨(some 5), .box 1 (.t 2), none⟩,
⟨(some 6), .mv (.c .nsl), none⟩])
(.seq (.seq (.drw [
.op ⟨(some 11), .mv (.t 0), none⟩,
.op ⟨(some 12), .bin .eql .ptr (.t 11) (.c .np), none⟩,
.op ⟨(some 13), .mv (.t 12), none⟩,
.op ⟨(some 14), .ld true 16 (.t 4), (some (13, false))⟩,
.op ⟨(some 15), .call 28 [(.t 14)], (some (13, false))⟩,
.op ⟨(some 16), .un .not (.t 15), (some (13, false))⟩,
.op ⟨(some 17), .pick (.t 13) (.c (.b true)) (.t 16), none⟩,
.op ⟨(some 18), .mv (.t 17), none⟩,
.op ⟨(some 19), .ld false 1 (.t 5), (some (18, false))⟩,
.op ⟨(some 20), .bin .lss .no (.t 19) (.c (.i .i64 0)), (some (18, false))⟩,
.op ⟨(some 21), .pick (.t 18) (.c (.b true)) (.t 20), none⟩,
.op ⟨(some 22), .mv (.t 21), none⟩,
.op ⟨(some 23), .ld false 1 (.t 5), (some (22, false))⟩,
.op ⟨(some 24), .mv (.t 0), (some (22, false))⟩,
.op ⟨(some 25), .nck (.t 24), (some (22, false))⟩,
.op ⟨(some 26), .fa 1 (.t 25), (some (22, false))⟩,
.op ⟨(some 27), .ld false 1 (.t 26), (some (22, false))⟩,
.op ⟨(some 28), .bin .geq .no (.t 23) (.t 27), (some (22, false))⟩,
.op ⟨(some 29), .pick (.t 22) (.c (.b true)) (.t 28), none⟩])
(.cond (.t 29)
(.seq (.reg [
⟨(some 6), .mv (.c .nsl), none⟩])
.ret)
.skip))
(.seq (.drw [
.op ⟨(some 30), .fa 0 (.t 4), none⟩,
.op ⟨(some 31), .ld false 1 (.t 30), none⟩,
.op ⟨(some 33), .fa 1 (.t 4), none⟩,
.op ⟨(some 34), .ld false 1 (.t 33), none⟩,
.op ⟨(some 32), .call 29 [(.t 31)], none⟩,
.chk ⟨(some 34), .ld false 1 (.t 33), none⟩,
.op ⟨(some 35), .build [(.i .i64 0), (.i .i64 0), .nsl, (.i .i64 0), (.i .i64 0), (.i .i64 0), (.i .i64 0), (.i .i64 0), (.i .i64 0), (.i .i64 0), (.s []), .nsl, (.i .i64 0), (.i .i64 0), (.i .i64 0), (.i .i64 0)] [(0, 1, (.t 32)), (1, 1, (.t 34))], none⟩,
.fl ⟨(some 7), .alloc [(.i .i64 0), (.i .i64 0), .nsl, (.i .i64 0), (.i .i64 0), (.i .i64 0), (.i .i64 0), (.i .i64 0), (.i .i64 0), (.i .i64 0), (.s []), .nsl, (.i .i64 0), (.i .i64 0), (.i .i64 0), (.i .i64 0)], none⟩,
.chk ⟨(some 31), .ld false 1 (.t 30), none⟩,
.chk ⟨(some 34), .ld false 1 (.t 33), none⟩,
.op ⟨none, .st 16 (.t 7) (.t 35), none⟩])
(.seq (.reg [
⟨(some 36), .mkf 30 [] [(.t 7), (.t 5)], none⟩,
⟨(some 8), .mv (.t 36), none⟩])
(.seq (.seq (.reg [
⟨(some 37), .fa 0 (.t 4), none⟩,
⟨(some 38), .ld false 1 (.t 37), none⟩])
(.blk 0 (.seq (.reg [
⟨(some 40), .bin .eql .int (.t 38) (.c (.i .i64 3)), none⟩,
⟨(some 39), .mv (.t 40), none⟩])
(.cond (.t 39)
(.seq (.drw [
.op ⟨(some 41), .mv (.t 8), none⟩,
.op ⟨(some 42), .mv (.t 0), none⟩,
.op ⟨(some 43), .nck (.t 42), none⟩,
.op ⟨(some 44), .fa 2 (.t 43), none⟩,
.op ⟨(some 45), .ld false 1 (.t 44), none⟩,
.op ⟨(some 46), .fa 1 (.t 4), none⟩,
.op ⟨(some 47), .ld false 1 (.t 46), none⟩,
.op ⟨(some 48), .fa 2 (.t 4), none⟩,
.op ⟨(some 49), .ld false 1 (.t 48), none⟩,
.op ⟨(some 50), .call 31 [(.t 45), (.t 47), (.t 49)], none⟩,
.op ⟨(some 51), .xt (.t 50) 0, none⟩,
.op ⟨(some 52), .xt (.t 50) 1, none⟩,
.op ⟨(some 53), .cald (.t 41) [(.t 51), (.t 52)], none⟩,
.op ⟨(some 6), .mv (.t 53), none⟩])
.ret)
(.seq (.reg [
⟨(some 55), .bin .eql .int (.t 38) (.c (.i .i64 5)), none⟩,
⟨(some 54), .mv (.t 55), none⟩])
(.cond (.t 54)
(.seq (.drw [
.op ⟨(some 56), .mv (.t 0), none⟩,
.op ⟨(some 57), .nck (.t 56), none⟩,
.op ⟨(some 58), .fa 2 (.t 57), none⟩,
.op ⟨(some 59), .ld false 1 (.t 58), none⟩,
.op ⟨(some 60), .fa 1 (.t 4), none⟩,
.op ⟨(some 61), .ld false 1 (.t 60), none⟩,
.op ⟨(some 62), .call 32 [(.t 59), (.t 61)], none⟩])
(.seq (.reg [
⟨(some 63), .mv (.t 8), none⟩,
⟨(some 64), .cald (.t 63) [(.c .nsl), (.c (.i .i64 0))], none⟩,
⟨(some 6), .mv (.t 64), none⟩])
.ret))
(.seq (.reg [
⟨(some 66), .bin .eql .int (.t 38) (.c (.i .i64 7)), none⟩,
⟨(some 65), .mv (.t 66), none⟩])
(.cond (.t 65)
(.seq (.drw [
.op ⟨(some 67), .mv (.t 8), none⟩,
.op ⟨(some 68), .mv (.t 0), none⟩,
.op ⟨(some 69), .nck (.t 68), none⟩,
.op ⟨(some 70), .fa 2 (.t 69), none⟩,
.op ⟨(some 71), .ld false 1 (.t 70), none⟩,
.op ⟨(some 72), .fa 1 (.t 4), none⟩,
.op ⟨(some 73), .ld false 1 (.t 72), none⟩,
.op ⟨(some 74), .call 33 [(.t 71), (.t 73)], none⟩,
.op ⟨(some 75), .xt (.t 74) 0, none⟩,
.op ⟨(some 76), .xt (.t 74) 1, none⟩,
.op ⟨(some 77), .cald (.t 67) [(.t 75), (.t 76)], none⟩,
.op ⟨(some 6), .mv (.t 77), none⟩])
.ret)
(.seq (.reg [
⟨(some 79), .bin .eql .int (.t 38) (.c (.i .i64 9)), none⟩,
⟨(some 78), .mv (.t 79), none⟩])
(.cond (.t 78)
(.seq (.drw [
.op ⟨(some 80), .mv (.t 8), none⟩,
.op ⟨(some 81), .mv (.t 0), none⟩,
.op ⟨(some 82), .nck (.t 81), none⟩,
.op ⟨(some 83), .fa 2 (.t 82), none⟩,
.op ⟨(some 84), .ld false 1 (.t 83), none⟩,
.op ⟨(some 85), .fa 1 (.t 4), none⟩,
.op ⟨(some 86), .ld false 1 (.t 85), none⟩,
.op ⟨(some 87), .call 34 [(.t 84), (.t 86)], none⟩,
.op ⟨(some 88), .xt (.t 87) 0, none⟩,
.op ⟨(some 89), .xt (.t 87) 1, none⟩,
.op ⟨(some 90), .cald (.t 80) [(.t 88), (.t 89)], none⟩,
.op ⟨(some 6), .mv (.t 90), none⟩])
.ret)
.skip))))))))))
(.seq (.reg [
⟨(some 91), .mv (.t 0), none⟩,
⟨(some 92), .call 35 [(.t 91)], none⟩,
⟨(some 9), .mv (.t 92), none⟩])
(.seq (.reg [
⟨(some 10), .mv (.c .nsl), none⟩])
(.seq (.seq (.reg [
⟨(some 93), .fa 0 (.t 4), none⟩,
⟨(some 94), .ld false 1 (.t 93), none⟩])
(.blk 1 (.seq (.reg [
⟨(some 96), .bin .eql .int (.t 94) (.c (.i .i64 11)), none⟩,
⟨(some 95), .mv (.t 96), none⟩])
(.cond (.t 95)
(.reg [
⟨(some 97), .mv (.t 0), none⟩,
⟨(some 98), .fa 3 (.t 4), none⟩,
⟨(some 99), .ld true 9 (.t 98), none⟩,
⟨(some 100), .ld false 1 (.t 5), none⟩,
⟨(some 101), .call 36 [(.t 97), (.t 99), (.t 100)], none⟩,
⟨(some 10), .mv (.t 101), none⟩])
(.seq (.reg [
⟨(some 103), .bin .eql .int (.t 94) (.c (.i .i64 13)), none⟩,
⟨(some 102), .mv (.t 103), none⟩])
(.cond (.t 102)
(.drw [
.op ⟨(some 104), .mv (.t 0), none⟩,
.op ⟨(some 105), .mv (.t 0), none⟩,
.op ⟨(some 106), .nck (.t 105), none⟩,
.op ⟨(some 107), .fa 4 (.t 106), none⟩,
.op ⟨(some 108), .ld false 1 (.t 107), none⟩,
.op ⟨(some 109), .fa 2 (.t 4), none⟩,
.op ⟨(some 110), .ld false 1 (.t 109), none⟩,
.op ⟨(some 111), .bsl 1 [.nsl] [(0, 1, (.t 110))], none⟩,
.chk ⟨(some 108), .ld false 1 (.t 107), none⟩,
.op ⟨(some 112), .app 1 24 [.nsl] (.t 108) (.t 111), none⟩,
.op ⟨(some 113), .nck (.t 104), none⟩,
.op ⟨(some 114), .fa 4 (.t 113), none⟩,
.op ⟨none, .st 1 (.t 114) (.t 112), none⟩])
(.seq (.reg [
⟨(some 6), .mv (.c .nsl), none⟩])
.ret)))))))
(.seq (.reg [
⟨(some 115), .mv (.t 0), none⟩,
⟨(some 116), .call 37 [(.t 115)], none⟩])
(.seq (.reg [
⟨(some 117), .mv (.t 10), none⟩,
⟨(some 118), .mv (.t 0), none⟩,
⟨(some 119), .mv (.t 9), none⟩,
⟨(some 120), .call 38 [(.t 118), (.t 119)], none⟩,
⟨(some 121), .app 17 176 [(.i .i64 0), (.i .i64 0), (.i .i64 0), .nsl, (.i .i64 0), (.i .i64 0), (.i .i64 0), (.i .i64 0), (.i .i64 0), (.i .i64 0), (.i .i64 0), (.s []), .nsl, (.i .i64 0), (.i .i64 0), (.i .i64 0), (.i .i64 0)] (.t 117) (.t 120), none⟩,
⟨(some 6), .mv (.t 121), none⟩])
.ret))))))))))⟩
def f9 : AF := ⟨10, [.t 2], (.seq (.reg [
⟨(some 2), .mv (.c .np), none⟩])
(.seq (.seq (.reg [
⟨(some 3), .mv (.t 0), none⟩,
⟨(some 4), .bin .eql .ptr (.t 3) (.c .np), none⟩])
(.cond (.t 4)
(.seq (.reg [
⟨(some 2), .mv (.c .np), none⟩])
.ret)
.skip))
(.seq (.reg [
⟨(some 5), .mv (.t 0), none⟩,
⟨(some 6), .nck (.t 5), none⟩,
⟨(some 7), .fa 2 (.t 6), none⟩,
⟨(some 8), .ld false 1 (.t 7), none⟩,
⟨(some 9), .call 39 [(.t 8)], none⟩,
⟨(some 2), .mv (.t 9), none⟩])
.ret)))⟩
def f10 : AF := ⟨12, [.t 2], (.seq (.reg [
⟨(some 2), .mv (.c (.b false)), none⟩])
(.seq (.reg [
⟨(some 3), .mv (.t 0), none⟩,
⟨(some 4), .bin .neq .ptr (.t 3) (.c .np), none⟩,
⟨(some 5), .mv (.t 4), none⟩,
⟨(some 6), .mv (.t 0), (some (5, true))⟩,
⟨(some 7), .nck (.t 6), (some (5, true))⟩,
⟨(some 8), .fa 2 (.t 7), (some (5, true))⟩,
⟨(some 9), .ld false 1 (.t 8), (some (5, true))⟩,
⟨(some 10), .call 40 [(.t 9)], (some (5, true))⟩,
⟨(some 11), .pick (.t 5) (.t 10) (.c (.b false)), none⟩,
⟨(some 2), .mv (.t 11), none⟩])
.ret))⟩
def f11 : AF := ⟨10, [.t 2], (.seq (.reg [
⟨(some 2), .mv (.c (.i .i64 0)), none⟩])
(.seq (.seq (.reg [
⟨(some 3), .mv (.t 0), none⟩,
⟨(some 4), .bin .eql .ptr (.t 3) (.c .np), none⟩])
(.cond (.t 4)
(.seq (.reg [
⟨(some 2), .mv (.c (.i .i64 0)), none⟩])
.ret)
.skip))
(.seq (.reg [
⟨(some 5), .mv (.t 0), none⟩,
⟨(some 6), .nck (.t 5), none⟩,
⟨(some 7), .fa 4 (.t 6), none⟩,
⟨(some 8), .ld false 1 (.t 7), none⟩,
⟨(some 9), .len 1 (.t 8), none⟩,
⟨(some 2), .mv (.t 9), none⟩])
.ret)))⟩
def f12 : AF := ⟨10, [.t 2], (.seq (.reg [
⟨(some 2), .mv (.c .nsl), none⟩])
(.seq (.seq (.reg [
⟨(some 3), .mv (.t 0), none⟩,
⟨(some 4), .bin .eql .ptr (.t 3) (.c .np), none⟩])
(.cond (.t 4)
(.seq (.reg [
⟨(some 2), .mv (.c .nsl), none⟩])
.ret)
.skip))
(.seq (.reg [
⟨(some 5), .mv (.t 0), none⟩,
⟨(some 6), .nck (.t 5), none⟩,
⟨(some 7), .fa 2 (.t 6), none⟩,
⟨(some 8), .ld false 1 (.t 7), none⟩,
⟨(some 9), .call 41 [(.t 8)], none⟩,
⟨(some 2), .mv (.t 9), none⟩])
.ret)))⟩
def f23 : AF := ⟨16, [], (.seq (.reg [
⟨(some 2), .box 1 (.t 0), none⟩])
(.seq (.seq (.reg [
⟨(some 4), .ld false 1 (.t 1), none⟩,
⟨(some 5), .bin .eql .ptr (.t 4) (.c .np), none⟩])
(.cond (.t 5)
.ret
.skip))
(.seq (.reg [
⟨(some 6), .ld false 1 (.t 1), none⟩,
⟨(some 7), .nck (.t 6), none⟩,
⟨(some 8), .fa 2 (.t 7), none⟩,
⟨(some 9), .ld false 1 (.t 8), none⟩,
⟨(some 10), .call 24 [(.t 9)], none⟩])
(.blk 0 (.rf (.t 10) [11] (.reg [
⟨(some 3), .alloc [(.i .i64 0), .nsl, .nsl, .nsl], none⟩,
⟨none, .st 4 (.t 3) (.t 11), none⟩])
(.blk 1 (.seq (.reg [
⟨(some 12), .ld false 1 (.t 2), none⟩,
⟨(some 13), .ld true 4 (.t 3), none⟩,
⟨(some 14), .cald (.t 12) [(.t 13)], none⟩,
⟨(some 15), .un .not (.t 14), none⟩])
(.cond (.t 15)
.ret
.skip))))))))⟩
def f24 : AF := ⟨4, [.t 2], (.seq (.reg [
⟨(some 1), .box 1 (.t 0), none⟩,
⟨(some 2), .mv (.c .nf), none⟩])
(.seq (.reg [
⟨(some 3), .mkf 68 [] [(.t 1)], none⟩,
⟨(some 2), .mv (.t 3), none⟩])
.ret))⟩
def f25 : AF := ⟨27, [.t 4, .t 5], (.seq (.reg [
⟨(some 4), .mv (.c .np), none⟩,
⟨(some 5), .mv (.c (.i .i64 0)), none⟩])
(.seq (.seq (.reg [
⟨(some 6), .mv (.t 1), none⟩,
⟨(some 7), .bin .lss .no (.t 6) (.c (.i .i64 1)), none⟩,
⟨(some 8), .mv (.t 7), none⟩,
⟨(some 9), .mv (.t 1), (some (8, false))⟩,
⟨(some 10), .bin .gtr .no (.t 9) (.c (.i .i64 8)), (some (8, false))⟩,
⟨(some 11), .pick (.t 8) (.c (.b true)) (.t 10), none⟩,
⟨(some 12), .mv (.t 11), none⟩,
⟨(some 13), .mv (.t 0), (some (12, false))⟩,
⟨(some 14), .bin .lss .no (.t 13) (.c (.i .i64 0)), (some (12, false))⟩,
⟨(some 15), .pick (.t 12) (.c (.b true)) (.t 14), none⟩,
⟨(some 16), .mv (.t 15), none⟩,
⟨(some 17), .mv (.t 0), (some (16, false))⟩,
⟨(some 18), .mv (.t 1), (some (16, false))⟩,
⟨(some 19), .bin .geq .no (.t 17) (.t 18), (some (16, false))⟩,
⟨(some 20), .pick (.t 16) (.c (.b true)) (.t 19), none⟩])
(.cond (.t 20)
(.seq (.reg [
⟨(some 4), .mv (.c .np), none⟩,
⟨(some 5), .mv (.c (.i .i64 1)), none⟩])
.ret)
.skip))
(.seq (.reg [
⟨(some 21), .mv (.t 0), none⟩,
⟨(some 22), .mv (.t 1), none⟩,
⟨(some 23), .call 72 [], none⟩,
⟨(some 24), .call 73 [], none⟩,
⟨(some 25), .build [(.i .i64 0), (.i .i64 0), .np, .np, .nsl] [(0, 1, (.t 21)), (1, 1, (.t 22)), (2, 1, (.t 23)), (3, 1, (.t 24))], none⟩,
⟨(some 26), .box 5 (.t 25), none⟩,
⟨(some 4), .mv (.t 26), none⟩,
⟨(some 5), .mv (.c (.i .i64 0)), none⟩])
.ret)))⟩
def f26 : AF := ⟨26, [.t 4], (.seq (.reg [
⟨(some 4), .mv (.c (.b false)), none⟩])
(.seq (.seq (.reg [
⟨(some 6), .mv (.t 0), none⟩,
⟨(some 7), .len 1 (.t 6), none⟩,
⟨(some 8), .mv (.t 1), none⟩,
⟨(some 9), .len 1 (.t 8), none⟩,
⟨(some 10), .bin .neq .int (.t 7) (.t 9), none⟩])
(.cond (.t 10)
(.seq (.reg [
⟨(some 4), .mv (.c (.b false)), none⟩])
.ret)
.skip))
(.seq (.seq (.reg [
⟨(some 5), .mv (.c (.i .i64 0)), none⟩])
(.blk 0 (.loop (.seq (.seq (.reg [
⟨(some 11), .mv (.t 5), none⟩,
⟨(some 12), .mv (.t 0), none⟩,
⟨(some 13), .len 1 (.t 12), none⟩,
⟨(some 14), .bin .lss .no (.t 11) (.t 13), none⟩])
(.cond (.t 14)
.skip
(.exit 0)))
(.seq (.blk 1 (.seq (.drw [
.op ⟨(some 17), .mv (.t 0), none⟩,
.op ⟨(some 18), .mv (.t 5), none⟩,
.op ⟨(some 19), .iaL 2 (.t 17) (.t 18), none⟩,
.op ⟨(some 20), .ld true 2 (.t 19), none⟩,
.op ⟨(some 21), .mv (.t 1), none⟩,
.op ⟨(some 22), .mv (.t 5), none⟩,
.op ⟨(some 23), .iaL 2 (.t 21) (.t 22), none⟩,
.op ⟨(some 24), .ld true 2 (.t 23), none⟩,
.op ⟨(some 25), .bin .neq (.ag [(0, 1, false, .str), (1, 1, false, .int)]) (.t 20) (.t 24), none⟩])
(.cond (.t 25)
(.seq (.reg [
⟨(some 4), .mv (.c (.b false)), none⟩])
.ret)
.skip)))
(.reg [
⟨(some 15), .mv (.t 5), none⟩,
⟨(some 16), .bin .add .no (.t 15) (.c (.i .i64 1)), none⟩,
⟨(some 5), .mv (.t 16), none⟩]))))))
(.seq (.reg [
⟨(some 4), .mv (.c (.b true)), none⟩])
.ret))))⟩
def f27 : AF := ⟨13, [.c 4 true 4], (.seq (.reg [
⟨(some 4), .alloc [(.i .i64 0), .nsl, .nsl, .nsl], none⟩])
(.seq (.seq (.reg [
⟨(some 5), .mv (.t 0), none⟩,
⟨(some 6), .call 69 [(.t 5)], none⟩,
⟨(some 7), .un .not (.t 6), none⟩])
(.cond (.t 7)
(.seq (.reg [
⟨(some 8), .build [(.i .i64 0), .nsl, .nsl, .nsl] [], none⟩,
⟨none, .st 4 (.t 4) (.t 8), none⟩])
.ret)
.skip))
(.seq (.reg [
⟨(some 9), .mv (.t 0), none⟩,
⟨(some 10), .mv (.t 1), none⟩,
⟨(some 11), .call 74 [(.t 9), (.t 10)], none⟩,
⟨(some 12), .call 71 [(.t 11)], none⟩,
⟨none, .st 4 (.t 4) (.t 12), none⟩])
.ret)))⟩
def f28 : AF := ⟨65, [.t 2], (.seq (.reg [
⟨(some 1), .box 16 (.t 0), none⟩,
⟨(some 2), .mv (.c (.b false)), none⟩])
(.seq (.reg [
⟨(some 5), .fa 0 (.t 1), none⟩,
⟨(some 6), .ld false 1 (.t 5), none⟩,
⟨(some 7), .call 75 [(.t 6)], none⟩,
⟨(some 3), .alloc [(.s [])], none⟩,
⟨none, .st 1 (.t 3) (.t 7), none⟩])
(.seq (.reg [
⟨(some 8), .mkf 76 [] [(.t 3)], none⟩,
⟨(some 4), .mv (.t 8), none⟩])
(.seq (.blk 0 (.seq (.reg [
⟨(some 10), .fa 0 (.t 1), none⟩,
⟨(some 11), .ld false 1 (.t 10), none⟩,
⟨(some 12), .bin .lss .no (.t 11) (.c (.i .i64 1)), none⟩,
⟨(some 13), .mv (.t 12), none⟩,
⟨(some 14), .fa 0 (.t 1), (some (13, false))⟩,
⟨(some 15), .ld false 1 (.t 14), (some (13, false))⟩,
⟨(some 16), .bin .gtr .no (.t 15) (.c (.i .i64 14)), (some (13, false))⟩,
⟨(some 17), .pick (.t 13) (.c (.b true)) (.t 16), none⟩,
⟨(some 9), .mv (.t 17), none⟩])
(.cond (.t 9)
(.seq (.reg [
⟨(some 2), .mv (.c (.b false)), none⟩])
.ret)
(.seq (.drw [
.op ⟨(some 19), .mv (.t 4), none⟩,
.op ⟨(some 20), .fa 1 (.t 1), none⟩,
.op ⟨(some 21), .ld false 1 (.t 20), none⟩,
.op ⟨(some 22), .bin .geq .no (.t 21) (.c (.i .i64 1)), none⟩,
.op ⟨(some 23), .mv (.t 22), none⟩,
.op ⟨(some 24), .fa 1 (.t 1), (some (23, true))⟩,
.op ⟨(some 25), .ld false 1 (.t 24), (some (23, true))⟩,
.op ⟨(some 26), .bin .leq .no (.t 25) (.c (.i .i64 1099511627776)), (some (23, true))⟩,
.op ⟨(some 27), .pick (.t 23) (.t 26) (.c (.b false)), none⟩,
.op ⟨(some 28), .fa 1 (.t 1), none⟩,
.op ⟨(some 29), .ld false 1 (.t 28), none⟩,
.op ⟨(some 30), .bin .eql .int (.t 29) (.c (.i .i64 0)), none⟩,
.op ⟨(some 31), .cald (.t 19) [(.c (.s [111])), (.t 27), (.t 30)], none⟩,
.op ⟨(some 32), .un .not (.t 31), none⟩,
.op ⟨(some 33), .mv (.t 32), none⟩,
.op ⟨(some 34), .mv (.t 4), (some (33, false))⟩,
.op ⟨(some 35), .fa 2 (.t 1), (some (33, false))⟩,
.op ⟨(some 36), .ld false 1 (.t 35), (some (33, false))⟩,
.op ⟨(some 38), .fa 2 (.t 1), (some (33, false))⟩,
.op ⟨(some 39), .ld false 1 (.t 38), (some (33, false))⟩,
.op ⟨(some 40), .len 1 (.t 39), (some (33, false))⟩,
.op ⟨(some 41), .bin .eql .int (.t 40) (.c (.i .i64 0)), (some (33, false))⟩,
.op ⟨(some 37), .call 78 [(.t 36)], (some (33, false))⟩,
.chk ⟨(some 39), .ld false 1 (.t 38), (some (33, false))⟩,
.chk ⟨(some 40), .len 1 (.t 39), (some (33, false))⟩,
.op ⟨(some 42), .cald (.t 34) [(.c (.s [105])), (.t 37), (.t 41)], (some (33, false))⟩,
.op ⟨(some 43), .un .not (.t 42), (some (33, false))⟩,
.op ⟨(some 44), .pick (.t 33) (.c (.b true)) (.t 43), none⟩,
.op ⟨(some 18), .mv (.t 44), none⟩])
(.cond (.t 18)
(.seq (.reg [
⟨(some 2), .mv (.c (.b false)), none⟩])
.ret)
.skip)))))
(.seq (.drw [
.op ⟨(some 45), .mv (.t 4), none⟩,
.op ⟨(some 46), .fa 3 (.t 1), none⟩,
.op ⟨(some 47), .ld true 9 (.t 46), none⟩,
.op ⟨(some 49), .fa 3 (.t 1), none⟩,
.op ⟨(some 50), .ld true 9 (.t 49), none⟩,
.op ⟨(some 51), .build [(.i .i64 0), (.i .i64 0), (.i .i64 0), (.i .i64 0), (.i .i64 0), (.i .i64 0), (.i .i64 0), (.s []), .nsl] [], none⟩,
.op ⟨(some 48), .call 52 [(.t 47)], none⟩,
.chk ⟨(some 50), .ld true 9 (.t 49), none⟩,
.op ⟨(some 52), .call 79 [(.t 50), (.t 51)], none⟩,
.op ⟨(some 53), .cald (.t 45) [(.c (.s [97])), (.t 48), (.t 52)], none⟩,
.op ⟨(some 54), .mv (.t 53), none⟩,
.op ⟨(some 55), .mv (.t 4), (some (54, true))⟩,
.op ⟨(some 56), .fa 12 (.t 1), (some (54, true))⟩,
.op ⟨(some 57), .ld true 4 (.t 56), (some (54, true))⟩,
.op ⟨(some 59), .fa 12 (.t 1), (some (54, true))⟩,
.op ⟨(some 60), .ld true 4 (.t 59), (some (54, true))⟩,
.op ⟨(some 61), .build [(.i .i64 0), (.i .i64 0), (.i .i64 0), (.i .i64 0)] [], (some (54, true))⟩,
.op ⟨(some 62), .bin .eql (.ag [(0, 1, false, .int), (1, 1, false, .int), (2, 1, false, .int), (3, 1, false, .int)]) (.t 60) (.t 61), (some (54, true))⟩,
.op ⟨(some 58), .call 80 [(.t 57)], (some (54, true))⟩,
.chk ⟨(some 60), .ld true 4 (.t 59), (some (54, true))⟩,
.op ⟨(some 63), .cald (.t 55) [(.c (.s [121])), (.t 58), (.t 62)], (some (54, true))⟩,
.op ⟨(some 64), .pick (.t 54) (.t 63) (.c (.b false)), none⟩,
.op ⟨(some 2), .mv (.t 64), none⟩])
.ret)))))⟩
def f29 : AF := ⟨16, [.t 2], (.seq (.reg [
⟨(some 2), .mv (.c (.i .i64 0)), none⟩])
(.seq (.seq (.reg [
⟨(some 3), .mv (.t 0), none⟩])
(.blk 0 (.seq (.reg [
⟨(some 5), .bin .eql .int (.t 3) (.c (.i .i64 1)), none⟩,
⟨(some 4), .mv (.t 5), none⟩])
(.cond (.t 4)
(.seq (.reg [
⟨(some 2), .mv (.c (.i .i64 2)), none⟩])
.ret)
(.seq (.reg [
⟨(some 7), .bin .eql .int (.t 3) (.c (.i .i64 3)), none⟩,
⟨(some 6), .mv (.t 7), none⟩])
(.cond (.t 6)
(.seq (.reg [
⟨(some 2), .mv (.c (.i .i64 4)), none⟩])
.ret)
(.seq (.reg [
⟨(some 9), .bin .eql .int (.t 3) (.c (.i .i64 5)), none⟩,
⟨(some 8), .mv (.t 9), none⟩])
(.cond (.t 8)
(.seq (.reg [
⟨(some 2), .mv (.c (.i .i64 6)), none⟩])
.ret)
(.seq (.reg [
⟨(some 11), .bin .eql .int (.t 3) (.c (.i .i64 7)), none⟩,
⟨(some 10), .mv (.t 11), none⟩])
(.cond (.t 10)
(.seq (.reg [
⟨(some 2), .mv (.c (.i .i64 8)), none⟩])
.ret)
(.seq (.reg [
⟨(some 13), .bin .eql .int (.t 3) (.c (.i .i64 9)), none⟩,
⟨(some 12), .mv (.t 13), none⟩])
(.cond (.t 12)
(.seq (.reg [
⟨(some 2), .mv (.c (.i .i64 10)), none⟩])
.ret)
(.seq (.reg [
⟨(some 15), .bin .eql .int (.t 3) (.c (.i .i64 11)), none⟩,
⟨(some 14), .mv (.t 15), none⟩])
(.cond (.t 14)
(.seq (.reg [
⟨(some 2), .mv (.c (.i .i64 12)), none⟩])
.ret)
.skip))))))))))))))
(.seq (.reg [
⟨(some 2), .mv (.c (.i .i64 0)), none⟩])
.ret)))⟩
def f30 : AF := ⟨13, [.t 6], (.seq (.reg [
⟨(some 6), .mv (.c .nsl), none⟩])
(.seq (.reg [
⟨(some 7), .mv (.t 0), none⟩,
⟨(some 8), .fa 2 (.t 2), none⟩,
⟨none, .st 1 (.t 8) (.t 7), none⟩])
(.seq (.reg [
⟨(some 9), .ld false 1 (.t 3), none⟩,
⟨(some 10), .ld true 16 (.t 2), none⟩,
⟨(some 11), .build [(.i .i64 0), (.i .i64 0), (.i .i64 0), .nsl, (.i .i64 0), (.i .i64 0), (.i .i64 0), (.i .i64 0), (.i .i64 0), (.i .i64 0), (.i .i64 0), (.s []), .nsl, (.i .i64 0), (.i .i64 0), (.i .i64 0), (.i .i64 0)] [(0, 1, (.t 9)), (1, 16, (.t 10))], none⟩,
⟨(some 12), .bsl 1 [(.i .i64 0), (.i .i64 0), (.i .i64 0), .nsl, (.i .i64 0), (.i .i64 0), (.i .i64 0), (.i .i64 0), (.i .i64 0), (.i .i64 0), (.i .i64 0), (.s []), .nsl, (.i .i64 0), (.i .i64 0), (.i .i64 0), (.i .i64 0)] [(0, 17, (.t 11))], none⟩,
⟨(some 6), .mv (.t 12), none⟩])
.ret)))⟩
def f31 : AF := ⟨90, [.t 6, .t 7], (.seq (.reg [
⟨(some 6), .mv (.c .nsl), none⟩,
⟨(some 7), .mv (.c (.i .i64 0)), none⟩])
(.seq (.seq (.reg [
⟨(some 15), .mv (.t 0), none⟩,
⟨(some 16), .mv (.t 1), none⟩,
⟨(some 17), .call 81 [(.t 15), (.t 16)], none⟩,
⟨(some 8), .mv (.t 17), none⟩])
(.seq (.reg [
⟨(some 18), .mv (.t 8), none⟩,
⟨(some 19), .bin .neq .int (.t 18) (.c (.i .i64 0)), none⟩])
(.cond (.t 19)
(.seq (.reg [
⟨(some 20), .mv (.t 8), none⟩,
⟨(some 6), .mv (.c .nsl), none⟩,
⟨(some 7), .mv (.t 20), none⟩])
.ret)
.skip)))
(.seq (.reg [
⟨(some 21), .mv (.t 0), none⟩,
⟨(some 22), .mv (.t 1), none⟩,
⟨(some 23), .call 74 [(.t 21), (.t 22)], none⟩,
⟨(some 9), .alloc [(.i .i64 0), .nsl, .nsl, .nsl], none⟩,
⟨none, .st 4 (.t 9) (.t 23), none⟩])
(.seq (.blk 0 (.seq (.reg [
⟨(some 25), .mv (.t 2), none⟩,
⟨(some 26), .call 78 [(.t 25)], none⟩,
⟨(some 27), .un .not (.t 26), none⟩,
⟨(some 24), .mv (.t 27), none⟩])
(.cond (.t 24)
(.seq (.reg [
⟨(some 6), .mv (.c .nsl), none⟩,
⟨(some 7), .mv (.c (.i .i64 60)), none⟩])
.ret)
(.seq (.reg [
⟨(some 29), .fa 2 (.t 9), none⟩,
⟨(some 30), .ld false 1 (.t 29), none⟩,
⟨(some 31), .len 1 (.t 30), none⟩,
⟨(some 32), .fa 3 (.t 9), none⟩,
⟨(some 33), .ld false 1 (.t 32), none⟩,
⟨(some 34), .len 1 (.t 33), none⟩,
⟨(some 35), .bin .add .no (.t 31) (.t 34), none⟩,
⟨(some 36), .bin .gtr .no (.t 35) (.c (.i .i64 0)), none⟩,
⟨(some 28), .mv (.t 36), none⟩])
(.cond (.t 28)
(.seq (.reg [
⟨(some 6), .mv (.c .nsl), none⟩,
⟨(some 7), .mv (.c (.i .i64 80)), none⟩])
.ret)
.skip)))))
(.seq (.reg [
⟨(some 37), .mv (.t 0), none⟩,
⟨(some 38), .nck (.t 37), none⟩,
⟨(some 39), .fa 0 (.t 38), none⟩,
⟨(some 40), .ld false 1 (.t 39), none⟩,
⟨(some 41), .mv (.t 2), none⟩,
⟨(some 42), .call 82 [(.t 40), (.t 41)], none⟩,
⟨(some 10), .mv (.t 42), none⟩])
(.seq (.seq (.reg [
⟨(some 43), .mv (.t 10), none⟩,
⟨(some 44), .len 1 (.t 43), none⟩,
⟨(some 45), .bin .eql .int (.t 44) (.c (.i .i64 0)), none⟩])
(.cond (.t 45)
(.seq (.reg [
⟨(some 6), .mv (.c .nsl), none⟩,
⟨(some 7), .mv (.c (.i .i64 0)), none⟩])
.ret)
.skip))
(.seq (.seq (.reg [
⟨(some 47), .mv (.t 0), none⟩,
⟨(some 48), .nck (.t 47), none⟩,
⟨(some 49), .fa 1 (.t 48), none⟩,
⟨(some 50), .ld false 1 (.t 49), none⟩,
⟨(some 51), .mv (.t 1), none⟩,
⟨(some 52), .lk .int (.ag [(.i .i64 0), .nsl, .nsl, .nsl]) true (.t 50) (.t 51), none⟩,
⟨(some 46), .mv (.t 52), none⟩,
⟨(some 53), .xt (.t 46) 0, none⟩,
⟨(some 54), .xt (.t 46) 1, none⟩,
⟨(some 11), .alloc [(.i .i64 0), .nsl, .nsl, .nsl], none⟩,
⟨none, .st 4 (.t 11) (.t 53), none⟩,
⟨(some 12), .mv (.t 54), none⟩])
(.seq (.reg [
⟨(some 55), .mv (.t 12), none⟩,
⟨(some 56), .un .not (.t 55), none⟩,
⟨(some 57), .mv (.t 56), none⟩,
⟨(some 58), .mv (.t 0), (some (57, true))⟩,
⟨(some 59), .nck (.t 58), (some (57, true))⟩,
⟨(some 60), .fa 1 (.t 59), (some (57, true))⟩,
⟨(some 61), .ld false 1 (.t 60), (some (57, true))⟩,
⟨(some 62), .len 2 (.t 61), (some (57, true))⟩,
⟨(some 63), .bin .geq .no (.t 62) (.c (.i .i64 256)), (some (57, true))⟩,
⟨(some 64), .pick (.t 57) (.t 63) (.c (.b false)), none⟩])
(.cond (.t 64)
(.seq (.reg [
⟨(some 6), .mv (.c .nsl), none⟩,
⟨(some 7), .mv (.c (.i .i64 2)), none⟩])
.ret)
.skip)))
(.seq (.reg [
⟨(some 66), .fa 1 (.t 9), none⟩,
⟨(some 67), .ld false 1 (.t 66), none⟩,
⟨(some 68), .mv (.t 10), none⟩,
⟨(some 69), .call 83 [(.t 67), (.t 68)], none⟩,
⟨(some 65), .mv (.t 69), none⟩,
⟨(some 70), .xt (.t 65) 0, none⟩,
⟨(some 71), .xt (.t 65) 1, none⟩,
⟨(some 13), .mv (.t 70), none⟩,
⟨(some 14), .mv (.t 71), none⟩])
(.seq (.seq (.reg [
⟨(some 72), .mv (.t 14), none⟩,
⟨(some 73), .bin .eql .int (.t 72) (.c (.i .i64 0)), none⟩])
(.cond (.t 73)
(.reg [
⟨(some 74), .mv (.t 0), none⟩,
⟨(some 75), .nck (.t 74), none⟩,
⟨(some 76), .fa 0 (.t 75), none⟩,
⟨(some 77), .ld false 1 (.t 76), none⟩,
⟨(some 78), .mv (.t 10), none⟩,
⟨(some 79), .call 84 [(.t 77), (.c (.i .i64 2)), (.t 78)], none⟩,
⟨(some 14), .mv (.t 79), none⟩])
.skip))
(.seq (.seq (.reg [
⟨(some 80), .mv (.t 14), none⟩,
⟨(some 81), .bin .neq .int (.t 80) (.c (.i .i64 0)), none⟩])
(.cond (.t 81)
(.seq (.reg [
⟨(some 82), .mv (.t 14), none⟩,
⟨(some 6), .mv (.c .nsl), none⟩,
⟨(some 7), .mv (.t 82), none⟩])
.ret)
.skip))
(.seq (.reg [
⟨(some 83), .mv (.t 13), none⟩,
⟨(some 84), .fa 1 (.t 9), none⟩,
⟨none, .st 1 (.t 84) (.t 83), none⟩])
(.seq (.reg [
⟨(some 85), .mv (.t 0), none⟩,
⟨(some 86), .ld true 4 (.t 9), none⟩,
⟨(some 87), .call 85 [(.t 85), (.t 86)], none⟩])
(.seq (.reg [
⟨(some 88), .mv (.t 10), none⟩,
⟨(some 89), .call 48 [(.t 88)], none⟩,
⟨(some 6), .mv (.t 89), none⟩,
⟨(some 7), .mv (.c (.i .i64 0)), none⟩])
.ret)))))))))))))⟩
def f32 : AF := ⟨24, [.t 4, .t 5], (.seq (.reg [
⟨(some 4), .mv (.c .nsl), none⟩,
⟨(some 5), .mv (.c (.i .i64 0)), none⟩])
(.seq (.seq (.reg [
⟨(some 7), .mv (.t 0), none⟩,
⟨(some 8), .mv (.t 1), none⟩,
⟨(some 9), .call 81 [(.t 7), (.t 8)], none⟩,
⟨(some 6), .mv (.t 9), none⟩])
(.seq (.reg [
⟨(some 10), .mv (.t 6), none⟩,
⟨(some 11), .bin .neq .int (.t 10) (.c (.i .i64 0)), none⟩])
(.cond (.t 11)
(.seq (.reg [
⟨(some 12), .mv (.t 6), none⟩,
⟨(some 4), .mv (.c .nsl), none⟩,
⟨(some 5), .mv (.t 12), none⟩])
.ret)
.skip)))
(.seq (.seq (.reg [
⟨(some 13), .mv (.t 0), none⟩,
⟨(some 14), .mv (.t 1), none⟩,
⟨(some 15), .call 74 [(.t 13), (.t 14)], none⟩,
⟨(some 16), .fld 2 1 false (.t 15), none⟩,
⟨(some 17), .len 1 (.t 16), none⟩,
⟨(some 18), .bin .gtr .no (.t 17) (.c (.i .i64 0)), none⟩])
(.cond (.t 18)
(.seq (.reg [
⟨(some 4), .mv (.c .nsl), none⟩,
⟨(some 5), .mv (.c (.i .i64 80)), none⟩])
.ret)
.skip))
(.seq (.reg [
⟨(some 19), .mv (.t 0), none⟩,
⟨(some 20), .mv (.t 1), none⟩,
⟨(some 21), .call 86 [(.t 19), (.t 20), (.c (.i .i64 3)), (.c (.f (.func 87) [] []))], none⟩,
⟨(some 22), .xt (.t 21) 0, none⟩,
⟨(some 23), .xt (.t 21) 1, none⟩,
⟨(some 4), .mv (.t 22), none⟩,
⟨(some 5), .mv (.t 23), none⟩])
.ret))))⟩
def f33 : AF := ⟨11, [.t 4, .t 5], (.seq (.reg [
⟨(some 4), .mv (.c .nsl), none⟩,
⟨(some 5), .mv (.c (.i .i64 0)), none⟩])
(.seq (.reg [
⟨(some 6), .mv (.t 0), none⟩,
⟨(some 7), .mv (.t 1), none⟩,
⟨(some 8), .call 86 [(.t 6), (.t 7), (.c (.i .i64 4)), (.c (.f (.func 88) [] []))], none⟩,
⟨(some 9), .xt (.t 8) 0, none⟩,
⟨(some 10), .xt (.t 8) 1, none⟩,
⟨(some 4), .mv (.t 9), none⟩,
⟨(some 5), .mv (.t 10), none⟩])
.ret))⟩
def f34 : AF := ⟨11, [.t 4, .t 5], (.seq (.reg [
⟨(some 4), .mv (.c .nsl), none⟩,
⟨(some 5), .mv (.c (.i .i64 0)), none⟩])
(.seq (.reg [
⟨(some 6), .mv (.t 0), none⟩,
⟨(some 7), .mv (.t 1), none⟩,
⟨(some 8), .call 86 [(.t 6), (.t 7), (.c (.i .i64 6)), (.c (.f (.func 89) [] []))], none⟩,
⟨(some 9), .xt (.t 8) 0, none⟩,
⟨(some 10), .xt (.t 8) 1, none⟩,
⟨(some 4), .mv (.t 9), none⟩,
⟨(some 5), .mv (.t 10), none⟩])
.ret))⟩
def f35 : AF := ⟨22, [.t 2], (.seq (.reg [
⟨(some 2), .mv (.c .nm), none⟩])
(.seq (.reg [
⟨(some 6), .mv (.t 0), none⟩,
⟨(some 7), .nck (.t 6), none⟩,
⟨(some 8), .fa 2 (.t 7), none⟩,
⟨(some 9), .ld false 1 (.t 8), none⟩,
⟨(some 10), .call 39 [(.t 9)], none⟩,
⟨(some 11), .mkm, none⟩,
⟨(some 3), .alloc [.np], none⟩,
⟨(some 4), .alloc [.nm], none⟩,
⟨none, .st 1 (.t 3) (.t 10), none⟩,
⟨none, .st 1 (.t 4) (.t 11), none⟩])
(.seq (.seq (.reg [
⟨(some 12), .ld false 1 (.t 3), none⟩,
⟨(some 13), .call 90 [(.t 12)], none⟩])
(.blk 0 (.rf (.t 13) [14] (.reg [
⟨(some 5), .mv (.t 14), none⟩])
(.blk 1 (.drw [
.op ⟨(some 15), .ld false 1 (.t 4), none⟩,
.op ⟨(some 16), .mv (.t 5), none⟩,
.op ⟨(some 17), .ld false 1 (.t 3), none⟩,
.op ⟨(some 18), .mv (.t 5), none⟩,
.op ⟨(some 19), .call 91 [(.t 17), (.t 18)], none⟩,
.chk ⟨(some 15), .ld false 1 (.t 4), none⟩,
.op ⟨(some 20), .fld 0 1 false (.t 19), none⟩,
.op ⟨none, .mu .str (.t 15) (.t 16) (.t 20), none⟩])))))
(.seq (.reg [
⟨(some 21), .ld false 1 (.t 4), none⟩,
⟨(some 2), .mv (.t 21), none⟩])
.ret))))⟩
def f36 : AF := ⟨69, [.t 6], (.seq (.reg [
⟨(some 4), .box 9 (.t 1), none⟩,
⟨(some 6), .mv (.c .nsl), none⟩])
(.seq (.reg [
⟨(some 11), .fa 0 (.t 4), none⟩,
⟨(some 12), .ld false 1 (.t 11), none⟩,
⟨(some 13), .fa 1 (.t 4), none⟩,
⟨(some 14), .ld false 1 (.t 13), none⟩,
⟨(some 15), .build [(.i .i64 0), (.i .i64 0), (.i .i64 0), (.i .i64 0)] [(0, 1, (.t 12)), (1, 1, (.t 14)), (2, 1, (.c (.i .i64 1)))], none⟩,
⟨(some 7), .alloc [(.i .i64 0), (.i .i64 0), (.i .i64 0), (.i .i64 0)], none⟩,
⟨none, .st 4 (.t 7) (.t 15), none⟩])
(.seq (.reg [
⟨(some 8), .mv (.c .nsl), none⟩])
(.seq (.reg [
⟨(some 17), .fa 2 (.t 4), none⟩,
⟨(some 18), .ld false 1 (.t 17), none⟩,
⟨(some 19), .call 92 [(.t 18)], none⟩,
⟨(some 16), .mv (.t 19), none⟩,
⟨(some 20), .xt (.t 16) 0, none⟩,
⟨(some 21), .xt (.t 16) 1, none⟩,
⟨(some 9), .mv (.t 20), none⟩,
⟨(some 10), .mv (.t 21), none⟩])
(.seq (.blk 0 (.seq (.reg [
⟨(some 23), .mv (.t 10), none⟩,
⟨(some 22), .mv (.t 23), none⟩])
(.cond (.t 22)
(.drw [
.op ⟨(some 24), .mv (.t 0), none⟩,
.op ⟨(some 25), .nck (.t 24), none⟩,
.op ⟨(some 26), .fa 2 (.t 25), none⟩,
.op ⟨(some 27), .ld false 1 (.t 26), none⟩,
.op ⟨(some 28), .mv (.t 9), none⟩,
.op ⟨(some 29), .fa 8 (.t 4), none⟩,
.op ⟨(some 30), .ld false 1 (.t 29), none⟩,
.op ⟨(some 31), .call 93 [(.t 27), (.t 28), (.t 30)], none⟩,
.op ⟨(some 32), .fa 2 (.t 7), none⟩,
.op ⟨none, .st 1 (.t 32) (.t 31), none⟩])
(.seq (.reg [
⟨(some 34), .fa 2 (.t 4), none⟩,
⟨(some 35), .ld false 1 (.t 34), none⟩,
⟨(some 36), .bin .eql .int (.t 35) (.c (.i .i64 7)), none⟩,
⟨(some 33), .mv (.t 36), none⟩])
(.cond (.t 33)
(.drw [
.op ⟨(some 38), .mv (.t 0), none⟩,
.op ⟨(some 39), .nck (.t 38), none⟩,
.op ⟨(some 40), .fa 2 (.t 39), none⟩,
.op ⟨(some 41), .ld false 1 (.t 40), none⟩,
.op ⟨(some 42), .fa 7 (.t 4), none⟩,
.op ⟨(some 43), .ld false 1 (.t 42), none⟩,
.op ⟨(some 44), .fa 6 (.t 4), none⟩,
.op ⟨(some 45), .ld false 1 (.t 44), none⟩,
.op ⟨(some 46), .call 94 [(.t 41), (.t 43), (.t 45)], none⟩,
.op ⟨(some 37), .mv (.t 46), none⟩,
.op ⟨(some 47), .xt (.t 37) 0, none⟩,
.op ⟨(some 48), .xt (.t 37) 1, none⟩,
.op ⟨(some 49), .fa 3 (.t 7), none⟩,
.op ⟨none, .st 1 (.t 49) (.t 47), none⟩,
.op ⟨(some 50), .fa 2 (.t 7), none⟩,
.op ⟨none, .st 1 (.t 50) (.t 48), none⟩])
(.seq (.reg [
⟨(some 52), .fa 2 (.t 4), none⟩,
⟨(some 53), .ld false 1 (.t 52), none⟩,
⟨(some 54), .bin .eql .int (.t 53) (.c (.i .i64 10)), none⟩,
⟨(some 51), .mv (.t 54), none⟩])
(.cond (.t 51)
(.reg [
⟨(some 56), .mv (.t 0), none⟩,
⟨(some 57), .ld true 9 (.t 4), none⟩,
⟨(some 58), .call 95 [(.t 56), (.t 57)], none⟩,
⟨(some 55), .mv (.t 58), none⟩,
⟨(some 59), .xt (.t 55) 0, none⟩,
⟨(some 60), .xt (.t 55) 1, none⟩,
⟨(some 8), .mv (.t 59), none⟩,
⟨(some 61), .fa 2 (.t 7), none⟩,
⟨none, .st 1 (.t 61) (.t 60), none⟩])
.skip)))))))
(.seq (.reg [
⟨(some 62), .mv (.t 8), none⟩,
⟨(some 63), .mv (.t 2), none⟩,
⟨(some 64), .ld true 4 (.t 7), none⟩,
⟨(some 65), .build [(.i .i64 0), (.i .i64 0), .nsl, (.i .i64 0), (.i .i64 0), (.i .i64 0), (.i .i64 0), (.i .i64 0), (.i .i64 0), (.i .i64 0), (.s []), .nsl, (.i .i64 0), (.i .i64 0), (.i .i64 0), (.i .i64 0)] [(0, 1, (.c (.i .i64 12))), (12, 4, (.t 64))], none⟩,
⟨(some 66), .build [(.i .i64 0), (.i .i64 0), (.i .i64 0), .nsl, (.i .i64 0), (.i .i64 0), (.i .i64 0), (.i .i64 0), (.i .i64 0), (.i .i64 0), (.i .i64 0), (.s []), .nsl, (.i .i64 0), (.i .i64 0), (.i .i64 0), (.i .i64 0)] [(0, 1, (.t 63)), (1, 16, (.t 65))], none⟩,
⟨(some 67), .bsl 1 [(.i .i64 0), (.i .i64 0), (.i .i64 0), .nsl, (.i .i64 0), (.i .i64 0), (.i .i64 0), (.i .i64 0), (.i .i64 0), (.i .i64 0), (.i .i64 0), (.s []), .nsl, (.i .i64 0), (.i .i64 0), (.i .i64 0), (.i .i64 0)] [(0, 17, (.t 66))], none⟩,
⟨(some 68), .app 17 176 [(.i .i64 0), (.i .i64 0), (.i .i64 0), .nsl, (.i .i64 0), (.i .i64 0), (.i .i64 0), (.i .i64 0), (.i .i64 0), (.i .i64 0), (.i .i64 0), (.s []), .nsl, (.i .i64 0), (.i .i64 0), (.i .i64 0), (.i .i64 0)] (.t 62) (.t 67), none⟩,
⟨(some 6), .mv (.t 68), none⟩])
.ret))))))⟩
def f37 : AF := ⟨30, [], (.seq (.reg [
⟨(some 2), .mv (.c .nsl), none⟩])
(.seq (.seq (.reg [
⟨(some 5), .mv (.t 0), none⟩,
⟨(some 6), .nck (.t 5), none⟩,
⟨(some 7), .fa 4 (.t 6), none⟩,
⟨(some 8), .ld false 1 (.t 7), none⟩,
⟨(some 9), .len 1 (.t 8), none⟩,
⟨(some 10), .mv (.c (.i .i64 0)), none⟩])
(.blk 0 (.loop (.seq (.reg [
⟨(some 11), .bin .lss .no (.t 10) (.t 9), none⟩])
(.seq (.cond (.t 11)
.skip
(.exit 0))
(.seq (.blk 1 (.seq (.reg [
⟨(some 12), .iaL 1 (.t 8) (.t 10), none⟩,
⟨(some 13), .ld false 1 (.t 12), none⟩,
⟨(some 4), .mv (.t 13), none⟩])
(.seq (.reg [
⟨(some 14), .mv (.t 0), none⟩,
⟨(some 15), .nck (.t 14), none⟩,
⟨(some 16), .fa 2 (.t 15), none⟩,
⟨(some 17), .ld false 1 (.t 16), none⟩,
⟨(some 18), .mv (.t 4), none⟩,
⟨(some 19), .call 93 [(.t 17), (.c (.i .i64 11)), (.t 18)], none⟩,
⟨(some 20), .bin .neq .int (.t 19) (.c (.i .i64 0)), none⟩])
(.cond (.t 20)
(.reg [
⟨(some 21), .mv (.t 2), none⟩,
⟨(some 22), .mv (.t 4), none⟩,
⟨(some 23), .bsl 1 [.nsl] [(0, 1, (.t 22))], none⟩,
⟨(some 24), .app 1 24 [.nsl] (.t 21) (.t 23), none⟩,
⟨(some 2), .mv (.t 24), none⟩])
.skip))))
(.reg [
⟨(some 25), .bin .add .no (.t 10) (.c (.i .i64 1)), none⟩,
⟨(some 10), .mv (.t 25), none⟩])))))))
(.reg [
⟨(some 26), .mv (.t 0), none⟩,
⟨(some 27), .mv (.t 2), none⟩,
⟨(some 28), .nck (.t 26), none⟩,
⟨(some 29), .fa 4 (.t 28), none⟩,
⟨none, .st 1 (.t 29) (.t 27), none⟩])))⟩
def f38 : AF := ⟨42, [.t 4], (.seq (.reg [
⟨(some 4), .mv (.c .nsl), none⟩])
(.seq (.reg [
⟨(some 5), .mv (.c (.b false)), none⟩])
(.seq (.seq (.reg [
⟨(some 10), .mv (.t 0), none⟩,
⟨(some 11), .call 35 [(.t 10)], none⟩,
⟨(some 12), .rng false (.t 11), none⟩])
(.blk 0 (.loop (.seq (.reg [
⟨(some 13), .nxt false (.t 12), none⟩,
⟨(some 14), .xt (.t 13) 0, none⟩])
(.seq (.cond (.t 14)
.skip
(.exit 0))
(.blk 1 (.seq (.reg [
⟨(some 15), .ent (.t 12), none⟩,
⟨(some 16), .xt (.t 15) 0, none⟩,
⟨(some 17), .xt (.t 15) 1, none⟩,
⟨(some 6), .mv (.t 16), none⟩,
⟨(some 7), .mv (.t 17), none⟩])
(.reg [
⟨(some 18), .mv (.t 5), none⟩,
⟨(some 19), .mv (.t 18), none⟩,
⟨(some 20), .mv (.t 7), (some (19, false))⟩,
⟨(some 21), .mv (.t 1), (some (19, false))⟩,
⟨(some 22), .mv (.t 6), (some (19, false))⟩,
⟨(some 23), .lk .str (.i .i64 0) false (.t 21) (.t 22), (some (19, false))⟩,
⟨(some 24), .bin .gtr .no (.t 20) (.t 23), (some (19, false))⟩,
⟨(some 25), .pick (.t 19) (.c (.b true)) (.t 24), none⟩,
⟨(some 5), .mv (.t 25), none⟩]))))))))
(.seq (.reg [
⟨(some 8), .mv (.c .nsl), none⟩])
(.seq (.seq (.reg [
⟨(some 26), .mv (.t 0), none⟩,
⟨(some 27), .nck (.t 26), none⟩,
⟨(some 28), .fa 1 (.t 27), none⟩,
⟨(some 29), .ld false 1 (.t 28), none⟩,
⟨(some 30), .mv (.c (.i .i64 0)), none⟩])
(.blk 2 (.loop (.seq (.reg [
⟨(some 31), .bin .lss .no (.t 30) (.t 29), none⟩])
(.seq (.cond (.t 31)
.skip
(.exit 2))
(.seq (.blk 3 (.seq (.reg [
⟨(some 32), .mv (.t 30), none⟩,
⟨(some 9), .mv (.t 32), none⟩])
(.seq (.reg [
⟨(some 33), .mv (.t 5), none⟩])
(.cond (.t 33)
(.reg [
⟨(some 34), .mv (.t 8), none⟩,
⟨(some 35), .mv (.t 9), none⟩,
⟨(some 36), .build [(.i .i64 0), (.i .i64 0), .nsl, (.i .i64 0), (.i .i64 0), (.i .i64 0), (.i .i64 0), (.i .i64 0), (.i .i64 0), (.i .i64 0), (.s []), .nsl, (.i .i64 0), (.i .i64 0), (.i .i64 0), (.i .i64 0)] [(0, 1, (.c (.i .i64 14)))], none⟩,
⟨(some 37), .build [(.i .i64 0), (.i .i64 0), (.i .i64 0), .nsl, (.i .i64 0), (.i .i64 0), (.i .i64 0), (.i .i64 0), (.i .i64 0), (.i .i64 0), (.i .i64 0), (.s []), .nsl, (.i .i64 0), (.i .i64 0), (.i .i64 0), (.i .i64 0)] [(0, 1, (.t 35)), (1, 16, (.t 36))], none⟩,
⟨(some 38), .bsl 1 [(.i .i64 0), (.i .i64 0), (.i .i64 0), .nsl, (.i .i64 0), (.i .i64 0), (.i .i64 0), (.i .i64 0), (.i .i64 0), (.i .i64 0), (.i .i64 0), (.s []), .nsl, (.i .i64 0), (.i .i64 0), (.i .i64 0), (.i .i64 0)] [(0, 17, (.t 37))], none⟩,
⟨(some 39), .app 17 176 [(.i .i64 0), (.i .i64 0), (.i .i64 0), .nsl, (.i .i64 0), (.i .i64 0), (.i .i64 0), (.i .i64 0), (.i .i64 0), (.i .i64 0), (.i .i64 0), (.s []), .nsl, (.i .i64 0), (.i .i64 0), (.i .i64 0), (.i .i64 0)] (.t 34) (.t 38), none⟩,
⟨(some 8), .mv (.t 39), none⟩])
.skip))))
(.reg [
⟨(some 40), .bin .add .no (.t 30) (.c (.i .i64 1)), none⟩,
⟨(some 30), .mv (.t 40), none⟩])))))))
(.seq (.reg [
⟨(some 41), .mv (.t 8), none⟩,
⟨(some 4), .mv (.t 41), none⟩])
.ret))))))⟩
def f39 : AF := ⟨11, [.t 2], (.seq (.reg [
⟨(some 2), .mv (.c .np), none⟩])
(.seq (.seq (.reg [
⟨(some 3), .mv (.t 0), none⟩,
⟨(some 4), .call 69 [(.t 3)], none⟩,
⟨(some 5), .un .not (.t 4), none⟩])
(.cond (.t 5)
(.seq (.reg [
⟨(some 2), .mv (.c .np), none⟩])
.ret)
.skip))
(.seq (.reg [
⟨(some 6), .mv (.t 0), none⟩,
⟨(some 7), .nck (.t 6), none⟩,
⟨(some 8), .fa 0 (.t 7), none⟩,
⟨(some 9), .ld false 1 (.t 8), none⟩,
⟨(some 10), .call 96 [(.t 9)], none⟩,
⟨(some 2), .mv (.t 10), none⟩])
.ret)))⟩
def f40 : AF := ⟨83, [.c 2 false 1], (.seq (.reg [
⟨(some 1), .box 1 (.t 0), none⟩,
⟨(some 2), .alloc [(.b false)], none⟩])
(.seq (.seq (.reg [
⟨(some 13), .ld false 1 (.t 1), none⟩,
⟨(some 14), .call 69 [(.t 13)], none⟩,
⟨(some 15), .un .not (.t 14), none⟩])
(.cond (.t 15)
(.seq (.reg [
⟨none, .st 1 (.t 2) (.c (.b false)), none⟩])
.ret)
.skip))
(.seq (.reg [
⟨(some 16), .mkm, none⟩,
⟨(some 17), .mkm, none⟩,
⟨(some 3), .alloc [.nm], none⟩,
⟨(some 4), .alloc [.nm], none⟩,
⟨none, .st 1 (.t 3) (.t 16), none⟩,
⟨none, .st 1 (.t 4) (.t 17), none⟩])
(.seq (.seq (.reg [
⟨(some 18), .ld false 1 (.t 1), none⟩,
⟨(some 19), .nck (.t 18), none⟩,
⟨(some 20), .fa 1 (.t 19), none⟩,
⟨(some 21), .ld false 1 (.t 20), none⟩,
⟨(some 22), .rng false (.t 21), none⟩])
(.blk 0 (.loop (.seq (.reg [
⟨(some 23), .nxt false (.t 22), none⟩,
⟨(some 24), .xt (.t 23) 0, none⟩])
(.seq (.cond (.t 24)
.skip
(.exit 0))
(.blk 1 (.seq (.reg [
⟨(some 25), .ent (.t 22), none⟩,
⟨(some 26), .xt (.t 25) 1, none⟩,
⟨(some 6), .alloc [(.i .i64 0), .nsl, .nsl, .nsl], none⟩,
⟨none, .st 4 (.t 6) (.t 26), none⟩])
(.seq (.seq (.reg [
⟨(some 27), .fa 1 (.t 6), none⟩,
⟨(some 28), .ld false 1 (.t 27), none⟩,
⟨(some 29), .call 97 [(.t 28)], none⟩])
(.blk 2 (.rf (.t 29) [30, 31] (.seq (.reg [
⟨(some 7), .mv (.t 30), none⟩])
(.reg [
⟨(some 8), .mv (.t 31), none⟩]))
(.blk 3 (.reg [
⟨(some 32), .ld false 1 (.t 3), none⟩,
⟨(some 33), .mv (.t 7), none⟩,
⟨(some 34), .lk .str (.i .i64 0) false (.t 32) (.t 33), none⟩,
⟨(some 35), .mv (.t 8), none⟩,
⟨(some 36), .bin .add .no (.t 34) (.t 35), none⟩,
⟨none, .mu .str (.t 32) (.t 33) (.t 36), none⟩])))))
(.seq (.reg [
⟨(some 37), .fa 2 (.t 6), none⟩,
⟨(some 38), .ld false 1 (.t 37), none⟩,
⟨(some 39), .call 97 [(.t 38)], none⟩])
(.blk 4 (.rf (.t 39) [40, 41] (.seq (.reg [
⟨(some 9), .mv (.t 40), none⟩])
(.reg [
⟨(some 10), .mv (.t 41), none⟩]))
(.blk 5 (.reg [
⟨(some 42), .ld false 1 (.t 4), none⟩,
⟨(some 43), .mv (.t 9), none⟩,
⟨(some 44), .lk .str (.i .i64 0) false (.t 42) (.t 43), none⟩,
⟨(some 45), .mv (.t 10), none⟩,
⟨(some 46), .bin .add .no (.t 44) (.t 45), none⟩,
⟨none, .mu .str (.t 42) (.t 43) (.t 46), none⟩])))))))))))))
(.seq (.seq (.reg [
⟨(some 47), .ld false 1 (.t 1), none⟩,
⟨(some 48), .nck (.t 47), none⟩,
⟨(some 49), .fa 0 (.t 48), none⟩,
⟨(some 50), .ld false 1 (.t 49), none⟩,
⟨(some 51), .call 90 [(.t 50)], none⟩])
(.blk 6 (.rf (.t 51) [52] (.reg [
⟨(some 11), .mv (.t 52), none⟩])
(.blk 7 (.seq (.seq (.reg [
⟨(some 53), .ld false 1 (.t 1), none⟩,
⟨(some 54), .nck (.t 53), none⟩,
⟨(some 55), .fa 0 (.t 54), none⟩,
⟨(some 56), .ld false 1 (.t 55), none⟩,
⟨(some 57), .mv (.t 11), none⟩,
⟨(some 58), .call 91 [(.t 56), (.t 57)], none⟩,
⟨(some 12), .alloc [(.i .i64 0), (.i .i64 0), (.i .i64 0), (.i .i64 0)], none⟩,
⟨none, .st 4 (.t 12) (.t 58), none⟩])
(.seq (.reg [
⟨(some 59), .fa 1 (.t 12), none⟩,
⟨(some 60), .ld false 1 (.t 59), none⟩,
⟨(some 61), .ld false 1 (.t 3), none⟩,
⟨(some 62), .mv (.t 11), none⟩,
⟨(some 63), .lk .str (.i .i64 0) false (.t 61) (.t 62), none⟩,
⟨(some 64), .bin .neq .int (.t 60) (.t 63), none⟩,
⟨(some 65), .mv (.t 64), none⟩,
⟨(some 66), .fa 2 (.t 12), (some (65, false))⟩,
⟨(some 67), .ld false 1 (.t 66), (some (65, false))⟩,
⟨(some 68), .ld false 1 (.t 4), (some (65, false))⟩,
⟨(some 69), .mv (.t 11), (some (65, false))⟩,
⟨(some 70), .lk .str (.i .i64 0) false (.t 68) (.t 69), (some (65, false))⟩,
⟨(some 71), .bin .neq .int (.t 67) (.t 70), (some (65, false))⟩,
⟨(some 72), .pick (.t 65) (.c (.b true)) (.t 71), none⟩])
(.cond (.t 72)
(.seq (.reg [
⟨none, .st 1 (.t 2) (.c (.b false)), none⟩])
.ret)
.skip)))
(.seq (.reg [
⟨(some 73), .ld false 1 (.t 3), none⟩,
⟨(some 74), .mv (.t 11), none⟩,
⟨none, .del .str (.t 73) (.t 74), none⟩])
(.reg [
⟨(some 75), .ld false 1 (.t 4), none⟩,
⟨(some 76), .mv (.t 11), none⟩,
⟨none, .del .str (.t 75) (.t 76), none⟩])))))))
(.seq (.reg [
⟨(some 77), .ld false 1 (.t 3), none⟩,
⟨(some 78), .len 2 (.t 77), none⟩,
⟨(some 79), .ld false 1 (.t 4), none⟩,
⟨(some 80), .len 2 (.t 79), none⟩,
⟨(some 81), .bin .add .no (.t 78) (.t 80), none⟩,
⟨(some 82), .bin .eql .int (.t 81) (.c (.i .i64 0)), none⟩,
⟨none, .st 1 (.t 2) (.t 82), none⟩])
.ret))))))⟩
def f41 : AF := ⟨55, [.t 2], (.seq (.reg [
⟨(some 2), .mv (.c .nsl), none⟩])
(.seq (.seq (.reg [
⟨(some 9), .mv (.t 0), none⟩,
⟨(some 10), .call 69 [(.t 9)], none⟩,
⟨(some 11), .un .not (.t 10), none⟩])
(.cond (.t 11)
(.seq (.reg [
⟨(some 2), .mv (.c .nsl), none⟩])
.ret)
.skip))
(.seq (.drw [
.op ⟨(some 13), .mv (.t 0), none⟩,
.op ⟨(some 14), .nck (.t 13), none⟩,
.op ⟨(some 15), .fa 0 (.t 14), none⟩,
.op ⟨(some 16), .ld false 1 (.t 15), none⟩,
.op ⟨(some 20), .mv (.t 0), none⟩,
.op ⟨(some 21), .nck (.t 20), none⟩,
.op ⟨(some 22), .fa 1 (.t 21), none⟩,
.op ⟨(some 23), .ld false 1 (.t 22), none⟩,
.op ⟨(some 12), .call 98 [], none⟩,
.chk ⟨(some 16), .ld false 1 (.t 15), none⟩,
.chk ⟨(some 23), .ld false 1 (.t 22), none⟩,
.op ⟨(some 17), .call 100 [(.t 16)], none⟩,
.chk ⟨(some 23), .ld false 1 (.t 22), none⟩,
.op ⟨(some 18), .cvbs (.t 17), none⟩,
.op ⟨(some 19), .call 99 [(.t 12), (.t 18)], none⟩,
.chk ⟨(some 23), .ld false 1 (.t 22), none⟩,
.op ⟨(some 24), .len 2 (.t 23), none⟩,
.op ⟨(some 25), .call 101 [(.t 19), (.t 24)], none⟩,
.fl ⟨(some 3), .alloc [.np], none⟩,
.chk ⟨(some 16), .ld false 1 (.t 15), none⟩,
.chk ⟨(some 23), .ld false 1 (.t 22), none⟩,
.chk ⟨(some 18), .cvbs (.t 17), none⟩,
.chk ⟨(some 24), .len 2 (.t 23), none⟩,
.op ⟨none, .st 1 (.t 3) (.t 25), none⟩])
(.seq (.seq (.reg [
⟨(some 26), .mv (.t 0), none⟩,
⟨(some 27), .call 24 [(.t 26)], none⟩])
(.blk 0 (.rf (.t 27) [28] (.reg [
⟨(some 4), .alloc [(.i .i64 0), .nsl, .nsl, .nsl], none⟩,
⟨none, .st 4 (.t 4) (.t 28), none⟩])
(.blk 1 (.seq (.reg [
⟨(some 29), .ld false 1 (.t 3), none⟩,
⟨(some 30), .fa 0 (.t 4), none⟩,
⟨(some 31), .ld false 1 (.t 30), none⟩,
⟨(some 32), .call 101 [(.t 29), (.t 31)], none⟩])
(.seq (.reg [
⟨(some 33), .fa 1 (.t 4), none⟩,
⟨(some 34), .ld false 1 (.t 33), none⟩,
⟨(some 35), .fa 2 (.t 4), none⟩,
⟨(some 36), .ld false 1 (.t 35), none⟩,
⟨(some 37), .fa 3 (.t 4), none⟩,
⟨(some 38), .ld false 1 (.t 37), none⟩,
⟨(some 39), .bsl 3 [.nsl] [(0, 1, (.t 34)), (1, 1, (.t 36)), (2, 1, (.t 38))], none⟩,
⟨(some 40), .len 1 (.t 39), none⟩,
⟨(some 41), .mv (.c (.i .i64 0)), none⟩])
(.blk 2 (.loop (.seq (.reg [
⟨(some 42), .bin .lss .no (.t 41) (.t 40), none⟩])
(.seq (.cond (.t 42)
.skip
(.exit 2))
(.seq (.blk 3 (.seq (.reg [
⟨(some 43), .iaL 1 (.t 39) (.t 41), none⟩,
⟨(some 44), .ld false 1 (.t 43), none⟩,
⟨(some 6), .mv (.t 44), none⟩])
(.reg [
⟨(some 45), .ld false 1 (.t 3), none⟩,
⟨(some 46), .mv (.t 6), none⟩,
⟨(some 47), .call 102 [(.t 45), (.t 46)], none⟩])))
(.reg [
⟨(some 48), .bin .add .no (.t 41) (.c (.i .i64 1)), none⟩,
⟨(some 41), .mv (.t 48), none⟩]))))))))))))
(.seq (.reg [
⟨(some 50), .ld false 1 (.t 3), none⟩,
⟨(some 51), .call 103 [(.t 50)], none⟩,
⟨(some 49), .mv (.t 51), none⟩,
⟨(some 52), .xt (.t 49) 0, none⟩,
⟨(some 53), .xt (.t 49) 1, none⟩,
⟨(some 7), .mv (.t 52), none⟩,
⟨(some 8), .mv (.t 53), none⟩])
(.seq (.reg [
⟨(some 54), .mv (.t 7), none⟩,
⟨(some 2), .mv (.t 54), none⟩])
.ret))))))⟩
def f43 : AF := ⟨9, [.t 2], (.seq (.reg [
⟨(some 2), .mv (.c .nsl), none⟩])
(.seq (.reg [
⟨(some 4), .mv (.t 0), none⟩,
⟨(some 5), .call 104 [(.t 4)], none⟩,
⟨(some 3), .mv (.t 5), none⟩])
(.seq (.reg [
⟨(some 6), .mv (.t 3), none⟩,
⟨(some 7), .call 105 [(.t 6)], none⟩])
(.seq (.reg [
⟨(some 8), .mv (.t 3), none⟩,
⟨(some 2), .mv (.t 8), none⟩])
.ret))))⟩
def f48 : AF := ⟨8, [.t 2], (.seq (.reg [
⟨(some 2), .mv (.c .nsl), none⟩])
(.seq (.seq (.reg [
⟨(some 3), .mv (.t 0), none⟩,
⟨(some 4), .bin .eql .nils (.t 3) (.c .nsl), none⟩])
(.cond (.t 4)
(.seq (.reg [
⟨(some 2), .mv (.c .nsl), none⟩])
.ret)
.skip))
(.seq (.reg [
⟨(some 5), .bsl 0 [(.s []), (.i .i64 0)] [], none⟩,
⟨(some 6), .mv (.t 0), none⟩,
⟨(some 7), .app 2 24 [(.s []), (.i .i64 0)] (.t 5) (.t 6), none⟩,
⟨(some 2), .mv (.t 7), none⟩])
.ret)))⟩
def f52 : AF := ⟨95, [.t 2], (.seq (.reg [
⟨(some 1), .box 9 (.t 0), none⟩,
⟨(some 2), .mv (.c (.b false)), none⟩])
(.seq (.reg [
⟨(some 6), .fa 2 (.t 1), none⟩,
⟨(some 7), .ld false 1 (.t 6), none⟩,
⟨(some 8), .call 109 [(.t 7)], none⟩,
⟨(some 3), .alloc [(.s [])], none⟩,
⟨none, .st 1 (.t 3) (.t 8), none⟩])
(.seq (.reg [
⟨(some 9), .mkf 110 [] [(.t 3)], none⟩,
⟨(some 4), .mv (.t 9), none⟩])
(.seq (.reg [
⟨(some 5), .mv (.c (.f (.func 111) [] [])), none⟩])
(.seq (.blk 0 (.seq (.reg [
⟨(some 11), .ld false 1 (.t 3), none⟩,
⟨(some 12), .bin .eql .str (.t 11) (.c (.s [])), none⟩,
⟨(some 13), .mv (.t 12), none⟩,
⟨(some 14), .fa 0 (.t 1), (some (13, false))⟩,
⟨(some 15), .ld false 1 (.t 14), (some (13, false))⟩,
⟨(some 16), .call 112 [(.t 15), (.c (.i .i64 0)), (.c (.i .i64 63))], (some (13, false))⟩,
⟨(some 17), .un .not (.t 16), (some (13, false))⟩,
⟨(some 18), .pick (.t 13) (.c (.b true)) (.t 17), none⟩,
⟨(some 19), .mv (.t 18), none⟩,
⟨(some 20), .fa 1 (.t 1), (some (19, false))⟩,
⟨(some 21), .ld false 1 (.t 20), (some (19, false))⟩,
⟨(some 22), .call 112 [(.t 21), (.c (.i .i64 1)), (.c (.i .i64 4294967296))], (some (19, false))⟩,
⟨(some 23), .un .not (.t 22), (some (19, false))⟩,
⟨(some 24), .pick (.t 19) (.c (.b true)) (.t 23), none⟩,
⟨(some 10), .mv (.t 24), none⟩])
(.cond (.t 10)
(.seq (.reg [
⟨(some 2), .mv (.c (.b false)), none⟩])
.ret)
(.seq (.drw [
.op ⟨(some 26), .mv (.t 4), none⟩,
.op ⟨(some 27), .fa 3 (.t 1), none⟩,
.op ⟨(some 28), .ld false 1 (.t 27), none⟩,
.op ⟨(some 30), .fa 3 (.t 1), none⟩,
.op ⟨(some 31), .ld false 1 (.t 30), none⟩,
.op ⟨(some 32), .bin .eql .int (.t 31) (.c (.i .i64 0)), none⟩,
.op ⟨(some 29), .call 112 [(.t 28), (.c (.i .i64 1)), (.c (.i .i64 1099511627776))], none⟩,
.chk ⟨(some 31), .ld false 1 (.t 30), none⟩,
.op ⟨(some 33), .cald (.t 26) [(.c (.s [111])), (.t 29), (.t 32)], none⟩,
.op ⟨(some 34), .un .not (.t 33), none⟩,
.op ⟨(some 35), .mv (.t 34), none⟩,
.op ⟨(some 36), .mv (.t 4), (some (35, false))⟩,
.op ⟨(some 37), .mv (.t 5), (some (35, false))⟩,
.op ⟨(some 38), .fa 4 (.t 1), (some (35, false))⟩,
.op ⟨(some 39), .ld false 1 (.t 38), (some (35, false))⟩,
.op ⟨(some 41), .fa 4 (.t 1), (some (35, false))⟩,
.op ⟨(some 42), .ld false 1 (.t 41), (some (35, false))⟩,
.op ⟨(some 43), .bin .eql .int (.t 42) (.c (.i .i64 0)), (some (35, false))⟩,
.op ⟨(some 40), .cald (.t 37) [(.t 39)], (some (35, false))⟩,
.chk ⟨(some 42), .ld false 1 (.t 41), (some (35, false))⟩,
.op ⟨(some 44), .cald (.t 36) [(.c (.s [114])), (.t 40), (.t 43)], (some (35, false))⟩,
.op ⟨(some 45), .un .not (.t 44), (some (35, false))⟩,
.op ⟨(some 46), .pick (.t 35) (.c (.b true)) (.t 45), none⟩,
.op ⟨(some 25), .mv (.t 46), none⟩])
(.cond (.t 25)
(.seq (.reg [
⟨(some 2), .mv (.c (.b false)), none⟩])
.ret)
(.seq (.drw [
.op ⟨(some 48), .mv (.t 4), none⟩,
.op ⟨(some 49), .mv (.t 5), none⟩,
.op ⟨(some 50), .fa 5 (.t 1), none⟩,
.op ⟨(some 51), .ld false 1 (.t 50), none⟩,
.op ⟨(some 60), .fa 5 (.t 1), none⟩,
.op ⟨(some 61), .ld false 1 (.t 60), none⟩,
.op ⟨(some 62), .bin .eql .int (.t 61) (.c (.i .i64 0)), none⟩,
.op ⟨(some 52), .cald (.t 49) [(.t 51)], none⟩,
.chk ⟨(some 61), .ld false 1 (.t 60), none⟩,
.op ⟨(some 53), .mv (.t 52), none⟩,
.op ⟨(some 54), .fa 5 (.t 1), (some (53, true))⟩,
.op ⟨(some 55), .ld false 1 (.t 54), (some (53, true))⟩,
.op ⟨(some 56), .fa 4 (.t 1), (some (53, true))⟩,
.op ⟨(some 57), .ld false 1 (.t 56), (some (53, true))⟩,
.op ⟨(some 58), .bin .neq .int (.t 55) (.t 57), (some (53, true))⟩,
.op ⟨(some 59), .pick (.t 53) (.t 58) (.c (.b false)), none⟩,
.op ⟨(some 63), .cald (.t 48) [(.c (.s [116])), (.t 59), (.t 62)], none⟩,
.op ⟨(some 64), .un .not (.t 63), none⟩,
.op ⟨(some 65), .mv (.t 64), none⟩,
.op ⟨(some 66), .mv (.t 4), (some (65, false))⟩,
.op ⟨(some 67), .fa 7 (.t 1), (some (65, false))⟩,
.op ⟨(some 68), .ld false 1 (.t 67), (some (65, false))⟩,
.op ⟨(some 70), .fa 7 (.t 1), (some (65, false))⟩,
.op ⟨(some 71), .ld false 1 (.t 70), (some (65, false))⟩,
.op ⟨(some 72), .bin .eql .str (.t 71) (.c (.s [])), (some (65, false))⟩,
.op ⟨(some 69), .call 113 [(.t 68)], (some (65, false))⟩,
.chk ⟨(some 71), .ld false 1 (.t 70), (some (65, false))⟩,
.op ⟨(some 73), .cald (.t 66) [(.c (.s [103])), (.t 69), (.t 72)], (some (65, false))⟩,
.op ⟨(some 74), .un .not (.t 73), (some (65, false))⟩,
.op ⟨(some 75), .pick (.t 65) (.c (.b true)) (.t 74), none⟩,
.op ⟨(some 47), .mv (.t 75), none⟩])
(.cond (.t 47)
(.seq (.reg [
⟨(some 2), .mv (.c (.b false)), none⟩])
.ret)
.skip)))))))
(.seq (.drw [
.op ⟨(some 76), .mv (.t 4), none⟩,
.op ⟨(some 77), .fa 8 (.t 1), none⟩,
.op ⟨(some 78), .ld false 1 (.t 77), none⟩,
.op ⟨(some 79), .len 1 (.t 78), none⟩,
.op ⟨(some 80), .bin .gtr .no (.t 79) (.c (.i .i64 0)), none⟩,
.op ⟨(some 81), .mv (.t 80), none⟩,
.op ⟨(some 82), .fa 8 (.t 1), (some (81, true))⟩,
.op ⟨(some 83), .ld false 1 (.t 82), (some (81, true))⟩,
.op ⟨(some 86), .fa 8 (.t 1), none⟩,
.op ⟨(some 87), .ld false 1 (.t 86), none⟩,
.op ⟨(some 88), .len 1 (.t 87), none⟩,
.op ⟨(some 89), .bin .eql .int (.t 88) (.c (.i .i64 0)), none⟩,
.op ⟨(some 84), .call 78 [(.t 83)], (some (81, true))⟩,
.chk ⟨(some 87), .ld false 1 (.t 86), none⟩,
.chk ⟨(some 88), .len 1 (.t 87), none⟩,
.op ⟨(some 85), .pick (.t 81) (.t 84) (.c (.b false)), none⟩,
.op ⟨(some 90), .cald (.t 76) [(.c (.s [105])), (.t 85), (.t 89)], none⟩,
.op ⟨(some 91), .mv (.t 90), none⟩,
.op ⟨(some 92), .ld true 9 (.t 1), (some (91, true))⟩,
.op ⟨(some 93), .call 114 [(.t 92)], (some (91, true))⟩,
.op ⟨(some 94), .pick (.t 91) (.t 93) (.c (.b false)), none⟩,
.op ⟨(some 2), .mv (.t 94), none⟩])
.ret))))))⟩
def f68 : AF := ⟨29, [], (.seq (.seq (.reg [
⟨(some 5), .ld false 1 (.t 1), none⟩,
⟨(some 6), .call 69 [(.t 5)], none⟩,
⟨(some 7), .un .not (.t 6), none⟩])
(.cond (.t 7)
.ret
.skip))
(.seq (.reg [
⟨(some 8), .ld false 1 (.t 1), none⟩,
⟨(some 9), .nck (.t 8), none⟩,
⟨(some 10), .fa 1 (.t 9), none⟩,
⟨(some 11), .ld false 1 (.t 10), none⟩,
⟨(some 12), .call 70 [(.t 11)], none⟩,
⟨(some 13), .len 1 (.t 12), none⟩,
⟨(some 14), .mv (.c (.i .i64 0)), none⟩])
(.blk 0 (.loop (.seq (.reg [
⟨(some 15), .bin .lss .no (.t 14) (.t 13), none⟩])
(.seq (.cond (.t 15)
.skip
(.exit 0))
(.seq (.blk 1 (.seq (.reg [
⟨(some 16), .iaL 1 (.t 12) (.t 14), none⟩,
⟨(some 17), .ld false 1 (.t 16), none⟩,
⟨(some 4), .mv (.t 17), none⟩])
(.seq (.reg [
⟨(some 18), .mv (.t 0), none⟩,
⟨(some 19), .ld false 1 (.t 1), none⟩,
⟨(some 20), .nck (.t 19), none⟩,
⟨(some 21), .fa 1 (.t 20), none⟩,
⟨(some 22), .ld false 1 (.t 21), none⟩,
⟨(some 23), .mv (.t 4), none⟩,
⟨(some 24), .lk .int (.ag [(.i .i64 0), .nsl, .nsl, .nsl]) false (.t 22) (.t 23), none⟩,
⟨(some 25), .call 71 [(.t 24)], none⟩,
⟨(some 26), .cald (.t 18) [(.t 25)], none⟩,
⟨(some 27), .un .not (.t 26), none⟩])
(.cond (.t 27)
.ret
.skip))))
(.reg [
⟨(some 28), .bin .add .no (.t 14) (.c (.i .i64 1)), none⟩,
⟨(some 14), .mv (.t 28), none⟩]))))))))⟩
def f69 : AF := ⟨12, [.t 2], (.seq (.reg [
⟨(some 2), .mv (.c (.b false)), none⟩])
(.seq (.reg [
⟨(some 3), .mv (.t 0), none⟩,
⟨(some 4), .bin .neq .ptr (.t 3) (.c .np), none⟩,
⟨(some 5), .mv (.t 4), none⟩,
⟨(some 6), .mv (.t 0), (some (5, true))⟩,
⟨(some 7), .nck (.t 6), (some (5, true))⟩,
⟨(some 8), .fa 1 (.t 7), (some (5, true))⟩,
⟨(some 9), .ld false 1 (.t 8), (some (5, true))⟩,
⟨(some 10), .bin .neq .nilm (.t 9) (.c .nm), (some (5, true))⟩,
⟨(some 11), .pick (.t 5) (.t 10) (.c (.b false)), none⟩,
⟨(some 2), .mv (.t 11), none⟩])
.ret))⟩
def f70 : AF := ⟨6, [.t 2], (.seq (.reg [
⟨(some 2), .mv (.c .nsl), none⟩])
(.seq (.reg [
⟨(some 3), .mv (.t 0), none⟩,
⟨(some 4), .call 136 [(.t 3)], none⟩,
⟨(some 5), .call 43 [(.t 4)], none⟩,
⟨(some 2), .mv (.t 5), none⟩])
.ret))⟩
def f71 : AF := ⟨15, [.c 2 true 4], (.seq (.reg [
⟨(some 1), .box 4 (.t 0), none⟩,
⟨(some 2), .alloc [(.i .i64 0), .nsl, .nsl, .nsl], none⟩])
(.seq (.drw [
.op ⟨(some 3), .fa 0 (.t 1), none⟩,
.op ⟨(some 4), .ld false 1 (.t 3), none⟩,
.op ⟨(some 5), .fa 1 (.t 1), none⟩,
.op ⟨(some 6), .ld false 1 (.t 5), none⟩,
.op ⟨(some 8), .fa 2 (.t 1), none⟩,
.op ⟨(some 9), .ld false 1 (.t 8), none⟩,
.op ⟨(some 11), .fa 3 (.t 1), none⟩,
.op ⟨(some 12), .ld false 1 (.t 11), none⟩,
.op ⟨(some 7), .call 48 [(.t 6)], none⟩,
.chk ⟨(some 4), .ld false 1 (.t 3), none⟩,
.chk ⟨(some 9), .ld false 1 (.t 8), none⟩,
.chk ⟨(some 12), .ld false 1 (.t 11), none⟩,
.op ⟨(some 10), .call 48 [(.t 9)], none⟩,
.chk ⟨(some 4), .ld false 1 (.t 3), none⟩,
.chk ⟨(some 12), .ld false 1 (.t 11), none⟩,
.op ⟨(some 13), .call 48 [(.t 12)], none⟩,
.chk ⟨(some 4), .ld false 1 (.t 3), none⟩,
.op ⟨(some 14), .build [(.i .i64 0), .nsl, .nsl, .nsl] [(0, 1, (.t 4)), (1, 1, (.t 7)), (2, 1, (.t 10)), (3, 1, (.t 13))], none⟩,
.op ⟨none, .st 4 (.t 2) (.t 14), none⟩])
.ret))⟩
def f72 : AF := ⟨5, [.t 0], (.seq (.reg [
⟨(some 0), .mv (.c .np), none⟩])
(.seq (.reg [
⟨(some 1), .call 137 [], none⟩,
⟨(some 2), .mkm, none⟩,
⟨(some 3), .build [.np, .nm] [(0, 1, (.t 1)), (1, 1, (.t 2))], none⟩,
⟨(some 4), .box 2 (.t 3), none⟩,
⟨(some 0), .mv (.t 4), none⟩])
.ret))⟩
def f73 : AF := ⟨4, [.t 0], (.seq (.reg [
⟨(some 0), .mv (.c .np), none⟩])
(.seq (.reg [
⟨(some 1), .mkm, none⟩,
⟨(some 2), .build [.nm] [(0, 1, (.t 1))], none⟩,
⟨(some 3), .box 1 (.t 2), none⟩,
⟨(some 0), .mv (.t 3), none⟩])
.ret))⟩
def f74 : AF := ⟨21, [.c 4 true 4], (.seq (.reg [
⟨(some 4), .alloc [(.i .i64 0), .nsl, .nsl, .nsl], none⟩])
(.seq (.reg [
⟨(some 8), .mv (.t 0), none⟩,
⟨(some 9), .nck (.t 8), none⟩,
⟨(some 10), .fa 1 (.t 9), none⟩,
⟨(some 11), .ld false 1 (.t 10), none⟩,
⟨(some 12), .mv (.t 1), none⟩,
⟨(some 13), .lk .int (.ag [(.i .i64 0), .nsl, .nsl, .nsl]) true (.t 11) (.t 12), none⟩,
⟨(some 7), .mv (.t 13), none⟩,
⟨(some 14), .xt (.t 7) 0, none⟩,
⟨(some 15), .xt (.t 7) 1, none⟩,
⟨(some 5), .alloc [(.i .i64 0), .nsl, .nsl, .nsl], none⟩,
⟨none, .st 4 (.t 5) (.t 14), none⟩,
⟨(some 6), .mv (.t 15), none⟩])
(.seq (.seq (.reg [
⟨(some 16), .mv (.t 6), none⟩,
⟨(some 17), .un .not (.t 16), none⟩])
(.cond (.t 17)
(.reg [
⟨(some 18), .mv (.t 1), none⟩,
⟨(some 19), .fa 0 (.t 5), none⟩,
⟨none, .st 1 (.t 19) (.t 18), none⟩])
.skip))
(.seq (.reg [
⟨(some 20), .ld true 4 (.t 5), none⟩,
⟨none, .st 4 (.t 4) (.t 20), none⟩])
.ret))))⟩
def f75 : AF := ⟨21, [.t 2], (.seq (.reg [
⟨(some 2), .mv (.c (.s [])), none⟩])
(.seq (.seq (.reg [
⟨(some 3), .mv (.t 0), none⟩])
(.blk 0 (.seq (.seq (.reg [
⟨(some 5), .bin .eql .int (.t 3) (.c (.i .i64 1)), none⟩,
⟨(some 4), .mv (.t 5), none⟩])
(.cond (.t 4)
.skip
(.reg [
⟨(some 6), .bin .eql .int (.t 3) (.c (.i .i64 11)), none⟩,
⟨(some 4), .mv (.t 6), none⟩])))
(.cond (.t 4)
(.seq (.reg [
⟨(some 2), .mv (.c (.s [97])), none⟩])
.ret)
(.seq (.seq (.reg [
⟨(some 8), .bin .eql .int (.t 3) (.c (.i .i64 2)), none⟩,
⟨(some 7), .mv (.t 8), none⟩])
(.cond (.t 7)
.skip
(.reg [
⟨(some 9), .bin .eql .int (.t 3) (.c (.i .i64 12)), none⟩,
⟨(some 7), .mv (.t 9), none⟩])))
(.cond (.t 7)
(.seq (.reg [
⟨(some 2), .mv (.c (.s [121])), none⟩])
.ret)
(.seq (.seq (.reg [
⟨(some 11), .bin .eql .int (.t 3) (.c (.i .i64 3)), none⟩,
⟨(some 10), .mv (.t 11), none⟩])
(.cond (.t 10)
.skip
(.seq (.reg [
⟨(some 12), .bin .eql .int (.t 3) (.c (.i .i64 4)), none⟩,
⟨(some 10), .mv (.t 12), none⟩])
(.cond (.t 10)
.skip
(.seq (.reg [
⟨(some 13), .bin .eql .int (.t 3) (.c (.i .i64 8)), none⟩,
⟨(some 10), .mv (.t 13), none⟩])
(.cond (.t 10)
.skip
(.seq (.reg [
⟨(some 14), .bin .eql .int (.t 3) (.c (.i .i64 10)), none⟩,
⟨(some 10), .mv (.t 14), none⟩])
(.cond (.t 10)
.skip
(.reg [
⟨(some 15), .bin .eql .int (.t 3) (.c (.i .i64 13)), none⟩,
⟨(some 10), .mv (.t 15), none⟩])))))))))
(.cond (.t 10)
(.seq (.reg [
⟨(some 2), .mv (.c (.s [111, 105])), none⟩])
.ret)
(.seq (.seq (.reg [
⟨(some 17), .bin .eql .int (.t 3) (.c (.i .i64 5)), none⟩,
⟨(some 16), .mv (.t 17), none⟩])
(.cond (.t 16)
.skip
(.seq (.reg [
⟨(some 18), .bin .eql .int (.t 3) (.c (.i .i64 6)), none⟩,
⟨(some 16), .mv (.t 18), none⟩])
(.cond (.t 16)
.skip
(.seq (.reg [
⟨(some 19), .bin .eql .int (.t 3) (.c (.i .i64 7)), none⟩,
⟨(some 16), .mv (.t 19), none⟩])
(.cond (.t 16)
.skip
(.reg [
⟨(some 20), .bin .eql .int (.t 3) (.c (.i .i64 9)), none⟩,
⟨(some 16), .mv (.t 20), none⟩])))))))
(.cond (.t 16)
(.seq (.reg [
⟨(some 2), .mv (.c (.s [111])), none⟩])
.ret)
.skip))))))))))
(.seq (.reg [
⟨(some 2), .mv (.c (.s [])), none⟩])
.ret)))⟩
def f76 : AF := ⟨13, [.t 7], (.seq (.reg [
⟨(some 7), .mv (.c (.b false)), none⟩])
(.seq (.seq (.reg [
⟨(some 8), .ld false 1 (.t 3), none⟩,
⟨(some 9), .mv (.t 0), none⟩,
⟨(some 10), .call 77 [(.t 8), (.t 9)], none⟩])
(.cond (.t 10)
(.seq (.reg [
⟨(some 11), .mv (.t 1), none⟩,
⟨(some 7), .mv (.t 11), none⟩])
.ret)
.skip))
(.seq (.reg [
⟨(some 12), .mv (.t 2), none⟩,
⟨(some 7), .mv (.t 12), none⟩])
.ret)))⟩
def f77 : AF := ⟨9, [.t 4], (.seq (.reg [
⟨(some 4), .mv (.c (.b false)), none⟩])
(.seq (.reg [
⟨(some 5), .mv (.t 0), none⟩,
⟨(some 6), .mv (.t 1), none⟩,
⟨(some 7), .call 138 [(.t 5), (.t 6)], none⟩,
⟨(some 8), .bin .geq .no (.t 7) (.c (.i .i64 0)), none⟩,
⟨(some 4), .mv (.t 8), none⟩])
.ret))⟩
def f78 : AF := ⟨31, [.c 2 false 1], (.seq (.reg [
⟨(some 2), .alloc [(.b false)], none⟩])
(.seq (.reg [
⟨(some 3), .alloc [(.s [])], none⟩,
⟨none, .st 1 (.t 3) (.c (.s [])), none⟩])
(.seq (.seq (.reg [
⟨(some 6), .mv (.t 0), none⟩,
⟨(some 7), .call 97 [(.t 6)], none⟩])
(.blk 0 (.rf (.t 7) [8, 9] (.seq (.reg [
⟨(some 4), .mv (.t 8), none⟩])
(.reg [
⟨(some 5), .mv (.t 9), none⟩]))
(.blk 1 (.seq (.seq (.reg [
⟨(some 10), .mv (.t 4), none⟩,
⟨(some 11), .call 113 [(.t 10)], none⟩,
⟨(some 12), .un .not (.t 11), none⟩,
⟨(some 13), .mv (.t 12), none⟩,
⟨(some 14), .mv (.t 5), (some (13, false))⟩,
⟨(some 15), .bin .lss .no (.t 14) (.c (.i .i64 1)), (some (13, false))⟩,
⟨(some 16), .pick (.t 13) (.c (.b true)) (.t 15), none⟩,
⟨(some 17), .mv (.t 16), none⟩,
⟨(some 18), .mv (.t 5), (some (17, false))⟩,
⟨(some 19), .call 139 [(.t 18)], (some (17, false))⟩,
⟨(some 20), .un .not (.t 19), (some (17, false))⟩,
⟨(some 21), .pick (.t 17) (.c (.b true)) (.t 20), none⟩,
⟨(some 22), .mv (.t 21), none⟩,
⟨(some 23), .mv (.t 4), (some (22, false))⟩,
⟨(some 24), .ld false 1 (.t 3), (some (22, false))⟩,
⟨(some 25), .bin .leq .no (.t 23) (.t 24), (some (22, false))⟩,
⟨(some 26), .pick (.t 22) (.c (.b true)) (.t 25), none⟩])
(.cond (.t 26)
(.seq (.reg [
⟨none, .st 1 (.t 2) (.c (.b false)), none⟩])
.ret)
.skip))
(.reg [
⟨(some 27), .mv (.t 4), none⟩,
⟨none, .st 1 (.t 3) (.t 27), none⟩]))))))
(.seq (.reg [
⟨(some 28), .mv (.t 0), none⟩,
⟨(some 29), .len 1 (.t 28), none⟩,
⟨(some 30), .bin .leq .no (.t 29) (.c (.i .i64 16)), none⟩,
⟨none, .st 1 (.t 2) (.t 30), none⟩])
.ret))))⟩
def f79 : AF := ⟨68, [.t 4], (.seq (.reg [
⟨(some 2), .box 9 (.t 0), none⟩,
⟨(some 3), .box 9 (.t 1), none⟩,
⟨(some 4), .mv (.c (.b false)), none⟩])
(.seq (.reg [
⟨(some 6), .fa 0 (.t 2), none⟩,
⟨(some 7), .ld false 1 (.t 6), none⟩,
⟨(some 8), .fa 0 (.t 3), none⟩,
⟨(some 9), .ld false 1 (.t 8), none⟩,
⟨(some 10), .bin .eql .int (.t 7) (.t 9), none⟩,
⟨(some 11), .mv (.t 10), none⟩,
⟨(some 12), .fa 1 (.t 2), (some (11, true))⟩,
⟨(some 13), .ld false 1 (.t 12), (some (11, true))⟩,
⟨(some 14), .fa 1 (.t 3), (some (11, true))⟩,
⟨(some 15), .ld false 1 (.t 14), (some (11, true))⟩,
⟨(some 16), .bin .eql .int (.t 13) (.t 15), (some (11, true))⟩,
⟨(some 17), .pick (.t 11) (.t 16) (.c (.b false)), none⟩,
⟨(some 18), .mv (.t 17), none⟩,
⟨(some 19), .fa 2 (.t 2), (some (18, true))⟩,
⟨(some 20), .ld false 1 (.t 19), (some (18, true))⟩,
⟨(some 21), .fa 2 (.t 3), (some (18, true))⟩,
⟨(some 22), .ld false 1 (.t 21), (some (18, true))⟩,
⟨(some 23), .bin .eql .int (.t 20) (.t 22), (some (18, true))⟩,
⟨(some 24), .pick (.t 18) (.t 23) (.c (.b false)), none⟩,
⟨(some 25), .mv (.t 24), none⟩,
⟨(some 26), .fa 3 (.t 2), (some (25, true))⟩,
⟨(some 27), .ld false 1 (.t 26), (some (25, true))⟩,
⟨(some 28), .fa 3 (.t 3), (some (25, true))⟩,
⟨(some 29), .ld false 1 (.t 28), (some (25, true))⟩,
⟨(some 30), .bin .eql .int (.t 27) (.t 29), (some (25, true))⟩,
⟨(some 31), .pick (.t 25) (.t 30) (.c (.b false)), none⟩,
⟨(some 5), .mv (.t 31), none⟩])
(.seq (.reg [
⟨(some 32), .mv (.t 5), none⟩,
⟨(some 33), .mv (.t 32), none⟩,
⟨(some 34), .fa 4 (.t 2), (some (33, true))⟩,
⟨(some 35), .ld false 1 (.t 34), (some (33, true))⟩,
⟨(some 36), .fa 4 (.t 3), (some (33, true))⟩,
⟨(some 37), .ld false 1 (.t 36), (some (33, true))⟩,
⟨(some 38), .bin .eql .int (.t 35) (.t 37), (some (33, true))⟩,
⟨(some 39), .pick (.t 33) (.t 38) (.c (.b false)), none⟩,
⟨(some 40), .mv (.t 39), none⟩,
⟨(some 41), .fa 5 (.t 2), (some (40, true))⟩,
⟨(some 42), .ld false 1 (.t 41), (some (40, true))⟩,
⟨(some 43), .fa 5 (.t 3), (some (40, true))⟩,
⟨(some 44), .ld false 1 (.t 43), (some (40, true))⟩,
⟨(some 45), .bin .eql .int (.t 42) (.t 44), (some (40, true))⟩,
⟨(some 46), .pick (.t 40) (.t 45) (.c (.b false)), none⟩,
⟨(some 47), .mv (.t 46), none⟩,
⟨(some 48), .fa 6 (.t 2), (some (47, true))⟩,
⟨(some 49), .ld false 1 (.t 48), (some (47, true))⟩,
⟨(some 50), .fa 6 (.t 3), (some (47, true))⟩,
⟨(some 51), .ld false 1 (.t 50), (some (47, true))⟩,
⟨(some 52), .bin .eql .int (.t 49) (.t 51), (some (47, true))⟩,
⟨(some 53), .pick (.t 47) (.t 52) (.c (.b false)), none⟩,
⟨(some 54), .mv (.t 53), none⟩,
⟨(some 55), .fa 7 (.t 2), (some (54, true))⟩,
⟨(some 56), .ld false 1 (.t 55), (some (54, true))⟩,
⟨(some 57), .fa 7 (.t 3), (some (54, true))⟩,
⟨(some 58), .ld false 1 (.t 57), (some (54, true))⟩,
⟨(some 59), .bin .eql .str (.t 56) (.t 58), (some (54, true))⟩,
⟨(some 60), .pick (.t 54) (.t 59) (.c (.b false)), none⟩,
⟨(some 61), .mv (.t 60), none⟩,
⟨(some 62), .fa 8 (.t 2), (some (61, true))⟩,
⟨(some 63), .ld false 1 (.t 62), (some (61, true))⟩,
⟨(some 64), .fa 8 (.t 3), (some (61, true))⟩,
⟨(some 65), .ld false 1 (.t 64), (some (61, true))⟩,
⟨(some 66), .call 140 [(.t 63), (.t 65)], (some (61, true))⟩,
⟨(some 67), .pick (.t 61) (.t 66) (.c (.b false)), none⟩,
⟨(some 4), .mv (.t 67), none⟩])
.ret)))⟩
def f80 : AF := ⟨33, [.t 2], (.seq (.reg [
⟨(some 1), .box 4 (.t 0), none⟩,
⟨(some 2), .mv (.c (.b false)), none⟩])
(.seq (.reg [
⟨(some 4), .fa 0 (.t 1), none⟩,
⟨(some 5), .ld false 1 (.t 4), none⟩,
⟨(some 6), .bin .geq .no (.t 5) (.c (.i .i64 0)), none⟩,
⟨(some 7), .mv (.t 6), none⟩,
⟨(some 8), .fa 0 (.t 1), (some (7, true))⟩,
⟨(some 9), .ld false 1 (.t 8), (some (7, true))⟩,
⟨(some 10), .bin .lss .no (.t 9) (.c (.i .i64 64)), (some (7, true))⟩,
⟨(some 11), .pick (.t 7) (.t 10) (.c (.b false)), none⟩,
⟨(some 12), .mv (.t 11), none⟩,
⟨(some 13), .fa 1 (.t 1), (some (12, true))⟩,
⟨(some 14), .ld false 1 (.t 13), (some (12, true))⟩,
⟨(some 15), .bin .geq .no (.t 14) (.c (.i .i64 1)), (some (12, true))⟩,
⟨(some 16), .pick (.t 12) (.t 15) (.c (.b false)), none⟩,
⟨(some 17), .mv (.t 16), none⟩,
⟨(some 18), .fa 1 (.t 1), (some (17, true))⟩,
⟨(some 19), .ld false 1 (.t 18), (some (17, true))⟩,
⟨(some 20), .bin .leq .no (.t 19) (.c (.i .i64 4294967296)), (some (17, true))⟩,
⟨(some 21), .pick (.t 17) (.t 20) (.c (.b false)), none⟩,
⟨(some 3), .mv (.t 21), none⟩])
(.seq (.reg [
⟨(some 22), .mv (.t 3), none⟩,
⟨(some 23), .mv (.t 22), none⟩,
⟨(some 24), .fa 2 (.t 1), (some (23, true))⟩,
⟨(some 25), .ld false 1 (.t 24), (some (23, true))⟩,
⟨(some 26), .bin .geq .no (.t 25) (.c (.i .i64 0)), (some (23, true))⟩,
⟨(some 27), .pick (.t 23) (.t 26) (.c (.b false)), none⟩,
⟨(some 28), .mv (.t 27), none⟩,
⟨(some 29), .fa 2 (.t 1), (some (28, true))⟩,
⟨(some 30), .ld false 1 (.t 29), (some (28, true))⟩,
⟨(some 31), .bin .leq .no (.t 30) (.c (.i .i64 1000)), (some (28, true))⟩,
⟨(some 32), .pick (.t 28) (.t 31) (.c (.b false)), none⟩,
⟨(some 2), .mv (.t 32), none⟩])
.ret)))⟩
def f81 : AF := ⟨16, [.t 4], (.seq (.reg [
⟨(some 4), .mv (.c (.i .i64 0)), none⟩])
(.seq (.blk 0 (.seq (.reg [
⟨(some 6), .mv (.t 0), none⟩,
⟨(some 7), .call 69 [(.t 6)], none⟩,
⟨(some 8), .un .not (.t 7), none⟩,
⟨(some 5), .mv (.t 8), none⟩])
(.cond (.t 5)
(.seq (.reg [
⟨(some 4), .mv (.c (.i .i64 6)), none⟩])
.ret)
(.seq (.reg [
⟨(some 10), .mv (.t 1), none⟩,
⟨(some 11), .bin .lss .no (.t 10) (.c (.i .i64 1)), none⟩,
⟨(some 12), .mv (.t 11), none⟩,
⟨(some 13), .mv (.t 1), (some (12, false))⟩,
⟨(some 14), .bin .gtr .no (.t 13) (.c (.i .i64 1099511627776)), (some (12, false))⟩,
⟨(some 15), .pick (.t 12) (.c (.b true)) (.t 14), none⟩,
⟨(some 9), .mv (.t 15), none⟩])
(.cond (.t 9)
(.seq (.reg [
⟨(some 4), .mv (.c (.i .i64 1)), none⟩])
.ret)
.skip)))))
(.seq (.reg [
⟨(some 4), .mv (.c (.i .i64 0)), none⟩])
.ret)))⟩
def f82 : AF := ⟨36, [.t 4], (.seq (.reg [
⟨(some 2), .box 1 (.t 0), none⟩,
⟨(some 4), .mv (.c .nsl), none⟩])
(.seq (.seq (.reg [
⟨(some 9), .ld false 1 (.t 2), none⟩,
⟨(some 10), .call 141 [(.t 9)], none⟩,
⟨(some 11), .un .not (.t 10), none⟩,
⟨(some 12), .mv (.t 11), none⟩,
⟨(some 13), .mv (.t 1), (some (12, false))⟩,
⟨(some 14), .call 78 [(.t 13)], (some (12, false))⟩,
⟨(some 15), .un .not (.t 14), (some (12, false))⟩,
⟨(some 16), .pick (.t 12) (.c (.b true)) (.t 15), none⟩])
(.cond (.t 16)
(.seq (.reg [
⟨(some 4), .mv (.c .nsl), none⟩])
.ret)
.skip))
(.seq (.reg [
⟨(some 5), .alloc [.nsl], none⟩])
(.seq (.seq (.reg [
⟨(some 17), .mv (.t 1), none⟩,
⟨(some 18), .call 97 [(.t 17)], none⟩])
(.blk 0 (.rf (.t 18) [19, 20] (.seq (.reg [
⟨(some 6), .mv (.t 19), none⟩])
(.reg [
⟨(some 7), .mv (.t 20), none⟩]))
(.blk 1 (.seq (.reg [
⟨(some 21), .mv (.t 7), none⟩,
⟨(some 22), .ld false 1 (.t 2), none⟩,
⟨(some 23), .mv (.t 6), none⟩,
⟨(some 24), .call 91 [(.t 22), (.t 23)], none⟩,
⟨(some 25), .fld 0 1 false (.t 24), none⟩,
⟨(some 26), .mnx false (.t 21) (.t 25), none⟩,
⟨(some 8), .mv (.t 26), none⟩])
(.seq (.reg [
⟨(some 27), .mv (.t 8), none⟩,
⟨(some 28), .bin .gtr .no (.t 27) (.c (.i .i64 0)), none⟩])
(.cond (.t 28)
(.reg [
⟨(some 29), .ld false 1 (.t 5), none⟩,
⟨(some 30), .mv (.t 6), none⟩,
⟨(some 31), .mv (.t 8), none⟩,
⟨(some 32), .build [(.s []), (.i .i64 0)] [(0, 1, (.t 30)), (1, 1, (.t 31))], none⟩,
⟨(some 33), .bsl 1 [(.s []), (.i .i64 0)] [(0, 2, (.t 32))], none⟩,
⟨(some 34), .app 2 24 [(.s []), (.i .i64 0)] (.t 29) (.t 33), none⟩,
⟨none, .st 1 (.t 5) (.t 34), none⟩])
.skip)))))))
(.seq (.reg [
⟨(some 35), .ld false 1 (.t 5), none⟩,
⟨(some 4), .mv (.t 35), none⟩])
.ret)))))⟩
def f83 : AF := ⟨21, [.t 4, .t 5], (.seq (.reg [
⟨(some 4), .mv (.c .nsl), none⟩,
⟨(some 5), .mv (.c (.i .i64 0)), none⟩])
(.seq (.seq (.reg [
⟨(some 6), .mv (.t 0), none⟩,
⟨(some 7), .call 78 [(.t 6)], none⟩,
⟨(some 8), .un .not (.t 7), none⟩,
⟨(some 9), .mv (.t 8), none⟩,
⟨(some 10), .mv (.t 1), (some (9, false))⟩,
⟨(some 11), .call 78 [(.t 10)], (some (9, false))⟩,
⟨(some 12), .un .not (.t 11), (some (9, false))⟩,
⟨(some 13), .pick (.t 9) (.c (.b true)) (.t 12), none⟩])
(.cond (.t 13)
(.seq (.reg [
⟨(some 4), .mv (.c .nsl), none⟩,
⟨(some 5), .mv (.c (.i .i64 60)), none⟩])
.ret)
.skip))
(.seq (.reg [
⟨(some 14), .mv (.t 0), none⟩,
⟨(some 15), .mv (.t 1), none⟩,
⟨(some 16), .bsl 2 [.nsl] [(0, 1, (.t 14)), (1, 1, (.t 15))], none⟩,
⟨(some 17), .call 143 [(.t 16)], none⟩,
⟨(some 18), .call 142 [(.t 17)], none⟩,
⟨(some 19), .xt (.t 18) 0, none⟩,
⟨(some 20), .xt (.t 18) 1, none⟩,
⟨(some 4), .mv (.t 19), none⟩,
⟨(some 5), .mv (.t 20), none⟩])
.ret)))⟩
def f84 : AF := ⟨77, [.c 6 false 1], (.seq (.reg [
⟨(some 4), .box 1 (.t 1), none⟩,
⟨(some 6), .alloc [(.i .i64 0)], none⟩])
(.seq (.blk 0 (.seq (.reg [
⟨(some 16), .mv (.t 0), none⟩,
⟨(some 17), .call 141 [(.t 16)], none⟩,
⟨(some 18), .un .not (.t 17), none⟩,
⟨(some 15), .mv (.t 18), none⟩])
(.cond (.t 15)
(.seq (.reg [
⟨none, .st 1 (.t 6) (.c (.i .i64 6)), none⟩])
.ret)
(.seq (.reg [
⟨(some 20), .ld false 1 (.t 4), none⟩,
⟨(some 21), .bin .lss .no (.t 20) (.c (.i .i64 1)), none⟩,
⟨(some 22), .mv (.t 21), none⟩,
⟨(some 23), .ld false 1 (.t 4), (some (22, false))⟩,
⟨(some 24), .bin .gtr .no (.t 23) (.c (.i .i64 11)), (some (22, false))⟩,
⟨(some 25), .pick (.t 22) (.c (.b true)) (.t 24), none⟩,
⟨(some 19), .mv (.t 25), none⟩])
(.cond (.t 19)
(.seq (.reg [
⟨none, .st 1 (.t 6) (.c (.i .i64 1)), none⟩])
.ret)
(.seq (.reg [
⟨(some 27), .mv (.t 2), none⟩,
⟨(some 28), .call 78 [(.t 27)], none⟩,
⟨(some 29), .un .not (.t 28), none⟩,
⟨(some 26), .mv (.t 29), none⟩])
(.cond (.t 26)
(.seq (.reg [
⟨none, .st 1 (.t 6) (.c (.i .i64 60)), none⟩])
.ret)
.skip)))))))
(.seq (.seq (.reg [
⟨(some 30), .mv (.t 0), none⟩,
⟨(some 31), .ld false 1 (.t 4), none⟩,
⟨(some 32), .mv (.t 2), none⟩,
⟨(some 33), .call 144 [(.t 30), (.t 31), (.t 32)], none⟩,
⟨(some 7), .mv (.t 33), none⟩])
(.seq (.reg [
⟨(some 34), .mv (.t 7), none⟩,
⟨(some 35), .bin .neq .int (.t 34) (.c (.i .i64 0)), none⟩])
(.cond (.t 35)
(.seq (.reg [
⟨(some 36), .mv (.t 7), none⟩,
⟨none, .st 1 (.t 6) (.t 36), none⟩])
.ret)
.skip)))
(.seq (.reg [
⟨(some 37), .mv (.t 0), none⟩,
⟨(some 38), .nck (.t 37), none⟩,
⟨(some 39), .fa 0 (.t 38), none⟩,
⟨(some 40), .ld false 1 (.t 39), none⟩,
⟨(some 41), .call 145 [(.t 40)], none⟩,
⟨(some 8), .alloc [.nm], none⟩,
⟨none, .st 1 (.t 8) (.t 41), none⟩])
(.seq (.seq (.reg [
⟨(some 42), .mv (.t 2), none⟩,
⟨(some 43), .call 97 [(.t 42)], none⟩])
(.blk 1 (.rf (.t 43) [44, 45] (.seq (.reg [
⟨(some 9), .mv (.t 44), none⟩])
(.reg [
⟨(some 10), .mv (.t 45), none⟩]))
(.blk 2 (.seq (.reg [
⟨(some 46), .ld false 1 (.t 8), none⟩,
⟨(some 47), .mv (.t 9), none⟩,
⟨(some 48), .lk .str (.ag [(.i .i64 0), (.i .i64 0), (.i .i64 0), (.i .i64 0), (.i .i64 0), (.i .i64 0), (.i .i64 0), (.i .i64 0), (.i .i64 0), (.i .i64 0), (.i .i64 0)]) false (.t 46) (.t 47), none⟩,
⟨(some 11), .alloc [(.i .i64 0), (.i .i64 0), (.i .i64 0), (.i .i64 0), (.i .i64 0), (.i .i64 0), (.i .i64 0), (.i .i64 0), (.i .i64 0), (.i .i64 0), (.i .i64 0)], none⟩,
⟨none, .st 11 (.t 11) (.t 48), none⟩])
(.seq (.reg [
⟨(some 50), .ld false 1 (.t 4), none⟩,
⟨(some 51), .call 146 [(.t 50), (.t 11)], none⟩,
⟨(some 49), .mv (.t 51), none⟩,
⟨(some 52), .xt (.t 49) 0, none⟩,
⟨(some 53), .xt (.t 49) 1, none⟩,
⟨(some 54), .xt (.t 49) 2, none⟩,
⟨(some 12), .mv (.t 52), none⟩,
⟨(some 13), .mv (.t 53), none⟩,
⟨(some 14), .mv (.t 54), none⟩])
(.seq (.reg [
⟨(some 55), .mv (.t 12), none⟩,
⟨(some 56), .mv (.t 10), none⟩,
⟨(some 57), .un .neg (.t 56), none⟩,
⟨(some 58), .call 147 [(.t 55), (.t 57)], none⟩])
(.seq (.reg [
⟨(some 59), .mv (.t 13), none⟩,
⟨(some 60), .mv (.t 10), none⟩,
⟨(some 61), .call 147 [(.t 59), (.t 60)], none⟩])
(.seq (.reg [
⟨(some 62), .mv (.t 14), none⟩,
⟨(some 63), .mv (.t 10), none⟩,
⟨(some 64), .call 147 [(.t 62), (.t 63)], none⟩])
(.seq (.seq (.reg [
⟨(some 65), .call 148 [(.t 11)], none⟩,
⟨(some 66), .un .not (.t 65), none⟩])
(.cond (.t 66)
(.seq (.reg [
⟨none, .st 1 (.t 6) (.c (.i .i64 50)), none⟩])
.ret)
.skip))
(.reg [
⟨(some 67), .ld false 1 (.t 8), none⟩,
⟨(some 68), .mv (.t 9), none⟩,
⟨(some 69), .ld true 11 (.t 11), none⟩,
⟨none, .mu .str (.t 67) (.t 68) (.t 69), none⟩])))))))))))
(.seq (.seq (.reg [
⟨(some 70), .ld false 1 (.t 8), none⟩,
⟨(some 71), .len 2 (.t 70), none⟩,
⟨(some 72), .bin .gtr .no (.t 71) (.c (.i .i64 64)), none⟩])
(.cond (.t 72)
(.seq (.reg [
⟨none, .st 1 (.t 6) (.c (.i .i64 2)), none⟩])
.ret)
.skip))
(.seq (.reg [
⟨(some 73), .mv (.t 0), none⟩,
⟨(some 74), .ld false 1 (.t 8), none⟩,
⟨(some 75), .nck (.t 73), none⟩,
⟨(some 76), .fa 0 (.t 75), none⟩,
⟨none, .st 1 (.t 76) (.t 74), none⟩])
(.seq (.reg [
⟨none, .st 1 (.t 6) (.c (.i .i64 0)), none⟩])
.ret))))))))⟩
def f85 : AF := ⟨29, [], (.seq (.reg [
⟨(some 3), .box 4 (.t 1), none⟩])
(.seq (.seq (.reg [
⟨(some 4), .fa 1 (.t 3), none⟩,
⟨(some 5), .ld false 1 (.t 4), none⟩,
⟨(some 6), .len 1 (.t 5), none⟩,
⟨(some 7), .fa 2 (.t 3), none⟩,
⟨(some 8), .ld false 1 (.t 7), none⟩,
⟨(some 9), .len 1 (.t 8), none⟩,
⟨(some 10), .bin .add .no (.t 6) (.t 9), none⟩,
⟨(some 11), .fa 3 (.t 3), none⟩,
⟨(some 12), .ld false 1 (.t 11), none⟩,
⟨(some 13), .len 1 (.t 12), none⟩,
⟨(some 14), .bin .add .no (.t 10) (.t 13), none⟩,
⟨(some 15), .bin .eql .int (.t 14) (.c (.i .i64 0)), none⟩])
(.cond (.t 15)
(.seq (.drw [
.op ⟨(some 16), .mv (.t 0), none⟩,
.op ⟨(some 17), .nck (.t 16), none⟩,
.op ⟨(some 18), .fa 1 (.t 17), none⟩,
.op ⟨(some 19), .ld false 1 (.t 18), none⟩,
.op ⟨(some 20), .fa 0 (.t 3), none⟩,
.op ⟨(some 21), .ld false 1 (.t 20), none⟩,
.op ⟨none, .del .int (.t 19) (.t 21), none⟩])
.ret)
.skip))
(.drw [
.op ⟨(some 22), .mv (.t 0), none⟩,
.op ⟨(some 23), .nck (.t 22), none⟩,
.op ⟨(some 24), .fa 1 (.t 23), none⟩,
.op ⟨(some 25), .ld false 1 (.t 24), none⟩,
.op ⟨(some 26), .fa 0 (.t 3), none⟩,
.op ⟨(some 27), .ld false 1 (.t 26), none⟩,
.op ⟨(some 28), .ld true 4 (.t 3), none⟩,
.op ⟨none, .mu .int (.t 25) (.t 27) (.t 28), none⟩])))⟩
def f86 : AF := ⟨72, [.t 8, .t 9], (.seq (.reg [
⟨(some 8), .mv (.c .nsl), none⟩,
⟨(some 9), .mv (.c (.i .i64 0)), none⟩])
(.seq (.seq (.reg [
⟨(some 17), .mv (.t 0), none⟩,
⟨(some 18), .mv (.t 1), none⟩,
⟨(some 19), .call 81 [(.t 17), (.t 18)], none⟩,
⟨(some 10), .mv (.t 19), none⟩])
(.seq (.reg [
⟨(some 20), .mv (.t 10), none⟩,
⟨(some 21), .bin .neq .int (.t 20) (.c (.i .i64 0)), none⟩])
(.cond (.t 21)
(.seq (.reg [
⟨(some 22), .mv (.t 10), none⟩,
⟨(some 8), .mv (.c .nsl), none⟩,
⟨(some 9), .mv (.t 22), none⟩])
.ret)
.skip)))
(.seq (.reg [
⟨(some 23), .mv (.t 0), none⟩,
⟨(some 24), .mv (.t 1), none⟩,
⟨(some 25), .call 74 [(.t 23), (.t 24)], none⟩,
⟨(some 11), .alloc [(.i .i64 0), .nsl, .nsl, .nsl], none⟩,
⟨none, .st 4 (.t 11) (.t 25), none⟩])
(.seq (.reg [
⟨(some 27), .mv (.t 3), none⟩,
⟨(some 28), .cald (.t 27) [(.t 11)], none⟩,
⟨(some 26), .mv (.t 28), none⟩,
⟨(some 29), .xt (.t 26) 0, none⟩,
⟨(some 30), .xt (.t 26) 1, none⟩,
⟨(some 12), .mv (.t 29), none⟩,
⟨(some 13), .mv (.t 30), none⟩])
(.seq (.reg [
⟨(some 31), .mv (.t 12), none⟩,
⟨(some 32), .nck (.t 31), none⟩,
⟨(some 33), .ld false 1 (.t 32), none⟩,
⟨(some 14), .mv (.t 33), none⟩])
(.seq (.seq (.reg [
⟨(some 34), .mv (.t 14), none⟩,
⟨(some 35), .len 1 (.t 34), none⟩,
⟨(some 36), .bin .eql .int (.t 35) (.c (.i .i64 0)), none⟩])
(.cond (.t 36)
(.seq (.reg [
⟨(some 8), .mv (.c .nsl), none⟩,
⟨(some 9), .mv (.c (.i .i64 4)), none⟩])
.ret)
.skip))
(.seq (.reg [
⟨(some 37), .mv (.t 14), none⟩,
⟨(some 15), .mv (.t 37), none⟩,
⟨(some 16), .mv (.c (.i .i64 0)), none⟩])
(.seq (.seq (.reg [
⟨(some 38), .mv (.t 13), none⟩,
⟨(some 39), .bin .neq .ptr (.t 38) (.c .np), none⟩])
(.cond (.t 39)
(.reg [
⟨(some 41), .mv (.t 13), none⟩,
⟨(some 42), .nck (.t 41), none⟩,
⟨(some 43), .ld false 1 (.t 42), none⟩,
⟨(some 44), .mv (.t 14), none⟩,
⟨(some 45), .call 83 [(.t 43), (.t 44)], none⟩,
⟨(some 40), .mv (.t 45), none⟩,
⟨(some 46), .xt (.t 40) 0, none⟩,
⟨(some 47), .xt (.t 40) 1, none⟩,
⟨(some 15), .mv (.t 46), none⟩,
⟨(some 16), .mv (.t 47), none⟩])
.skip))
(.seq (.seq (.reg [
⟨(some 48), .mv (.t 16), none⟩,
⟨(some 49), .bin .eql .int (.t 48) (.c (.i .i64 0)), none⟩])
(.cond (.t 49)
(.reg [
⟨(some 50), .mv (.t 0), none⟩,
⟨(some 51), .nck (.t 50), none⟩,
⟨(some 52), .fa 0 (.t 51), none⟩,
⟨(some 53), .ld false 1 (.t 52), none⟩,
⟨(some 54), .mv (.t 2), none⟩,
⟨(some 55), .mv (.t 14), none⟩,
⟨(some 56), .call 84 [(.t 53), (.t 54), (.t 55)], none⟩,
⟨(some 16), .mv (.t 56), none⟩])
.skip))
(.seq (.seq (.reg [
⟨(some 57), .mv (.t 16), none⟩,
⟨(some 58), .bin .neq .int (.t 57) (.c (.i .i64 0)), none⟩])
(.cond (.t 58)
(.seq (.reg [
⟨(some 59), .mv (.t 16), none⟩,
⟨(some 8), .mv (.c .nsl), none⟩,
⟨(some 9), .mv (.t 59), none⟩])
.ret)
.skip))
(.seq (.reg [
⟨(some 60), .mv (.t 12), none⟩,
⟨(some 61), .nck (.t 60), none⟩,
⟨none, .st 1 (.t 61) (.c .nsl), none⟩])
(.seq (.seq (.reg [
⟨(some 62), .mv (.t 13), none⟩,
⟨(some 63), .bin .neq .ptr (.t 62) (.c .np), none⟩])
(.cond (.t 63)
(.reg [
⟨(some 64), .mv (.t 13), none⟩,
⟨(some 65), .mv (.t 15), none⟩,
⟨(some 66), .nck (.t 64), none⟩,
⟨none, .st 1 (.t 66) (.t 65), none⟩])
.skip))
(.seq (.reg [
⟨(some 67), .mv (.t 0), none⟩,
⟨(some 68), .ld true 4 (.t 11), none⟩,
⟨(some 69), .call 85 [(.t 67), (.t 68)], none⟩])
(.seq (.reg [
⟨(some 70), .mv (.t 14), none⟩,
⟨(some 71), .call 48 [(.t 70)], none⟩,
⟨(some 8), .mv (.t 71), none⟩,
⟨(some 9), .mv (.c (.i .i64 0)), none⟩])
.ret))))))))))))))⟩
def f87 : AF := ⟨7, [.t 2, .t 3], (.seq (.reg [
⟨(some 2), .mv (.c .np), none⟩,
⟨(some 3), .mv (.c .np), none⟩])
(.seq (.reg [
⟨(some 4), .mv (.t 0), none⟩,
⟨(some 5), .nck (.t 4), none⟩,
⟨(some 6), .fa 1 (.t 5), none⟩,
⟨(some 2), .mv (.t 6), none⟩,
⟨(some 3), .mv (.c .np), none⟩])
.ret))⟩
def f88 : AF := ⟨10, [.t 2, .t 3], (.seq (.reg [
⟨(some 2), .mv (.c .np), none⟩,
⟨(some 3), .mv (.c .np), none⟩])
(.seq (.drw [
.op ⟨(some 4), .mv (.t 0), none⟩,
.op ⟨(some 5), .nck (.t 4), none⟩,
.op ⟨(some 6), .fa 1 (.t 5), none⟩,
.op ⟨(some 7), .mv (.t 0), none⟩,
.op ⟨(some 8), .nck (.t 7), none⟩,
.op ⟨(some 9), .fa 2 (.t 8), none⟩,
.op ⟨(some 2), .mv (.t 6), none⟩,
.op ⟨(some 3), .mv (.t 9), none⟩])
.ret))⟩
def f89 : AF := ⟨10, [.t 2, .t 3], (.seq (.reg [
⟨(some 2), .mv (.c .np), none⟩,
⟨(some 3), .mv (.c .np), none⟩])
(.seq (.drw [
.op ⟨(some 4), .mv (.t 0), none⟩,
.op ⟨(some 5), .nck (.t 4), none⟩,
.op ⟨(some 6), .fa 2 (.t 5), none⟩,
.op ⟨(some 7), .mv (.t 0), none⟩,
.op ⟨(some 8), .nck (.t 7), none⟩,
.op ⟨(some 9), .fa 3 (.t 8), none⟩,
.op ⟨(some 2), .mv (.t 6), none⟩,
.op ⟨(some 3), .mv (.t 9), none⟩])
.ret))⟩
def f90 : AF := ⟨4, [.t 2], (.seq (.reg [
⟨(some 1), .box 1 (.t 0), none⟩,
⟨(some 2), .mv (.c .nf), none⟩])
(.seq (.reg [
⟨(some 3), .mkf 149 [] [(.t 1)], none⟩,
⟨(some 2), .mv (.t 3), none⟩])
.ret))⟩
def f91 : AF := ⟨16, [.c 4 true 4], (.seq (.reg [
⟨(some 4), .alloc [(.i .i64 0), (.i .i64 0), (.i .i64 0), (.i .i64 0)], none⟩])
(.seq (.seq (.reg [
⟨(some 5), .mv (.t 0), none⟩,
⟨(some 6), .call 141 [(.t 5)], none⟩,
⟨(some 7), .un .not (.t 6), none⟩])
(.cond (.t 7)
(.seq (.reg [
⟨(some 8), .build [(.i .i64 0), (.i .i64 0), (.i .i64 0), (.i .i64 0)] [], none⟩,
⟨none, .st 4 (.t 4) (.t 8), none⟩])
.ret)
.skip))
(.seq (.reg [
⟨(some 9), .mv (.t 0), none⟩,
⟨(some 10), .nck (.t 9), none⟩,
⟨(some 11), .fa 0 (.t 10), none⟩,
⟨(some 12), .ld false 1 (.t 11), none⟩,
⟨(some 13), .mv (.t 1), none⟩,
⟨(some 14), .lk .str (.ag [(.i .i64 0), (.i .i64 0), (.i .i64 0), (.i .i64 0), (.i .i64 0), (.i .i64 0), (.i .i64 0), (.i .i64 0), (.i .i64 0), (.i .i64 0), (.i .i64 0)]) false (.t 12) (.t 13), none⟩,
⟨(some 15), .fld 0 4 true (.t 14), none⟩,
⟨none, .st 4 (.t 4) (.t 15), none⟩])
.ret)))⟩
def f92 : AF := ⟨13, [.t 2, .t 3], (.seq (.reg [
⟨(some 2), .mv (.c (.i .i64 0)), none⟩,
⟨(some 3), .mv (.c (.b false)), none⟩])
(.seq (.seq (.reg [
⟨(some 4), .mv (.t 0), none⟩])
(.blk 0 (.seq (.reg [
⟨(some 6), .bin .eql .int (.t 4) (.c (.i .i64 6)), none⟩,
⟨(some 5), .mv (.t 6), none⟩])
(.cond (.t 5)
(.seq (.reg [
⟨(some 2), .mv (.c (.i .i64 1)), none⟩,
⟨(some 3), .mv (.c (.b true)), none⟩])
.ret)
(.seq (.reg [
⟨(some 8), .bin .eql .int (.t 4) (.c (.i .i64 5)), none⟩,
⟨(some 7), .mv (.t 8), none⟩])
(.cond (.t 7)
(.seq (.reg [
⟨(some 2), .mv (.c (.i .i64 7)), none⟩,
⟨(some 3), .mv (.c (.b true)), none⟩])
.ret)
(.seq (.reg [
⟨(some 10), .bin .eql .int (.t 4) (.c (.i .i64 8)), none⟩,
⟨(some 9), .mv (.t 10), none⟩])
(.cond (.t 9)
(.seq (.reg [
⟨(some 2), .mv (.c (.i .i64 8)), none⟩,
⟨(some 3), .mv (.c (.b true)), none⟩])
.ret)
(.seq (.reg [
⟨(some 12), .bin .eql .int (.t 4) (.c (.i .i64 9)), none⟩,
⟨(some 11), .mv (.t 12), none⟩])
(.cond (.t 11)
(.seq (.reg [
⟨(some 2), .mv (.c (.i .i64 9)), none⟩,
⟨(some 3), .mv (.c (.b true)), none⟩])
.ret)
.skip))))))))))
(.seq (.reg [
⟨(some 2), .mv (.c (.i .i64 0)), none⟩,
⟨(some 3), .mv (.c (.b false)), none⟩])
.ret)))⟩
def f93 : AF := ⟨25, [.t 6], (.seq (.reg [
⟨(some 6), .mv (.c (.i .i64 0)), none⟩])
(.seq (.seq (.reg [
⟨(some 7), .mv (.t 0), none⟩,
⟨(some 8), .call 69 [(.t 7)], none⟩,
⟨(some 9), .un .not (.t 8), none⟩])
(.cond (.t 9)
(.seq (.reg [
⟨(some 6), .mv (.c (.i .i64 6)), none⟩])
.ret)
.skip))
(.seq (.seq (.reg [
⟨(some 10), .mv (.t 1), none⟩])
(.blk 0 (.seq (.seq (.reg [
⟨(some 12), .bin .eql .int (.t 10) (.c (.i .i64 1)), none⟩,
⟨(some 11), .mv (.t 12), none⟩])
(.cond (.t 11)
.skip
(.seq (.reg [
⟨(some 13), .bin .eql .int (.t 10) (.c (.i .i64 7)), none⟩,
⟨(some 11), .mv (.t 13), none⟩])
(.cond (.t 11)
.skip
(.seq (.reg [
⟨(some 14), .bin .eql .int (.t 10) (.c (.i .i64 8)), none⟩,
⟨(some 11), .mv (.t 14), none⟩])
(.cond (.t 11)
.skip
(.seq (.reg [
⟨(some 15), .bin .eql .int (.t 10) (.c (.i .i64 9)), none⟩,
⟨(some 11), .mv (.t 15), none⟩])
(.cond (.t 11)
.skip
(.seq (.reg [
⟨(some 16), .bin .eql .int (.t 10) (.c (.i .i64 10)), none⟩,
⟨(some 11), .mv (.t 16), none⟩])
(.cond (.t 11)
.skip
(.reg [
⟨(some 17), .bin .eql .int (.t 10) (.c (.i .i64 11)), none⟩,
⟨(some 11), .mv (.t 17), none⟩])))))))))))
(.cond (.t 11)
(.seq (.reg [
⟨(some 18), .mv (.t 0), none⟩,
⟨(some 19), .nck (.t 18), none⟩,
⟨(some 20), .fa 0 (.t 19), none⟩,
⟨(some 21), .ld false 1 (.t 20), none⟩,
⟨(some 22), .mv (.t 1), none⟩,
⟨(some 23), .mv (.t 2), none⟩,
⟨(some 24), .call 84 [(.t 21), (.t 22), (.t 23)], none⟩,
⟨(some 6), .mv (.t 24), none⟩])
.ret)
.skip))))
(.seq (.reg [
⟨(some 6), .mv (.c (.i .i64 1)), none⟩])
.ret))))⟩
def f94 : AF := ⟨20, [.t 6, .t 7], (.seq (.reg [
⟨(some 6), .mv (.c (.i .i64 0)), none⟩,
⟨(some 7), .mv (.c (.i .i64 0)), none⟩])
(.seq (.seq (.reg [
⟨(some 8), .mv (.t 0), none⟩,
⟨(some 9), .call 69 [(.t 8)], none⟩,
⟨(some 10), .un .not (.t 9), none⟩])
(.cond (.t 10)
(.seq (.reg [
⟨(some 6), .mv (.c (.i .i64 0)), none⟩,
⟨(some 7), .mv (.c (.i .i64 6)), none⟩])
.ret)
.skip))
(.seq (.reg [
⟨(some 11), .mv (.t 0), none⟩,
⟨(some 12), .nck (.t 11), none⟩,
⟨(some 13), .fa 0 (.t 12), none⟩,
⟨(some 14), .ld false 1 (.t 13), none⟩,
⟨(some 15), .mv (.t 1), none⟩,
⟨(some 16), .mv (.t 2), none⟩,
⟨(some 17), .call 152 [(.t 14), (.t 15), (.t 16)], none⟩,
⟨(some 18), .xt (.t 17) 0, none⟩,
⟨(some 19), .xt (.t 17) 1, none⟩,
⟨(some 6), .mv (.t 18), none⟩,
⟨(some 7), .mv (.t 19), none⟩])
.ret)))⟩
def f95 : AF := ⟨62, [.t 4, .t 5], (.seq (.reg [
⟨(some 3), .box 9 (.t 1), none⟩,
⟨(some 4), .mv (.c .nsl), none⟩,
⟨(some 5), .mv (.c (.i .i64 0)), none⟩])
(.seq (.reg [
⟨(some 9), .fa 1 (.t 3), none⟩,
⟨(some 10), .ld false 1 (.t 9), none⟩,
⟨(some 11), .bin .mul .no (.c (.i .i64 64)) (.t 10), none⟩,
⟨(some 12), .fa 0 (.t 3), none⟩,
⟨(some 13), .ld false 1 (.t 12), none⟩,
⟨(some 14), .bin .add .no (.t 11) (.t 13), none⟩,
⟨(some 6), .mv (.t 14), none⟩])
(.seq (.seq (.drw [
.op ⟨(some 15), .mv (.t 0), none⟩,
.op ⟨(some 16), .nck (.t 15), none⟩,
.op ⟨(some 17), .fa 3 (.t 16), none⟩,
.op ⟨(some 18), .ld false 1 (.t 17), none⟩,
.op ⟨(some 19), .mv (.t 6), none⟩,
.op ⟨(some 20), .mv (.t 0), none⟩,
.op ⟨(some 21), .nck (.t 20), none⟩,
.op ⟨(some 22), .fa 0 (.t 21), none⟩,
.op ⟨(some 23), .ld false 1 (.t 22), none⟩,
.op ⟨(some 24), .fa 5 (.t 3), none⟩,
.op ⟨(some 25), .ld false 1 (.t 24), none⟩,
.op ⟨(some 26), .fa 8 (.t 3), none⟩,
.op ⟨(some 27), .ld false 1 (.t 26), none⟩,
.op ⟨(some 28), .call 153 [(.t 18), (.t 19), (.t 23), (.t 25), (.t 27)], none⟩,
.op ⟨(some 7), .mv (.t 28), none⟩])
(.seq (.reg [
⟨(some 29), .mv (.t 7), none⟩,
⟨(some 30), .bin .neq .int (.t 29) (.c (.i .i64 0)), none⟩])
(.cond (.t 30)
(.seq (.reg [
⟨(some 31), .mv (.t 7), none⟩,
⟨(some 4), .mv (.c .nsl), none⟩,
⟨(some 5), .mv (.t 31), none⟩])
.ret)
.skip)))
(.seq (.seq (.drw [
.op ⟨(some 32), .mv (.t 0), none⟩,
.op ⟨(some 33), .nck (.t 32), none⟩,
.op ⟨(some 34), .fa 2 (.t 33), none⟩,
.op ⟨(some 35), .ld false 1 (.t 34), none⟩,
.op ⟨(some 36), .fa 8 (.t 3), none⟩,
.op ⟨(some 37), .ld false 1 (.t 36), none⟩,
.op ⟨(some 38), .call 93 [(.t 35), (.c (.i .i64 10)), (.t 37)], none⟩,
.op ⟨(some 8), .mv (.t 38), none⟩])
(.seq (.reg [
⟨(some 39), .mv (.t 8), none⟩,
⟨(some 40), .bin .neq .int (.t 39) (.c (.i .i64 0)), none⟩])
(.cond (.t 40)
(.seq (.reg [
⟨(some 41), .mv (.t 0), none⟩,
⟨(some 42), .nck (.t 41), none⟩,
⟨(some 43), .fa 3 (.t 42), none⟩,
⟨(some 44), .ld false 1 (.t 43), none⟩,
⟨(some 45), .mv (.t 6), none⟩,
⟨(some 46), .call 154 [(.t 44), (.t 45)], none⟩])
(.seq (.reg [
⟨(some 47), .mv (.t 0), none⟩,
⟨(some 48), .nck (.t 47), none⟩,
⟨(some 49), .fa 3 (.t 48), none⟩,
⟨(some 50), .ld false 1 (.t 49), none⟩,
⟨(some 51), .mv (.t 6), none⟩,
⟨(some 52), .call 155 [(.t 50), (.t 51)], none⟩])
(.seq (.reg [
⟨(some 53), .mv (.t 8), none⟩,
⟨(some 4), .mv (.c .nsl), none⟩,
⟨(some 5), .mv (.t 53), none⟩])
.ret)))
.skip)))
(.seq (.reg [
⟨(some 54), .fa 5 (.t 3), none⟩,
⟨(some 55), .ld false 1 (.t 54), none⟩,
⟨(some 56), .mv (.t 6), none⟩,
⟨(some 57), .fa 8 (.t 3), none⟩,
⟨(some 58), .ld false 1 (.t 57), none⟩,
⟨(some 59), .build [(.i .i64 0), (.i .i64 0), .nsl, (.i .i64 0), (.i .i64 0), (.i .i64 0), (.i .i64 0), (.i .i64 0), (.i .i64 0), (.i .i64 0), (.s []), .nsl, (.i .i64 0), (.i .i64 0), (.i .i64 0), (.i .i64 0)] [(0, 1, (.c (.i .i64 13))), (1, 1, (.t 56)), (2, 1, (.t 58))], none⟩,
⟨(some 60), .build [(.i .i64 0), (.i .i64 0), (.i .i64 0), .nsl, (.i .i64 0), (.i .i64 0), (.i .i64 0), (.i .i64 0), (.i .i64 0), (.i .i64 0), (.i .i64 0), (.s []), .nsl, (.i .i64 0), (.i .i64 0), (.i .i64 0), (.i .i64 0)] [(0, 1, (.t 55)), (1, 16, (.t 59))], none⟩,
⟨(some 61), .bsl 1 [(.i .i64 0), (.i .i64 0), (.i .i64 0), .nsl, (.i .i64 0), (.i .i64 0), (.i .i64 0), (.i .i64 0), (.i .i64 0), (.i .i64 0), (.i .i64 0), (.s []), .nsl, (.i .i64 0), (.i .i64 0), (.i .i64 0), (.i .i64 0)] [(0, 17, (.t 60))], none⟩,
⟨(some 4), .mv (.t 61), none⟩,
⟨(some 5), .mv (.c (.i .i64 0)), none⟩])
.ret)))))⟩
def f96 : AF := ⟨13, [.t 2], (.seq (.reg [
⟨(some 2), .mv (.c .np), none⟩])
(.seq (.seq (.reg [
⟨(some 3), .mv (.t 0), none⟩,
⟨(some 4), .call 141 [(.t 3)], none⟩,
⟨(some 5), .un .not (.t 4), none⟩])
(.cond (.t 5)
(.seq (.reg [
⟨(some 2), .mv (.c .np), none⟩])
.ret)
.skip))
(.seq (.reg [
⟨(some 6), .mv (.t 0), none⟩,
⟨(some 7), .nck (.t 6), none⟩,
⟨(some 8), .fa 0 (.t 7), none⟩,
⟨(some 9), .ld false 1 (.t 8), none⟩,
⟨(some 10), .call 145 [(.t 9)], none⟩,
⟨(some 11), .build [.nm] [(0, 1, (.t 10))], none⟩,
⟨(some 12), .box 1 (.t 11), none⟩,
⟨(some 2), .mv (.t 12), none⟩])
.ret)))⟩
def f97 : AF := ⟨4, [.t 2], (.seq (.reg [
⟨(some 1), .box 1 (.t 0), none⟩,
⟨(some 2), .mv (.c .nf), none⟩])
(.seq (.reg [
⟨(some 3), .mkf 156 [] [(.t 1)], none⟩,
⟨(some 2), .mv (.t 3), none⟩])
.ret))⟩
def f98 : AF := ⟨3, [.t 0], (.seq (.reg [
⟨(some 0), .mv (.c .np), none⟩])
(.seq (.reg [
⟨(some 1), .build [.nsl, (.b false)] [], none⟩,
⟨(some 2), .box 2 (.t 1), none⟩,
⟨(some 0), .mv (.t 2), none⟩])
.ret))⟩
def f99 : AF := ⟨13, [.t 4], (.seq (.reg [
⟨(some 4), .mv (.c .np), none⟩])
(.seq (.reg [
⟨(some 5), .mv (.t 0), none⟩,
⟨(some 6), .mv (.t 1), none⟩,
⟨(some 7), .len 0 (.t 6), none⟩,
⟨(some 8), .call 158 [(.t 7)], none⟩,
⟨(some 9), .mv (.t 1), none⟩,
⟨(some 10), .cvsb (.t 9), none⟩,
⟨(some 11), .bsl 2 [.nsl] [(0, 1, (.t 8)), (1, 1, (.t 10))], none⟩,
⟨(some 12), .call 157 [(.t 5), (.t 11)], none⟩,
⟨(some 4), .mv (.t 12), none⟩])
.ret))⟩
def f100 : AF := ⟨48, [.t 2], (.seq (.reg [
⟨(some 1), .box 1 (.t 0), none⟩,
⟨(some 2), .mv (.c .nsl), none⟩])
(.seq (.seq (.reg [
⟨(some 10), .ld false 1 (.t 1), none⟩,
⟨(some 11), .call 141 [(.t 10)], none⟩,
⟨(some 12), .un .not (.t 11), none⟩])
(.cond (.t 12)
(.seq (.reg [
⟨(some 2), .mv (.c .nsl), none⟩])
.ret)
.skip))
(.seq (.drw [
.op ⟨(some 14), .ld false 1 (.t 1), none⟩,
.op ⟨(some 15), .nck (.t 14), none⟩,
.op ⟨(some 16), .fa 0 (.t 15), none⟩,
.op ⟨(some 17), .ld false 1 (.t 16), none⟩,
.op ⟨(some 13), .call 98 [], none⟩,
.chk ⟨(some 14), .ld false 1 (.t 1), none⟩,
.chk ⟨(some 17), .ld false 1 (.t 16), none⟩,
.op ⟨(some 18), .len 2 (.t 17), none⟩,
.op ⟨(some 19), .call 101 [(.t 13), (.t 18)], none⟩,
.fl ⟨(some 3), .alloc [.np], none⟩,
.chk ⟨(some 14), .ld false 1 (.t 1), none⟩,
.chk ⟨(some 17), .ld false 1 (.t 16), none⟩,
.chk ⟨(some 18), .len 2 (.t 17), none⟩,
.op ⟨none, .st 1 (.t 3) (.t 19), none⟩])
(.seq (.seq (.reg [
⟨(some 20), .ld false 1 (.t 1), none⟩,
⟨(some 21), .call 90 [(.t 20)], none⟩])
(.blk 0 (.rf (.t 21) [22] (.reg [
⟨(some 4), .mv (.t 22), none⟩])
(.blk 1 (.seq (.reg [
⟨(some 23), .ld false 1 (.t 1), none⟩,
⟨(some 24), .nck (.t 23), none⟩,
⟨(some 25), .fa 0 (.t 24), none⟩,
⟨(some 26), .ld false 1 (.t 25), none⟩,
⟨(some 27), .mv (.t 4), none⟩,
⟨(some 28), .lk .str (.ag [(.i .i64 0), (.i .i64 0), (.i .i64 0), (.i .i64 0), (.i .i64 0), (.i .i64 0), (.i .i64 0), (.i .i64 0), (.i .i64 0), (.i .i64 0), (.i .i64 0)]) false (.t 26) (.t 27), none⟩,
⟨(some 5), .alloc [(.i .i64 0), (.i .i64 0), (.i .i64 0), (.i .i64 0), (.i .i64 0), (.i .i64 0), (.i .i64 0), (.i .i64 0), (.i .i64 0), (.i .i64 0), (.i .i64 0)], none⟩,
⟨none, .st 11 (.t 5) (.t 28), none⟩])
(.seq (.reg [
⟨(some 29), .ld false 1 (.t 3), none⟩,
⟨(some 30), .mv (.t 4), none⟩,
⟨(some 31), .call 99 [(.t 29), (.t 30)], none⟩])
(.seq (.reg [
⟨(some 32), .call 159 [(.t 5)], none⟩,
⟨(some 33), .mv (.c (.i .i64 0)), none⟩])
(.blk 2 (.loop (.seq (.reg [
⟨(some 34), .bin .lss .no (.t 33) (.c (.i .i64 11)), none⟩])
(.seq (.cond (.t 34)
.skip
(.exit 2))
(.seq (.blk 3 (.seq (.reg [
⟨(some 35), .ixA 11 1 false (.t 32) (.t 33), none⟩,
⟨(some 7), .mv (.t 35), none⟩])
(.drw [
.op ⟨(some 36), .ld false 1 (.t 3), none⟩,
.op ⟨(some 37), .mv (.t 7), none⟩,
.op ⟨(some 38), .nck (.t 37), none⟩,
.op ⟨(some 39), .ld false 1 (.t 38), none⟩,
.op ⟨(some 40), .call 101 [(.t 36), (.t 39)], none⟩])))
(.reg [
⟨(some 41), .bin .add .no (.t 33) (.c (.i .i64 1)), none⟩,
⟨(some 33), .mv (.t 41), none⟩])))))))))))))
(.seq (.reg [
⟨(some 43), .ld false 1 (.t 3), none⟩,
⟨(some 44), .call 103 [(.t 43)], none⟩,
⟨(some 42), .mv (.t 44), none⟩,
⟨(some 45), .xt (.t 42) 0, none⟩,
⟨(some 46), .xt (.t 42) 1, none⟩,
⟨(some 8), .mv (.t 45), none⟩,
⟨(some 9), .mv (.t 46), none⟩])
(.seq (.reg [
⟨(some 47), .mv (.t 8), none⟩,
⟨(some 2), .mv (.t 47), none⟩])
.ret))))))⟩
def f101 : AF := ⟨10, [.t 4], (.seq (.reg [
⟨(some 4), .mv (.c .np), none⟩])
(.seq (.reg [
⟨(some 5), .mv (.t 0), none⟩,
⟨(some 6), .mv (.t 1), none⟩,
⟨(some 7), .call 158 [(.t 6)], none⟩,
⟨(some 8), .bsl 1 [.nsl] [(0, 1, (.t 7))], none⟩,
⟨(some 9), .call 157 [(.t 5), (.t 8)], none⟩,
⟨(some 4), .mv (.t 9), none⟩])
.ret))⟩
def f102 : AF := ⟨19, [], (.seq (.reg [
⟨(some 2), .box 1 (.t 0), none⟩])
(.seq (.reg [
⟨(some 6), .ld false 1 (.t 2), none⟩,
⟨(some 7), .mv (.t 1), none⟩,
⟨(some 8), .len 1 (.t 7), none⟩,
⟨(some 9), .call 101 [(.t 6), (.t 8)], none⟩])
(.seq (.reg [
⟨(some 10), .mv (.t 1), none⟩,
⟨(some 11), .call 97 [(.t 10)], none⟩])
(.blk 0 (.rf (.t 11) [12, 13] (.seq (.reg [
⟨(some 4), .mv (.t 12), none⟩])
(.reg [
⟨(some 5), .mv (.t 13), none⟩]))
(.blk 1 (.reg [
⟨(some 14), .ld false 1 (.t 2), none⟩,
⟨(some 15), .mv (.t 4), none⟩,
⟨(some 16), .call 99 [(.t 14), (.t 15)], none⟩,
⟨(some 17), .mv (.t 5), none⟩,
⟨(some 18), .call 101 [(.t 16), (.t 17)], none⟩])))))))⟩
def f103 : AF := ⟨17, [.t 2, .t 3], (.seq (.reg [
⟨(some 2), .mv (.c .nsl), none⟩,
⟨(some 3), .mv (.c (.i .i64 0)), none⟩])
(.seq (.blk 0 (.seq (.reg [
⟨(some 5), .mv (.t 0), none⟩,
⟨(some 6), .bin .eql .ptr (.t 5) (.c .np), none⟩,
⟨(some 4), .mv (.t 6), none⟩])
(.cond (.t 4)
(.seq (.reg [
⟨(some 2), .mv (.c .nsl), none⟩,
⟨(some 3), .mv (.c (.i .i64 6)), none⟩])
.ret)
(.seq (.reg [
⟨(some 8), .mv (.t 0), none⟩,
⟨(some 9), .nck (.t 8), none⟩,
⟨(some 10), .fa 1 (.t 9), none⟩,
⟨(some 11), .ld false 1 (.t 10), none⟩,
⟨(some 7), .mv (.t 11), none⟩])
(.cond (.t 7)
(.seq (.reg [
⟨(some 2), .mv (.c .nsl), none⟩,
⟨(some 3), .mv (.c (.i .i64 3)), none⟩])
.ret)
.skip)))))
(.seq (.reg [
⟨(some 12), .mv (.t 0), none⟩,
⟨(some 13), .nck (.t 12), none⟩,
⟨(some 14), .fa 0 (.t 13), none⟩,
⟨(some 15), .ld false 1 (.t 14), none⟩,
⟨(some 16), .call 160 [(.t 15)], none⟩,
⟨(some 2), .mv (.t 16), none⟩,
⟨(some 3), .mv (.c (.i .i64 0)), none⟩])
.ret)))⟩
def f104 : AF := ⟨5, [.t 2], (.seq (.reg [
⟨(some 2), .mv (.c .nsl), none⟩])
(.seq (.reg [
⟨(some 3), .mv (.t 0), none⟩,
⟨(some 4), .call 161 [(.c .nsl), (.t 3)], none⟩,
⟨(some 2), .mv (.t 4), none⟩])
.ret))⟩
def f105 : AF := ⟨11, [], (.seq (.reg [
⟨(some 3), .mv (.t 0), none⟩,
⟨(some 4), .len 1 (.t 3), none⟩,
⟨(some 2), .mv (.t 4), none⟩])
(.reg [
⟨(some 5), .mv (.t 0), none⟩,
⟨(some 6), .mv (.t 2), none⟩,
⟨(some 7), .mv (.t 2), none⟩,
⟨(some 8), .cvi .u64 (.t 7), none⟩,
⟨(some 9), .call 163 [(.t 8)], none⟩,
⟨(some 10), .call 162 [(.t 5), (.c (.i .i64 0)), (.t 6), (.t 9)], none⟩]))⟩
def f109 : AF := ⟨22, [.t 2], (.seq (.reg [
⟨(some 2), .mv (.c (.s [])), none⟩])
(.seq (.seq (.reg [
⟨(some 3), .mv (.t 0), none⟩])
(.blk 0 (.seq (.reg [
⟨(some 5), .bin .eql .int (.t 3) (.c (.i .i64 1)), none⟩,
⟨(some 4), .mv (.t 5), none⟩])
(.cond (.t 4)
(.seq (.reg [
⟨(some 2), .mv (.c (.s [110, 105])), none⟩])
.ret)
(.seq (.seq (.reg [
⟨(some 7), .bin .eql .int (.t 3) (.c (.i .i64 2)), none⟩,
⟨(some 6), .mv (.t 7), none⟩])
(.cond (.t 6)
.skip
(.seq (.reg [
⟨(some 8), .bin .eql .int (.t 3) (.c (.i .i64 3)), none⟩,
⟨(some 6), .mv (.t 8), none⟩])
(.cond (.t 6)
.skip
(.reg [
⟨(some 9), .bin .eql .int (.t 3) (.c (.i .i64 4)), none⟩,
⟨(some 6), .mv (.t 9), none⟩])))))
(.cond (.t 6)
(.seq (.reg [
⟨(some 2), .mv (.c (.s [111])), none⟩])
.ret)
(.seq (.reg [
⟨(some 11), .bin .eql .int (.t 3) (.c (.i .i64 5)), none⟩,
⟨(some 10), .mv (.t 11), none⟩])
(.cond (.t 10)
(.seq (.reg [
⟨(some 2), .mv (.c (.s [111, 114, 105])), none⟩])
.ret)
(.seq (.seq (.reg [
⟨(some 13), .bin .eql .int (.t 3) (.c (.i .i64 6)), none⟩,
⟨(some 12), .mv (.t 13), none⟩])
(.cond (.t 12)
.skip
(.seq (.reg [
⟨(some 14), .bin .eql .int (.t 3) (.c (.i .i64 8)), none⟩,
⟨(some 12), .mv (.t 14), none⟩])
(.cond (.t 12)
.skip
(.reg [
⟨(some 15), .bin .eql .int (.t 3) (.c (.i .i64 9)), none⟩,
⟨(some 12), .mv (.t 15), none⟩])))))
(.cond (.t 12)
(.seq (.reg [
⟨(some 2), .mv (.c (.s [114, 105])), none⟩])
.ret)
(.seq (.reg [
⟨(some 17), .bin .eql .int (.t 3) (.c (.i .i64 7)), none⟩,
⟨(some 16), .mv (.t 17), none⟩])
(.cond (.t 16)
(.seq (.reg [
⟨(some 2), .mv (.c (.s [114, 110, 103])), none⟩])
.ret)
(.seq (.reg [
⟨(some 19), .bin .eql .int (.t 3) (.c (.i .i64 10)), none⟩,
⟨(some 18), .mv (.t 19), none⟩])
(.cond (.t 18)
(.seq (.reg [
⟨(some 2), .mv (.c (.s [114, 116, 105])), none⟩])
.ret)
(.seq (.reg [
⟨(some 21), .bin .eql .int (.t 3) (.c (.i .i64 11)), none⟩,
⟨(some 20), .mv (.t 21), none⟩])
(.cond (.t 20)
(.seq (.reg [
⟨(some 2), .mv (.c (.s [110])), none⟩])
.ret)
.skip))))))))))))))))
(.seq (.reg [
⟨(some 2), .mv (.c (.s [])), none⟩])
.ret)))⟩
def f110 : AF := ⟨13, [.t 7], (.seq (.reg [
⟨(some 7), .mv (.c (.b false)), none⟩])
(.seq (.seq (.reg [
⟨(some 8), .ld false 1 (.t 3), none⟩,
⟨(some 9), .mv (.t 0), none⟩,
⟨(some 10), .call 77 [(.t 8), (.t 9)], none⟩])
(.cond (.t 10)
(.seq (.reg [
⟨(some 11), .mv (.t 1), none⟩,
⟨(some 7), .mv (.t 11), none⟩])
.ret)
.skip))
(.seq (.reg [
⟨(some 12), .mv (.t 2), none⟩,
⟨(some 7), .mv (.t 12), none⟩])
.ret)))⟩
def f111 : AF := ⟨5, [.t 2], (.seq (.reg [
⟨(some 2), .mv (.c (.b false)), none⟩])
(.seq (.reg [
⟨(some 3), .mv (.t 0), none⟩,
⟨(some 4), .call 112 [(.t 3), (.c (.i .i64 0)), (.c (.i .i64 7))], none⟩,
⟨(some 2), .mv (.t 4), none⟩])
.ret))⟩
def f112 : AF := ⟨15, [.t 6], (.seq (.reg [
⟨(some 6), .mv (.c (.b false)), none⟩])
(.seq (.reg [
⟨(some 7), .mv (.t 0), none⟩,
⟨(some 8), .mv (.t 1), none⟩,
⟨(some 9), .bin .geq .no (.t 7) (.t 8), none⟩,
⟨(some 10), .mv (.t 9), none⟩,
⟨(some 11), .mv (.t 0), (some (10, true))⟩,
⟨(some 12), .mv (.t 2), (some (10, true))⟩,
⟨(some 13), .bin .leq .no (.t 11) (.t 12), (some (10, true))⟩,
⟨(some 14), .pick (.t 10) (.t 13) (.c (.b false)), none⟩,
⟨(some 6), .mv (.t 14), none⟩])
.ret))⟩
def f113 : AF := ⟨35, [.t 2], (.seq (.reg [
⟨(some 2), .mv (.c (.b false)), none⟩])
(.seq (.seq (.reg [
⟨(some 5), .mv (.t 0), none⟩,
⟨(some 6), .rng true (.t 5), none⟩])
(.blk 0 (.loop (.seq (.reg [
⟨(some 7), .nxt true (.t 6), none⟩,
⟨(some 8), .xt (.t 7) 0, none⟩])
(.seq (.cond (.t 8)
.skip
(.exit 0))
(.blk 1 (.seq (.reg [
⟨(some 9), .xt (.t 7) 2, none⟩,
⟨(some 4), .mv (.t 9), none⟩])
(.seq (.reg [
⟨(some 10), .mv (.t 4), none⟩,
⟨(some 11), .bin .lss .no (.t 10) (.c (.i .i32 97)), none⟩,
⟨(some 12), .mv (.t 11), none⟩,
⟨(some 13), .mv (.t 4), (some (12, false))⟩,
⟨(some 14), .bin .gtr .no (.t 13) (.c (.i .i32 122)), (some (12, false))⟩,
⟨(some 15), .pick (.t 12) (.c (.b true)) (.t 14), none⟩,
⟨(some 16), .mv (.t 15), none⟩,
⟨(some 17), .mv (.t 4), (some (16, true))⟩,
⟨(some 18), .bin .lss .no (.t 17) (.c (.i .i32 48)), (some (16, true))⟩,
⟨(some 19), .mv (.t 18), (some (16, true))⟩,
⟨(some 20), .mv (.t 4), (some (19, false))⟩,
⟨(some 21), .bin .gtr .no (.t 20) (.c (.i .i32 57)), (some (19, false))⟩,
⟨(some 22), .pick (.t 19) (.c (.b true)) (.t 21), (some (16, true))⟩,
⟨(some 23), .pick (.t 16) (.t 22) (.c (.b false)), none⟩,
⟨(some 24), .mv (.t 23), none⟩,
⟨(some 25), .mv (.t 4), (some (24, true))⟩,
⟨(some 26), .bin .neq .int (.t 25) (.c (.i .i32 45)), (some (24, true))⟩,
⟨(some 27), .pick (.t 24) (.t 26) (.c (.b false)), none⟩])
(.cond (.t 27)
(.seq (.reg [
⟨(some 2), .mv (.c (.b false)), none⟩])
.ret)
.skip)))))))))
(.seq (.reg [
⟨(some 28), .mv (.t 0), none⟩,
⟨(some 29), .bin .neq .str (.t 28) (.c (.s [])), none⟩,
⟨(some 30), .mv (.t 29), none⟩,
⟨(some 31), .mv (.t 0), (some (30, true))⟩,
⟨(some 32), .len 0 (.t 31), (some (30, true))⟩,
⟨(some 33), .bin .leq .no (.t 32) (.c (.i .i64 16)), (some (30, true))⟩,
⟨(some 34), .pick (.t 30) (.t 33) (.c (.b false)), none⟩,
⟨(some 2), .mv (.t 34), none⟩])
.ret)))⟩
def f114 : AF := ⟨23, [.t 2], (.seq (.reg [
⟨(some 1), .box 9 (.t 0), none⟩,
⟨(some 2), .mv (.c (.b false)), none⟩])
(.seq (.seq (.reg [
⟨(some 3), .fa 2 (.t 1), none⟩,
⟨(some 4), .ld false 1 (.t 3), none⟩])
(.blk 0 (.seq (.reg [
⟨(some 6), .bin .eql .int (.t 4) (.c (.i .i64 1)), none⟩,
⟨(some 5), .mv (.t 6), none⟩])
(.cond (.t 5)
(.seq (.reg [
⟨(some 7), .fa 6 (.t 1), none⟩,
⟨(some 8), .ld false 1 (.t 7), none⟩,
⟨(some 9), .call 112 [(.t 8), (.c (.i .i64 0)), (.c (.i .i64 1))], none⟩,
⟨(some 2), .mv (.t 9), none⟩])
.ret)
(.seq (.reg [
⟨(some 11), .bin .eql .int (.t 4) (.c (.i .i64 7)), none⟩,
⟨(some 10), .mv (.t 11), none⟩])
(.cond (.t 10)
(.seq (.reg [
⟨(some 12), .fa 6 (.t 1), none⟩,
⟨(some 13), .ld false 1 (.t 12), none⟩,
⟨(some 14), .call 139 [(.t 13)], none⟩,
⟨(some 2), .mv (.t 14), none⟩])
.ret)
(.seq (.reg [
⟨(some 16), .bin .eql .int (.t 4) (.c (.i .i64 11)), none⟩,
⟨(some 15), .mv (.t 16), none⟩])
(.cond (.t 15)
(.seq (.reg [
⟨(some 17), .fa 6 (.t 1), none⟩,
⟨(some 18), .ld false 1 (.t 17), none⟩,
⟨(some 19), .call 112 [(.t 18), (.c (.i .i64 1)), (.c (.i .i64 4294967297))], none⟩,
⟨(some 2), .mv (.t 19), none⟩])
.ret)
.skip))))))))
(.seq (.reg [
⟨(some 20), .fa 6 (.t 1), none⟩,
⟨(some 21), .ld false 1 (.t 20), none⟩,
⟨(some 22), .bin .eql .int (.t 21) (.c (.i .i64 0)), none⟩,
⟨(some 2), .mv (.t 22), none⟩])
.ret)))⟩
def f136 : AF := ⟨4, [.t 2], (.seq (.reg [
⟨(some 1), .box 1 (.t 0), none⟩,
⟨(some 2), .mv (.c .nf), none⟩])
(.seq (.reg [
⟨(some 3), .mkf 187 [] [(.t 1)], none⟩,
⟨(some 2), .mv (.t 3), none⟩])
.ret))⟩
def f137 : AF := ⟨4, [.t 0], (.seq (.reg [
⟨(some 0), .mv (.c .np), none⟩])
(.seq (.reg [
⟨(some 1), .mkm, none⟩,
⟨(some 2), .build [.nm] [(0, 1, (.t 1))], none⟩,
⟨(some 3), .box 1 (.t 2), none⟩,
⟨(some 0), .mv (.t 3), none⟩])
.ret))⟩
def f138 : AF := ⟨8, [.t 4], (.seq (.reg [
⟨(some 4), .mv (.c (.i .i64 0)), none⟩])
(.seq (.reg [
⟨(some 5), .mv (.t 0), none⟩,
⟨(some 6), .mv (.t 1), none⟩,
⟨(some 7), .call 188 [(.t 5), (.t 6)], none⟩,
⟨(some 4), .mv (.t 7), none⟩])
.ret))⟩
def f139 : AF := ⟨9, [.t 2], (.seq (.reg [
⟨(some 2), .mv (.c (.b false)), none⟩])
(.seq (.reg [
⟨(some 3), .mv (.t 0), none⟩,
⟨(some 4), .bin .geq .no (.t 3) (.c (.i .i64 0)), none⟩,
⟨(some 5), .mv (.t 4), none⟩,
⟨(some 6), .mv (.t 0), (some (5, true))⟩,
⟨(some 7), .bin .leq .no (.t 6) (.c (.i .i64 1099511627776)), (some (5, true))⟩,
⟨(some 8), .pick (.t 5) (.t 7) (.c (.b false)), none⟩,
⟨(some 2), .mv (.t 8), none⟩])
.ret))⟩
def f140 : AF := ⟨26, [.t 4], (.seq (.reg [
⟨(some 4), .mv (.c (.b false)), none⟩])
(.seq (.seq (.reg [
⟨(some 6), .mv (.t 0), none⟩,
⟨(some 7), .len 1 (.t 6), none⟩,
⟨(some 8), .mv (.t 1), none⟩,
⟨(some 9), .len 1 (.t 8), none⟩,
⟨(some 10), .bin .neq .int (.t 7) (.t 9), none⟩])
(.cond (.t 10)
(.seq (.reg [
⟨(some 4), .mv (.c (.b false)), none⟩])
.ret)
.skip))
(.seq (.seq (.reg [
⟨(some 11), .mv (.t 0), none⟩,
⟨(some 12), .len 1 (.t 11), none⟩,
⟨(some 13), .mv (.c (.i .i64 0)), none⟩])
(.blk 0 (.loop (.seq (.reg [
⟨(some 14), .bin .lss .no (.t 13) (.t 12), none⟩])
(.seq (.cond (.t 14)
.skip
(.exit 0))
(.seq (.blk 1 (.seq (.reg [
⟨(some 15), .mv (.t 13), none⟩,
⟨(some 5), .mv (.t 15), none⟩])
(.seq (.drw [
.op ⟨(some 16), .mv (.t 0), none⟩,
.op ⟨(some 17), .mv (.t 5), none⟩,
.op ⟨(some 18), .iaL 2 (.t 16) (.t 17), none⟩,
.op ⟨(some 19), .ld true 2 (.t 18), none⟩,
.op ⟨(some 20), .mv (.t 1), none⟩,
.op ⟨(some 21), .mv (.t 5), none⟩,
.op ⟨(some 22), .iaL 2 (.t 20) (.t 21), none⟩,
.op ⟨(some 23), .ld true 2 (.t 22), none⟩,
.op ⟨(some 24), .bin .neq (.ag [(0, 1, false, .str), (1, 1, false, .int)]) (.t 19) (.t 23), none⟩])
(.cond (.t 24)
(.seq (.reg [
⟨(some 4), .mv (.c (.b false)), none⟩])
.ret)
.skip))))
(.reg [
⟨(some 25), .bin .add .no (.t 13) (.c (.i .i64 1)), none⟩,
⟨(some 13), .mv (.t 25), none⟩])))))))
(.seq (.reg [
⟨(some 4), .mv (.c (.b true)), none⟩])
.ret))))⟩
def f141 : AF := ⟨12, [.t 2], (.seq (.reg [
⟨(some 2), .mv (.c (.b false)), none⟩])
(.seq (.reg [
⟨(some 3), .mv (.t 0), none⟩,
⟨(some 4), .bin .neq .ptr (.t 3) (.c .np), none⟩,
⟨(some 5), .mv (.t 4), none⟩,
⟨(some 6), .mv (.t 0), (some (5, true))⟩,
⟨(some 7), .nck (.t 6), (some (5, true))⟩,
⟨(some 8), .fa 0 (.t 7), (some (5, true))⟩,
⟨(some 9), .ld false 1 (.t 8), (some (5, true))⟩,
⟨(some 10), .bin .neq .nilm (.t 9) (.c .nm), (some (5, true))⟩,
⟨(some 11), .pick (.t 5) (.t 10) (.c (.b false)), none⟩,
⟨(some 2), .mv (.t 11), none⟩])
.ret))⟩
def f142 : AF := ⟨42, [.t 2, .t 3], (.seq (.reg [
⟨(some 2), .mv (.c .nsl), none⟩,
⟨(some 3), .mv (.c (.i .i64 0)), none⟩])
(.seq (.reg [
⟨(some 11), .mv (.t 0), none⟩,
⟨(some 12), .call 189 [(.t 11)], none⟩,
⟨(some 10), .mv (.t 12), none⟩,
⟨(some 13), .xt (.t 10) 0, none⟩,
⟨(some 14), .xt (.t 10) 1, none⟩,
⟨(some 4), .mv (.t 13), none⟩,
⟨(some 5), .mv (.t 14), none⟩])
(.seq (.seq (.reg [
⟨(some 15), .mv (.t 5), none⟩,
⟨(some 16), .bin .neq .int (.t 15) (.c (.i .i64 0)), none⟩])
(.cond (.t 16)
(.seq (.reg [
⟨(some 17), .mv (.t 5), none⟩,
⟨(some 2), .mv (.c .nsl), none⟩,
⟨(some 3), .mv (.t 17), none⟩])
.ret)
.skip))
(.seq (.reg [
⟨(some 6), .mv (.c .nsl), none⟩])
(.seq (.seq (.reg [
⟨(some 18), .mv (.t 4), none⟩,
⟨(some 19), .call 190 [(.t 18)], none⟩,
⟨(some 20), .call 150 [(.t 19)], none⟩,
⟨(some 21), .len 1 (.t 20), none⟩,
⟨(some 22), .mv (.c (.i .i64 0)), none⟩])
(.blk 0 (.loop (.seq (.reg [
⟨(some 23), .bin .lss .no (.t 22) (.t 21), none⟩])
(.seq (.cond (.t 23)
.skip
(.exit 0))
(.seq (.blk 1 (.seq (.reg [
⟨(some 24), .iaL 1 (.t 20) (.t 22), none⟩,
⟨(some 25), .ld false 1 (.t 24), none⟩,
⟨(some 8), .mv (.t 25), none⟩])
(.seq (.reg [
⟨(some 26), .mv (.t 4), none⟩,
⟨(some 27), .mv (.t 8), none⟩,
⟨(some 28), .lk .str (.i .i64 0) false (.t 26) (.t 27), none⟩,
⟨(some 9), .mv (.t 28), none⟩])
(.seq (.reg [
⟨(some 29), .mv (.t 9), none⟩,
⟨(some 30), .bin .gtr .no (.t 29) (.c (.i .i64 0)), none⟩])
(.cond (.t 30)
(.reg [
⟨(some 31), .mv (.t 6), none⟩,
⟨(some 32), .mv (.t 8), none⟩,
⟨(some 33), .mv (.t 9), none⟩,
⟨(some 34), .build [(.s []), (.i .i64 0)] [(0, 1, (.t 32)), (1, 1, (.t 33))], none⟩,
⟨(some 35), .bsl 1 [(.s []), (.i .i64 0)] [(0, 2, (.t 34))], none⟩,
⟨(some 36), .app 2 24 [(.s []), (.i .i64 0)] (.t 31) (.t 35), none⟩,
⟨(some 6), .mv (.t 36), none⟩])
.skip)))))
(.reg [
⟨(some 37), .bin .add .no (.t 22) (.c (.i .i64 1)), none⟩,
⟨(some 22), .mv (.t 37), none⟩])))))))
(.seq (.seq (.reg [
⟨(some 38), .mv (.t 6), none⟩,
⟨(some 39), .len 1 (.t 38), none⟩,
⟨(some 40), .bin .gtr .no (.t 39) (.c (.i .i64 16)), none⟩])
(.cond (.t 40)
(.seq (.reg [
⟨(some 2), .mv (.c .nsl), none⟩,
⟨(some 3), .mv (.c (.i .i64 3)), none⟩])
.ret)
.skip))
(.seq (.reg [
⟨(some 41), .mv (.t 6), none⟩,
⟨(some 2), .mv (.t 41), none⟩,
⟨(some 3), .mv (.c (.i .i64 0)), none⟩])
.ret)))))))⟩
def f143 : AF := ⟨36, [.t 2], (.seq (.reg [
⟨(some 2), .mv (.c .nsl), none⟩])
(.seq (.reg [
⟨(some 3), .mv (.c (.i .i64 0)), none⟩])
(.seq (.seq (.reg [
⟨(some 9), .mv (.t 0), none⟩,
⟨(some 10), .len 1 (.t 9), none⟩,
⟨(some 11), .mv (.c (.i .i64 0)), none⟩])
(.blk 0 (.loop (.seq (.reg [
⟨(some 12), .bin .lss .no (.t 11) (.t 10), none⟩])
(.seq (.cond (.t 12)
.skip
(.exit 0))
(.seq (.blk 1 (.seq (.reg [
⟨(some 13), .iaL 1 (.t 9) (.t 11), none⟩,
⟨(some 14), .ld false 1 (.t 13), none⟩,
⟨(some 5), .mv (.t 14), none⟩])
(.seq (.reg [
⟨(some 15), .mv (.t 3), none⟩,
⟨(some 16), .mv (.t 5), none⟩,
⟨(some 17), .len 1 (.t 16), none⟩,
⟨(some 18), .bin .add .no (.t 15) (.t 17), none⟩,
⟨(some 3), .mv (.t 18), none⟩])
(.seq (.reg [
⟨(some 19), .mv (.t 3), none⟩,
⟨(some 20), .bin .lss .no (.t 19) (.c (.i .i64 0)), none⟩])
(.cond (.t 20)
(.reg [
⟨(some 21), .mki 9 (.c (.s [108, 101, 110, 32, 111, 117, 116, 32, 111, 102, 32, 114, 97, 110, 103, 101])), none⟩,
⟨none, .bad 0, none⟩])
.skip)))))
(.reg [
⟨(some 22), .bin .add .no (.t 11) (.c (.i .i64 1)), none⟩,
⟨(some 11), .mv (.t 22), none⟩])))))))
(.seq (.reg [
⟨(some 23), .mv (.t 3), none⟩,
⟨(some 24), .call 191 [(.c .nsl), (.t 23)], none⟩,
⟨(some 6), .mv (.t 24), none⟩])
(.seq (.seq (.reg [
⟨(some 25), .mv (.t 0), none⟩,
⟨(some 26), .len 1 (.t 25), none⟩,
⟨(some 27), .mv (.c (.i .i64 0)), none⟩])
(.blk 2 (.loop (.seq (.reg [
⟨(some 28), .bin .lss .no (.t 27) (.t 26), none⟩])
(.seq (.cond (.t 28)
.skip
(.exit 2))
(.seq (.blk 3 (.seq (.reg [
⟨(some 29), .iaL 1 (.t 25) (.t 27), none⟩,
⟨(some 30), .ld false 1 (.t 29), none⟩,
⟨(some 8), .mv (.t 30), none⟩])
(.reg [
⟨(some 31), .mv (.t 6), none⟩,
⟨(some 32), .mv (.t 8), none⟩,
⟨(some 33), .app 2 24 [(.s []), (.i .i64 0)] (.t 31) (.t 32), none⟩,
⟨(some 6), .mv (.t 33), none⟩])))
(.reg [
⟨(some 34), .bin .add .no (.t 27) (.c (.i .i64 1)), none⟩,
⟨(some 27), .mv (.t 34), none⟩])))))))
(.seq (.reg [
⟨(some 35), .mv (.t 6), none⟩,
⟨(some 2), .mv (.t 35), none⟩])
.ret))))))⟩
def f144 : AF := ⟨65, [.c 6 false 1], (.seq (.reg [
⟨(some 3), .box 1 (.t 0), none⟩,
⟨(some 4), .box 1 (.t 1), none⟩,
⟨(some 6), .alloc [(.i .i64 0)], none⟩])
(.seq (.seq (.reg [
⟨(some 20), .ld false 1 (.t 4), none⟩,
⟨(some 21), .build [(.i .i64 0), (.i .i64 0), (.i .i64 0), (.i .i64 0), (.i .i64 0), (.i .i64 0), (.i .i64 0), (.i .i64 0), (.i .i64 0), (.i .i64 0), (.i .i64 0)] [], none⟩,
⟨(some 22), .box 11 (.t 21), none⟩,
⟨(some 23), .call 146 [(.t 20), (.t 22)], none⟩,
⟨(some 19), .mv (.t 23), none⟩,
⟨(some 24), .xt (.t 19) 0, none⟩,
⟨(some 25), .xt (.t 19) 1, none⟩,
⟨(some 26), .xt (.t 19) 2, none⟩,
⟨(some 7), .mv (.t 24), none⟩,
⟨(some 8), .mv (.t 25), none⟩,
⟨(some 9), .mv (.t 26), none⟩])
(.seq (.reg [
⟨(some 27), .mv (.t 7), none⟩,
⟨(some 28), .bin .eql .ptr (.t 27) (.c .np), none⟩])
(.cond (.t 28)
(.seq (.reg [
⟨none, .st 1 (.t 6) (.c (.i .i64 0)), none⟩])
.ret)
.skip)))
(.seq (.seq (.reg [
⟨(some 29), .mv (.t 2), none⟩,
⟨(some 30), .call 97 [(.t 29)], none⟩])
(.blk 0 (.rf (.t 30) [31, 32] (.reg [
⟨(some 10), .mv (.t 31), none⟩])
(.blk 1 (.seq (.reg [
⟨(some 34), .ld false 1 (.t 3), none⟩,
⟨(some 35), .nck (.t 34), none⟩,
⟨(some 36), .fa 0 (.t 35), none⟩,
⟨(some 37), .ld false 1 (.t 36), none⟩,
⟨(some 38), .mv (.t 10), none⟩,
⟨(some 39), .lk .str (.ag [(.i .i64 0), (.i .i64 0), (.i .i64 0), (.i .i64 0), (.i .i64 0), (.i .i64 0), (.i .i64 0), (.i .i64 0), (.i .i64 0), (.i .i64 0), (.i .i64 0)]) true (.t 37) (.t 38), none⟩,
⟨(some 33), .mv (.t 39), none⟩,
⟨(some 40), .xt (.t 33) 0, none⟩,
⟨(some 41), .xt (.t 33) 1, none⟩,
⟨(some 11), .alloc [(.i .i64 0), (.i .i64 0), (.i .i64 0), (.i .i64 0), (.i .i64 0), (.i .i64 0), (.i .i64 0), (.i .i64 0), (.i .i64 0), (.i .i64 0), (.i .i64 0)], none⟩,
⟨none, .st 11 (.t 11) (.t 40), none⟩,
⟨(some 12), .mv (.t 41), none⟩])
(.seq (.reg [
⟨(some 42), .mv (.t 12), none⟩,
⟨(some 43), .un .not (.t 42), none⟩])
(.cond (.t 43)
(.seq (.reg [
⟨none, .st 1 (.t 6) (.c (.i .i64 71)), none⟩])
.ret)
.skip)))))))
(.seq (.seq (.reg [
⟨(some 44), .mv (.t 2), none⟩,
⟨(some 45), .call 97 [(.t 44)], none⟩])
(.blk 2 (.rf (.t 45) [46, 47] (.seq (.reg [
⟨(some 13), .mv (.t 46), none⟩])
(.reg [
⟨(some 14), .mv (.t 47), none⟩]))
(.blk 3 (.seq (.reg [
⟨(some 48), .ld false 1 (.t 3), none⟩,
⟨(some 49), .nck (.t 48), none⟩,
⟨(some 50), .fa 0 (.t 49), none⟩,
⟨(some 51), .ld false 1 (.t 50), none⟩,
⟨(some 52), .mv (.t 13), none⟩,
⟨(some 53), .lk .str (.ag [(.i .i64 0), (.i .i64 0), (.i .i64 0), (.i .i64 0), (.i .i64 0), (.i .i64 0), (.i .i64 0), (.i .i64 0), (.i .i64 0), (.i .i64 0), (.i .i64 0)]) false (.t 51) (.t 52), none⟩,
⟨(some 15), .alloc [(.i .i64 0), (.i .i64 0), (.i .i64 0), (.i .i64 0), (.i .i64 0), (.i .i64 0), (.i .i64 0), (.i .i64 0), (.i .i64 0), (.i .i64 0), (.i .i64 0)], none⟩,
⟨none, .st 11 (.t 15) (.t 53), none⟩])
(.seq (.reg [
⟨(some 55), .ld false 1 (.t 4), none⟩,
⟨(some 56), .call 146 [(.t 55), (.t 15)], none⟩,
⟨(some 54), .mv (.t 56), none⟩,
⟨(some 57), .xt (.t 54) 0, none⟩,
⟨(some 58), .xt (.t 54) 1, none⟩,
⟨(some 59), .xt (.t 54) 2, none⟩,
⟨(some 16), .mv (.t 57), none⟩,
⟨(some 17), .mv (.t 58), none⟩,
⟨(some 18), .mv (.t 59), none⟩])
(.seq (.reg [
⟨(some 60), .mv (.t 16), none⟩,
⟨(some 61), .nck (.t 60), none⟩,
⟨(some 62), .ld false 1 (.t 61), none⟩,
⟨(some 63), .mv (.t 14), none⟩,
⟨(some 64), .bin .lss .no (.t 62) (.t 63), none⟩])
(.cond (.t 64)
(.seq (.reg [
⟨none, .st 1 (.t 6) (.c (.i .i64 51)), none⟩])
.ret)
.skip))))))))
(.seq (.reg [
⟨none, .st 1 (.t 6) (.c (.i .i64 0)), none⟩])
.ret)))))⟩
def f145 : AF := ⟨9, [.t 2], (.seq (.reg [
⟨(some 2), .mv (.c .nm), none⟩])
(.seq (.seq (.reg [
⟨(some 3), .mv (.t 0), none⟩,
⟨(some 4), .bin .eql .nilm (.t 3) (.c .nm), none⟩])
(.cond (.t 4)
(.seq (.reg [
⟨(some 2), .mv (.c .nm), none⟩])
.ret)
.skip))
(.seq (.reg [
⟨(some 5), .mv (.t 0), none⟩,
⟨(some 6), .mki 222 (.t 5), none⟩,
⟨(some 7), .mcl (.t 6), none⟩,
⟨(some 8), .tas 222 .nm false (.t 7), none⟩,
⟨(some 2), .mv (.t 8), none⟩])
.ret)))⟩
def f146 : AF := ⟨118, [.t 4, .t 5, .t 6], (.seq (.reg [
⟨(some 4), .mv (.c .np), none⟩,
⟨(some 5), .mv (.c .np), none⟩,
⟨(some 6), .mv (.c .np), none⟩])
(.seq (.seq (.reg [
⟨(some 7), .mv (.t 0), none⟩])
(.blk 0 (.seq (.reg [
⟨(some 9), .bin .eql .int (.t 7) (.c (.i .i64 1)), none⟩,
⟨(some 8), .mv (.t 9), none⟩])
(.cond (.t 8)
(.seq (.drw [
.op ⟨(some 10), .mv (.t 1), none⟩,
.op ⟨(some 11), .nck (.t 10), none⟩,
.op ⟨(some 12), .fa 0 (.t 11), none⟩,
.op ⟨(some 13), .fa 0 (.t 12), none⟩,
.op ⟨(some 14), .mv (.t 1), none⟩,
.op ⟨(some 15), .nck (.t 14), none⟩,
.op ⟨(some 16), .fa 4 (.t 15), none⟩,
.op ⟨(some 17), .fa 0 (.t 16), none⟩,
.op ⟨(some 4), .mv (.c .np), none⟩,
.op ⟨(some 5), .mv (.t 13), none⟩,
.op ⟨(some 6), .mv (.t 17), none⟩])
.ret)
(.seq (.reg [
⟨(some 19), .bin .eql .int (.t 7) (.c (.i .i64 2)), none⟩,
⟨(some 18), .mv (.t 19), none⟩])
(.cond (.t 18)
(.seq (.drw [
.op ⟨(some 20), .mv (.t 1), none⟩,
.op ⟨(some 21), .nck (.t 20), none⟩,
.op ⟨(some 22), .fa 0 (.t 21), none⟩,
.op ⟨(some 23), .fa 0 (.t 22), none⟩,
.op ⟨(some 24), .mv (.t 1), none⟩,
.op ⟨(some 25), .nck (.t 24), none⟩,
.op ⟨(some 26), .fa 0 (.t 25), none⟩,
.op ⟨(some 27), .fa 1 (.t 26), none⟩,
.op ⟨(some 4), .mv (.t 23), none⟩,
.op ⟨(some 5), .mv (.t 27), none⟩,
.op ⟨(some 6), .mv (.c .np), none⟩])
.ret)
(.seq (.reg [
⟨(some 29), .bin .eql .int (.t 7) (.c (.i .i64 3)), none⟩,
⟨(some 28), .mv (.t 29), none⟩])
(.cond (.t 28)
(.seq (.drw [
.op ⟨(some 30), .mv (.t 1), none⟩,
.op ⟨(some 31), .nck (.t 30), none⟩,
.op ⟨(some 32), .fa 0 (.t 31), none⟩,
.op ⟨(some 33), .fa 1 (.t 32), none⟩,
.op ⟨(some 34), .mv (.t 1), none⟩,
.op ⟨(some 35), .nck (.t 34), none⟩,
.op ⟨(some 36), .fa 0 (.t 35), none⟩,
.op ⟨(some 37), .fa 0 (.t 36), none⟩,
.op ⟨(some 4), .mv (.t 33), none⟩,
.op ⟨(some 5), .mv (.t 37), none⟩,
.op ⟨(some 6), .mv (.c .np), none⟩])
.ret)
(.seq (.reg [
⟨(some 39), .bin .eql .int (.t 7) (.c (.i .i64 4)), none⟩,
⟨(some 38), .mv (.t 39), none⟩])
(.cond (.t 38)
(.seq (.drw [
.op ⟨(some 40), .mv (.t 1), none⟩,
.op ⟨(some 41), .nck (.t 40), none⟩,
.op ⟨(some 42), .fa 0 (.t 41), none⟩,
.op ⟨(some 43), .fa 1 (.t 42), none⟩,
.op ⟨(some 44), .mv (.t 1), none⟩,
.op ⟨(some 45), .nck (.t 44), none⟩,
.op ⟨(some 46), .fa 0 (.t 45), none⟩,
.op ⟨(some 47), .fa 2 (.t 46), none⟩,
.op ⟨(some 4), .mv (.t 43), none⟩,
.op ⟨(some 5), .mv (.t 47), none⟩,
.op ⟨(some 6), .mv (.c .np), none⟩])
.ret)
(.seq (.reg [
⟨(some 49), .bin .eql .int (.t 7) (.c (.i .i64 5)), none⟩,
⟨(some 48), .mv (.t 49), none⟩])
(.cond (.t 48)
(.seq (.drw [
.op ⟨(some 50), .mv (.t 1), none⟩,
.op ⟨(some 51), .nck (.t 50), none⟩,
.op ⟨(some 52), .fa 0 (.t 51), none⟩,
.op ⟨(some 53), .fa 2 (.t 52), none⟩,
.op ⟨(some 54), .mv (.t 1), none⟩,
.op ⟨(some 55), .nck (.t 54), none⟩,
.op ⟨(some 56), .fa 0 (.t 55), none⟩,
.op ⟨(some 57), .fa 1 (.t 56), none⟩,
.op ⟨(some 4), .mv (.t 53), none⟩,
.op ⟨(some 5), .mv (.t 57), none⟩,
.op ⟨(some 6), .mv (.c .np), none⟩])
.ret)
(.seq (.reg [
⟨(some 59), .bin .eql .int (.t 7) (.c (.i .i64 6)), none⟩,
⟨(some 58), .mv (.t 59), none⟩])
(.cond (.t 58)
(.seq (.drw [
.op ⟨(some 60), .mv (.t 1), none⟩,
.op ⟨(some 61), .nck (.t 60), none⟩,
.op ⟨(some 62), .fa 0 (.t 61), none⟩,
.op ⟨(some 63), .fa 2 (.t 62), none⟩,
.op ⟨(some 64), .mv (.t 1), none⟩,
.op ⟨(some 65), .nck (.t 64), none⟩,
.op ⟨(some 66), .fa 4 (.t 65), none⟩,
.op ⟨(some 67), .fa 4 (.t 66), none⟩,
.op ⟨(some 4), .mv (.t 63), none⟩,
.op ⟨(some 5), .mv (.c .np), none⟩,
.op ⟨(some 6), .mv (.t 67), none⟩])
.ret)
(.seq (.reg [
⟨(some 69), .bin .eql .int (.t 7) (.c (.i .i64 7)), none⟩,
⟨(some 68), .mv (.t 69), none⟩])
(.cond (.t 68)
(.seq (.drw [
.op ⟨(some 70), .mv (.t 1), none⟩,
.op ⟨(some 71), .nck (.t 70), none⟩,
.op ⟨(some 72), .fa 0 (.t 71), none⟩,
.op ⟨(some 73), .fa 3 (.t 72), none⟩,
.op ⟨(some 74), .mv (.t 1), none⟩,
.op ⟨(some 75), .nck (.t 74), none⟩,
.op ⟨(some 76), .fa 4 (.t 75), none⟩,
.op ⟨(some 77), .fa 1 (.t 76), none⟩,
.op ⟨(some 4), .mv (.c .np), none⟩,
.op ⟨(some 5), .mv (.t 73), none⟩,
.op ⟨(some 6), .mv (.t 77), none⟩])
.ret)
(.seq (.reg [
⟨(some 79), .bin .eql .int (.t 7) (.c (.i .i64 8)), none⟩,
⟨(some 78), .mv (.t 79), none⟩])
(.cond (.t 78)
(.seq (.drw [
.op ⟨(some 80), .mv (.t 1), none⟩,
.op ⟨(some 81), .nck (.t 80), none⟩,
.op ⟨(some 82), .fa 0 (.t 81), none⟩,
.op ⟨(some 83), .fa 3 (.t 82), none⟩,
.op ⟨(some 84), .mv (.t 1), none⟩,
.op ⟨(some 85), .nck (.t 84), none⟩,
.op ⟨(some 86), .fa 0 (.t 85), none⟩,
.op ⟨(some 87), .fa 0 (.t 86), none⟩,
.op ⟨(some 4), .mv (.t 83), none⟩,
.op ⟨(some 5), .mv (.t 87), none⟩,
.op ⟨(some 6), .mv (.c .np), none⟩])
.ret)
(.seq (.reg [
⟨(some 89), .bin .eql .int (.t 7) (.c (.i .i64 9)), none⟩,
⟨(some 88), .mv (.t 89), none⟩])
(.cond (.t 88)
(.seq (.drw [
.op ⟨(some 90), .mv (.t 1), none⟩,
.op ⟨(some 91), .nck (.t 90), none⟩,
.op ⟨(some 92), .fa 0 (.t 91), none⟩,
.op ⟨(some 93), .fa 3 (.t 92), none⟩,
.op ⟨(some 94), .mv (.t 1), none⟩,
.op ⟨(some 95), .nck (.t 94), none⟩,
.op ⟨(some 96), .fa 4 (.t 95), none⟩,
.op ⟨(some 97), .fa 5 (.t 96), none⟩,
.op ⟨(some 4), .mv (.t 93), none⟩,
.op ⟨(some 5), .mv (.c .np), none⟩,
.op ⟨(some 6), .mv (.t 97), none⟩])
.ret)
(.seq (.reg [
⟨(some 99), .bin .eql .int (.t 7) (.c (.i .i64 10)), none⟩,
⟨(some 98), .mv (.t 99), none⟩])
(.cond (.t 98)
(.seq (.drw [
.op ⟨(some 100), .mv (.t 1), none⟩,
.op ⟨(some 101), .nck (.t 100), none⟩,
.op ⟨(some 102), .fa 0 (.t 101), none⟩,
.op ⟨(some 103), .fa 0 (.t 102), none⟩,
.op ⟨(some 104), .mv (.t 1), none⟩,
.op ⟨(some 105), .nck (.t 104), none⟩,
.op ⟨(some 106), .fa 4 (.t 105), none⟩,
.op ⟨(some 107), .fa 6 (.t 106), none⟩,
.op ⟨(some 4), .mv (.t 103), none⟩,
.op ⟨(some 5), .mv (.c .np), none⟩,
.op ⟨(some 6), .mv (.t 107), none⟩])
.ret)
(.seq (.reg [
⟨(some 109), .bin .eql .int (.t 7) (.c (.i .i64 11)), none⟩,
⟨(some 108), .mv (.t 109), none⟩])
(.cond (.t 108)
(.seq (.drw [
.op ⟨(some 110), .mv (.t 1), none⟩,
.op ⟨(some 111), .nck (.t 110), none⟩,
.op ⟨(some 112), .fa 0 (.t 111), none⟩,
.op ⟨(some 113), .fa 0 (.t 112), none⟩,
.op ⟨(some 114), .mv (.t 1), none⟩,
.op ⟨(some 115), .nck (.t 114), none⟩,
.op ⟨(some 116), .fa 4 (.t 115), none⟩,
.op ⟨(some 117), .fa 3 (.t 116), none⟩,
.op ⟨(some 4), .mv (.c .np), none⟩,
.op ⟨(some 5), .mv (.t 113), none⟩,
.op ⟨(some 6), .mv (.t 117), none⟩])
.ret)
.skip))))))))))))))))))))))))
(.seq (.reg [
⟨(some 4), .mv (.c .np), none⟩,
⟨(some 5), .mv (.c .np), none⟩,
⟨(some 6), .mv (.c .np), none⟩])
.ret)))⟩
def f147 : AF := ⟨12, [], (.seq (.reg [
⟨(some 4), .mv (.t 0), none⟩,
⟨(some 5), .bin .neq .ptr (.t 4) (.c .np), none⟩])
(.cond (.t 5)
(.reg [
⟨(some 6), .mv (.t 0), none⟩,
⟨(some 7), .nck (.t 6), none⟩,
⟨(some 8), .ld false 1 (.t 7), none⟩,
⟨(some 9), .mv (.t 1), none⟩,
⟨(some 10), .bin .add .no (.t 8) (.t 9), none⟩,
⟨(some 11), .nck (.t 6), none⟩,
⟨none, .st 1 (.t 11) (.t 10), none⟩])
.skip))⟩
def f148 : AF := ⟨31, [.t 2], (.seq (.reg [
⟨(some 2), .mv (.c (.b false)), none⟩])
(.seq (.drw [
.op ⟨(some 3), .mv (.t 0), none⟩,
.op ⟨(some 4), .call 193 [(.t 3)], none⟩,
.op ⟨(some 5), .mv (.t 4), none⟩,
.op ⟨(some 6), .mv (.t 0), (some (5, true))⟩,
.op ⟨(some 7), .nck (.t 6), (some (5, true))⟩,
.op ⟨(some 8), .fa 0 (.t 7), (some (5, true))⟩,
.op ⟨(some 9), .fa 0 (.t 8), (some (5, true))⟩,
.op ⟨(some 10), .ld false 1 (.t 9), (some (5, true))⟩,
.op ⟨(some 11), .mv (.t 0), (some (5, true))⟩,
.op ⟨(some 12), .nck (.t 11), (some (5, true))⟩,
.op ⟨(some 13), .fa 0 (.t 12), (some (5, true))⟩,
.op ⟨(some 14), .fa 1 (.t 13), (some (5, true))⟩,
.op ⟨(some 15), .ld false 1 (.t 14), (some (5, true))⟩,
.op ⟨(some 16), .bin .add .no (.t 10) (.t 15), (some (5, true))⟩,
.op ⟨(some 17), .mv (.t 0), (some (5, true))⟩,
.op ⟨(some 18), .nck (.t 17), (some (5, true))⟩,
.op ⟨(some 19), .fa 0 (.t 18), (some (5, true))⟩,
.op ⟨(some 20), .fa 2 (.t 19), (some (5, true))⟩,
.op ⟨(some 21), .ld false 1 (.t 20), (some (5, true))⟩,
.op ⟨(some 22), .bin .add .no (.t 16) (.t 21), (some (5, true))⟩,
.op ⟨(some 23), .mv (.t 0), (some (5, true))⟩,
.op ⟨(some 24), .nck (.t 23), (some (5, true))⟩,
.op ⟨(some 25), .fa 0 (.t 24), (some (5, true))⟩,
.op ⟨(some 26), .fa 3 (.t 25), (some (5, true))⟩,
.op ⟨(some 27), .ld false 1 (.t 26), (some (5, true))⟩,
.op ⟨(some 28), .bin .add .no (.t 22) (.t 27), (some (5, true))⟩,
.op ⟨(some 29), .call 139 [(.t 28)], (some (5, true))⟩,
.op ⟨(some 30), .pick (.t 5) (.t 29) (.c (.b false)), none⟩,
.op ⟨(some 2), .mv (.t 30), none⟩])
.ret))⟩
def f149 : AF := ⟨24, [], (.seq (.seq (.reg [
⟨(some 5), .ld false 1 (.t 1), none⟩,
⟨(some 6), .call 141 [(.t 5)], none⟩,
⟨(some 7), .un .not (.t 6), none⟩])
(.cond (.t 7)
.ret
.skip))
(.seq (.reg [
⟨(some 8), .ld false 1 (.t 1), none⟩,
⟨(some 9), .nck (.t 8), none⟩,
⟨(some 10), .fa 0 (.t 9), none⟩,
⟨(some 11), .ld false 1 (.t 10), none⟩,
⟨(some 12), .call 151 [(.t 11)], none⟩,
⟨(some 13), .call 150 [(.t 12)], none⟩,
⟨(some 14), .len 1 (.t 13), none⟩,
⟨(some 15), .mv (.c (.i .i64 0)), none⟩])
(.blk 0 (.loop (.seq (.reg [
⟨(some 16), .bin .lss .no (.t 15) (.t 14), none⟩])
(.seq (.cond (.t 16)
.skip
(.exit 0))
(.seq (.blk 1 (.seq (.reg [
⟨(some 17), .iaL 1 (.t 13) (.t 15), none⟩,
⟨(some 18), .ld false 1 (.t 17), none⟩,
⟨(some 4), .mv (.t 18), none⟩])
(.seq (.reg [
⟨(some 19), .mv (.t 0), none⟩,
⟨(some 20), .mv (.t 4), none⟩,
⟨(some 21), .cald (.t 19) [(.t 20)], none⟩,
⟨(some 22), .un .not (.t 21), none⟩])
(.cond (.t 22)
.ret
.skip))))
(.reg [
⟨(some 23), .bin .add .no (.t 15) (.c (.i .i64 1)), none⟩,
⟨(some 15), .mv (.t 23), none⟩]))))))))⟩
def f150 : AF := ⟨9, [.t 2], (.seq (.reg [
⟨(some 2), .mv (.c .nsl), none⟩])
(.seq (.reg [
⟨(some 4), .mv (.t 0), none⟩,
⟨(some 5), .call 194 [(.t 4)], none⟩,
⟨(some 3), .mv (.t 5), none⟩])
(.seq (.reg [
⟨(some 6), .mv (.t 3), none⟩,
⟨(some 7), .call 195 [(.t 6)], none⟩])
(.seq (.reg [
⟨(some 8), .mv (.t 3), none⟩,
⟨(some 2), .mv (.t 8), none⟩])
.ret))))⟩
def f151 : AF := ⟨4, [.t 2], (.seq (.reg [
⟨(some 1), .box 1 (.t 0), none⟩,
⟨(some 2), .mv (.c .nf), none⟩])
(.seq (.reg [
⟨(some 3), .mkf 196 [] [(.t 1)], none⟩,
⟨(some 2), .mv (.t 3), none⟩])
.ret))⟩
def f152 : AF := ⟨68, [.t 6, .t 7], (.seq (.reg [
⟨(some 6), .mv (.c (.i .i64 0)), none⟩,
⟨(some 7), .mv (.c (.i .i64 0)), none⟩])
(.seq (.seq (.reg [
⟨(some 11), .mv (.t 0), none⟩,
⟨(some 12), .call 141 [(.t 11)], none⟩,
⟨(some 13), .un .not (.t 12), none⟩])
(.cond (.t 13)
(.seq (.reg [
⟨(some 6), .mv (.c (.i .i64 0)), none⟩,
⟨(some 7), .mv (.c (.i .i64 6)), none⟩])
.ret)
.skip))
(.seq (.reg [
⟨(some 15), .mv (.t 0), none⟩,
⟨(some 16), .nck (.t 15), none⟩,
⟨(some 17), .fa 0 (.t 16), none⟩,
⟨(some 18), .ld false 1 (.t 17), none⟩,
⟨(some 19), .mv (.t 1), none⟩,
⟨(some 20), .lk .str (.ag [(.i .i64 0), (.i .i64 0), (.i .i64 0), (.i .i64 0), (.i .i64 0), (.i .i64 0), (.i .i64 0), (.i .i64 0), (.i .i64 0), (.i .i64 0), (.i .i64 0)]) true (.t 18) (.t 19), none⟩,
⟨(some 14), .mv (.t 20), none⟩,
⟨(some 21), .xt (.t 14) 0, none⟩,
⟨(some 22), .xt (.t 14) 1, none⟩,
⟨(some 8), .alloc [(.i .i64 0), (.i .i64 0), (.i .i64 0), (.i .i64 0), (.i .i64 0), (.i .i64 0), (.i .i64 0), (.i .i64 0), (.i .i64 0), (.i .i64 0), (.i .i64 0)], none⟩,
⟨none, .st 11 (.t 8) (.t 21), none⟩,
⟨(some 9), .mv (.t 22), none⟩])
(.seq (.blk 0 (.seq (.reg [
⟨(some 24), .mv (.t 2), none⟩,
⟨(some 25), .call 139 [(.t 24)], none⟩,
⟨(some 26), .un .not (.t 25), none⟩,
⟨(some 23), .mv (.t 26), none⟩])
(.cond (.t 23)
(.seq (.reg [
⟨(some 6), .mv (.c (.i .i64 0)), none⟩,
⟨(some 7), .mv (.c (.i .i64 1)), none⟩])
.ret)
(.seq (.reg [
⟨(some 28), .mv (.t 9), none⟩,
⟨(some 29), .un .not (.t 28), none⟩,
⟨(some 27), .mv (.t 29), none⟩])
(.cond (.t 27)
(.seq (.reg [
⟨(some 6), .mv (.c (.i .i64 0)), none⟩,
⟨(some 7), .mv (.c (.i .i64 71)), none⟩])
.ret)
(.seq (.reg [
⟨(some 31), .mv (.t 2), none⟩,
⟨(some 32), .fa 0 (.t 8), none⟩,
⟨(some 33), .fa 1 (.t 32), none⟩,
⟨(some 34), .ld false 1 (.t 33), none⟩,
⟨(some 35), .bin .lss .no (.t 31) (.t 34), none⟩,
⟨(some 30), .mv (.t 35), none⟩])
(.cond (.t 30)
(.seq (.reg [
⟨(some 6), .mv (.c (.i .i64 0)), none⟩,
⟨(some 7), .mv (.c (.i .i64 70)), none⟩])
.ret)
.skip)))))))
(.seq (.reg [
⟨(some 36), .mv (.t 2), none⟩,
⟨(some 37), .fa 0 (.t 8), none⟩,
⟨(some 38), .fa 1 (.t 37), none⟩,
⟨(some 39), .ld false 1 (.t 38), none⟩,
⟨(some 40), .bin .sub .no (.t 36) (.t 39), none⟩,
⟨(some 41), .fa 0 (.t 8), none⟩,
⟨(some 42), .fa 0 (.t 41), none⟩,
⟨(some 43), .ld false 1 (.t 42), none⟩,
⟨(some 44), .bin .sub .no (.t 40) (.t 43), none⟩,
⟨(some 10), .mv (.t 44), none⟩])
(.seq (.reg [
⟨(some 45), .fa 0 (.t 8), none⟩,
⟨(some 46), .fa 0 (.t 45), none⟩,
⟨(some 47), .ld false 1 (.t 46), none⟩,
⟨(some 48), .mv (.t 10), none⟩,
⟨(some 49), .bin .add .no (.t 47) (.t 48), none⟩,
⟨(some 50), .fa 0 (.t 8), none⟩,
⟨(some 51), .fa 0 (.t 50), none⟩,
⟨none, .st 1 (.t 51) (.t 49), none⟩])
(.seq (.reg [
⟨(some 52), .fa 4 (.t 8), none⟩,
⟨(some 53), .fa 2 (.t 52), none⟩,
⟨(some 54), .ld false 1 (.t 53), none⟩,
⟨(some 55), .mv (.t 10), none⟩,
⟨(some 56), .bin .add .no (.t 54) (.t 55), none⟩,
⟨(some 57), .fa 4 (.t 8), none⟩,
⟨(some 58), .fa 2 (.t 57), none⟩,
⟨none, .st 1 (.t 58) (.t 56), none⟩])
(.seq (.seq (.reg [
⟨(some 59), .call 148 [(.t 8)], none⟩,
⟨(some 60), .un .not (.t 59), none⟩])
(.cond (.t 60)
(.seq (.reg [
⟨(some 6), .mv (.c (.i .i64 0)), none⟩,
⟨(some 7), .mv (.c (.i .i64 50)), none⟩])
.ret)
.skip))
(.seq (.drw [
.op ⟨(some 61), .mv (.t 0), none⟩,
.op ⟨(some 62), .nck (.t 61), none⟩,
.op ⟨(some 63), .fa 0 (.t 62), none⟩,
.op ⟨(some 64), .ld false 1 (.t 63), none⟩,
.op ⟨(some 65), .mv (.t 1), none⟩,
.op ⟨(some 66), .ld true 11 (.t 8), none⟩,
.op ⟨none, .mu .str (.t 64) (.t 65) (.t 66), none⟩])
(.seq (.reg [
⟨(some 67), .mv (.t 10), none⟩,
⟨(some 6), .mv (.t 67), none⟩,
⟨(some 7), .mv (.c (.i .i64 0)), none⟩])
.ret))))))))))⟩
def f153 : AF := ⟨76, [.t 10], (.seq (.reg [
⟨(some 10), .mv (.c (.i .i64 0)), none⟩])
(.seq (.seq (.reg [
⟨(some 13), .mv (.t 0), none⟩,
⟨(some 14), .call 197 [(.t 13)], none⟩,
⟨(some 15), .un .not (.t 14), none⟩])
(.cond (.t 15)
(.seq (.reg [
⟨(some 10), .mv (.c (.i .i64 6)), none⟩])
.ret)
.skip))
(.seq (.reg [
⟨(some 17), .mv (.t 0), none⟩,
⟨(some 18), .nck (.t 17), none⟩,
⟨(some 19), .fa 0 (.t 18), none⟩,
⟨(some 20), .ld false 1 (.t 19), none⟩,
⟨(some 21), .mv (.t 1), none⟩,
⟨(some 22), .lk .int (.ag [(.i .i64 0), (.i .i64 0), (.i .i64 0), .nsl, (.b false)]) true (.t 20) (.t 21), none⟩,
⟨(some 16), .mv (.t 22), none⟩,
⟨(some 23), .xt (.t 16) 0, none⟩,
⟨(some 24), .xt (.t 16) 1, none⟩,
⟨(some 11), .alloc [(.i .i64 0), (.i .i64 0), (.i .i64 0), .nsl, (.b false)], none⟩,
⟨none, .st 5 (.t 11) (.t 23), none⟩,
⟨(some 12), .mv (.t 24), none⟩])
(.seq (.blk 0 (.seq (.reg [
⟨(some 26), .mv (.t 1), none⟩,
⟨(some 27), .bin .lss .no (.t 26) (.c (.i .i64 1)), none⟩,
⟨(some 28), .mv (.t 27), none⟩,
⟨(some 29), .mv (.t 1), (some (28, false))⟩,
⟨(some 30), .bin .gtr .no (.t 29) (.c (.i .i64 1099511627776)), (some (28, false))⟩,
⟨(some 31), .pick (.t 28) (.c (.b true)) (.t 30), none⟩,
⟨(some 32), .mv (.t 31), none⟩,
⟨(some 33), .mv (.t 2), (some (32, false))⟩,
⟨(some 34), .call 198 [(.t 33)], (some (32, false))⟩,
⟨(some 35), .un .not (.t 34), (some (32, false))⟩,
⟨(some 36), .pick (.t 32) (.c (.b true)) (.t 35), none⟩,
⟨(some 37), .mv (.t 36), none⟩,
⟨(some 38), .mv (.t 3), (some (37, false))⟩,
⟨(some 39), .call 198 [(.t 38)], (some (37, false))⟩,
⟨(some 40), .un .not (.t 39), (some (37, false))⟩,
⟨(some 41), .pick (.t 37) (.c (.b true)) (.t 40), none⟩,
⟨(some 42), .mv (.t 41), none⟩,
⟨(some 43), .mv (.t 2), (some (42, false))⟩,
⟨(some 44), .mv (.t 3), (some (42, false))⟩,
⟨(some 45), .bin .eql .int (.t 43) (.t 44), (some (42, false))⟩,
⟨(some 46), .pick (.t 42) (.c (.b true)) (.t 45), none⟩,
⟨(some 25), .mv (.t 46), none⟩])
(.cond (.t 25)
(.seq (.reg [
⟨(some 10), .mv (.c (.i .i64 1)), none⟩])
.ret)
(.seq (.reg [
⟨(some 48), .mv (.t 4), none⟩,
⟨(some 49), .call 78 [(.t 48)], none⟩,
⟨(some 50), .un .not (.t 49), none⟩,
⟨(some 51), .mv (.t 50), none⟩,
⟨(some 52), .mv (.t 4), (some (51, false))⟩,
⟨(some 53), .len 1 (.t 52), (some (51, false))⟩,
⟨(some 54), .bin .eql .int (.t 53) (.c (.i .i64 0)), (some (51, false))⟩,
⟨(some 55), .pick (.t 51) (.c (.b true)) (.t 54), none⟩,
⟨(some 47), .mv (.t 55), none⟩])
(.cond (.t 47)
(.seq (.reg [
⟨(some 10), .mv (.c (.i .i64 60)), none⟩])
.ret)
(.seq (.reg [
⟨(some 57), .mv (.t 12), none⟩,
⟨(some 56), .mv (.t 57), none⟩])
(.cond (.t 56)
(.seq (.reg [
⟨(some 10), .mv (.c (.i .i64 5)), none⟩])
.ret)
(.seq (.reg [
⟨(some 59), .mv (.t 0), none⟩,
⟨(some 60), .nck (.t 59), none⟩,
⟨(some 61), .fa 0 (.t 60), none⟩,
⟨(some 62), .ld false 1 (.t 61), none⟩,
⟨(some 63), .len 2 (.t 62), none⟩,
⟨(some 64), .bin .geq .no (.t 63) (.c (.i .i64 256)), none⟩,
⟨(some 58), .mv (.t 64), none⟩])
(.cond (.t 58)
(.seq (.reg [
⟨(some 10), .mv (.c (.i .i64 2)), none⟩])
.ret)
.skip)))))))))
(.seq (.drw [
.op ⟨(some 65), .mv (.t 0), none⟩,
.op ⟨(some 66), .nck (.t 65), none⟩,
.op ⟨(some 67), .fa 0 (.t 66), none⟩,
.op ⟨(some 68), .ld false 1 (.t 67), none⟩,
.op ⟨(some 69), .mv (.t 1), none⟩,
.op ⟨(some 70), .mv (.t 1), none⟩,
.op ⟨(some 71), .mv (.t 2), none⟩,
.op ⟨(some 72), .mv (.t 3), none⟩,
.op ⟨(some 73), .mv (.t 4), none⟩,
.op ⟨(some 74), .call 48 [(.t 73)], none⟩,
.chk ⟨(some 68), .ld false 1 (.t 67), none⟩,
.op ⟨(some 75), .build [(.i .i64 0), (.i .i64 0), (.i .i64 0), .nsl, (.b false)] [(0, 1, (.t 70)), (1, 1, (.t 71)), (2, 1, (.t 72)), (3, 1, (.t 74))], none⟩,
.op ⟨none, .mu .int (.t 68) (.t 69) (.t 75), none⟩])
(.seq (.reg [
⟨(some 10), .mv (.c (.i .i64 0)), none⟩])
.ret))))))⟩
def f154 : AF := ⟨36, [.t 4, .t 5], (.seq (.reg [
⟨(some 4), .mv (.c .nsl), none⟩,
⟨(some 5), .mv (.c (.i .i64 0)), none⟩])
(.seq (.seq (.reg [
⟨(some 8), .mv (.t 0), none⟩,
⟨(some 9), .call 197 [(.t 8)], none⟩,
⟨(some 10), .un .not (.t 9), none⟩])
(.cond (.t 10)
(.seq (.reg [
⟨(some 4), .mv (.c .nsl), none⟩,
⟨(some 5), .mv (.c (.i .i64 6)), none⟩])
.ret)
.skip))
(.seq (.reg [
⟨(some 12), .mv (.t 0), none⟩,
⟨(some 13), .nck (.t 12), none⟩,
⟨(some 14), .fa 0 (.t 13), none⟩,
⟨(some 15), .ld false 1 (.t 14), none⟩,
⟨(some 16), .mv (.t 1), none⟩,
⟨(some 17), .lk .int (.ag [(.i .i64 0), (.i .i64 0), (.i .i64 0), .nsl, (.b false)]) true (.t 15) (.t 16), none⟩,
⟨(some 11), .mv (.t 17), none⟩,
⟨(some 18), .xt (.t 11) 0, none⟩,
⟨(some 19), .xt (.t 11) 1, none⟩,
⟨(some 6), .alloc [(.i .i64 0), (.i .i64 0), (.i .i64 0), .nsl, (.b false)], none⟩,
⟨none, .st 5 (.t 6) (.t 18), none⟩,
⟨(some 7), .mv (.t 19), none⟩])
(.seq (.blk 0 (.seq (.reg [
⟨(some 21), .mv (.t 7), none⟩,
⟨(some 22), .un .not (.t 21), none⟩,
⟨(some 20), .mv (.t 22), none⟩])
(.cond (.t 20)
(.seq (.reg [
⟨(some 4), .mv (.c .nsl), none⟩,
⟨(some 5), .mv (.c (.i .i64 4)), none⟩])
.ret)
(.seq (.reg [
⟨(some 24), .fa 4 (.t 6), none⟩,
⟨(some 25), .ld false 1 (.t 24), none⟩,
⟨(some 23), .mv (.t 25), none⟩])
(.cond (.t 23)
(.seq (.reg [
⟨(some 4), .mv (.c .nsl), none⟩,
⟨(some 5), .mv (.c (.i .i64 5)), none⟩])
.ret)
.skip)))))
(.seq (.reg [
⟨(some 26), .fa 4 (.t 6), none⟩,
⟨none, .st 1 (.t 26) (.c (.b true)), none⟩])
(.seq (.drw [
.op ⟨(some 27), .mv (.t 0), none⟩,
.op ⟨(some 28), .nck (.t 27), none⟩,
.op ⟨(some 29), .fa 0 (.t 28), none⟩,
.op ⟨(some 30), .ld false 1 (.t 29), none⟩,
.op ⟨(some 31), .mv (.t 1), none⟩,
.op ⟨(some 32), .ld true 5 (.t 6), none⟩,
.op ⟨none, .mu .int (.t 30) (.t 31) (.t 32), none⟩])
(.seq (.reg [
⟨(some 33), .fa 3 (.t 6), none⟩,
⟨(some 34), .ld false 1 (.t 33), none⟩,
⟨(some 35), .call 48 [(.t 34)], none⟩,
⟨(some 4), .mv (.t 35), none⟩,
⟨(some 5), .mv (.c (.i .i64 0)), none⟩])
.ret)))))))⟩
def f155 : AF := ⟨29, [.t 4], (.seq (.reg [
⟨(some 4), .mv (.c (.i .i64 0)), none⟩])
(.seq (.reg [
⟨(some 8), .mv (.t 0), none⟩,
⟨(some 9), .mv (.t 1), none⟩,
⟨(some 10), .call 199 [(.t 8), (.t 9)], none⟩,
⟨(some 7), .mv (.t 10), none⟩,
⟨(some 11), .xt (.t 7) 0, none⟩,
⟨(some 12), .xt (.t 7) 1, none⟩,
⟨(some 5), .alloc [(.i .i64 0), (.i .i64 0), (.i .i64 0), .nsl, (.b false)], none⟩,
⟨none, .st 5 (.t 5) (.t 11), none⟩,
⟨(some 6), .mv (.t 12), none⟩])
(.seq (.blk 0 (.seq (.reg [
⟨(some 14), .mv (.t 0), none⟩,
⟨(some 15), .call 197 [(.t 14)], none⟩,
⟨(some 16), .un .not (.t 15), none⟩,
⟨(some 13), .mv (.t 16), none⟩])
(.cond (.t 13)
(.seq (.reg [
⟨(some 4), .mv (.c (.i .i64 6)), none⟩])
.ret)
(.seq (.reg [
⟨(some 18), .mv (.t 6), none⟩,
⟨(some 19), .un .not (.t 18), none⟩,
⟨(some 17), .mv (.t 19), none⟩])
(.cond (.t 17)
(.seq (.reg [
⟨(some 4), .mv (.c (.i .i64 4)), none⟩])
.ret)
(.seq (.reg [
⟨(some 21), .fa 4 (.t 5), none⟩,
⟨(some 22), .ld false 1 (.t 21), none⟩,
⟨(some 23), .un .not (.t 22), none⟩,
⟨(some 20), .mv (.t 23), none⟩])
(.cond (.t 20)
(.seq (.reg [
⟨(some 4), .mv (.c (.i .i64 80)), none⟩])
.ret)
.skip)))))))
(.seq (.reg [
⟨(some 24), .mv (.t 0), none⟩,
⟨(some 25), .nck (.t 24), none⟩,
⟨(some 26), .fa 0 (.t 25), none⟩,
⟨(some 27), .ld false 1 (.t 26), none⟩,
⟨(some 28), .mv (.t 1), none⟩,
⟨none, .del .int (.t 27) (.t 28), none⟩])
(.seq (.reg [
⟨(some 4), .mv (.c (.i .i64 0)), none⟩])
.ret)))))⟩
def f156 : AF := ⟨19, [], (.seq (.reg [
⟨(some 5), .ld false 1 (.t 1), none⟩,
⟨(some 6), .len 1 (.t 5), none⟩,
⟨(some 7), .mv (.c (.i .i64 0)), none⟩])
(.blk 0 (.loop (.seq (.reg [
⟨(some 8), .bin .lss .no (.t 7) (.t 6), none⟩])
(.seq (.cond (.t 8)
.skip
(.exit 0))
(.seq (.blk 1 (.seq (.reg [
⟨(some 9), .iaL 2 (.t 5) (.t 7), none⟩,
⟨(some 10), .ld true 2 (.t 9), none⟩,
⟨(some 4), .alloc [(.s []), (.i .i64 0)], none⟩,
⟨none, .st 2 (.t 4) (.t 10), none⟩])
(.seq (.reg [
⟨(some 11), .mv (.t 0), none⟩,
⟨(some 12), .fa 0 (.t 4), none⟩,
⟨(some 13), .ld false 1 (.t 12), none⟩,
⟨(some 14), .fa 1 (.t 4), none⟩,
⟨(some 15), .ld false 1 (.t 14), none⟩,
⟨(some 16), .cald (.t 11) [(.t 13), (.t 15)], none⟩,
⟨(some 17), .un .not (.t 16), none⟩])
(.cond (.t 17)
.ret
.skip))))
(.reg [
⟨(some 18), .bin .add .no (.t 7) (.c (.i .i64 1)), none⟩,
⟨(some 7), .mv (.t 18), none⟩])))))))⟩
def f157 : AF := ⟨43, [.t 4], (.seq (.reg [
⟨(some 4), .mv (.c .np), none⟩])
(.seq (.seq (.reg [
⟨(some 6), .mv (.t 0), none⟩,
⟨(some 7), .bin .eql .ptr (.t 6) (.c .np), none⟩])
(.cond (.t 7)
(.seq (.reg [
⟨(some 4), .mv (.c .np), none⟩])
.ret)
.skip))
(.seq (.reg [
⟨(some 8), .mv (.t 1), none⟩,
⟨(some 9), .call 200 [(.t 8)], none⟩,
⟨(some 5), .mv (.t 9), none⟩])
(.seq (.seq (.reg [
⟨(some 10), .mv (.t 0), none⟩,
⟨(some 11), .mv (.t 0), none⟩,
⟨(some 12), .nck (.t 11), none⟩,
⟨(some 13), .fa 1 (.t 12), none⟩,
⟨(some 14), .ld false 1 (.t 13), none⟩,
⟨(some 15), .mv (.t 14), none⟩,
⟨(some 16), .mv (.t 5), (some (15, false))⟩,
⟨(some 17), .len 1 (.t 16), (some (15, false))⟩,
⟨(some 18), .mv (.t 0), (some (15, false))⟩,
⟨(some 19), .nck (.t 18), (some (15, false))⟩,
⟨(some 20), .fa 0 (.t 19), (some (15, false))⟩,
⟨(some 21), .ld false 1 (.t 20), (some (15, false))⟩,
⟨(some 22), .len 1 (.t 21), (some (15, false))⟩,
⟨(some 23), .bin .sub .no (.c (.i .i64 262144)) (.t 22), (some (15, false))⟩,
⟨(some 24), .bin .gtr .no (.t 17) (.t 23), (some (15, false))⟩,
⟨(some 25), .pick (.t 15) (.c (.b true)) (.t 24), none⟩,
⟨(some 26), .nck (.t 10), none⟩,
⟨(some 27), .fa 1 (.t 26), none⟩,
⟨none, .st 1 (.t 27) (.t 25), none⟩])
(.seq (.reg [
⟨(some 28), .mv (.t 0), none⟩,
⟨(some 29), .nck (.t 28), none⟩,
⟨(some 30), .fa 1 (.t 29), none⟩,
⟨(some 31), .ld false 1 (.t 30), none⟩,
⟨(some 32), .un .not (.t 31), none⟩])
(.cond (.t 32)
(.reg [
⟨(some 33), .mv (.t 0), none⟩,
⟨(some 34), .mv (.t 0), none⟩,
⟨(some 35), .nck (.t 34), none⟩,
⟨(some 36), .fa 0 (.t 35), none⟩,
⟨(some 37), .ld false 1 (.t 36), none⟩,
⟨(some 38), .mv (.t 5), none⟩,
⟨(some 39), .app 1 1 [(.i .u8 0)] (.t 37) (.t 38), none⟩,
⟨(some 40), .nck (.t 33), none⟩,
⟨(some 41), .fa 0 (.t 40), none⟩,
⟨none, .st 1 (.t 41) (.t 39), none⟩])
.skip)))
(.seq (.reg [
⟨(some 42), .mv (.t 0), none⟩,
⟨(some 4), .mv (.t 42), none⟩])
.ret)))))⟩
def f158 : AF := ⟨49, [.t 2], (.seq (.reg [
⟨(some 2), .mv (.c .nsl), none⟩])
(.seq (.seq (.reg [
⟨(some 8), .mv (.t 0), none⟩,
⟨(some 9), .bin .geq .no (.t 8) (.c (.i .i64 0)), none⟩,
⟨(some 10), .mv (.t 9), none⟩,
⟨(some 11), .mv (.t 0), (some (10, true))⟩,
⟨(some 12), .bin .lss .no (.t 11) (.c (.i .i64 128)), (some (10, true))⟩,
⟨(some 13), .pick (.t 10) (.t 12) (.c (.b false)), none⟩])
(.cond (.t 13)
(.seq (.reg [
⟨(some 14), .mv (.t 0), none⟩,
⟨(some 15), .cvi .u8 (.t 14), none⟩,
⟨(some 16), .bsl 1 [(.i .u8 0)] [(0, 1, (.t 15))], none⟩,
⟨(some 2), .mv (.t 16), none⟩])
.ret)
.skip))
(.seq (.reg [
⟨(some 17), .mv (.t 0), none⟩,
⟨(some 18), .cvi .u64 (.t 17), none⟩,
⟨(some 3), .mv (.c (.i .u8 128)), none⟩,
⟨(some 4), .mv (.t 18), none⟩])
(.seq (.seq (.reg [
⟨(some 19), .mv (.t 0), none⟩,
⟨(some 20), .bin .lss .no (.t 19) (.c (.i .i64 0)), none⟩])
(.cond (.t 20)
(.reg [
⟨(some 21), .mv (.t 4), none⟩,
⟨(some 22), .un .xor (.t 21), none⟩,
⟨(some 3), .mv (.c (.i .u8 144)), none⟩,
⟨(some 4), .mv (.t 22), none⟩])
.skip))
(.seq (.reg [
⟨(some 23), .mv (.t 4), none⟩,
⟨(some 24), .call 201 [(.t 23)], none⟩,
⟨(some 25), .bin .add .no (.t 24) (.c (.i .i64 8)), none⟩,
⟨(some 26), .bin .sub .no (.t 25) (.c (.i .i64 1)), none⟩,
⟨(some 27), .bin .quo .no (.t 26) (.c (.i .i64 8)), none⟩,
⟨(some 5), .mv (.t 27), none⟩])
(.seq (.reg [
⟨(some 28), .mv (.t 3), none⟩,
⟨(some 29), .mv (.t 5), none⟩,
⟨(some 30), .cvi .u8 (.t 29), none⟩,
⟨(some 31), .bin .add .no (.t 28) (.t 30), none⟩,
⟨(some 32), .bsl 1 [(.i .u8 0)] [(0, 1, (.t 31))], none⟩,
⟨(some 6), .mv (.t 32), none⟩])
(.seq (.seq (.reg [
⟨(some 33), .mv (.t 5), none⟩,
⟨(some 34), .bin .sub .no (.t 33) (.c (.i .i64 1)), none⟩,
⟨(some 7), .mv (.t 34), none⟩])
(.blk 0 (.loop (.seq (.seq (.reg [
⟨(some 35), .mv (.t 7), none⟩,
⟨(some 36), .bin .geq .no (.t 35) (.c (.i .i64 0)), none⟩])
(.cond (.t 36)
.skip
(.exit 0)))
(.seq (.blk 1 (.reg [
⟨(some 39), .mv (.t 6), none⟩,
⟨(some 40), .mv (.t 4), none⟩,
⟨(some 41), .mv (.t 7), none⟩,
⟨(some 42), .bin .mul .no (.c (.i .i64 8)) (.t 41), none⟩,
⟨(some 43), .bin .shr .no (.t 40) (.t 42), none⟩,
⟨(some 44), .cvi .u8 (.t 43), none⟩,
⟨(some 45), .bsl 1 [(.i .u8 0)] [(0, 1, (.t 44))], none⟩,
⟨(some 46), .app 1 1 [(.i .u8 0)] (.t 39) (.t 45), none⟩,
⟨(some 6), .mv (.t 46), none⟩]))
(.reg [
⟨(some 37), .mv (.t 7), none⟩,
⟨(some 38), .bin .sub .no (.t 37) (.c (.i .i64 1)), none⟩,
⟨(some 7), .mv (.t 38), none⟩]))))))
(.seq (.reg [
⟨(some 47), .mv (.t 6), none⟩,
⟨(some 48), .call 202 [(.t 47)], none⟩,
⟨(some 2), .mv (.t 48), none⟩])
.ret))))))))⟩
def f159 : AF := ⟨48, [.c 2 true 11], (.seq (.reg [
⟨(some 2), .alloc [.np, .np, .np, .np, .np, .np, .np, .np, .np, .np, .np], none⟩])
(.seq (.drw [
.op ⟨(some 3), .mv (.t 0), none⟩,
.op ⟨(some 4), .nck (.t 3), none⟩,
.op ⟨(some 5), .fa 0 (.t 4), none⟩,
.op ⟨(some 6), .fa 0 (.t 5), none⟩,
.op ⟨(some 7), .mv (.t 0), none⟩,
.op ⟨(some 8), .nck (.t 7), none⟩,
.op ⟨(some 9), .fa 0 (.t 8), none⟩,
.op ⟨(some 10), .fa 1 (.t 9), none⟩,
.op ⟨(some 11), .mv (.t 0), none⟩,
.op ⟨(some 12), .nck (.t 11), none⟩,
.op ⟨(some 13), .fa 0 (.t 12), none⟩,
.op ⟨(some 14), .fa 2 (.t 13), none⟩,
.op ⟨(some 15), .mv (.t 0), none⟩,
.op ⟨(some 16), .nck (.t 15), none⟩,
.op ⟨(some 17), .fa 0 (.t 16), none⟩,
.op ⟨(some 18), .fa 3 (.t 17), none⟩,
.op ⟨(some 19), .mv (.t 0), none⟩,
.op ⟨(some 20), .nck (.t 19), none⟩,
.op ⟨(some 21), .fa 4 (.t 20), none⟩,
.op ⟨(some 22), .fa 0 (.t 21), none⟩,
.op ⟨(some 23), .mv (.t 0), none⟩,
.op ⟨(some 24), .nck (.t 23), none⟩,
.op ⟨(some 25), .fa 4 (.t 24), none⟩,
.op ⟨(some 26), .fa 1 (.t 25), none⟩,
.op ⟨(some 27), .mv (.t 0), none⟩,
.op ⟨(some 28), .nck (.t 27), none⟩,
.op ⟨(some 29), .fa 4 (.t 28), none⟩,
.op ⟨(some 30), .fa 2 (.t 29), none⟩,
.op ⟨(some 31), .mv (.t 0), none⟩,
.op ⟨(some 32), .nck (.t 31), none⟩,
.op ⟨(some 33), .fa 4 (.t 32), none⟩,
.op ⟨(some 34), .fa 3 (.t 33), none⟩,
.op ⟨(some 35), .mv (.t 0), none⟩,
.op ⟨(some 36), .nck (.t 35), none⟩,
.op ⟨(some 37), .fa 4 (.t 36), none⟩,
.op ⟨(some 38), .fa 4 (.t 37), none⟩,
.op ⟨(some 39), .mv (.t 0), none⟩,
.op ⟨(some 40), .nck (.t 39), none⟩,
.op ⟨(some 41), .fa 4 (.t 40), none⟩,
.op ⟨(some 42), .fa 5 (.t 41), none⟩,
.op ⟨(some 43), .mv (.t 0), none⟩,
.op ⟨(some 44), .nck (.t 43), none⟩,
.op ⟨(some 45), .fa 4 (.t 44), none⟩,
.op ⟨(some 46), .fa 6 (.t 45), none⟩,
.op ⟨(some 47), .build [.np, .np, .np, .np, .np, .np, .np, .np, .np, .np, .np] [(0, 1, (.t 6)), (1, 1, (.t 10)), (2, 1, (.t 14)), (3, 1, (.t 18)), (4, 1, (.t 22)), (5, 1, (.t 26)), (6, 1, (.t 30)), (7, 1, (.t 34)), (8, 1, (.t 38)), (9, 1, (.t 42)), (10, 1, (.t 46))], none⟩,
.op ⟨none, .st 11 (.t 2) (.t 47), none⟩])
.ret))⟩
def f160 : AF := ⟨8, [.t 2], (.seq (.reg [
⟨(some 2), .mv (.c .nsl), none⟩])
(.seq (.seq (.reg [
⟨(some 3), .mv (.t 0), none⟩,
⟨(some 4), .bin .eql .nils (.t 3) (.c .nsl), none⟩])
(.cond (.t 4)
(.seq (.reg [
⟨(some 2), .mv (.c .nsl), none⟩])
.ret)
.skip))
(.seq (.reg [
⟨(some 5), .bsl 0 [(.i .u8 0)] [], none⟩,
⟨(some 6), .mv (.t 0), none⟩,
⟨(some 7), .app 1 1 [(.i .u8 0)] (.t 5) (.t 6), none⟩,
⟨(some 2), .mv (.t 7), none⟩])
.ret)))⟩
def f161 : AF := ⟨13, [.t 4], (.seq (.reg [
⟨(some 2), .box 1 (.t 0), none⟩,
⟨(some 4), .mv (.c .nsl), none⟩])
(.seq (.seq (.reg [
⟨(some 6), .mv (.t 1), none⟩])
(.blk 0 (.rf (.t 6) [7] (.reg [
⟨(some 5), .mv (.t 7), none⟩])
(.blk 1 (.reg [
⟨(some 8), .ld false 1 (.t 2), none⟩,
⟨(some 9), .mv (.t 5), none⟩,
⟨(some 10), .bsl 1 [(.i .i64 0)] [(0, 1, (.t 9))], none⟩,
⟨(some 11), .app 1 8 [(.i .i64 0)] (.t 8) (.t 10), none⟩,
⟨none, .st 1 (.t 2) (.t 11), none⟩])))))
(.seq (.reg [
⟨(some 12), .ld false 1 (.t 2), none⟩,
⟨(some 4), .mv (.t 12), none⟩])
.ret)))⟩
def f162 : AF := ⟨134, [], (.seq (.reg [
⟨(some 8), .mv (.c (.b true)), none⟩])
(.seq (.reg [
⟨(some 9), .mv (.c (.b true)), none⟩])
(.blk 0 (.loop (.blk 1 (.seq (.reg [
⟨(some 19), .mv (.t 2), none⟩,
⟨(some 20), .mv (.t 1), none⟩,
⟨(some 21), .bin .sub .no (.t 19) (.t 20), none⟩,
⟨(some 10), .mv (.t 21), none⟩])
(.seq (.seq (.reg [
⟨(some 22), .mv (.t 10), none⟩,
⟨(some 23), .bin .leq .no (.t 22) (.c (.i .i64 12)), none⟩])
(.cond (.t 23)
(.seq (.reg [
⟨(some 24), .mv (.t 0), none⟩,
⟨(some 25), .mv (.t 1), none⟩,
⟨(some 26), .mv (.t 2), none⟩,
⟨(some 27), .call 203 [(.t 24), (.t 25), (.t 26)], none⟩])
.ret)
.skip))
(.seq (.seq (.reg [
⟨(some 28), .mv (.t 3), none⟩,
⟨(some 29), .bin .eql .int (.t 28) (.c (.i .i64 0)), none⟩])
(.cond (.t 29)
(.seq (.reg [
⟨(some 30), .mv (.t 0), none⟩,
⟨(some 31), .mv (.t 1), none⟩,
⟨(some 32), .mv (.t 2), none⟩,
⟨(some 33), .call 204 [(.t 30), (.t 31), (.t 32)], none⟩])
.ret)
.skip))
(.seq (.seq (.reg [
⟨(some 34), .mv (.t 8), none⟩,
⟨(some 35), .un .not (.t 34), none⟩])
(.cond (.t 35)
(.seq (.reg [
⟨(some 36), .mv (.t 0), none⟩,
⟨(some 37), .mv (.t 1), none⟩,
⟨(some 38), .mv (.t 2), none⟩,
⟨(some 39), .call 205 [(.t 36), (.t 37), (.t 38)], none⟩])
(.reg [
⟨(some 40), .mv (.t 3), none⟩,
⟨(some 41), .bin .sub .no (.t 40) (.c (.i .i64 1)), none⟩,
⟨(some 3), .mv (.t 41), none⟩]))
.skip))
(.seq (.reg [
⟨(some 43), .mv (.t 0), none⟩,
⟨(some 44), .mv (.t 1), none⟩,
⟨(some 45), .mv (.t 2), none⟩,
⟨(some 46), .call 206 [(.t 43), (.t 44), (.t 45)], none⟩,
⟨(some 42), .mv (.t 46), none⟩,
⟨(some 47), .xt (.t 42) 0, none⟩,
⟨(some 48), .xt (.t 42) 1, none⟩,
⟨(some 11), .mv (.t 47), none⟩,
⟨(some 12), .mv (.t 48), none⟩])
(.seq (.seq (.reg [
⟨(some 49), .mv (.t 12), none⟩,
⟨(some 50), .bin .eql .int (.t 49) (.c (.i .i64 2)), none⟩])
(.cond (.t 50)
(.seq (.reg [
⟨(some 51), .mv (.t 0), none⟩,
⟨(some 52), .mv (.t 1), none⟩,
⟨(some 53), .mv (.t 2), none⟩,
⟨(some 54), .call 207 [(.t 51), (.t 52), (.t 53)], none⟩])
(.seq (.reg [
⟨(some 55), .mv (.t 2), none⟩,
⟨(some 56), .bin .sub .no (.t 55) (.c (.i .i64 1)), none⟩,
⟨(some 57), .mv (.t 11), none⟩,
⟨(some 58), .mv (.t 1), none⟩,
⟨(some 59), .bin .sub .no (.t 57) (.t 58), none⟩,
⟨(some 60), .bin .sub .no (.t 56) (.t 59), none⟩,
⟨(some 11), .mv (.t 60), none⟩])
(.reg [
⟨(some 12), .mv (.c (.i .i64 1)), none⟩])))
.skip))
(.seq (.seq (.reg [
⟨(some 61), .mv (.t 8), none⟩,
⟨(some 62), .mv (.t 61), none⟩,
⟨(some 63), .mv (.t 9), (some (62, true))⟩,
⟨(some 64), .pick (.t 62) (.t 63) (.c (.b false)), none⟩,
⟨(some 65), .mv (.t 64), none⟩,
⟨(some 66), .mv (.t 12), (some (65, true))⟩,
⟨(some 67), .bin .eql .int (.t 66) (.c (.i .i64 1)), (some (65, true))⟩,
⟨(some 68), .pick (.t 65) (.t 67) (.c (.b false)), none⟩])
(.cond (.t 68)
(.seq (.reg [
⟨(some 69), .mv (.t 0), none⟩,
⟨(some 70), .mv (.t 1), none⟩,
⟨(some 71), .mv (.t 2), none⟩,
⟨(some 72), .call 208 [(.t 69), (.t 70), (.t 71)], none⟩])
(.cond (.t 72)
.ret
.skip))
.skip))
(.seq (.seq (.drw [
.op ⟨(some 73), .mv (.t 1), none⟩,
.op ⟨(some 74), .bin .gtr .no (.t 73) (.c (.i .i64 0)), none⟩,
.op ⟨(some 75), .mv (.t 74), none⟩,
.op ⟨(some 76), .mv (.t 0), (some (75, true))⟩,
.op ⟨(some 77), .mv (.t 1), (some (75, true))⟩,
.op ⟨(some 78), .bin .sub .no (.t 77) (.c (.i .i64 1)), (some (75, true))⟩,
.op ⟨(some 79), .iaL 1 (.t 76) (.t 78), (some (75, true))⟩,
.op ⟨(some 80), .ld false 1 (.t 79), (some (75, true))⟩,
.op ⟨(some 81), .mv (.t 0), (some (75, true))⟩,
.op ⟨(some 82), .mv (.t 11), (some (75, true))⟩,
.op ⟨(some 83), .iaL 1 (.t 81) (.t 82), (some (75, true))⟩,
.op ⟨(some 84), .ld false 1 (.t 83), (some (75, true))⟩,
.op ⟨(some 85), .call 209 [(.t 80), (.t 84)], (some (75, true))⟩,
.op ⟨(some 86), .un .not (.t 85), (some (75, true))⟩,
.op ⟨(some 87), .pick (.t 75) (.t 86) (.c (.b false)), none⟩])
(.cond (.t 87)
(.seq (.reg [
⟨(some 88), .mv (.t 0), none⟩,
⟨(some 89), .mv (.t 1), none⟩,
⟨(some 90), .mv (.t 2), none⟩,
⟨(some 91), .mv (.t 11), none⟩,
⟨(some 92), .call 210 [(.t 88), (.t 89), (.t 90), (.t 91)], none⟩,
⟨(some 13), .mv (.t 92), none⟩])
(.seq (.reg [
⟨(some 93), .mv (.t 13), none⟩,
⟨(some 1), .mv (.t 93), none⟩])
(.exit 1)))
.skip))
(.seq (.reg [
⟨(some 95), .mv (.t 0), none⟩,
⟨(some 96), .mv (.t 1), none⟩,
⟨(some 97), .mv (.t 2), none⟩,
⟨(some 98), .mv (.t 11), none⟩,
⟨(some 99), .call 211 [(.t 95), (.t 96), (.t 97), (.t 98)], none⟩,
⟨(some 94), .mv (.t 99), none⟩,
⟨(some 100), .xt (.t 94) 0, none⟩,
⟨(some 101), .xt (.t 94) 1, none⟩,
⟨(some 14), .mv (.t 100), none⟩,
⟨(some 15), .mv (.t 101), none⟩])
(.seq (.reg [
⟨(some 102), .mv (.t 15), none⟩,
⟨(some 9), .mv (.t 102), none⟩])
(.seq (.reg [
⟨(some 103), .mv (.t 14), none⟩,
⟨(some 104), .mv (.t 1), none⟩,
⟨(some 105), .bin .sub .no (.t 103) (.t 104), none⟩,
⟨(some 106), .mv (.t 2), none⟩,
⟨(some 107), .mv (.t 14), none⟩,
⟨(some 108), .bin .sub .no (.t 106) (.t 107), none⟩,
⟨(some 16), .mv (.t 105), none⟩,
⟨(some 17), .mv (.t 108), none⟩])
(.seq (.reg [
⟨(some 109), .mv (.t 10), none⟩,
⟨(some 110), .bin .quo .no (.t 109) (.c (.i .i64 8)), none⟩,
⟨(some 18), .mv (.t 110), none⟩])
(.seq (.reg [
⟨(some 111), .mv (.t 16), none⟩,
⟨(some 112), .mv (.t 17), none⟩,
⟨(some 113), .bin .lss .no (.t 111) (.t 112), none⟩])
(.cond (.t 113)
(.seq (.reg [
⟨(some 114), .mv (.t 16), none⟩,
⟨(some 115), .mv (.t 18), none⟩,
⟨(some 116), .bin .geq .no (.t 114) (.t 115), none⟩,
⟨(some 8), .mv (.t 116), none⟩])
(.seq (.reg [
⟨(some 117), .mv (.t 0), none⟩,
⟨(some 118), .mv (.t 1), none⟩,
⟨(some 119), .mv (.t 14), none⟩,
⟨(some 120), .mv (.t 3), none⟩,
⟨(some 121), .call 162 [(.t 117), (.t 118), (.t 119), (.t 120)], none⟩])
(.reg [
⟨(some 122), .mv (.t 14), none⟩,
⟨(some 123), .bin .add .no (.t 122) (.c (.i .i64 1)), none⟩,
⟨(some 1), .mv (.t 123), none⟩])))
(.seq (.reg [
⟨(some 124), .mv (.t 17), none⟩,
⟨(some 125), .mv (.t 18), none⟩,
⟨(some 126), .bin .geq .no (.t 124) (.t 125), none⟩,
⟨(some 8), .mv (.t 126), none⟩])
(.seq (.reg [
⟨(some 127), .mv (.t 0), none⟩,
⟨(some 128), .mv (.t 14), none⟩,
⟨(some 129), .bin .add .no (.t 128) (.c (.i .i64 1)), none⟩,
⟨(some 130), .mv (.t 2), none⟩,
⟨(some 131), .mv (.t 3), none⟩,
⟨(some 132), .call 162 [(.t 127), (.t 129), (.t 130), (.t 131)], none⟩])
(.reg [
⟨(some 133), .mv (.t 14), none⟩,
⟨(some 2), .mv (.t 133), none⟩]))))))))))))))))))))))⟩
def f163 : AF := ⟨8, [.t 2], (.seq (.reg [
⟨(some 2), .mv (.c (.i .i64 0)), none⟩])
(.seq (.cond (.c (.b false))
(.seq (.reg [
⟨(some 3), .mv (.t 0), none⟩,
⟨(some 4), .cvi .u32 (.t 3), none⟩,
⟨(some 5), .call 212 [(.t 4)], none⟩,
⟨(some 2), .mv (.t 5), none⟩])
.ret)
.skip)
(.seq (.reg [
⟨(some 6), .mv (.t 0), none⟩,
⟨(some 7), .call 201 [(.t 6)], none⟩,
⟨(some 2), .mv (.t 7), none⟩])
.ret)))⟩
def f187 : AF := ⟨14, [], (.seq (.reg [
⟨(some 4), .ld false 1 (.t 1), none⟩,
⟨(some 5), .rng false (.t 4), none⟩])
(.blk 0 (.loop (.seq (.reg [
⟨(some 6), .nxt false (.t 5), none⟩,
⟨(some 7), .xt (.t 6) 0, none⟩])
(.seq (.cond (.t 7)
.skip
(.exit 0))
(.blk 1 (.seq (.reg [
⟨(some 8), .ent (.t 5), none⟩,
⟨(some 9), .xt (.t 8) 0, none⟩,
⟨(some 3), .mv (.t 9), none⟩])
(.seq (.reg [
⟨(some 10), .mv (.t 0), none⟩,
⟨(some 11), .mv (.t 3), none⟩,
⟨(some 12), .cald (.t 10) [(.t 11)], none⟩,
⟨(some 13), .un .not (.t 12), none⟩])
(.cond (.t 13)
.ret
.skip)))))))))⟩
def f188 : AF := ⟨143, [.t 4], (.seq (.reg [
⟨(some 4), .mv (.c (.i .i64 0)), none⟩])
(.seq (.reg [
⟨(some 14), .mv (.t 1), none⟩,
⟨(some 15), .len 0 (.t 14), none⟩,
⟨(some 5), .mv (.t 15), none⟩])
(.seq (.blk 0 (.seq (.reg [
⟨(some 17), .mv (.t 5), none⟩,
⟨(some 18), .bin .eql .int (.t 17) (.c (.i .i64 0)), none⟩,
⟨(some 19), .mv (.t 18), none⟩,
⟨(some 20), .mv (.t 1), (some (19, false))⟩,
⟨(some 21), .mv (.t 0), (some (19, false))⟩,
⟨(some 22), .bin .eql .str (.t 20) (.t 21), (some (19, false))⟩,
⟨(some 23), .pick (.t 19) (.c (.b true)) (.t 22), none⟩,
⟨(some 16), .mv (.t 23), none⟩])
(.cond (.t 16)
(.seq (.reg [
⟨(some 4), .mv (.c (.i .i64 0)), none⟩])
.ret)
(.seq (.reg [
⟨(some 25), .mv (.t 5), none⟩,
⟨(some 26), .bin .eql .int (.t 25) (.c (.i .i64 1)), none⟩,
⟨(some 24), .mv (.t 26), none⟩])
(.cond (.t 24)
(.seq (.reg [
⟨(some 27), .mv (.t 0), none⟩,
⟨(some 28), .mv (.t 1), none⟩,
⟨(some 29), .ixS (.t 28) (.c (.i .i64 0)), none⟩,
⟨(some 30), .call 237 [(.t 27), (.t 29)], none⟩,
⟨(some 4), .mv (.t 30), none⟩])
.ret)
(.seq (.reg [
⟨(some 32), .mv (.t 5), none⟩,
⟨(some 33), .mv (.t 0), none⟩,
⟨(some 34), .len 0 (.t 33), none⟩,
⟨(some 35), .bin .geq .no (.t 32) (.t 34), none⟩,
⟨(some 31), .mv (.t 35), none⟩])
(.cond (.t 31)
(.seq (.reg [
⟨(some 4), .mv (.c (.i .i64 (-1))), none⟩])
.ret)
(.seq (.reg [
⟨(some 37), .mv (.t 5), none⟩,
⟨(some 38), .bad 0, none⟩,
⟨(some 39), .bin .leq .no (.t 37) (.t 38), none⟩,
⟨(some 40), .mv (.t 39), none⟩,
⟨(some 41), .mv (.t 0), (some (40, true))⟩,
⟨(some 42), .len 0 (.t 41), (some (40, true))⟩,
⟨(some 43), .bin .leq .no (.t 42) (.c (.i .i64 64)), (some (40, true))⟩,
⟨(some 44), .pick (.t 40) (.t 43) (.c (.b false)), none⟩,
⟨(some 36), .mv (.t 44), none⟩])
(.cond (.t 36)
(.seq (.reg [
⟨(some 45), .mv (.t 0), none⟩,
⟨(some 46), .mv (.t 1), none⟩,
⟨(some 47), .bad 0, none⟩,
⟨(some 4), .mv (.t 47), none⟩])
.ret)
.skip)))))))))
(.seq (.reg [
⟨(some 48), .mv (.t 1), none⟩,
⟨(some 49), .ixS (.t 48) (.c (.i .i64 0)), none⟩,
⟨(some 6), .mv (.t 49), none⟩])
(.seq (.reg [
⟨(some 50), .mv (.t 1), none⟩,
⟨(some 51), .ixS (.t 50) (.c (.i .i64 1)), none⟩,
⟨(some 7), .mv (.t 51), none⟩])
(.seq (.reg [
⟨(some 8), .mv (.c (.i .i64 0)), none⟩])
(.seq (.reg [
⟨(some 52), .mv (.t 0), none⟩,
⟨(some 53), .len 0 (.t 52), none⟩,
⟨(some 54), .mv (.t 5), none⟩,
⟨(some 55), .bin .sub .no (.t 53) (.t 54), none⟩,
⟨(some 56), .bin .add .no (.t 55) (.c (.i .i64 1)), none⟩,
⟨(some 9), .mv (.t 56), none⟩])
(.seq (.reg [
⟨(some 10), .mv (.c (.i .i64 0)), none⟩])
(.seq (.blk 1 (.loop (.seq (.seq (.reg [
⟨(some 57), .mv (.t 8), none⟩,
⟨(some 58), .mv (.t 9), none⟩,
⟨(some 59), .bin .lss .no (.t 57) (.t 58), none⟩])
(.cond (.t 59)
.skip
(.exit 1)))
(.blk 2 (.seq (.seq (.reg [
⟨(some 60), .mv (.t 0), none⟩,
⟨(some 61), .mv (.t 8), none⟩,
⟨(some 62), .ixS (.t 60) (.t 61), none⟩,
⟨(some 63), .mv (.t 6), none⟩,
⟨(some 64), .bin .neq .int (.t 62) (.t 63), none⟩])
(.cond (.t 64)
(.seq (.reg [
⟨(some 65), .mv (.t 0), none⟩,
⟨(some 66), .mv (.t 8), none⟩,
⟨(some 67), .bin .add .no (.t 66) (.c (.i .i64 1)), none⟩,
⟨(some 68), .mv (.t 9), none⟩,
⟨(some 69), .slS (.t 65) (some (.t 67)) (some (.t 68)), none⟩,
⟨(some 70), .mv (.t 6), none⟩,
⟨(some 71), .call 237 [(.t 69), (.t 70)], none⟩,
⟨(some 11), .mv (.t 71), none⟩])
(.seq (.seq (.reg [
⟨(some 72), .mv (.t 11), none⟩,
⟨(some 73), .bin .lss .no (.t 72) (.c (.i .i64 0)), none⟩])
(.cond (.t 73)
(.seq (.reg [
⟨(some 4), .mv (.c (.i .i64 (-1))), none⟩])
.ret)
.skip))
(.reg [
⟨(some 74), .mv (.t 8), none⟩,
⟨(some 75), .mv (.t 11), none⟩,
⟨(some 76), .bin .add .no (.t 75) (.c (.i .i64 1)), none⟩,
⟨(some 77), .bin .add .no (.t 74) (.t 76), none⟩,
⟨(some 8), .mv (.t 77), none⟩])))
.skip))
(.seq (.seq (.reg [
⟨(some 78), .mv (.t 0), none⟩,
⟨(some 79), .mv (.t 8), none⟩,
⟨(some 80), .bin .add .no (.t 79) (.c (.i .i64 1)), none⟩,
⟨(some 81), .ixS (.t 78) (.t 80), none⟩,
⟨(some 82), .mv (.t 7), none⟩,
⟨(some 83), .bin .eql .int (.t 81) (.t 82), none⟩,
⟨(some 84), .mv (.t 83), none⟩,
⟨(some 85), .mv (.t 0), (some (84, true))⟩,
⟨(some 86), .mv (.t 8), (some (84, true))⟩,
⟨(some 87), .mv (.t 8), (some (84, true))⟩,
⟨(some 88), .mv (.t 5), (some (84, true))⟩,
⟨(some 89), .bin .add .no (.t 87) (.t 88), (some (84, true))⟩,
⟨(some 90), .slS (.t 85) (some (.t 86)) (some (.t 89)), (some (84, true))⟩,
⟨(some 91), .mv (.t 1), (some (84, true))⟩,
⟨(some 92), .bin .eql .str (.t 90) (.t 91), (some (84, true))⟩,
⟨(some 93), .pick (.t 84) (.t 92) (.c (.b false)), none⟩])
(.cond (.t 93)
(.seq (.reg [
⟨(some 94), .mv (.t 8), none⟩,
⟨(some 4), .mv (.t 94), none⟩])
.ret)
.skip))
(.seq (.reg [
⟨(some 95), .mv (.t 8), none⟩,
⟨(some 96), .bin .add .no (.t 95) (.c (.i .i64 1)), none⟩,
⟨(some 8), .mv (.t 96), none⟩])
(.seq (.reg [
⟨(some 97), .mv (.t 10), none⟩,
⟨(some 98), .bin .add .no (.t 97) (.c (.i .i64 1)), none⟩,
⟨(some 10), .mv (.t 98), none⟩])
(.seq (.reg [
⟨(some 99), .mv (.t 5), none⟩,
⟨(some 100), .bad 0, none⟩,
⟨(some 101), .bin .leq .no (.t 99) (.t 100), none⟩,
⟨(some 102), .mv (.t 101), none⟩,
⟨(some 103), .mv (.t 10), (some (102, true))⟩,
⟨(some 104), .mv (.t 8), (some (102, true))⟩,
⟨(some 105), .call 239 [(.t 104)], (some (102, true))⟩,
⟨(some 106), .bin .gtr .no (.t 103) (.t 105), (some (102, true))⟩,
⟨(some 107), .pick (.t 102) (.t 106) (.c (.b false)), none⟩])
(.cond (.t 107)
(.seq (.reg [
⟨(some 108), .mv (.t 0), none⟩,
⟨(some 109), .mv (.t 8), none⟩,
⟨(some 110), .slS (.t 108) (some (.t 109)) none, none⟩,
⟨(some 111), .mv (.t 1), none⟩,
⟨(some 112), .bad 0, none⟩,
⟨(some 12), .mv (.t 112), none⟩])
(.seq (.seq (.reg [
⟨(some 113), .mv (.t 12), none⟩,
⟨(some 114), .bin .geq .no (.t 113) (.c (.i .i64 0)), none⟩])
(.cond (.t 114)
(.seq (.reg [
⟨(some 115), .mv (.t 12), none⟩,
⟨(some 116), .mv (.t 8), none⟩,
⟨(some 117), .bin .add .no (.t 115) (.t 116), none⟩,
⟨(some 4), .mv (.t 117), none⟩])
.ret)
.skip))
(.seq (.reg [
⟨(some 4), .mv (.c (.i .i64 (-1))), none⟩])
.ret)))
(.seq (.reg [
⟨(some 118), .mv (.t 5), none⟩,
⟨(some 119), .bad 0, none⟩,
⟨(some 120), .bin .gtr .no (.t 118) (.t 119), none⟩,
⟨(some 121), .mv (.t 120), none⟩,
⟨(some 122), .mv (.t 10), (some (121, true))⟩,
⟨(some 123), .mv (.t 8), (some (121, true))⟩,
⟨(some 124), .bin .shr .no (.t 123) (.c (.i .u64 4)), (some (121, true))⟩,
⟨(some 125), .bin .add .no (.c (.i .i64 4)) (.t 124), (some (121, true))⟩,
⟨(some 126), .bin .geq .no (.t 122) (.t 125), (some (121, true))⟩,
⟨(some 127), .pick (.t 121) (.t 126) (.c (.b false)), none⟩,
⟨(some 128), .mv (.t 127), none⟩,
⟨(some 129), .mv (.t 8), (some (128, true))⟩,
⟨(some 130), .mv (.t 9), (some (128, true))⟩,
⟨(some 131), .bin .lss .no (.t 129) (.t 130), (some (128, true))⟩,
⟨(some 132), .pick (.t 128) (.t 131) (.c (.b false)), none⟩])
(.cond (.t 132)
(.seq (.reg [
⟨(some 133), .mv (.t 0), none⟩,
⟨(some 134), .mv (.t 8), none⟩,
⟨(some 135), .slS (.t 133) (some (.t 134)) none, none⟩,
⟨(some 136), .mv (.t 1), none⟩,
⟨(some 137), .call 240 [(.t 135), (.t 136)], none⟩,
⟨(some 13), .mv (.t 137), none⟩])
(.seq (.seq (.reg [
⟨(some 138), .mv (.t 13), none⟩,
⟨(some 139), .bin .lss .no (.t 138) (.c (.i .i64 0)), none⟩])
(.cond (.t 139)
(.seq (.reg [
⟨(some 4), .mv (.c (.i .i64 (-1))), none⟩])
.ret)
.skip))
(.seq (.reg [
⟨(some 140), .mv (.t 8), none⟩,
⟨(some 141), .mv (.t 13), none⟩,
⟨(some 142), .bin .add .no (.t 140) (.t 141), none⟩,
⟨(some 4), .mv (.t 142), none⟩])
.ret)))
.skip))))))))))))
(.seq (.reg [
⟨(some 4), .mv (.c (.i .i64 (-1))), none⟩])
.ret))))))))))⟩
def f189 : AF := ⟨43, [.c 2 false 1, .c 3 false 1], (.seq (.reg [
⟨(some 2), .alloc [.nm], none⟩,
⟨(some 3), .alloc [(.i .i64 0)], none⟩])
(.seq (.reg [
⟨(some 11), .mkm, none⟩,
⟨(some 4), .alloc [.nm], none⟩,
⟨none, .st 1 (.t 4) (.t 11), none⟩])
(.seq (.seq (.reg [
⟨(some 12), .mv (.t 0), none⟩,
⟨(some 13), .call 97 [(.t 12)], none⟩])
(.blk 0 (.rf (.t 13) [14, 15] (.seq (.reg [
⟨(some 5), .mv (.t 14), none⟩])
(.reg [
⟨(some 6), .mv (.t 15), none⟩]))
(.blk 1 (.seq (.reg [
⟨(some 16), .mv (.t 5), none⟩,
⟨(some 17), .call 113 [(.t 16)], none⟩,
⟨(some 18), .un .not (.t 17), none⟩,
⟨(some 19), .mv (.t 18), none⟩,
⟨(some 20), .mv (.t 6), (some (19, false))⟩,
⟨(some 21), .call 139 [(.t 20)], (some (19, false))⟩,
⟨(some 22), .un .not (.t 21), (some (19, false))⟩,
⟨(some 23), .pick (.t 19) (.c (.b true)) (.t 22), none⟩])
(.cond (.t 23)
(.seq (.reg [
⟨none, .st 1 (.t 2) (.c .nm), none⟩,
⟨none, .st 1 (.t 3) (.c (.i .i64 60)), none⟩])
.ret)
.skip))))))
(.seq (.seq (.reg [
⟨(some 24), .mv (.t 0), none⟩,
⟨(some 25), .call 97 [(.t 24)], none⟩])
(.blk 2 (.rf (.t 25) [26, 27] (.seq (.reg [
⟨(some 7), .mv (.t 26), none⟩])
(.reg [
⟨(some 8), .mv (.t 27), none⟩]))
(.blk 3 (.seq (.reg [
⟨(some 29), .ld false 1 (.t 4), none⟩,
⟨(some 30), .mv (.t 7), none⟩,
⟨(some 31), .lk .str (.i .i64 0) false (.t 29) (.t 30), none⟩,
⟨(some 32), .mv (.t 8), none⟩,
⟨(some 33), .call 241 [(.t 31), (.t 32)], none⟩,
⟨(some 28), .mv (.t 33), none⟩,
⟨(some 34), .xt (.t 28) 0, none⟩,
⟨(some 35), .xt (.t 28) 1, none⟩,
⟨(some 9), .mv (.t 34), none⟩,
⟨(some 10), .mv (.t 35), none⟩])
(.seq (.seq (.reg [
⟨(some 36), .mv (.t 10), none⟩,
⟨(some 37), .bin .neq .int (.t 36) (.c (.i .i64 0)), none⟩])
(.cond (.t 37)
(.seq (.reg [
⟨(some 38), .mv (.t 10), none⟩,
⟨none, .st 1 (.t 2) (.c .nm), none⟩,
⟨none, .st 1 (.t 3) (.t 38), none⟩])
.ret)
.skip))
(.reg [
⟨(some 39), .ld false 1 (.t 4), none⟩,
⟨(some 40), .mv (.t 7), none⟩,
⟨(some 41), .mv (.t 9), none⟩,
⟨none, .mu .str (.t 39) (.t 40) (.t 41), none⟩])))))))
(.seq (.reg [
⟨(some 42), .ld false 1 (.t 4), none⟩,
⟨none, .st 1 (.t 2) (.t 42), none⟩,
⟨none, .st 1 (.t 3) (.c (.i .i64 0)), none⟩])
.ret)))))⟩
def f190 : AF := ⟨4, [.t 2], (.seq (.reg [
⟨(some 1), .box 1 (.t 0), none⟩,
⟨(some 2), .mv (.c .nf), none⟩])
(.seq (.reg [
⟨(some 3), .mkf 242 [] [(.t 1)], none⟩,
⟨(some 2), .mv (.t 3), none⟩])
.ret))⟩
def f191 : AF := ⟨27, [.t 4], (.seq (.reg [
⟨(some 4), .mv (.c .nsl), none⟩])
(.seq (.seq (.reg [
⟨(some 5), .mv (.t 1), none⟩,
⟨(some 6), .bin .lss .no (.t 5) (.c (.i .i64 0)), none⟩])
(.cond (.t 6)
(.reg [
⟨(some 7), .mki 9 (.c (.s [99, 97, 110, 110, 111, 116, 32, 98, 101, 32, 110, 101, 103, 97, 116, 105, 118, 101])), none⟩,
⟨none, .bad 0, none⟩])
.skip))
(.seq (.seq (.reg [
⟨(some 8), .mv (.t 1), none⟩,
⟨(some 9), .mv (.t 0), none⟩,
⟨(some 10), .cap (.t 9), none⟩,
⟨(some 11), .mv (.t 0), none⟩,
⟨(some 12), .len 1 (.t 11), none⟩,
⟨(some 13), .bin .sub .no (.t 10) (.t 12), none⟩,
⟨(some 14), .bin .sub .no (.t 8) (.t 13), none⟩,
⟨(some 1), .mv (.t 14), none⟩])
(.seq (.reg [
⟨(some 15), .mv (.t 1), none⟩,
⟨(some 16), .bin .gtr .no (.t 15) (.c (.i .i64 0)), none⟩])
(.cond (.t 16)
(.reg [
⟨(some 17), .mv (.t 0), none⟩,
⟨(some 18), .mv (.t 0), none⟩,
⟨(some 19), .cap (.t 18), none⟩,
⟨(some 20), .slL 2 (.t 17) none (some (.t 19)) none, none⟩,
⟨(some 21), .mv (.t 1), none⟩,
⟨(some 22), .appz 2 24 [(.s []), (.i .i64 0)] (.t 20) (.t 21), none⟩,
⟨(some 23), .mv (.t 0), none⟩,
⟨(some 24), .len 1 (.t 23), none⟩,
⟨(some 25), .slL 2 (.t 22) none (some (.t 24)) none, none⟩,
⟨(some 0), .mv (.t 25), none⟩])
.skip)))
(.seq (.reg [
⟨(some 26), .mv (.t 0), none⟩,
⟨(some 4), .mv (.t 26), none⟩])
.ret))))⟩
def f193 : AF := ⟨41, [.t 2], (.seq (.reg [
⟨(some 2), .mv (.c (.b false)), none⟩])
(.seq (.seq (.reg [
⟨(some 5), .mv (.t 0), none⟩,
⟨(some 6), .call 159 [(.t 5)], none⟩,
⟨(some 7), .mv (.c (.i .i64 0)), none⟩])
(.blk 0 (.loop (.seq (.reg [
⟨(some 8), .bin .lss .no (.t 7) (.c (.i .i64 11)), none⟩])
(.seq (.cond (.t 8)
.skip
(.exit 0))
(.seq (.blk 1 (.seq (.reg [
⟨(some 9), .mv (.t 7), none⟩,
⟨(some 10), .ixA 11 1 false (.t 6) (.t 7), none⟩,
⟨(some 3), .mv (.t 9), none⟩,
⟨(some 4), .mv (.t 10), none⟩])
(.seq (.reg [
⟨(some 11), .mv (.t 3), none⟩,
⟨(some 12), .bin .lss .no (.t 11) (.c (.i .i64 4)), none⟩,
⟨(some 13), .mv (.t 12), none⟩,
⟨(some 14), .mv (.t 4), (some (13, true))⟩,
⟨(some 15), .nck (.t 14), (some (13, true))⟩,
⟨(some 16), .ld false 1 (.t 15), (some (13, true))⟩,
⟨(some 17), .call 139 [(.t 16)], (some (13, true))⟩,
⟨(some 18), .un .not (.t 17), (some (13, true))⟩,
⟨(some 19), .pick (.t 13) (.t 18) (.c (.b false)), none⟩,
⟨(some 20), .mv (.t 19), none⟩,
⟨(some 21), .mv (.t 3), (some (20, false))⟩,
⟨(some 22), .bin .geq .no (.t 21) (.c (.i .i64 4)), (some (20, false))⟩,
⟨(some 23), .mv (.t 22), (some (20, false))⟩,
⟨(some 24), .mv (.t 3), (some (23, true))⟩,
⟨(some 25), .bin .neq .int (.t 24) (.c (.i .i64 6)), (some (23, true))⟩,
⟨(some 26), .pick (.t 23) (.t 25) (.c (.b false)), (some (20, false))⟩,
⟨(some 27), .mv (.t 26), (some (20, false))⟩,
⟨(some 28), .mv (.t 4), (some (27, true))⟩,
⟨(some 29), .nck (.t 28), (some (27, true))⟩,
⟨(some 30), .ld false 1 (.t 29), (some (27, true))⟩,
⟨(some 31), .bin .lss .no (.t 30) (.c (.i .i64 0)), (some (27, true))⟩,
⟨(some 32), .mv (.t 31), (some (27, true))⟩,
⟨(some 33), .mv (.t 4), (some (32, false))⟩,
⟨(some 34), .nck (.t 33), (some (32, false))⟩,
⟨(some 35), .ld false 1 (.t 34), (some (32, false))⟩,
⟨(some 36), .bin .gtr .no (.t 35) (.c (.i .i64 72057594037927936)), (some (32, false))⟩,
⟨(some 37), .pick (.t 32) (.c (.b true)) (.t 36), (some (27, true))⟩,
⟨(some 38), .pick (.t 27) (.t 37) (.c (.b false)), (some (20, false))⟩,
⟨(some 39), .pick (.t 20) (.c (.b true)) (.t 38), none⟩])
(.cond (.t 39)
(.seq (.reg [
⟨(some 2), .mv (.c (.b false)), none⟩])
.ret)
.skip))))
(.reg [
⟨(some 40), .bin .add .no (.t 7) (.c (.i .i64 1)), none⟩,
⟨(some 7), .mv (.t 40), none⟩])))))))
(.seq (.reg [
⟨(some 2), .mv (.c (.b true)), none⟩])
.ret)))⟩
def f194 : AF := ⟨5, [.t 2], (.seq (.reg [
⟨(some 2), .mv (.c .nsl), none⟩])
(.seq (.reg [
⟨(some 3), .mv (.t 0), none⟩,
⟨(some 4), .call 243 [(.c .nsl), (.t 3)], none⟩,
⟨(some 2), .mv (.t 4), none⟩])
.ret))⟩
def f195 : AF := ⟨11, [], (.seq (.reg [
⟨(some 3), .mv (.t 0), none⟩,
⟨(some 4), .len 1 (.t 3), none⟩,
⟨(some 2), .mv (.t 4), none⟩])
(.reg [
⟨(some 5), .mv (.t 0), none⟩,
⟨(some 6), .mv (.t 2), none⟩,
⟨(some 7), .mv (.t 2), none⟩,
⟨(some 8), .cvi .u64 (.t 7), none⟩,
⟨(some 9), .call 163 [(.t 8)], none⟩,
⟨(some 10), .call 244 [(.t 5), (.c (.i .i64 0)), (.t 6), (.t 9)], none⟩]))⟩
def f196 : AF := ⟨14, [], (.seq (.reg [
⟨(some 4), .ld false 1 (.t 1), none⟩,
⟨(some 5), .rng false (.t 4), none⟩])
(.blk 0 (.loop (.seq (.reg [
⟨(some 6), .nxt false (.t 5), none⟩,
⟨(some 7), .xt (.t 6) 0, none⟩])
(.seq (.cond (.t 7)
.skip
(.exit 0))
(.blk 1 (.seq (.reg [
⟨(some 8), .ent (.t 5), none⟩,
⟨(some 9), .xt (.t 8) 0, none⟩,
⟨(some 3), .mv (.t 9), none⟩])
(.seq (.reg [
⟨(some 10), .mv (.t 0), none⟩,
⟨(some 11), .mv (.t 3), none⟩,
⟨(some 12), .cald (.t 10) [(.t 11)], none⟩,
⟨(some 13), .un .not (.t 12), none⟩])
(.cond (.t 13)
.ret
.skip)))))))))⟩
def f197 : AF := ⟨12, [.t 2], (.seq (.reg [
⟨(some 2), .mv (.c (.b false)), none⟩])
(.seq (.reg [
⟨(some 3), .mv (.t 0), none⟩,
⟨(some 4), .bin .neq .ptr (.t 3) (.c .np), none⟩,
⟨(some 5), .mv (.t 4), none⟩,
⟨(some 6), .mv (.t 0), (some (5, true))⟩,
⟨(some 7), .nck (.t 6), (some (5, true))⟩,
⟨(some 8), .fa 0 (.t 7), (some (5, true))⟩,
⟨(some 9), .ld false 1 (.t 8), (some (5, true))⟩,
⟨(some 10), .bin .neq .nilm (.t 9) (.c .nm), (some (5, true))⟩,
⟨(some 11), .pick (.t 5) (.t 10) (.c (.b false)), none⟩,
⟨(some 2), .mv (.t 11), none⟩])
.ret))⟩
def f198 : AF := ⟨9, [.t 2], (.seq (.reg [
⟨(some 2), .mv (.c (.b false)), none⟩])
(.seq (.reg [
⟨(some 3), .mv (.t 0), none⟩,
⟨(some 4), .bin .geq .no (.t 3) (.c (.i .i64 0)), none⟩,
⟨(some 5), .mv (.t 4), none⟩,
⟨(some 6), .mv (.t 0), (some (5, true))⟩,
⟨(some 7), .bin .lss .no (.t 6) (.c (.i .i64 8)), (some (5, true))⟩,
⟨(some 8), .pick (.t 5) (.t 7) (.c (.b false)), none⟩,
⟨(some 2), .mv (.t 8), none⟩])
.ret))⟩
def f199 : AF := ⟨27, [.c 4 true 5, .t 5], (.seq (.reg [
⟨(some 4), .alloc [(.i .i64 0), (.i .i64 0), (.i .i64 0), .nsl, (.b false)], none⟩,
⟨(some 5), .mv (.c (.b false)), none⟩])
(.seq (.seq (.reg [
⟨(some 8), .mv (.t 0), none⟩,
⟨(some 9), .call 197 [(.t 8)], none⟩,
⟨(some 10), .un .not (.t 9), none⟩])
(.cond (.t 10)
(.seq (.reg [
⟨(some 11), .build [(.i .i64 0), (.i .i64 0), (.i .i64 0), .nsl, (.b false)] [], none⟩,
⟨none, .st 5 (.t 4) (.t 11), none⟩,
⟨(some 5), .mv (.c (.b false)), none⟩])
.ret)
.skip))
(.seq (.reg [
⟨(some 13), .mv (.t 0), none⟩,
⟨(some 14), .nck (.t 13), none⟩,
⟨(some 15), .fa 0 (.t 14), none⟩,
⟨(some 16), .ld false 1 (.t 15), none⟩,
⟨(some 17), .mv (.t 1), none⟩,
⟨(some 18), .lk .int (.ag [(.i .i64 0), (.i .i64 0), (.i .i64 0), .nsl, (.b false)]) true (.t 16) (.t 17), none⟩,
⟨(some 12), .mv (.t 18), none⟩,
⟨(some 19), .xt (.t 12) 0, none⟩,
⟨(some 20), .xt (.t 12) 1, none⟩,
⟨(some 6), .alloc [(.i .i64 0), (.i .i64 0), (.i .i64 0), .nsl, (.b false)], none⟩,
⟨none, .st 5 (.t 6) (.t 19), none⟩,
⟨(some 7), .mv (.t 20), none⟩])
(.seq (.reg [
⟨(some 21), .fa 3 (.t 6), none⟩,
⟨(some 22), .ld false 1 (.t 21), none⟩,
⟨(some 23), .call 48 [(.t 22)], none⟩,
⟨(some 24), .fa 3 (.t 6), none⟩,
⟨none, .st 1 (.t 24) (.t 23), none⟩])
(.seq (.reg [
⟨(some 25), .ld true 5 (.t 6), none⟩,
⟨(some 26), .mv (.t 7), none⟩,
⟨none, .st 5 (.t 4) (.t 25), none⟩,
⟨(some 5), .mv (.t 26), none⟩])
.ret)))))⟩
def f200 : AF := ⟨36, [.t 2], (.seq (.reg [
⟨(some 2), .mv (.c .nsl), none⟩])
(.seq (.reg [
⟨(some 3), .mv (.c (.i .i64 0)), none⟩])
(.seq (.seq (.reg [
⟨(some 9), .mv (.t 0), none⟩,
⟨(some 10), .len 1 (.t 9), none⟩,
⟨(some 11), .mv (.c (.i .i64 0)), none⟩])
(.blk 0 (.loop (.seq (.reg [
⟨(some 12), .bin .lss .no (.t 11) (.t 10), none⟩])
(.seq (.cond (.t 12)
.skip
(.exit 0))
(.seq (.blk 1 (.seq (.reg [
⟨(some 13), .iaL 1 (.t 9) (.t 11), none⟩,
⟨(some 14), .ld false 1 (.t 13), none⟩,
⟨(some 5), .mv (.t 14), none⟩])
(.seq (.reg [
⟨(some 15), .mv (.t 3), none⟩,
⟨(some 16), .mv (.t 5), none⟩,
⟨(some 17), .len 1 (.t 16), none⟩,
⟨(some 18), .bin .add .no (.t 15) (.t 17), none⟩,
⟨(some 3), .mv (.t 18), none⟩])
(.seq (.reg [
⟨(some 19), .mv (.t 3), none⟩,
⟨(some 20), .bin .lss .no (.t 19) (.c (.i .i64 0)), none⟩])
(.cond (.t 20)
(.reg [
⟨(some 21), .mki 9 (.c (.s [108, 101, 110, 32, 111, 117, 116, 32, 111, 102, 32, 114, 97, 110, 103, 101])), none⟩,
⟨none, .bad 0, none⟩])
.skip)))))
(.reg [
⟨(some 22), .bin .add .no (.t 11) (.c (.i .i64 1)), none⟩,
⟨(some 11), .mv (.t 22), none⟩])))))))
(.seq (.reg [
⟨(some 23), .mv (.t 3), none⟩,
⟨(some 24), .call 245 [(.c .nsl), (.t 23)], none⟩,
⟨(some 6), .mv (.t 24), none⟩])
(.seq (.seq (.reg [
⟨(some 25), .mv (.t 0), none⟩,
⟨(some 26), .len 1 (.t 25), none⟩,
⟨(some 27), .mv (.c (.i .i64 0)), none⟩])
(.blk 2 (.loop (.seq (.reg [
⟨(some 28), .bin .lss .no (.t 27) (.t 26), none⟩])
(.seq (.cond (.t 28)
.skip
(.exit 2))
(.seq (.blk 3 (.seq (.reg [
⟨(some 29), .iaL 1 (.t 25) (.t 27), none⟩,
⟨(some 30), .ld false 1 (.t 29), none⟩,
⟨(some 8), .mv (.t 30), none⟩])
(.reg [
⟨(some 31), .mv (.t 6), none⟩,
⟨(some 32), .mv (.t 8), none⟩,
⟨(some 33), .app 1 1 [(.i .u8 0)] (.t 31) (.t 32), none⟩,
⟨(some 6), .mv (.t 33), none⟩])))
(.reg [
⟨(some 34), .bin .add .no (.t 27) (.c (.i .i64 1)), none⟩,
⟨(some 27), .mv (.t 34), none⟩])))))))
(.seq (.reg [
⟨(some 35), .mv (.t 6), none⟩,
⟨(some 2), .mv (.t 35), none⟩])
.ret))))))⟩
def f201 : AF := ⟨25, [.t 2], (.seq (.reg [
⟨(some 2), .mv (.c (.i .i64 0)), none⟩])
(.seq (.seq (.reg [
⟨(some 3), .mv (.t 0), none⟩,
⟨(some 4), .bin .geq .no (.t 3) (.c (.i .u64 4294967296)), none⟩])
(.cond (.t 4)
(.seq (.reg [
⟨(some 5), .mv (.t 0), none⟩,
⟨(some 6), .bin .shr .no (.t 5) (.c (.i .u64 32)), none⟩,
⟨(some 0), .mv (.t 6), none⟩])
(.reg [
⟨(some 2), .mv (.c (.i .i64 32)), none⟩]))
.skip))
(.seq (.seq (.reg [
⟨(some 7), .mv (.t 0), none⟩,
⟨(some 8), .bin .geq .no (.t 7) (.c (.i .u64 65536)), none⟩])
(.cond (.t 8)
(.seq (.reg [
⟨(some 9), .mv (.t 0), none⟩,
⟨(some 10), .bin .shr .no (.t 9) (.c (.i .u64 16)), none⟩,
⟨(some 0), .mv (.t 10), none⟩])
(.reg [
⟨(some 11), .mv (.t 2), none⟩,
⟨(some 12), .bin .add .no (.t 11) (.c (.i .i64 16)), none⟩,
⟨(some 2), .mv (.t 12), none⟩]))
.skip))
(.seq (.seq (.reg [
⟨(some 13), .mv (.t 0), none⟩,
⟨(some 14), .bin .geq .no (.t 13) (.c (.i .u64 256)), none⟩])
(.cond (.t 14)
(.seq (.reg [
⟨(some 15), .mv (.t 0), none⟩,
⟨(some 16), .bin .shr .no (.t 15) (.c (.i .u64 8)), none⟩,
⟨(some 0), .mv (.t 16), none⟩])
(.reg [
⟨(some 17), .mv (.t 2), none⟩,
⟨(some 18), .bin .add .no (.t 17) (.c (.i .i64 8)), none⟩,
⟨(some 2), .mv (.t 18), none⟩]))
.skip))
(.seq (.reg [
⟨(some 19), .mv (.t 2), none⟩,
⟨(some 20), .mv (.t 0), none⟩,
⟨(some 21), .cvi .u8 (.t 20), none⟩,
⟨(some 22), .ixS (.c (.s [0, 1, 2, 2, 3, 3, 3, 3, 4, 4, 4, 4, 4, 4, 4, 4, 5, 5, 5, 5, 5, 5, 5, 5, 5, 5, 5, 5, 5, 5, 5, 5, 6, 6, 6, 6, 6, 6, 6, 6, 6, 6, 6, 6, 6, 6, 6, 6, 6, 6, 6, 6, 6, 6, 6, 6, 6, 6, 6, 6, 6, 6, 6, 6, 7, 7, 7, 7, 7, 7, 7, 7, 7, 7, 7, 7, 7, 7, 7, 7, 7, 7, 7, 7, 7, 7, 7, 7, 7, 7, 7, 7, 7, 7, 7, 7, 7, 7, 7, 7, 7, 7, 7, 7, 7, 7, 7, 7, 7, 7, 7, 7, 7, 7, 7, 7, 7, 7, 7, 7, 7, 7, 7, 7, 7, 7, 7, 7, 8, 8, 8, 8, 8, 8, 8, 8, 8, 8, 8, 8, 8, 8, 8, 8, 8, 8, 8, 8, 8, 8, 8, 8, 8, 8, 8, 8, 8, 8, 8, 8, 8, 8, 8, 8, 8, 8, 8, 8, 8, 8, 8, 8, 8, 8, 8, 8, 8, 8, 8, 8, 8, 8, 8, 8, 8, 8, 8, 8, 8, 8, 8, 8, 8, 8, 8, 8, 8, 8, 8, 8, 8, 8, 8, 8, 8, 8, 8, 8, 8, 8, 8, 8, 8, 8, 8, 8, 8, 8, 8, 8, 8, 8, 8, 8, 8, 8, 8, 8, 8, 8, 8, 8, 8, 8, 8, 8, 8, 8, 8, 8, 8, 8, 8, 8, 8, 8, 8, 8, 8, 8, 8, 8, 8, 8, 8, 8])) (.t 21), none⟩,
⟨(some 23), .cvi .i64 (.t 22), none⟩,
⟨(some 24), .bin .add .no (.t 19) (.t 23), none⟩,
⟨(some 2), .mv (.t 24), none⟩])
.ret)))))⟩
def f202 : AF := ⟨9, [.t 2], (.seq (.reg [
⟨(some 2), .mv (.c .nsl), none⟩])
(.seq (.reg [
⟨(some 3), .mv (.t 0), none⟩,
⟨(some 4), .mv (.t 0), none⟩,
⟨(some 5), .len 1 (.t 4), none⟩,
⟨(some 6), .mv (.t 0), none⟩,
⟨(some 7), .len 1 (.t 6), none⟩,
⟨(some 8), .slL 1 (.t 3) none (some (.t 5)) (some (.t 7)), none⟩,
⟨(some 2), .mv (.t 8), none⟩])
.ret))⟩
def f203 : AF := ⟨49, [], (.seq (.reg [
⟨(some 8), .mv (.t 1), none⟩,
⟨(some 9), .bin .add .no (.t 8) (.c (.i .i64 1)), none⟩,
⟨(some 6), .mv (.t 9), none⟩])
(.blk 0 (.loop (.seq (.seq (.reg [
⟨(some 10), .mv (.t 6), none⟩,
⟨(some 11), .mv (.t 2), none⟩,
⟨(some 12), .bin .lss .no (.t 10) (.t 11), none⟩])
(.cond (.t 12)
.skip
(.exit 0)))
(.seq (.blk 1 (.seq (.reg [
⟨(some 15), .mv (.t 6), none⟩,
⟨(some 7), .mv (.t 15), none⟩])
(.blk 2 (.loop (.seq (.seq (.drw [
.op ⟨(some 16), .mv (.t 7), none⟩,
.op ⟨(some 17), .mv (.t 1), none⟩,
.op ⟨(some 18), .bin .gtr .no (.t 16) (.t 17), none⟩,
.op ⟨(some 19), .mv (.t 18), none⟩,
.op ⟨(some 20), .mv (.t 0), (some (19, true))⟩,
.op ⟨(some 21), .mv (.t 7), (some (19, true))⟩,
.op ⟨(some 22), .iaL 1 (.t 20) (.t 21), (some (19, true))⟩,
.op ⟨(some 23), .ld false 1 (.t 22), (some (19, true))⟩,
.op ⟨(some 24), .mv (.t 0), (some (19, true))⟩,
.op ⟨(some 25), .mv (.t 7), (some (19, true))⟩,
.op ⟨(some 26), .bin .sub .no (.t 25) (.c (.i .i64 1)), (some (19, true))⟩,
.op ⟨(some 27), .iaL 1 (.t 24) (.t 26), (some (19, true))⟩,
.op ⟨(some 28), .ld false 1 (.t 27), (some (19, true))⟩,
.op ⟨(some 29), .call 209 [(.t 23), (.t 28)], (some (19, true))⟩,
.op ⟨(some 30), .pick (.t 19) (.t 29) (.c (.b false)), none⟩])
(.cond (.t 30)
.skip
(.exit 2)))
(.seq (.blk 3 (.drw [
.op ⟨(some 33), .mv (.t 0), none⟩,
.op ⟨(some 34), .mv (.t 7), none⟩,
.op ⟨(some 35), .mv (.t 0), none⟩,
.op ⟨(some 36), .mv (.t 7), none⟩,
.op ⟨(some 37), .bin .sub .no (.t 36) (.c (.i .i64 1)), none⟩,
.op ⟨(some 38), .mv (.t 0), none⟩,
.op ⟨(some 39), .mv (.t 7), none⟩,
.op ⟨(some 40), .bin .sub .no (.t 39) (.c (.i .i64 1)), none⟩,
.op ⟨(some 41), .iaL 1 (.t 38) (.t 40), none⟩,
.op ⟨(some 42), .ld false 1 (.t 41), none⟩,
.op ⟨(some 43), .mv (.t 0), none⟩,
.op ⟨(some 44), .mv (.t 7), none⟩,
.op ⟨(some 45), .iaL 1 (.t 43) (.t 44), none⟩,
.op ⟨(some 46), .ld false 1 (.t 45), none⟩,
.op ⟨(some 47), .iaL 1 (.t 33) (.t 34), none⟩,
.op ⟨none, .st 1 (.t 47) (.t 42), none⟩,
.op ⟨(some 48), .iaL 1 (.t 35) (.t 37), none⟩,
.op ⟨none, .st 1 (.t 48) (.t 46), none⟩]))
(.reg [
⟨(some 31), .mv (.t 7), none⟩,
⟨(some 32), .bin .sub .no (.t 31) (.c (.i .i64 1)), none⟩,
⟨(some 7), .mv (.t 32), none⟩])))))))
(.reg [
⟨(some 13), .mv (.t 6), none⟩,
⟨(some 14), .bin .add .no (.t 13) (.c (.i .i64 1)), none⟩,
⟨(some 6), .mv (.t 14), none⟩]))))))⟩
def f204 : AF := ⟨56, [], (.seq (.reg [
⟨(some 11), .mv (.t 1), none⟩,
⟨(some 6), .mv (.t 11), none⟩])
(.seq (.reg [
⟨(some 7), .mv (.c (.i .i64 0)), none⟩])
(.seq (.reg [
⟨(some 12), .mv (.t 2), none⟩,
⟨(some 13), .mv (.t 1), none⟩,
⟨(some 14), .bin .sub .no (.t 12) (.t 13), none⟩,
⟨(some 8), .mv (.t 14), none⟩])
(.seq (.seq (.reg [
⟨(some 15), .mv (.t 8), none⟩,
⟨(some 16), .bin .sub .no (.t 15) (.c (.i .i64 1)), none⟩,
⟨(some 17), .bin .quo .no (.t 16) (.c (.i .i64 2)), none⟩,
⟨(some 9), .mv (.t 17), none⟩])
(.blk 0 (.loop (.seq (.seq (.reg [
⟨(some 18), .mv (.t 9), none⟩,
⟨(some 19), .bin .geq .no (.t 18) (.c (.i .i64 0)), none⟩])
(.cond (.t 19)
.skip
(.exit 0)))
(.seq (.blk 1 (.reg [
⟨(some 22), .mv (.t 0), none⟩,
⟨(some 23), .mv (.t 9), none⟩,
⟨(some 24), .mv (.t 8), none⟩,
⟨(some 25), .mv (.t 6), none⟩,
⟨(some 26), .call 246 [(.t 22), (.t 23), (.t 24), (.t 25)], none⟩]))
(.reg [
⟨(some 20), .mv (.t 9), none⟩,
⟨(some 21), .bin .sub .no (.t 20) (.c (.i .i64 1)), none⟩,
⟨(some 9), .mv (.t 21), none⟩]))))))
(.seq (.reg [
⟨(some 27), .mv (.t 8), none⟩,
⟨(some 28), .bin .sub .no (.t 27) (.c (.i .i64 1)), none⟩,
⟨(some 10), .mv (.t 28), none⟩])
(.blk 2 (.loop (.seq (.seq (.reg [
⟨(some 29), .mv (.t 10), none⟩,
⟨(some 30), .bin .geq .no (.t 29) (.c (.i .i64 0)), none⟩])
(.cond (.t 30)
.skip
(.exit 2)))
(.seq (.blk 3 (.seq (.drw [
.op ⟨(some 33), .mv (.t 0), none⟩,
.op ⟨(some 34), .mv (.t 6), none⟩,
.op ⟨(some 35), .mv (.t 0), none⟩,
.op ⟨(some 36), .mv (.t 6), none⟩,
.op ⟨(some 37), .mv (.t 10), none⟩,
.op ⟨(some 38), .bin .add .no (.t 36) (.t 37), none⟩,
.op ⟨(some 39), .mv (.t 0), none⟩,
.op ⟨(some 40), .mv (.t 6), none⟩,
.op ⟨(some 41), .mv (.t 10), none⟩,
.op ⟨(some 42), .bin .add .no (.t 40) (.t 41), none⟩,
.op ⟨(some 43), .iaL 1 (.t 39) (.t 42), none⟩,
.op ⟨(some 44), .ld false 1 (.t 43), none⟩,
.op ⟨(some 45), .mv (.t 0), none⟩,
.op ⟨(some 46), .mv (.t 6), none⟩,
.op ⟨(some 47), .iaL 1 (.t 45) (.t 46), none⟩,
.op ⟨(some 48), .ld false 1 (.t 47), none⟩,
.op ⟨(some 49), .iaL 1 (.t 33) (.t 34), none⟩,
.op ⟨none, .st 1 (.t 49) (.t 44), none⟩,
.op ⟨(some 50), .iaL 1 (.t 35) (.t 38), none⟩,
.op ⟨none, .st 1 (.t 50) (.t 48), none⟩])
(.reg [
⟨(some 51), .mv (.t 0), none⟩,
⟨(some 52), .mv (.t 7), none⟩,
⟨(some 53), .mv (.t 10), none⟩,
⟨(some 54), .mv (.t 6), none⟩,
⟨(some 55), .call 246 [(.t 51), (.t 52), (.t 53), (.t 54)], none⟩])))
(.reg [
⟨(some 31), .mv (.t 10), none⟩,
⟨(some 32), .bin .sub .no (.t 31) (.c (.i .i64 1)), none⟩,
⟨(some 10), .mv (.t 32), none⟩]))))))))))⟩
def f205 : AF := ⟨65, [], (.seq (.reg [
⟨(some 11), .mv (.t 2), none⟩,
⟨(some 12), .mv (.t 1), none⟩,
⟨(some 13), .bin .sub .no (.t 11) (.t 12), none⟩,
⟨(some 6), .mv (.t 13), none⟩])
(.seq (.reg [
⟨(some 14), .mv (.t 6), none⟩,
⟨(some 15), .bin .geq .no (.t 14) (.c (.i .i64 8)), none⟩])
(.cond (.t 15)
(.seq (.reg [
⟨(some 16), .mv (.t 6), none⟩,
⟨(some 17), .cvi .u64 (.t 16), none⟩,
⟨(some 7), .alloc [(.i .u64 0)], none⟩,
⟨none, .st 1 (.t 7) (.t 17), none⟩])
(.seq (.reg [
⟨(some 18), .mv (.t 6), none⟩,
⟨(some 19), .call 247 [(.t 18)], none⟩,
⟨(some 8), .mv (.t 19), none⟩])
(.seq (.reg [
⟨(some 20), .mv (.t 1), none⟩,
⟨(some 21), .mv (.t 6), none⟩,
⟨(some 22), .bin .quo .no (.t 21) (.c (.i .i64 4)), none⟩,
⟨(some 23), .bin .mul .no (.t 22) (.c (.i .i64 2)), none⟩,
⟨(some 24), .bin .add .no (.t 20) (.t 23), none⟩,
⟨(some 25), .bin .sub .no (.t 24) (.c (.i .i64 1)), none⟩,
⟨(some 9), .mv (.t 25), none⟩])
(.blk 0 (.loop (.seq (.seq (.reg [
⟨(some 26), .mv (.t 9), none⟩,
⟨(some 27), .mv (.t 1), none⟩,
⟨(some 28), .mv (.t 6), none⟩,
⟨(some 29), .bin .quo .no (.t 28) (.c (.i .i64 4)), none⟩,
⟨(some 30), .bin .mul .no (.t 29) (.c (.i .i64 2)), none⟩,
⟨(some 31), .bin .add .no (.t 27) (.t 30), none⟩,
⟨(some 32), .bin .add .no (.t 31) (.c (.i .i64 1)), none⟩,
⟨(some 33), .bin .leq .no (.t 26) (.t 32), none⟩])
(.cond (.t 33)
.skip
(.exit 0)))
(.seq (.blk 1 (.seq (.reg [
⟨(some 36), .call 248 [(.t 7)], none⟩,
⟨(some 37), .mv (.t 8), none⟩,
⟨(some 38), .bin .sub .no (.t 37) (.c (.i .u64 1)), none⟩,
⟨(some 39), .bin .and .no (.t 36) (.t 38), none⟩,
⟨(some 40), .cvi .i64 (.t 39), none⟩,
⟨(some 10), .mv (.t 40), none⟩])
(.seq (.seq (.reg [
⟨(some 41), .mv (.t 10), none⟩,
⟨(some 42), .mv (.t 6), none⟩,
⟨(some 43), .bin .geq .no (.t 41) (.t 42), none⟩])
(.cond (.t 43)
(.reg [
⟨(some 44), .mv (.t 10), none⟩,
⟨(some 45), .mv (.t 6), none⟩,
⟨(some 46), .bin .sub .no (.t 44) (.t 45), none⟩,
⟨(some 10), .mv (.t 46), none⟩])
.skip))
(.drw [
.op ⟨(some 47), .mv (.t 0), none⟩,
.op ⟨(some 48), .mv (.t 9), none⟩,
.op ⟨(some 49), .mv (.t 0), none⟩,
.op ⟨(some 50), .mv (.t 1), none⟩,
.op ⟨(some 51), .mv (.t 10), none⟩,
.op ⟨(some 52), .bin .add .no (.t 50) (.t 51), none⟩,
.op ⟨(some 53), .mv (.t 0), none⟩,
.op ⟨(some 54), .mv (.t 1), none⟩,
.op ⟨(some 55), .mv (.t 10), none⟩,
.op ⟨(some 56), .bin .add .no (.t 54) (.t 55), none⟩,
.op ⟨(some 57), .iaL 1 (.t 53) (.t 56), none⟩,
.op ⟨(some 58), .ld false 1 (.t 57), none⟩,
.op ⟨(some 59), .mv (.t 0), none⟩,
.op ⟨(some 60), .mv (.t 9), none⟩,
.op ⟨(some 61), .iaL 1 (.t 59) (.t 60), none⟩,
.op ⟨(some 62), .ld false 1 (.t 61), none⟩,
.op ⟨(some 63), .iaL 1 (.t 47) (.t 48), none⟩,
.op ⟨none, .st 1 (.t 63) (.t 58), none⟩,
.op ⟨(some 64), .iaL 1 (.t 49) (.t 52), none⟩,
.op ⟨none, .st 1 (.t 64) (.t 62), none⟩]))))
(.reg [
⟨(some 34), .mv (.t 9), none⟩,
⟨(some 35), .bin .add .no (.t 34) (.c (.i .i64 1)), none⟩,
⟨(some 9), .mv (.t 35), none⟩]))))))))
.skip)))⟩
def f206 : AF := ⟨57, [.t 6, .t 7], (.seq (.reg [
⟨(some 6), .mv (.c (.i .i64 0)), none⟩,
⟨(some 7), .mv (.c (.i .i64 0)), none⟩])
(.seq (.reg [
⟨(some 13), .mv (.t 2), none⟩,
⟨(some 14), .mv (.t 1), none⟩,
⟨(some 15), .bin .sub .no (.t 13) (.t 14), none⟩,
⟨(some 8), .mv (.t 15), none⟩])
(.seq (.reg [
⟨(some 9), .alloc [(.i .i64 0)], none⟩])
(.seq (.reg [
⟨(some 16), .mv (.t 1), none⟩,
⟨(some 17), .mv (.t 8), none⟩,
⟨(some 18), .bin .quo .no (.t 17) (.c (.i .i64 4)), none⟩,
⟨(some 19), .bin .mul .no (.t 18) (.c (.i .i64 1)), none⟩,
⟨(some 20), .bin .add .no (.t 16) (.t 19), none⟩,
⟨(some 10), .mv (.t 20), none⟩])
(.seq (.reg [
⟨(some 21), .mv (.t 1), none⟩,
⟨(some 22), .mv (.t 8), none⟩,
⟨(some 23), .bin .quo .no (.t 22) (.c (.i .i64 4)), none⟩,
⟨(some 24), .bin .mul .no (.t 23) (.c (.i .i64 2)), none⟩,
⟨(some 25), .bin .add .no (.t 21) (.t 24), none⟩,
⟨(some 11), .mv (.t 25), none⟩])
(.seq (.reg [
⟨(some 26), .mv (.t 1), none⟩,
⟨(some 27), .mv (.t 8), none⟩,
⟨(some 28), .bin .quo .no (.t 27) (.c (.i .i64 4)), none⟩,
⟨(some 29), .bin .mul .no (.t 28) (.c (.i .i64 3)), none⟩,
⟨(some 30), .bin .add .no (.t 26) (.t 29), none⟩,
⟨(some 12), .mv (.t 30), none⟩])
(.seq (.seq (.reg [
⟨(some 31), .mv (.t 8), none⟩,
⟨(some 32), .bin .geq .no (.t 31) (.c (.i .i64 8)), none⟩])
(.cond (.t 32)
(.seq (.seq (.reg [
⟨(some 33), .mv (.t 8), none⟩,
⟨(some 34), .bin .geq .no (.t 33) (.c (.i .i64 50)), none⟩])
(.cond (.t 34)
(.seq (.reg [
⟨(some 35), .mv (.t 0), none⟩,
⟨(some 36), .mv (.t 10), none⟩,
⟨(some 37), .call 249 [(.t 35), (.t 36), (.t 9)], none⟩,
⟨(some 10), .mv (.t 37), none⟩])
(.seq (.reg [
⟨(some 38), .mv (.t 0), none⟩,
⟨(some 39), .mv (.t 11), none⟩,
⟨(some 40), .call 249 [(.t 38), (.t 39), (.t 9)], none⟩,
⟨(some 11), .mv (.t 40), none⟩])
(.reg [
⟨(some 41), .mv (.t 0), none⟩,
⟨(some 42), .mv (.t 12), none⟩,
⟨(some 43), .call 249 [(.t 41), (.t 42), (.t 9)], none⟩,
⟨(some 12), .mv (.t 43), none⟩])))
.skip))
(.reg [
⟨(some 44), .mv (.t 0), none⟩,
⟨(some 45), .mv (.t 10), none⟩,
⟨(some 46), .mv (.t 11), none⟩,
⟨(some 47), .mv (.t 12), none⟩,
⟨(some 48), .call 250 [(.t 44), (.t 45), (.t 46), (.t 47), (.t 9)], none⟩,
⟨(some 11), .mv (.t 48), none⟩]))
.skip))
(.seq (.reg [
⟨(some 49), .ld false 1 (.t 9), none⟩])
(.blk 0 (.seq (.reg [
⟨(some 52), .bin .eql .int (.t 49) (.c (.i .i64 0)), none⟩,
⟨(some 51), .mv (.t 52), none⟩])
(.cond (.t 51)
(.seq (.reg [
⟨(some 53), .mv (.t 11), none⟩,
⟨(some 6), .mv (.t 53), none⟩,
⟨(some 7), .mv (.c (.i .i64 1)), none⟩])
.ret)
(.seq (.reg [
⟨(some 55), .bin .eql .int (.t 49) (.c (.i .i64 12)), none⟩,
⟨(some 54), .mv (.t 55), none⟩])
(.cond (.t 54)
(.seq (.reg [
⟨(some 56), .mv (.t 11), none⟩,
⟨(some 6), .mv (.t 56), none⟩,
⟨(some 7), .mv (.c (.i .i64 2)), none⟩])
.ret)
(.seq (.reg [
⟨(some 50), .mv (.t 11), none⟩,
⟨(some 6), .mv (.t 50), none⟩,
⟨(some 7), .mv (.c (.i .i64 0)), none⟩])
.ret))))))))))))))⟩
def f207 : AF := ⟨32, [], (.seq (.reg [
⟨(some 8), .mv (.t 1), none⟩,
⟨(some 6), .mv (.t 8), none⟩])
(.seq (.reg [
⟨(some 9), .mv (.t 2), none⟩,
⟨(some 10), .bin .sub .no (.t 9) (.c (.i .i64 1)), none⟩,
⟨(some 7), .mv (.t 10), none⟩])
(.blk 0 (.loop (.seq (.seq (.reg [
⟨(some 11), .mv (.t 6), none⟩,
⟨(some 12), .mv (.t 7), none⟩,
⟨(some 13), .bin .lss .no (.t 11) (.t 12), none⟩])
(.cond (.t 13)
.skip
(.exit 0)))
(.blk 1 (.seq (.drw [
.op ⟨(some 14), .mv (.t 0), none⟩,
.op ⟨(some 15), .mv (.t 6), none⟩,
.op ⟨(some 16), .mv (.t 0), none⟩,
.op ⟨(some 17), .mv (.t 7), none⟩,
.op ⟨(some 18), .mv (.t 0), none⟩,
.op ⟨(some 19), .mv (.t 7), none⟩,
.op ⟨(some 20), .iaL 1 (.t 18) (.t 19), none⟩,
.op ⟨(some 21), .ld false 1 (.t 20), none⟩,
.op ⟨(some 22), .mv (.t 0), none⟩,
.op ⟨(some 23), .mv (.t 6), none⟩,
.op ⟨(some 24), .iaL 1 (.t 22) (.t 23), none⟩,
.op ⟨(some 25), .ld false 1 (.t 24), none⟩,
.op ⟨(some 26), .iaL 1 (.t 14) (.t 15), none⟩,
.op ⟨none, .st 1 (.t 26) (.t 21), none⟩,
.op ⟨(some 27), .iaL 1 (.t 16) (.t 17), none⟩,
.op ⟨none, .st 1 (.t 27) (.t 25), none⟩])
(.seq (.reg [
⟨(some 28), .mv (.t 6), none⟩,
⟨(some 29), .bin .add .no (.t 28) (.c (.i .i64 1)), none⟩,
⟨(some 6), .mv (.t 29), none⟩])
(.reg [
⟨(some 30), .mv (.t 7), none⟩,
⟨(some 31), .bin .sub .no (.t 30) (.c (.i .i64 1)), none⟩,
⟨(some 7), .mv (.t 31), none⟩])))))))))⟩
def f208 : AF := ⟨133, [.t 6], (.seq (.reg [
⟨(some 6), .mv (.c (.b false)), none⟩])
(.seq (.reg [
⟨(some 11), .mv (.t 1), none⟩,
⟨(some 12), .bin .add .no (.t 11) (.c (.i .i64 1)), none⟩,
⟨(some 7), .mv (.t 12), none⟩])
(.seq (.seq (.reg [
⟨(some 8), .mv (.c (.i .i64 0)), none⟩])
(.blk 0 (.loop (.seq (.seq (.reg [
⟨(some 13), .mv (.t 8), none⟩,
⟨(some 14), .bin .lss .no (.t 13) (.c (.i .i64 5)), none⟩])
(.cond (.t 14)
.skip
(.exit 0)))
(.seq (.blk 1 (.seq (.blk 2 (.loop (.seq (.seq (.drw [
.op ⟨(some 17), .mv (.t 7), none⟩,
.op ⟨(some 18), .mv (.t 2), none⟩,
.op ⟨(some 19), .bin .lss .no (.t 17) (.t 18), none⟩,
.op ⟨(some 20), .mv (.t 19), none⟩,
.op ⟨(some 21), .mv (.t 0), (some (20, true))⟩,
.op ⟨(some 22), .mv (.t 7), (some (20, true))⟩,
.op ⟨(some 23), .iaL 1 (.t 21) (.t 22), (some (20, true))⟩,
.op ⟨(some 24), .ld false 1 (.t 23), (some (20, true))⟩,
.op ⟨(some 25), .mv (.t 0), (some (20, true))⟩,
.op ⟨(some 26), .mv (.t 7), (some (20, true))⟩,
.op ⟨(some 27), .bin .sub .no (.t 26) (.c (.i .i64 1)), (some (20, true))⟩,
.op ⟨(some 28), .iaL 1 (.t 25) (.t 27), (some (20, true))⟩,
.op ⟨(some 29), .ld false 1 (.t 28), (some (20, true))⟩,
.op ⟨(some 30), .call 209 [(.t 24), (.t 29)], (some (20, true))⟩,
.op ⟨(some 31), .un .not (.t 30), (some (20, true))⟩,
.op ⟨(some 32), .pick (.t 20) (.t 31) (.c (.b false)), none⟩])
(.cond (.t 32)
.skip
(.exit 2)))
(.blk 3 (.reg [
⟨(some 33), .mv (.t 7), none⟩,
⟨(some 34), .bin .add .no (.t 33) (.c (.i .i64 1)), none⟩,
⟨(some 7), .mv (.t 34), none⟩])))))
(.seq (.seq (.reg [
⟨(some 35), .mv (.t 7), none⟩,
⟨(some 36), .mv (.t 2), none⟩,
⟨(some 37), .bin .eql .int (.t 35) (.t 36), none⟩])
(.cond (.t 37)
(.seq (.reg [
⟨(some 6), .mv (.c (.b true)), none⟩])
.ret)
.skip))
(.seq (.seq (.reg [
⟨(some 38), .mv (.t 2), none⟩,
⟨(some 39), .mv (.t 1), none⟩,
⟨(some 40), .bin .sub .no (.t 38) (.t 39), none⟩,
⟨(some 41), .bin .lss .no (.t 40) (.c (.i .i64 50)), none⟩])
(.cond (.t 41)
(.seq (.reg [
⟨(some 6), .mv (.c (.b false)), none⟩])
.ret)
.skip))
(.seq (.drw [
.op ⟨(some 42), .mv (.t 0), none⟩,
.op ⟨(some 43), .mv (.t 7), none⟩,
.op ⟨(some 44), .mv (.t 0), none⟩,
.op ⟨(some 45), .mv (.t 7), none⟩,
.op ⟨(some 46), .bin .sub .no (.t 45) (.c (.i .i64 1)), none⟩,
.op ⟨(some 47), .mv (.t 0), none⟩,
.op ⟨(some 48), .mv (.t 7), none⟩,
.op ⟨(some 49), .bin .sub .no (.t 48) (.c (.i .i64 1)), none⟩,
.op ⟨(some 50), .iaL 1 (.t 47) (.t 49), none⟩,
.op ⟨(some 51), .ld false 1 (.t 50), none⟩,
.op ⟨(some 52), .mv (.t 0), none⟩,
.op ⟨(some 53), .mv (.t 7), none⟩,
.op ⟨(some 54), .iaL 1 (.t 52) (.t 53), none⟩,
.op ⟨(some 55), .ld false 1 (.t 54), none⟩,
.op ⟨(some 56), .iaL 1 (.t 42) (.t 43), none⟩,
.op ⟨none, .st 1 (.t 56) (.t 51), none⟩,
.op ⟨(some 57), .iaL 1 (.t 44) (.t 46), none⟩,
.op ⟨none, .st 1 (.t 57) (.t 55), none⟩])
(.seq (.seq (.reg [
⟨(some 58), .mv (.t 7), none⟩,
⟨(some 59), .mv (.t 1), none⟩,
⟨(some 60), .bin .sub .no (.t 58) (.t 59), none⟩,
⟨(some 61), .bin .geq .no (.t 60) (.c (.i .i64 2)), none⟩])
(.cond (.t 61)
(.seq (.reg [
⟨(some 62), .mv (.t 7), none⟩,
⟨(some 63), .bin .sub .no (.t 62) (.c (.i .i64 1)), none⟩,
⟨(some 9), .mv (.t 63), none⟩])
(.blk 4 (.loop (.seq (.seq (.reg [
⟨(some 64), .mv (.t 9), none⟩,
⟨(some 65), .bin .geq .no (.t 64) (.c (.i .i64 1)), none⟩])
(.cond (.t 65)
.skip
(.exit 4)))
(.seq (.blk 5 (.seq (.seq (.drw [
.op ⟨(some 68), .mv (.t 0), none⟩,
.op ⟨(some 69), .mv (.t 9), none⟩,
.op ⟨(some 70), .iaL 1 (.t 68) (.t 69), none⟩,
.op ⟨(some 71), .ld false 1 (.t 70), none⟩,
.op ⟨(some 72), .mv (.t 0), none⟩,
.op ⟨(some 73), .mv (.t 9), none⟩,
.op ⟨(some 74), .bin .sub .no (.t 73) (.c (.i .i64 1)), none⟩,
.op ⟨(some 75), .iaL 1 (.t 72) (.t 74), none⟩,
.op ⟨(some 76), .ld false 1 (.t 75), none⟩,
.op ⟨(some 77), .call 209 [(.t 71), (.t 76)], none⟩,
.op ⟨(some 78), .un .not (.t 77), none⟩])
(.cond (.t 78)
(.exit 4)
.skip))
(.drw [
.op ⟨(some 79), .mv (.t 0), none⟩,
.op ⟨(some 80), .mv (.t 9), none⟩,
.op ⟨(some 81), .mv (.t 0), none⟩,
.op ⟨(some 82), .mv (.t 9), none⟩,
.op ⟨(some 83), .bin .sub .no (.t 82) (.c (.i .i64 1)), none⟩,
.op ⟨(some 84), .mv (.t 0), none⟩,
.op ⟨(some 85), .mv (.t 9), none⟩,
.op ⟨(some 86), .bin .sub .no (.t 85) (.c (.i .i64 1)), none⟩,
.op ⟨(some 87), .iaL 1 (.t 84) (.t 86), none⟩,
.op ⟨(some 88), .ld false 1 (.t 87), none⟩,
.op ⟨(some 89), .mv (.t 0), none⟩,
.op ⟨(some 90), .mv (.t 9), none⟩,
.op ⟨(some 91), .iaL 1 (.t 89) (.t 90), none⟩,
.op ⟨(some 92), .ld false 1 (.t 91), none⟩,
.op ⟨(some 93), .iaL 1 (.t 79) (.t 80), none⟩,
.op ⟨none, .st 1 (.t 93) (.t 88), none⟩,
.op ⟨(some 94), .iaL 1 (.t 81) (.t 83), none⟩,
.op ⟨none, .st 1 (.t 94) (.t 92), none⟩])))
(.reg [
⟨(some 66), .mv (.t 9), none⟩,
⟨(some 67), .bin .sub .no (.t 66) (.c (.i .i64 1)), none⟩,
⟨(some 9), .mv (.t 67), none⟩]))))))
.skip))
(.seq (.reg [
⟨(some 95), .mv (.t 2), none⟩,
⟨(some 96), .mv (.t 7), none⟩,
⟨(some 97), .bin .sub .no (.t 95) (.t 96), none⟩,
⟨(some 98), .bin .geq .no (.t 97) (.c (.i .i64 2)), none⟩])
(.cond (.t 98)
(.seq (.reg [
⟨(some 99), .mv (.t 7), none⟩,
⟨(some 100), .bin .add .no (.t 99) (.c (.i .i64 1)), none⟩,
⟨(some 10), .mv (.t 100), none⟩])
(.blk 6 (.loop (.seq (.seq (.reg [
⟨(some 101), .mv (.t 10), none⟩,
⟨(some 102), .mv (.t 2), none⟩,
⟨(some 103), .bin .lss .no (.t 101) (.t 102), none⟩])
(.cond (.t 103)
.skip
(.exit 6)))
(.seq (.blk 7 (.seq (.seq (.drw [
.op ⟨(some 106), .mv (.t 0), none⟩,
.op ⟨(some 107), .mv (.t 10), none⟩,
.op ⟨(some 108), .iaL 1 (.t 106) (.t 107), none⟩,
.op ⟨(some 109), .ld false 1 (.t 108), none⟩,
.op ⟨(some 110), .mv (.t 0), none⟩,
.op ⟨(some 111), .mv (.t 10), none⟩,
.op ⟨(some 112), .bin .sub .no (.t 111) (.c (.i .i64 1)), none⟩,
.op ⟨(some 113), .iaL 1 (.t 110) (.t 112), none⟩,
.op ⟨(some 114), .ld false 1 (.t 113), none⟩,
.op ⟨(some 115), .call 209 [(.t 109), (.t 114)], none⟩,
.op ⟨(some 116), .un .not (.t 115), none⟩])
(.cond (.t 116)
(.exit 6)
.skip))
(.drw [
.op ⟨(some 117), .mv (.t 0), none⟩,
.op ⟨(some 118), .mv (.t 10), none⟩,
.op ⟨(some 119), .mv (.t 0), none⟩,
.op ⟨(some 120), .mv (.t 10), none⟩,
.op ⟨(some 121), .bin .sub .no (.t 120) (.c (.i .i64 1)), none⟩,
.op ⟨(some 122), .mv (.t 0), none⟩,
.op ⟨(some 123), .mv (.t 10), none⟩,
.op ⟨(some 124), .bin .sub .no (.t 123) (.c (.i .i64 1)), none⟩,
.op ⟨(some 125), .iaL 1 (.t 122) (.t 124), none⟩,
.op ⟨(some 126), .ld false 1 (.t 125), none⟩,
.op ⟨(some 127), .mv (.t 0), none⟩,
.op ⟨(some 128), .mv (.t 10), none⟩,
.op ⟨(some 129), .iaL 1 (.t 127) (.t 128), none⟩,
.op ⟨(some 130), .ld false 1 (.t 129), none⟩,
.op ⟨(some 131), .iaL 1 (.t 117) (.t 118), none⟩,
.op ⟨none, .st 1 (.t 131) (.t 126), none⟩,
.op ⟨(some 132), .iaL 1 (.t 119) (.t 121), none⟩,
.op ⟨none, .st 1 (.t 132) (.t 130), none⟩])))
(.reg [
⟨(some 104), .mv (.t 10), none⟩,
⟨(some 105), .bin .add .no (.t 104) (.c (.i .i64 1)), none⟩,
⟨(some 10), .mv (.t 105), none⟩]))))))
.skip))))))))
(.reg [
⟨(some 15), .mv (.t 8), none⟩,
⟨(some 16), .bin .add .no (.t 15) (.c (.i .i64 1)), none⟩,
⟨(some 8), .mv (.t 16), none⟩]))))))
(.seq (.reg [
⟨(some 6), .mv (.c (.b false)), none⟩])
.ret))))⟩
def f209 : AF := ⟨17, [.t 4], (.seq (.reg [
⟨(some 4), .mv (.c (.b false)), none⟩])
(.seq (.reg [
⟨(some 5), .mv (.t 0), none⟩,
⟨(some 6), .call 251 [(.t 5)], none⟩,
⟨(some 7), .mv (.t 6), none⟩,
⟨(some 8), .mv (.t 1), (some (7, true))⟩,
⟨(some 9), .call 251 [(.t 8)], (some (7, true))⟩,
⟨(some 10), .un .not (.t 9), (some (7, true))⟩,
⟨(some 11), .pick (.t 7) (.t 10) (.c (.b false)), none⟩,
⟨(some 12), .mv (.t 11), none⟩,
⟨(some 13), .mv (.t 0), (some (12, false))⟩,
⟨(some 14), .mv (.t 1), (some (12, false))⟩,
⟨(some 15), .bin .lss .no (.t 13) (.t 14), (some (12, false))⟩,
⟨(some 16), .pick (.t 12) (.c (.b true)) (.t 15), none⟩,
⟨(some 4), .mv (.t 16), none⟩])
.ret))⟩
def f210 : AF := ⟨84, [.t 8], (.seq (.reg [
⟨(some 8), .mv (.c (.i .i64 0)), none⟩])
(.seq (.drw [
.op ⟨(some 11), .mv (.t 0), none⟩,
.op ⟨(some 12), .mv (.t 1), none⟩,
.op ⟨(some 13), .mv (.t 0), none⟩,
.op ⟨(some 14), .mv (.t 3), none⟩,
.op ⟨(some 15), .mv (.t 0), none⟩,
.op ⟨(some 16), .mv (.t 3), none⟩,
.op ⟨(some 17), .iaL 1 (.t 15) (.t 16), none⟩,
.op ⟨(some 18), .ld false 1 (.t 17), none⟩,
.op ⟨(some 19), .mv (.t 0), none⟩,
.op ⟨(some 20), .mv (.t 1), none⟩,
.op ⟨(some 21), .iaL 1 (.t 19) (.t 20), none⟩,
.op ⟨(some 22), .ld false 1 (.t 21), none⟩,
.op ⟨(some 23), .iaL 1 (.t 11) (.t 12), none⟩,
.op ⟨none, .st 1 (.t 23) (.t 18), none⟩,
.op ⟨(some 24), .iaL 1 (.t 13) (.t 14), none⟩,
.op ⟨none, .st 1 (.t 24) (.t 22), none⟩])
(.seq (.reg [
⟨(some 25), .mv (.t 1), none⟩,
⟨(some 26), .bin .add .no (.t 25) (.c (.i .i64 1)), none⟩,
⟨(some 27), .mv (.t 2), none⟩,
⟨(some 28), .bin .sub .no (.t 27) (.c (.i .i64 1)), none⟩,
⟨(some 9), .mv (.t 26), none⟩,
⟨(some 10), .mv (.t 28), none⟩])
(.seq (.blk 0 (.loop (.blk 1 (.seq (.blk 2 (.loop (.seq (.seq (.drw [
.op ⟨(some 29), .mv (.t 9), none⟩,
.op ⟨(some 30), .mv (.t 10), none⟩,
.op ⟨(some 31), .bin .leq .no (.t 29) (.t 30), none⟩,
.op ⟨(some 32), .mv (.t 31), none⟩,
.op ⟨(some 33), .mv (.t 0), (some (32, true))⟩,
.op ⟨(some 34), .mv (.t 1), (some (32, true))⟩,
.op ⟨(some 35), .iaL 1 (.t 33) (.t 34), (some (32, true))⟩,
.op ⟨(some 36), .ld false 1 (.t 35), (some (32, true))⟩,
.op ⟨(some 37), .mv (.t 0), (some (32, true))⟩,
.op ⟨(some 38), .mv (.t 9), (some (32, true))⟩,
.op ⟨(some 39), .iaL 1 (.t 37) (.t 38), (some (32, true))⟩,
.op ⟨(some 40), .ld false 1 (.t 39), (some (32, true))⟩,
.op ⟨(some 41), .call 209 [(.t 36), (.t 40)], (some (32, true))⟩,
.op ⟨(some 42), .un .not (.t 41), (some (32, true))⟩,
.op ⟨(some 43), .pick (.t 32) (.t 42) (.c (.b false)), none⟩])
(.cond (.t 43)
.skip
(.exit 2)))
(.blk 3 (.reg [
⟨(some 44), .mv (.t 9), none⟩,
⟨(some 45), .bin .add .no (.t 44) (.c (.i .i64 1)), none⟩,
⟨(some 9), .mv (.t 45), none⟩])))))
(.seq (.blk 4 (.loop (.seq (.seq (.drw [
.op ⟨(some 46), .mv (.t 9), none⟩,
.op ⟨(some 47), .mv (.t 10), none⟩,
.op ⟨(some 48), .bin .leq .no (.t 46) (.t 47), none⟩,
.op ⟨(some 49), .mv (.t 48), none⟩,
.op ⟨(some 50), .mv (.t 0), (some (49, true))⟩,
.op ⟨(some 51), .mv (.t 1), (some (49, true))⟩,
.op ⟨(some 52), .iaL 1 (.t 50) (.t 51), (some (49, true))⟩,
.op ⟨(some 53), .ld false 1 (.t 52), (some (49, true))⟩,
.op ⟨(some 54), .mv (.t 0), (some (49, true))⟩,
.op ⟨(some 55), .mv (.t 10), (some (49, true))⟩,
.op ⟨(some 56), .iaL 1 (.t 54) (.t 55), (some (49, true))⟩,
.op ⟨(some 57), .ld false 1 (.t 56), (some (49, true))⟩,
.op ⟨(some 58), .call 209 [(.t 53), (.t 57)], (some (49, true))⟩,
.op ⟨(some 59), .pick (.t 49) (.t 58) (.c (.b false)), none⟩])
(.cond (.t 59)
.skip
(.exit 4)))
(.blk 5 (.reg [
⟨(some 60), .mv (.t 10), none⟩,
⟨(some 61), .bin .sub .no (.t 60) (.c (.i .i64 1)), none⟩,
⟨(some 10), .mv (.t 61), none⟩])))))
(.seq (.seq (.reg [
⟨(some 62), .mv (.t 9), none⟩,
⟨(some 63), .mv (.t 10), none⟩,
⟨(some 64), .bin .gtr .no (.t 62) (.t 63), none⟩])
(.cond (.t 64)
(.exit 0)
.skip))
(.seq (.drw [
.op ⟨(some 65), .mv (.t 0), none⟩,
.op ⟨(some 66), .mv (.t 9), none⟩,
.op ⟨(some 67), .mv (.t 0), none⟩,
.op ⟨(some 68), .mv (.t 10), none⟩,
.op ⟨(some 69), .mv (.t 0), none⟩,
.op ⟨(some 70), .mv (.t 10), none⟩,
.op ⟨(some 71), .iaL 1 (.t 69) (.t 70), none⟩,
.op ⟨(some 72), .ld false 1 (.t 71), none⟩,
.op ⟨(some 73), .mv (.t 0), none⟩,
.op ⟨(some 74), .mv (.t 9), none⟩,
.op ⟨(some 75), .iaL 1 (.t 73) (.t 74), none⟩,
.op ⟨(some 76), .ld false 1 (.t 75), none⟩,
.op ⟨(some 77), .iaL 1 (.t 65) (.t 66), none⟩,
.op ⟨none, .st 1 (.t 77) (.t 72), none⟩,
.op ⟨(some 78), .iaL 1 (.t 67) (.t 68), none⟩,
.op ⟨none, .st 1 (.t 78) (.t 76), none⟩])
(.seq (.reg [
⟨(some 79), .mv (.t 9), none⟩,
⟨(some 80), .bin .add .no (.t 79) (.c (.i .i64 1)), none⟩,
⟨(some 9), .mv (.t 80), none⟩])
(.reg [
⟨(some 81), .mv (.t 10), none⟩,
⟨(some 82), .bin .sub .no (.t 81) (.c (.i .i64 1)), none⟩,
⟨(some 10), .mv (.t 82), none⟩])))))))))
(.seq (.reg [
⟨(some 83), .mv (.t 9), none⟩,
⟨(some 8), .mv (.t 83), none⟩])
.ret)))))⟩
def f211 : AF := ⟨168, [.t 8, .t 9], (.seq (.reg [
⟨(some 8), .mv (.c (.i .i64 0)), none⟩,
⟨(some 9), .mv (.c (.b false)), none⟩])
(.seq (.drw [
.op ⟨(some 12), .mv (.t 0), none⟩,
.op ⟨(some 13), .mv (.t 1), none⟩,
.op ⟨(some 14), .mv (.t 0), none⟩,
.op ⟨(some 15), .mv (.t 3), none⟩,
.op ⟨(some 16), .mv (.t 0), none⟩,
.op ⟨(some 17), .mv (.t 3), none⟩,
.op ⟨(some 18), .iaL 1 (.t 16) (.t 17), none⟩,
.op ⟨(some 19), .ld false 1 (.t 18), none⟩,
.op ⟨(some 20), .mv (.t 0), none⟩,
.op ⟨(some 21), .mv (.t 1), none⟩,
.op ⟨(some 22), .iaL 1 (.t 20) (.t 21), none⟩,
.op ⟨(some 23), .ld false 1 (.t 22), none⟩,
.op ⟨(some 24), .iaL 1 (.t 12) (.t 13), none⟩,
.op ⟨none, .st 1 (.t 24) (.t 19), none⟩,
.op ⟨(some 25), .iaL 1 (.t 14) (.t 15), none⟩,
.op ⟨none, .st 1 (.t 25) (.t 23), none⟩])
(.seq (.reg [
⟨(some 26), .mv (.t 1), none⟩,
⟨(some 27), .bin .add .no (.t 26) (.c (.i .i64 1)), none⟩,
⟨(some 28), .mv (.t 2), none⟩,
⟨(some 29), .bin .sub .no (.t 28) (.c (.i .i64 1)), none⟩,
⟨(some 10), .mv (.t 27), none⟩,
⟨(some 11), .mv (.t 29), none⟩])
(.seq (.blk 0 (.loop (.seq (.seq (.drw [
.op ⟨(some 30), .mv (.t 10), none⟩,
.op ⟨(some 31), .mv (.t 11), none⟩,
.op ⟨(some 32), .bin .leq .no (.t 30) (.t 31), none⟩,
.op ⟨(some 33), .mv (.t 32), none⟩,
.op ⟨(some 34), .mv (.t 0), (some (33, true))⟩,
.op ⟨(some 35), .mv (.t 10), (some (33, true))⟩,
.op ⟨(some 36), .iaL 1 (.t 34) (.t 35), (some (33, true))⟩,
.op ⟨(some 37), .ld false 1 (.t 36), (some (33, true))⟩,
.op ⟨(some 38), .mv (.t 0), (some (33, true))⟩,
.op ⟨(some 39), .mv (.t 1), (some (33, true))⟩,
.op ⟨(some 40), .iaL 1 (.t 38) (.t 39), (some (33, true))⟩,
.op ⟨(some 41), .ld false 1 (.t 40), (some (33, true))⟩,
.op ⟨(some 42), .call 209 [(.t 37), (.t 41)], (some (33, true))⟩,
.op ⟨(some 43), .pick (.t 33) (.t 42) (.c (.b false)), none⟩])
(.cond (.t 43)
.skip
(.exit 0)))
(.blk 1 (.reg [
⟨(some 44), .mv (.t 10), none⟩,
⟨(some 45), .bin .add .no (.t 44) (.c (.i .i64 1)), none⟩,
⟨(some 10), .mv (.t 45), none⟩])))))
(.seq (.blk 2 (.loop (.seq (.seq (.drw [
.op ⟨(some 46), .mv (.t 10), none⟩,
.op ⟨(some 47), .mv (.t 11), none⟩,
.op ⟨(some 48), .bin .leq .no (.t 46) (.t 47), none⟩,
.op ⟨(some 49), .mv (.t 48), none⟩,
.op ⟨(some 50), .mv (.t 0), (some (49, true))⟩,
.op ⟨(some 51), .mv (.t 11), (some (49, true))⟩,
.op ⟨(some 52), .iaL 1 (.t 50) (.t 51), (some (49, true))⟩,
.op ⟨(some 53), .ld false 1 (.t 52), (some (49, true))⟩,
.op ⟨(some 54), .mv (.t 0), (some (49, true))⟩,
.op ⟨(some 55), .mv (.t 1), (some (49, true))⟩,
.op ⟨(some 56), .iaL 1 (.t 54) (.t 55), (some (49, true))⟩,
.op ⟨(some 57), .ld false 1 (.t 56), (some (49, true))⟩,
.op ⟨(some 58), .call 209 [(.t 53), (.t 57)], (some (49, true))⟩,
.op ⟨(some 59), .un .not (.t 58), (some (49, true))⟩,
.op ⟨(some 60), .pick (.t 49) (.t 59) (.c (.b false)), none⟩])
(.cond (.t 60)
.skip
(.exit 2)))
(.blk 3 (.reg [
⟨(some 61), .mv (.t 11), none⟩,
⟨(some 62), .bin .sub .no (.t 61) (.c (.i .i64 1)), none⟩,
⟨(some 11), .mv (.t 62), none⟩])))))
(.seq (.seq (.reg [
⟨(some 63), .mv (.t 10), none⟩,
⟨(some 64), .mv (.t 11), none⟩,
⟨(some 65), .bin .gtr .no (.t 63) (.t 64), none⟩])
(.cond (.t 65)
(.seq (.drw [
.op ⟨(some 66), .mv (.t 0), none⟩,
.op ⟨(some 67), .mv (.t 11), none⟩,
.op ⟨(some 68), .mv (.t 0), none⟩,
.op ⟨(some 69), .mv (.t 1), none⟩,
.op ⟨(some 70), .mv (.t 0), none⟩,
.op ⟨(some 71), .mv (.t 1), none⟩,
.op ⟨(some 72), .iaL 1 (.t 70) (.t 71), none⟩,
.op ⟨(some 73), .ld false 1 (.t 72), none⟩,
.op ⟨(some 74), .mv (.t 0), none⟩,
.op ⟨(some 75), .mv (.t 11), none⟩,
.op ⟨(some 76), .iaL 1 (.t 74) (.t 75), none⟩,
.op ⟨(some 77), .ld false 1 (.t 76), none⟩,
.op ⟨(some 78), .iaL 1 (.t 66) (.t 67), none⟩,
.op ⟨none, .st 1 (.t 78) (.t 73), none⟩,
.op ⟨(some 79), .iaL 1 (.t 68) (.t 69), none⟩,
.op ⟨none, .st 1 (.t 79) (.t 77), none⟩])
(.seq (.reg [
⟨(some 80), .mv (.t 11), none⟩,
⟨(some 8), .mv (.t 80), none⟩,
⟨(some 9), .mv (.c (.b true)), none⟩])
.ret))
.skip))
(.seq (.drw [
.op ⟨(some 81), .mv (.t 0), none⟩,
.op ⟨(some 82), .mv (.t 10), none⟩,
.op ⟨(some 83), .mv (.t 0), none⟩,
.op ⟨(some 84), .mv (.t 11), none⟩,
.op ⟨(some 85), .mv (.t 0), none⟩,
.op ⟨(some 86), .mv (.t 11), none⟩,
.op ⟨(some 87), .iaL 1 (.t 85) (.t 86), none⟩,
.op ⟨(some 88), .ld false 1 (.t 87), none⟩,
.op ⟨(some 89), .mv (.t 0), none⟩,
.op ⟨(some 90), .mv (.t 10), none⟩,
.op ⟨(some 91), .iaL 1 (.t 89) (.t 90), none⟩,
.op ⟨(some 92), .ld false 1 (.t 91), none⟩,
.op ⟨(some 93), .iaL 1 (.t 81) (.t 82), none⟩,
.op ⟨none, .st 1 (.t 93) (.t 88), none⟩,
.op ⟨(some 94), .iaL 1 (.t 83) (.t 84), none⟩,
.op ⟨none, .st 1 (.t 94) (.t 92), none⟩])
(.seq (.reg [
⟨(some 95), .mv (.t 10), none⟩,
⟨(some 96), .bin .add .no (.t 95) (.c (.i .i64 1)), none⟩,
⟨(some 10), .mv (.t 96), none⟩])
(.seq (.reg [
⟨(some 97), .mv (.t 11), none⟩,
⟨(some 98), .bin .sub .no (.t 97) (.c (.i .i64 1)), none⟩,
⟨(some 11), .mv (.t 98), none⟩])
(.seq (.blk 4 (.loop (.blk 5 (.seq (.blk 6 (.loop (.seq (.seq (.drw [
.op ⟨(some 99), .mv (.t 10), none⟩,
.op ⟨(some 100), .mv (.t 11), none⟩,
.op ⟨(some 101), .bin .leq .no (.t 99) (.t 100), none⟩,
.op ⟨(some 102), .mv (.t 101), none⟩,
.op ⟨(some 103), .mv (.t 0), (some (102, true))⟩,
.op ⟨(some 104), .mv (.t 10), (some (102, true))⟩,
.op ⟨(some 105), .iaL 1 (.t 103) (.t 104), (some (102, true))⟩,
.op ⟨(some 106), .ld false 1 (.t 105), (some (102, true))⟩,
.op ⟨(some 107), .mv (.t 0), (some (102, true))⟩,
.op ⟨(some 108), .mv (.t 1), (some (102, true))⟩,
.op ⟨(some 109), .iaL 1 (.t 107) (.t 108), (some (102, true))⟩,
.op ⟨(some 110), .ld false 1 (.t 109), (some (102, true))⟩,
.op ⟨(some 111), .call 209 [(.t 106), (.t 110)], (some (102, true))⟩,
.op ⟨(some 112), .pick (.t 102) (.t 111) (.c (.b false)), none⟩])
(.cond (.t 112)
.skip
(.exit 6)))
(.blk 7 (.reg [
⟨(some 113), .mv (.t 10), none⟩,
⟨(some 114), .bin .add .no (.t 113) (.c (.i .i64 1)), none⟩,
⟨(some 10), .mv (.t 114), none⟩])))))
(.seq (.blk 8 (.loop (.seq (.seq (.drw [
.op ⟨(some 115), .mv (.t 10), none⟩,
.op ⟨(some 116), .mv (.t 11), none⟩,
.op ⟨(some 117), .bin .leq .no (.t 115) (.t 116), none⟩,
.op ⟨(some 118), .mv (.t 117), none⟩,
.op ⟨(some 119), .mv (.t 0), (some (118, true))⟩,
.op ⟨(some 120), .mv (.t 11), (some (118, true))⟩,
.op ⟨(some 121), .iaL 1 (.t 119) (.t 120), (some (118, true))⟩,
.op ⟨(some 122), .ld false 1 (.t 121), (some (118, true))⟩,
.op ⟨(some 123), .mv (.t 0), (some (118, true))⟩,
.op ⟨(some 124), .mv (.t 1), (some (118, true))⟩,
.op ⟨(some 125), .iaL 1 (.t 123) (.t 124), (some (118, true))⟩,
.op ⟨(some 126), .ld false 1 (.t 125), (some (118, true))⟩,
.op ⟨(some 127), .call 209 [(.t 122), (.t 126)], (some (118, true))⟩,
.op ⟨(some 128), .un .not (.t 127), (some (118, true))⟩,
.op ⟨(some 129), .pick (.t 118) (.t 128) (.c (.b false)), none⟩])
(.cond (.t 129)
.skip
(.exit 8)))
(.blk 9 (.reg [
⟨(some 130), .mv (.t 11), none⟩,
⟨(some 131), .bin .sub .no (.t 130) (.c (.i .i64 1)), none⟩,
⟨(some 11), .mv (.t 131), none⟩])))))
(.seq (.seq (.reg [
⟨(some 132), .mv (.t 10), none⟩,
⟨(some 133), .mv (.t 11), none⟩,
⟨(some 134), .bin .gtr .no (.t 132) (.t 133), none⟩])
(.cond (.t 134)
(.exit 4)
.skip))
(.seq (.drw [
.op ⟨(some 135), .mv (.t 0), none⟩,
.op ⟨(some 136), .mv (.t 10), none⟩,
.op ⟨(some 137), .mv (.t 0), none⟩,
.op ⟨(some 138), .mv (.t 11), none⟩,
.op ⟨(some 139), .mv (.t 0), none⟩,
.op ⟨(some 140), .mv (.t 11), none⟩,
.op ⟨(some 141), .iaL 1 (.t 139) (.t 140), none⟩,
.op ⟨(some 142), .ld false 1 (.t 141), none⟩,
.op ⟨(some 143), .mv (.t 0), none⟩,
.op ⟨(some 144), .mv (.t 10), none⟩,
.op ⟨(some 145), .iaL 1 (.t 143) (.t 144), none⟩,
.op ⟨(some 146), .ld false 1 (.t 145), none⟩,
.op ⟨(some 147), .iaL 1 (.t 135) (.t 136), none⟩,
.op ⟨none, .st 1 (.t 147) (.t 142), none⟩,
.op ⟨(some 148), .iaL 1 (.t 137) (.t 138), none⟩,
.op ⟨none, .st 1 (.t 148) (.t 146), none⟩])
(.seq (.reg [
⟨(some 149), .mv (.t 10), none⟩,
⟨(some 150), .bin .add .no (.t 149) (.c (.i .i64 1)), none⟩,
⟨(some 10), .mv (.t 150), none⟩])
(.reg [
⟨(some 151), .mv (.t 11), none⟩,
⟨(some 152), .bin .sub .no (.t 151) (.c (.i .i64 1)), none⟩,
⟨(some 11), .mv (.t 152), none⟩])))))))))
(.seq (.drw [
.op ⟨(some 153), .mv (.t 0), none⟩,
.op ⟨(some 154), .mv (.t 11), none⟩,
.op ⟨(some 155), .mv (.t 0), none⟩,
.op ⟨(some 156), .mv (.t 1), none⟩,
.op ⟨(some 157), .mv (.t 0), none⟩,
.op ⟨(some 158), .mv (.t 1), none⟩,
.op ⟨(some 159), .iaL 1 (.t 157) (.t 158), none⟩,
.op ⟨(some 160), .ld false 1 (.t 159), none⟩,
.op ⟨(some 161), .mv (.t 0), none⟩,
.op ⟨(some 162), .mv (.t 11), none⟩,
.op ⟨(some 163), .iaL 1 (.t 161) (.t 162), none⟩,
.op ⟨(some 164), .ld false 1 (.t 163), none⟩,
.op ⟨(some 165), .iaL 1 (.t 153) (.t 154), none⟩,
.op ⟨none, .st 1 (.t 165) (.t 160), none⟩,
.op ⟨(some 166), .iaL 1 (.t 155) (.t 156), none⟩,
.op ⟨none, .st 1 (.t 166) (.t 164), none⟩])
(.seq (.reg [
⟨(some 167), .mv (.t 11), none⟩,
⟨(some 8), .mv (.t 167), none⟩,
⟨(some 9), .mv (.c (.b false)), none⟩])
.ret))))))))))))⟩
def f212 : AF := ⟨19, [.t 2], (.seq (.reg [
⟨(some 2), .mv (.c (.i .i64 0)), none⟩])
(.seq (.seq (.reg [
⟨(some 3), .mv (.t 0), none⟩,
⟨(some 4), .bin .geq .no (.t 3) (.c (.i .u32 65536)), none⟩])
(.cond (.t 4)
(.seq (.reg [
⟨(some 5), .mv (.t 0), none⟩,
⟨(some 6), .bin .shr .no (.t 5) (.c (.i .u64 16)), none⟩,
⟨(some 0), .mv (.t 6), none⟩])
(.reg [
⟨(some 2), .mv (.c (.i .i64 16)), none⟩]))
.skip))
(.seq (.seq (.reg [
⟨(some 7), .mv (.t 0), none⟩,
⟨(some 8), .bin .geq .no (.t 7) (.c (.i .u32 256)), none⟩])
(.cond (.t 8)
(.seq (.reg [
⟨(some 9), .mv (.t 0), none⟩,
⟨(some 10), .bin .shr .no (.t 9) (.c (.i .u64 8)), none⟩,
⟨(some 0), .mv (.t 10), none⟩])
(.reg [
⟨(some 11), .mv (.t 2), none⟩,
⟨(some 12), .bin .add .no (.t 11) (.c (.i .i64 8)), none⟩,
⟨(some 2), .mv (.t 12), none⟩]))
.skip))
(.seq (.reg [
⟨(some 13), .mv (.t 2), none⟩,
⟨(some 14), .mv (.t 0), none⟩,
⟨(some 15), .cvi .u8 (.t 14), none⟩,
⟨(some 16), .ixS (.c (.s [0, 1, 2, 2, 3, 3, 3, 3, 4, 4, 4, 4, 4, 4, 4, 4, 5, 5, 5, 5, 5, 5, 5, 5, 5, 5, 5, 5, 5, 5, 5, 5, 6, 6, 6, 6, 6, 6, 6, 6, 6, 6, 6, 6, 6, 6, 6, 6, 6, 6, 6, 6, 6, 6, 6, 6, 6, 6, 6, 6, 6, 6, 6, 6, 7, 7, 7, 7, 7, 7, 7, 7, 7, 7, 7, 7, 7, 7, 7, 7, 7, 7, 7, 7, 7, 7, 7, 7, 7, 7, 7, 7, 7, 7, 7, 7, 7, 7, 7, 7, 7, 7, 7, 7, 7, 7, 7, 7, 7, 7, 7, 7, 7, 7, 7, 7, 7, 7, 7, 7, 7, 7, 7, 7, 7, 7, 7, 7, 8, 8, 8, 8, 8, 8, 8, 8, 8, 8, 8, 8, 8, 8, 8, 8, 8, 8, 8, 8, 8, 8, 8, 8, 8, 8, 8, 8, 8, 8, 8, 8, 8, 8, 8, 8, 8, 8, 8, 8, 8, 8, 8, 8, 8, 8, 8, 8, 8, 8, 8, 8, 8, 8, 8, 8, 8, 8, 8, 8, 8, 8, 8, 8, 8, 8, 8, 8, 8, 8, 8, 8, 8, 8, 8, 8, 8, 8, 8, 8, 8, 8, 8, 8, 8, 8, 8, 8, 8, 8, 8, 8, 8, 8, 8, 8, 8, 8, 8, 8, 8, 8, 8, 8, 8, 8, 8, 8, 8, 8, 8, 8, 8, 8, 8, 8, 8, 8, 8, 8, 8, 8, 8, 8, 8, 8, 8, 8])) (.t 15), none⟩,
⟨(some 17), .cvi .i64 (.t 16), none⟩,
⟨(some 18), .bin .add .no (.t 13) (.t 17), none⟩,
⟨(some 2), .mv (.t 18), none⟩])
.ret))))⟩
def f237 : AF := ⟨8, [.t 4], (.seq (.reg [
⟨(some 4), .mv (.c (.i .i64 0)), none⟩])
(.seq (.reg [
⟨(some 5), .mv (.t 0), none⟩,
⟨(some 6), .mv (.t 1), none⟩,
⟨(some 7), .ibs (.t 5) (.t 6), none⟩,
⟨(some 4), .mv (.t 7), none⟩])
.ret))⟩
def f239 : AF := ⟨6, [.t 2], (.seq (.reg [
⟨(some 2), .mv (.c (.i .i64 0)), none⟩])
(.seq (.reg [
⟨(some 3), .mv (.t 0), none⟩,
⟨(some 4), .bin .add .no (.t 3) (.c (.i .i64 16)), none⟩,
⟨(some 5), .bin .quo .no (.t 4) (.c (.i .i64 8)), none⟩,
⟨(some 2), .mv (.t 5), none⟩])
.ret))⟩
def f240 : AF := ⟨81, [.t 4], (.seq (.reg [
⟨(some 4), .mv (.c (.i .i64 0)), none⟩])
(.seq (.reg [
⟨(some 12), .mv (.t 1), none⟩,
⟨(some 13), .call 268 [(.t 12)], none⟩,
⟨(some 11), .mv (.t 13), none⟩,
⟨(some 14), .xt (.t 11) 0, none⟩,
⟨(some 15), .xt (.t 11) 1, none⟩,
⟨(some 5), .mv (.t 14), none⟩,
⟨(some 6), .mv (.t 15), none⟩])
(.seq (.reg [
⟨(some 16), .mv (.t 1), none⟩,
⟨(some 17), .len 0 (.t 16), none⟩,
⟨(some 7), .mv (.t 17), none⟩])
(.seq (.reg [
⟨(some 8), .mv (.c (.i .u32 0)), none⟩])
(.seq (.seq (.reg [
⟨(some 9), .mv (.c (.i .i64 0)), none⟩])
(.blk 0 (.loop (.seq (.seq (.reg [
⟨(some 18), .mv (.t 9), none⟩,
⟨(some 19), .mv (.t 7), none⟩,
⟨(some 20), .bin .lss .no (.t 18) (.t 19), none⟩])
(.cond (.t 20)
.skip
(.exit 0)))
(.seq (.blk 1 (.reg [
⟨(some 23), .mv (.t 8), none⟩,
⟨(some 24), .bin .mul .no (.t 23) (.c (.i .u32 16777619)), none⟩,
⟨(some 25), .mv (.t 0), none⟩,
⟨(some 26), .mv (.t 9), none⟩,
⟨(some 27), .ixS (.t 25) (.t 26), none⟩,
⟨(some 28), .cvi .u32 (.t 27), none⟩,
⟨(some 29), .bin .add .no (.t 24) (.t 28), none⟩,
⟨(some 8), .mv (.t 29), none⟩]))
(.reg [
⟨(some 21), .mv (.t 9), none⟩,
⟨(some 22), .bin .add .no (.t 21) (.c (.i .i64 1)), none⟩,
⟨(some 9), .mv (.t 22), none⟩]))))))
(.seq (.seq (.reg [
⟨(some 30), .mv (.t 8), none⟩,
⟨(some 31), .mv (.t 5), none⟩,
⟨(some 32), .bin .eql .int (.t 30) (.t 31), none⟩,
⟨(some 33), .mv (.t 32), none⟩,
⟨(some 34), .mv (.t 0), (some (33, true))⟩,
⟨(some 35), .mv (.t 7), (some (33, true))⟩,
⟨(some 36), .slS (.t 34) none (some (.t 35)), (some (33, true))⟩,
⟨(some 37), .mv (.t 1), (some (33, true))⟩,
⟨(some 38), .bin .eql .str (.t 36) (.t 37), (some (33, true))⟩,
⟨(some 39), .pick (.t 33) (.t 38) (.c (.b false)), none⟩])
(.cond (.t 39)
(.seq (.reg [
⟨(some 4), .mv (.c (.i .i64 0)), none⟩])
.ret)
.skip))
(.seq (.seq (.reg [
⟨(some 40), .mv (.t 7), none⟩,
⟨(some 10), .mv (.t 40), none⟩])
(.blk 2 (.loop (.seq (.seq (.reg [
⟨(some 41), .mv (.t 10), none⟩,
⟨(some 42), .mv (.t 0), none⟩,
⟨(some 43), .len 0 (.t 42), none⟩,
⟨(some 44), .bin .lss .no (.t 41) (.t 43), none⟩])
(.cond (.t 44)
.skip
(.exit 2)))
(.blk 3 (.seq (.reg [
⟨(some 45), .mv (.t 8), none⟩,
⟨(some 46), .bin .mul .no (.t 45) (.c (.i .u32 16777619)), none⟩,
⟨(some 8), .mv (.t 46), none⟩])
(.seq (.reg [
⟨(some 47), .mv (.t 8), none⟩,
⟨(some 48), .mv (.t 0), none⟩,
⟨(some 49), .mv (.t 10), none⟩,
⟨(some 50), .ixS (.t 48) (.t 49), none⟩,
⟨(some 51), .cvi .u32 (.t 50), none⟩,
⟨(some 52), .bin .add .no (.t 47) (.t 51), none⟩,
⟨(some 8), .mv (.t 52), none⟩])
(.seq (.reg [
⟨(some 53), .mv (.t 8), none⟩,
⟨(some 54), .mv (.t 6), none⟩,
⟨(some 55), .mv (.t 0), none⟩,
⟨(some 56), .mv (.t 10), none⟩,
⟨(some 57), .mv (.t 7), none⟩,
⟨(some 58), .bin .sub .no (.t 56) (.t 57), none⟩,
⟨(some 59), .ixS (.t 55) (.t 58), none⟩,
⟨(some 60), .cvi .u32 (.t 59), none⟩,
⟨(some 61), .bin .mul .no (.t 54) (.t 60), none⟩,
⟨(some 62), .bin .sub .no (.t 53) (.t 61), none⟩,
⟨(some 8), .mv (.t 62), none⟩])
(.seq (.reg [
⟨(some 63), .mv (.t 10), none⟩,
⟨(some 64), .bin .add .no (.t 63) (.c (.i .i64 1)), none⟩,
⟨(some 10), .mv (.t 64), none⟩])
(.seq (.reg [
⟨(some 65), .mv (.t 8), none⟩,
⟨(some 66), .mv (.t 5), none⟩,
⟨(some 67), .bin .eql .int (.t 65) (.t 66), none⟩,
⟨(some 68), .mv (.t 67), none⟩,
⟨(some 69), .mv (.t 0), (some (68, true))⟩,
⟨(some 70), .mv (.t 10), (some (68, true))⟩,
⟨(some 71), .mv (.t 7), (some (68, true))⟩,
⟨(some 72), .bin .sub .no (.t 70) (.t 71), (some (68, true))⟩,
⟨(some 73), .mv (.t 10), (some (68, true))⟩,
⟨(some 74), .slS (.t 69) (some (.t 72)) (some (.t 73)), (some (68, true))⟩,
⟨(some 75), .mv (.t 1), (some (68, true))⟩,
⟨(some 76), .bin .eql .str (.t 74) (.t 75), (some (68, true))⟩,
⟨(some 77), .pick (.t 68) (.t 76) (.c (.b false)), none⟩])
(.cond (.t 77)
(.seq (.reg [
⟨(some 78), .mv (.t 10), none⟩,
⟨(some 79), .mv (.t 7), none⟩,
⟨(some 80), .bin .sub .no (.t 78) (.t 79), none⟩,
⟨(some 4), .mv (.t 80), none⟩])
.ret)
.skip)))))))))))
(.seq (.reg [
⟨(some 4), .mv (.c (.i .i64 (-1))), none⟩])
.ret))))))))⟩
def f241 : AF := ⟨19, [.t 4, .t 5], (.seq (.reg [
⟨(some 4), .mv (.c (.i .i64 0)), none⟩,
⟨(some 5), .mv (.c (.i .i64 0)), none⟩])
(.seq (.blk 0 (.seq (.reg [
⟨(some 7), .mv (.t 0), none⟩,
⟨(some 8), .mv (.t 1), none⟩,
⟨(some 9), .bsl 2 [(.i .i64 0)] [(0, 1, (.t 7)), (1, 1, (.t 8))], none⟩,
⟨(some 10), .call 269 [(.t 9)], none⟩,
⟨(some 6), .mv (.t 10), none⟩])
(.cond (.t 6)
(.seq (.reg [
⟨(some 4), .mv (.c (.i .i64 0)), none⟩,
⟨(some 5), .mv (.c (.i .i64 1)), none⟩])
.ret)
(.seq (.reg [
⟨(some 12), .mv (.t 1), none⟩,
⟨(some 13), .mv (.t 0), none⟩,
⟨(some 14), .bin .sub .no (.c (.i .i64 1099511627776)) (.t 13), none⟩,
⟨(some 15), .bin .gtr .no (.t 12) (.t 14), none⟩,
⟨(some 11), .mv (.t 15), none⟩])
(.cond (.t 11)
(.seq (.reg [
⟨(some 4), .mv (.c (.i .i64 0)), none⟩,
⟨(some 5), .mv (.c (.i .i64 50)), none⟩])
.ret)
.skip)))))
(.seq (.reg [
⟨(some 16), .mv (.t 0), none⟩,
⟨(some 17), .mv (.t 1), none⟩,
⟨(some 18), .bin .add .no (.t 16) (.t 17), none⟩,
⟨(some 4), .mv (.t 18), none⟩,
⟨(some 5), .mv (.c (.i .i64 0)), none⟩])
.ret)))⟩
def f242 : AF := ⟨14, [], (.seq (.reg [
⟨(some 4), .ld false 1 (.t 1), none⟩,
⟨(some 5), .rng false (.t 4), none⟩])
(.blk 0 (.loop (.seq (.reg [
⟨(some 6), .nxt false (.t 5), none⟩,
⟨(some 7), .xt (.t 6) 0, none⟩])
(.seq (.cond (.t 7)
.skip
(.exit 0))
(.blk 1 (.seq (.reg [
⟨(some 8), .ent (.t 5), none⟩,
⟨(some 9), .xt (.t 8) 0, none⟩,
⟨(some 3), .mv (.t 9), none⟩])
(.seq (.reg [
⟨(some 10), .mv (.t 0), none⟩,
⟨(some 11), .mv (.t 3), none⟩,
⟨(some 12), .cald (.t 10) [(.t 11)], none⟩,
⟨(some 13), .un .not (.t 12), none⟩])
(.cond (.t 13)
.ret
.skip)))))))))⟩
def f243 : AF := ⟨13, [.t 4], (.seq (.reg [
⟨(some 2), .box 1 (.t 0), none⟩,
⟨(some 4), .mv (.c .nsl), none⟩])
(.seq (.seq (.reg [
⟨(some 6), .mv (.t 1), none⟩])
(.blk 0 (.rf (.t 6) [7] (.reg [
⟨(some 5), .mv (.t 7), none⟩])
(.blk 1 (.reg [
⟨(some 8), .ld false 1 (.t 2), none⟩,
⟨(some 9), .mv (.t 5), none⟩,
⟨(some 10), .bsl 1 [(.s [])] [(0, 1, (.t 9))], none⟩,
⟨(some 11), .app 1 16 [(.s [])] (.t 8) (.t 10), none⟩,
⟨none, .st 1 (.t 2) (.t 11), none⟩])))))
(.seq (.reg [
⟨(some 12), .ld false 1 (.t 2), none⟩,
⟨(some 4), .mv (.t 12), none⟩])
.ret)))⟩
def f244 : AF := ⟨134, [], (.seq (.reg [
⟨(some 8), .mv (.c (.b true)), none⟩])
(.seq (.reg [
⟨(some 9), .mv (.c (.b true)), none⟩])
(.blk 0 (.loop (.blk 1 (.seq (.reg [
⟨(some 19), .mv (.t 2), none⟩,
⟨(some 20), .mv (.t 1), none⟩,
⟨(some 21), .bin .sub .no (.t 19) (.t 20), none⟩,
⟨(some 10), .mv (.t 21), none⟩])
(.seq (.seq (.reg [
⟨(some 22), .mv (.t 10), none⟩,
⟨(some 23), .bin .leq .no (.t 22) (.c (.i .i64 12)), none⟩])
(.cond (.t 23)
(.seq (.reg [
⟨(some 24), .mv (.t 0), none⟩,
⟨(some 25), .mv (.t 1), none⟩,
⟨(some 26), .mv (.t 2), none⟩,
⟨(some 27), .call 270 [(.t 24), (.t 25), (.t 26)], none⟩])
.ret)
.skip))
(.seq (.seq (.reg [
⟨(some 28), .mv (.t 3), none⟩,
⟨(some 29), .bin .eql .int (.t 28) (.c (.i .i64 0)), none⟩])
(.cond (.t 29)
(.seq (.reg [
⟨(some 30), .mv (.t 0), none⟩,
⟨(some 31), .mv (.t 1), none⟩,
⟨(some 32), .mv (.t 2), none⟩,
⟨(some 33), .call 271 [(.t 30), (.t 31), (.t 32)], none⟩])
.ret)
.skip))
(.seq (.seq (.reg [
⟨(some 34), .mv (.t 8), none⟩,
⟨(some 35), .un .not (.t 34), none⟩])
(.cond (.t 35)
(.seq (.reg [
⟨(some 36), .mv (.t 0), none⟩,
⟨(some 37), .mv (.t 1), none⟩,
⟨(some 38), .mv (.t 2), none⟩,
⟨(some 39), .call 272 [(.t 36), (.t 37), (.t 38)], none⟩])
(.reg [
⟨(some 40), .mv (.t 3), none⟩,
⟨(some 41), .bin .sub .no (.t 40) (.c (.i .i64 1)), none⟩,
⟨(some 3), .mv (.t 41), none⟩]))
.skip))
(.seq (.reg [
⟨(some 43), .mv (.t 0), none⟩,
⟨(some 44), .mv (.t 1), none⟩,
⟨(some 45), .mv (.t 2), none⟩,
⟨(some 46), .call 273 [(.t 43), (.t 44), (.t 45)], none⟩,
⟨(some 42), .mv (.t 46), none⟩,
⟨(some 47), .xt (.t 42) 0, none⟩,
⟨(some 48), .xt (.t 42) 1, none⟩,
⟨(some 11), .mv (.t 47), none⟩,
⟨(some 12), .mv (.t 48), none⟩])
(.seq (.seq (.reg [
⟨(some 49), .mv (.t 12), none⟩,
⟨(some 50), .bin .eql .int (.t 49) (.c (.i .i64 2)), none⟩])
(.cond (.t 50)
(.seq (.reg [
⟨(some 51), .mv (.t 0), none⟩,
⟨(some 52), .mv (.t 1), none⟩,
⟨(some 53), .mv (.t 2), none⟩,
⟨(some 54), .call 274 [(.t 51), (.t 52), (.t 53)], none⟩])
(.seq (.reg [
⟨(some 55), .mv (.t 2), none⟩,
⟨(some 56), .bin .sub .no (.t 55) (.c (.i .i64 1)), none⟩,
⟨(some 57), .mv (.t 11), none⟩,
⟨(some 58), .mv (.t 1), none⟩,
⟨(some 59), .bin .sub .no (.t 57) (.t 58), none⟩,
⟨(some 60), .bin .sub .no (.t 56) (.t 59), none⟩,
⟨(some 11), .mv (.t 60), none⟩])
(.reg [
⟨(some 12), .mv (.c (.i .i64 1)), none⟩])))
.skip))
(.seq (.seq (.reg [
⟨(some 61), .mv (.t 8), none⟩,
⟨(some 62), .mv (.t 61), none⟩,
⟨(some 63), .mv (.t 9), (some (62, true))⟩,
⟨(some 64), .pick (.t 62) (.t 63) (.c (.b false)), none⟩,
⟨(some 65), .mv (.t 64), none⟩,
⟨(some 66), .mv (.t 12), (some (65, true))⟩,
⟨(some 67), .bin .eql .int (.t 66) (.c (.i .i64 1)), (some (65, true))⟩,
⟨(some 68), .pick (.t 65) (.t 67) (.c (.b false)), none⟩])
(.cond (.t 68)
(.seq (.reg [
⟨(some 69), .mv (.t 0), none⟩,
⟨(some 70), .mv (.t 1), none⟩,
⟨(some 71), .mv (.t 2), none⟩,
⟨(some 72), .call 275 [(.t 69), (.t 70), (.t 71)], none⟩])
(.cond (.t 72)
.ret
.skip))
.skip))
(.seq (.seq (.drw [
.op ⟨(some 73), .mv (.t 1), none⟩,
.op ⟨(some 74), .bin .gtr .no (.t 73) (.c (.i .i64 0)), none⟩,
.op ⟨(some 75), .mv (.t 74), none⟩,
.op ⟨(some 76), .mv (.t 0), (some (75, true))⟩,
.op ⟨(some 77), .mv (.t 1), (some (75, true))⟩,
.op ⟨(some 78), .bin .sub .no (.t 77) (.c (.i .i64 1)), (some (75, true))⟩,
.op ⟨(some 79), .iaL 1 (.t 76) (.t 78), (some (75, true))⟩,
.op ⟨(some 80), .ld false 1 (.t 79), (some (75, true))⟩,
.op ⟨(some 81), .mv (.t 0), (some (75, true))⟩,
.op ⟨(some 82), .mv (.t 11), (some (75, true))⟩,
.op ⟨(some 83), .iaL 1 (.t 81) (.t 82), (some (75, true))⟩,
.op ⟨(some 84), .ld false 1 (.t 83), (some (75, true))⟩,
.op ⟨(some 85), .call 276 [(.t 80), (.t 84)], (some (75, true))⟩,
.op ⟨(some 86), .un .not (.t 85), (some (75, true))⟩,
.op ⟨(some 87), .pick (.t 75) (.t 86) (.c (.b false)), none⟩])
(.cond (.t 87)
(.seq (.reg [
⟨(some 88), .mv (.t 0), none⟩,
⟨(some 89), .mv (.t 1), none⟩,
⟨(some 90), .mv (.t 2), none⟩,
⟨(some 91), .mv (.t 11), none⟩,
⟨(some 92), .call 277 [(.t 88), (.t 89), (.t 90), (.t 91)], none⟩,
⟨(some 13), .mv (.t 92), none⟩])
(.seq (.reg [
⟨(some 93), .mv (.t 13), none⟩,
⟨(some 1), .mv (.t 93), none⟩])
(.exit 1)))
.skip))
(.seq (.reg [
⟨(some 95), .mv (.t 0), none⟩,
⟨(some 96), .mv (.t 1), none⟩,
⟨(some 97), .mv (.t 2), none⟩,
⟨(some 98), .mv (.t 11), none⟩,
⟨(some 99), .call 278 [(.t 95), (.t 96), (.t 97), (.t 98)], none⟩,
⟨(some 94), .mv (.t 99), none⟩,
⟨(some 100), .xt (.t 94) 0, none⟩,
⟨(some 101), .xt (.t 94) 1, none⟩,
⟨(some 14), .mv (.t 100), none⟩,
⟨(some 15), .mv (.t 101), none⟩])
(.seq (.reg [
⟨(some 102), .mv (.t 15), none⟩,
⟨(some 9), .mv (.t 102), none⟩])
(.seq (.reg [
⟨(some 103), .mv (.t 14), none⟩,
⟨(some 104), .mv (.t 1), none⟩,
⟨(some 105), .bin .sub .no (.t 103) (.t 104), none⟩,
⟨(some 106), .mv (.t 2), none⟩,
⟨(some 107), .mv (.t 14), none⟩,
⟨(some 108), .bin .sub .no (.t 106) (.t 107), none⟩,
⟨(some 16), .mv (.t 105), none⟩,
⟨(some 17), .mv (.t 108), none⟩])
(.seq (.reg [
⟨(some 109), .mv (.t 10), none⟩,
⟨(some 110), .bin .quo .no (.t 109) (.c (.i .i64 8)), none⟩,
⟨(some 18), .mv (.t 110), none⟩])
(.seq (.reg [
⟨(some 111), .mv (.t 16), none⟩,
⟨(some 112), .mv (.t 17), none⟩,
⟨(some 113), .bin .lss .no (.t 111) (.t 112), none⟩])
(.cond (.t 113)
(.seq (.reg [
⟨(some 114), .mv (.t 16), none⟩,
⟨(some 115), .mv (.t 18), none⟩,
⟨(some 116), .bin .geq .no (.t 114) (.t 115), none⟩,
⟨(some 8), .mv (.t 116), none⟩])
(.seq (.reg [
⟨(some 117), .mv (.t 0), none⟩,
⟨(some 118), .mv (.t 1), none⟩,
⟨(some 119), .mv (.t 14), none⟩,
⟨(some 120), .mv (.t 3), none⟩,
⟨(some 121), .call 244 [(.t 117), (.t 118), (.t 119), (.t 120)], none⟩])
(.reg [
⟨(some 122), .mv (.t 14), none⟩,
⟨(some 123), .bin .add .no (.t 122) (.c (.i .i64 1)), none⟩,
⟨(some 1), .mv (.t 123), none⟩])))
(.seq (.reg [
⟨(some 124), .mv (.t 17), none⟩,
⟨(some 125), .mv (.t 18), none⟩,
⟨(some 126), .bin .geq .no (.t 124) (.t 125), none⟩,
⟨(some 8), .mv (.t 126), none⟩])
(.seq (.reg [
⟨(some 127), .mv (.t 0), none⟩,
⟨(some 128), .mv (.t 14), none⟩,
⟨(some 129), .bin .add .no (.t 128) (.c (.i .i64 1)), none⟩,
⟨(some 130), .mv (.t 2), none⟩,
⟨(some 131), .mv (.t 3), none⟩,
⟨(some 132), .call 244 [(.t 127), (.t 129), (.t 130), (.t 131)], none⟩])
(.reg [
⟨(some 133), .mv (.t 14), none⟩,
⟨(some 2), .mv (.t 133), none⟩]))))))))))))))))))))))⟩
def f245 : AF := ⟨27, [.t 4], (.seq (.reg [
⟨(some 4), .mv (.c .nsl), none⟩])
(.seq (.seq (.reg [
⟨(some 5), .mv (.t 1), none⟩,
⟨(some 6), .bin .lss .no (.t 5) (.c (.i .i64 0)), none⟩])
(.cond (.t 6)
(.reg [
⟨(some 7), .mki 9 (.c (.s [99, 97, 110, 110, 111, 116, 32, 98, 101, 32, 110, 101, 103, 97, 116, 105, 118, 101])), none⟩,
⟨none, .bad 0, none⟩])
.skip))
(.seq (.seq (.reg [
⟨(some 8), .mv (.t 1), none⟩,
⟨(some 9), .mv (.t 0), none⟩,
⟨(some 10), .cap (.t 9), none⟩,
⟨(some 11), .mv (.t 0), none⟩,
⟨(some 12), .len 1 (.t 11), none⟩,
⟨(some 13), .bin .sub .no (.t 10) (.t 12), none⟩,
⟨(some 14), .bin .sub .no (.t 8) (.t 13), none⟩,
⟨(some 1), .mv (.t 14), none⟩])
(.seq (.reg [
⟨(some 15), .mv (.t 1), none⟩,
⟨(some 16), .bin .gtr .no (.t 15) (.c (.i .i64 0)), none⟩])
(.cond (.t 16)
(.reg [
⟨(some 17), .mv (.t 0), none⟩,
⟨(some 18), .mv (.t 0), none⟩,
⟨(some 19), .cap (.t 18), none⟩,
⟨(some 20), .slL 1 (.t 17) none (some (.t 19)) none, none⟩,
⟨(some 21), .mv (.t 1), none⟩,
⟨(some 22), .appz 1 1 [(.i .u8 0)] (.t 20) (.t 21), none⟩,
⟨(some 23), .mv (.t 0), none⟩,
⟨(some 24), .len 1 (.t 23), none⟩,
⟨(some 25), .slL 1 (.t 22) none (some (.t 24)) none, none⟩,
⟨(some 0), .mv (.t 25), none⟩])
.skip)))
(.seq (.reg [
⟨(some 26), .mv (.t 0), none⟩,
⟨(some 4), .mv (.t 26), none⟩])
.ret))))⟩
def f246 : AF := ⟨76, [], (.seq (.reg [
⟨(some 10), .mv (.t 1), none⟩,
⟨(some 8), .mv (.t 10), none⟩])
(.blk 0 (.loop (.blk 1 (.seq (.reg [
⟨(some 11), .mv (.t 8), none⟩,
⟨(some 12), .bin .mul .no (.c (.i .i64 2)) (.t 11), none⟩,
⟨(some 13), .bin .add .no (.t 12) (.c (.i .i64 1)), none⟩,
⟨(some 9), .mv (.t 13), none⟩])
(.seq (.seq (.reg [
⟨(some 14), .mv (.t 9), none⟩,
⟨(some 15), .mv (.t 2), none⟩,
⟨(some 16), .bin .geq .no (.t 14) (.t 15), none⟩])
(.cond (.t 16)
(.exit 0)
.skip))
(.seq (.seq (.drw [
.op ⟨(some 17), .mv (.t 9), none⟩,
.op ⟨(some 18), .bin .add .no (.t 17) (.c (.i .i64 1)), none⟩,
.op ⟨(some 19), .mv (.t 2), none⟩,
.op ⟨(some 20), .bin .lss .no (.t 18) (.t 19), none⟩,
.op ⟨(some 21), .mv (.t 20), none⟩,
.op ⟨(some 22), .mv (.t 0), (some (21, true))⟩,
.op ⟨(some 23), .mv (.t 3), (some (21, true))⟩,
.op ⟨(some 24), .mv (.t 9), (some (21, true))⟩,
.op ⟨(some 25), .bin .add .no (.t 23) (.t 24), (some (21, true))⟩,
.op ⟨(some 26), .iaL 1 (.t 22) (.t 25), (some (21, true))⟩,
.op ⟨(some 27), .ld false 1 (.t 26), (some (21, true))⟩,
.op ⟨(some 28), .mv (.t 0), (some (21, true))⟩,
.op ⟨(some 29), .mv (.t 3), (some (21, true))⟩,
.op ⟨(some 30), .mv (.t 9), (some (21, true))⟩,
.op ⟨(some 31), .bin .add .no (.t 29) (.t 30), (some (21, true))⟩,
.op ⟨(some 32), .bin .add .no (.t 31) (.c (.i .i64 1)), (some (21, true))⟩,
.op ⟨(some 33), .iaL 1 (.t 28) (.t 32), (some (21, true))⟩,
.op ⟨(some 34), .ld false 1 (.t 33), (some (21, true))⟩,
.op ⟨(some 35), .call 209 [(.t 27), (.t 34)], (some (21, true))⟩,
.op ⟨(some 36), .pick (.t 21) (.t 35) (.c (.b false)), none⟩])
(.cond (.t 36)
(.reg [
⟨(some 37), .mv (.t 9), none⟩,
⟨(some 38), .bin .add .no (.t 37) (.c (.i .i64 1)), none⟩,
⟨(some 9), .mv (.t 38), none⟩])
.skip))
(.seq (.seq (.drw [
.op ⟨(some 39), .mv (.t 0), none⟩,
.op ⟨(some 40), .mv (.t 3), none⟩,
.op ⟨(some 41), .mv (.t 8), none⟩,
.op ⟨(some 42), .bin .add .no (.t 40) (.t 41), none⟩,
.op ⟨(some 43), .iaL 1 (.t 39) (.t 42), none⟩,
.op ⟨(some 44), .ld false 1 (.t 43), none⟩,
.op ⟨(some 45), .mv (.t 0), none⟩,
.op ⟨(some 46), .mv (.t 3), none⟩,
.op ⟨(some 47), .mv (.t 9), none⟩,
.op ⟨(some 48), .bin .add .no (.t 46) (.t 47), none⟩,
.op ⟨(some 49), .iaL 1 (.t 45) (.t 48), none⟩,
.op ⟨(some 50), .ld false 1 (.t 49), none⟩,
.op ⟨(some 51), .call 209 [(.t 44), (.t 50)], none⟩,
.op ⟨(some 52), .un .not (.t 51), none⟩])
(.cond (.t 52)
.ret
.skip))
(.seq (.drw [
.op ⟨(some 53), .mv (.t 0), none⟩,
.op ⟨(some 54), .mv (.t 3), none⟩,
.op ⟨(some 55), .mv (.t 8), none⟩,
.op ⟨(some 56), .bin .add .no (.t 54) (.t 55), none⟩,
.op ⟨(some 57), .mv (.t 0), none⟩,
.op ⟨(some 58), .mv (.t 3), none⟩,
.op ⟨(some 59), .mv (.t 9), none⟩,
.op ⟨(some 60), .bin .add .no (.t 58) (.t 59), none⟩,
.op ⟨(some 61), .mv (.t 0), none⟩,
.op ⟨(some 62), .mv (.t 3), none⟩,
.op ⟨(some 63), .mv (.t 9), none⟩,
.op ⟨(some 64), .bin .add .no (.t 62) (.t 63), none⟩,
.op ⟨(some 65), .iaL 1 (.t 61) (.t 64), none⟩,
.op ⟨(some 66), .ld false 1 (.t 65), none⟩,
.op ⟨(some 67), .mv (.t 0), none⟩,
.op ⟨(some 68), .mv (.t 3), none⟩,
.op ⟨(some 69), .mv (.t 8), none⟩,
.op ⟨(some 70), .bin .add .no (.t 68) (.t 69), none⟩,
.op ⟨(some 71), .iaL 1 (.t 67) (.t 70), none⟩,
.op ⟨(some 72), .ld false 1 (.t 71), none⟩,
.op ⟨(some 73), .iaL 1 (.t 53) (.t 56), none⟩,
.op ⟨none, .st 1 (.t 73) (.t 66), none⟩,
.op ⟨(some 74), .iaL 1 (.t 57) (.t 60), none⟩,
.op ⟨none, .st 1 (.t 74) (.t 72), none⟩])
(.reg [
⟨(some 75), .mv (.t 9), none⟩,
⟨(some 8), .mv (.t 75), none⟩]))))))))))⟩
def f247 : AF := ⟨7, [.t 2], (.seq (.reg [
⟨(some 2), .mv (.c (.i .u64 0)), none⟩])
(.seq (.reg [
⟨(some 3), .mv (.t 0), none⟩,
⟨(some 4), .cvi .u64 (.t 3), none⟩,
⟨(some 5), .call 163 [(.t 4)], none⟩,
⟨(some 6), .bin .shl .no (.c (.i .u64 1)) (.t 5), none⟩,
⟨(some 2), .mv (.t 6), none⟩])
.ret))⟩
def f248 : AF := ⟨33, [.t 2], (.seq (.reg [
⟨(some 2), .mv (.c (.i .u64 0)), none⟩])
(.seq (.drw [
.op ⟨(some 3), .mv (.t 0), none⟩,
.op ⟨(some 4), .nck (.t 3), none⟩,
.op ⟨(some 5), .ld false 1 (.t 4), none⟩,
.op ⟨(some 6), .mv (.t 0), none⟩,
.op ⟨(some 7), .nck (.t 6), none⟩,
.op ⟨(some 8), .ld false 1 (.t 7), none⟩,
.op ⟨(some 9), .bin .shl .no (.t 8) (.c (.i .u64 13)), none⟩,
.op ⟨(some 10), .bin .xor .no (.t 5) (.t 9), none⟩,
.op ⟨(some 11), .nck (.t 3), none⟩,
.op ⟨none, .st 1 (.t 11) (.t 10), none⟩])
(.seq (.drw [
.op ⟨(some 12), .mv (.t 0), none⟩,
.op ⟨(some 13), .nck (.t 12), none⟩,
.op ⟨(some 14), .ld false 1 (.t 13), none⟩,
.op ⟨(some 15), .mv (.t 0), none⟩,
.op ⟨(some 16), .nck (.t 15), none⟩,
.op ⟨(some 17), .ld false 1 (.t 16), none⟩,
.op ⟨(some 18), .bin .shr .no (.t 17) (.c (.i .u64 7)), none⟩,
.op ⟨(some 19), .bin .xor .no (.t 14) (.t 18), none⟩,
.op ⟨(some 20), .nck (.t 12), none⟩,
.op ⟨none, .st 1 (.t 20) (.t 19), none⟩])
(.seq (.drw [
.op ⟨(some 21), .mv (.t 0), none⟩,
.op ⟨(some 22), .nck (.t 21), none⟩,
.op ⟨(some 23), .ld false 1 (.t 22), none⟩,
.op ⟨(some 24), .mv (.t 0), none⟩,
.op ⟨(some 25), .nck (.t 24), none⟩,
.op ⟨(some 26), .ld false 1 (.t 25), none⟩,
.op ⟨(some 27), .bin .shl .no (.t 26) (.c (.i .u64 17)), none⟩,
.op ⟨(some 28), .bin .xor .no (.t 23) (.t 27), none⟩,
.op ⟨(some 29), .nck (.t 21), none⟩,
.op ⟨none, .st 1 (.t 29) (.t 28), none⟩])
(.seq (.reg [
⟨(some 30), .mv (.t 0), none⟩,
⟨(some 31), .nck (.t 30), none⟩,
⟨(some 32), .ld false 1 (.t 31), none⟩,
⟨(some 2), .mv (.t 32), none⟩])
.ret)))))⟩
def f249 : AF := ⟨15, [.t 6], (.seq (.reg [
⟨(some 6), .mv (.c (.i .i64 0)), none⟩])
(.seq (.reg [
⟨(some 7), .mv (.t 0), none⟩,
⟨(some 8), .mv (.t 1), none⟩,
⟨(some 9), .bin .sub .no (.t 8) (.c (.i .i64 1)), none⟩,
⟨(some 10), .mv (.t 1), none⟩,
⟨(some 11), .mv (.t 1), none⟩,
⟨(some 12), .bin .add .no (.t 11) (.c (.i .i64 1)), none⟩,
⟨(some 13), .mv (.t 2), none⟩,
⟨(some 14), .call 250 [(.t 7), (.t 9), (.t 10), (.t 12), (.t 13)], none⟩,
⟨(some 6), .mv (.t 14), none⟩])
.ret))⟩
end Go.Proofs.YtmlfcopllfdjfaaGreat.Am.Rn
