/- The code of the functions that a law reaches, as the abstract machine reads it: part 1. -/
import Derived.Test.YtmlfcopllfdjfaaGreatDnL0
namespace Go.Proofs.YtmlfcopllfdjfaaGreat.Am.Dn
set_option maxRecDepth 100000
def f208 : AF := ⟨133, [.t 6], (.seq (.reg [
⟨(some 6), .mv (.c (.b false)), none⟩])
(.seq (.reg [
⟨(some 11), .mv (.t 1), none⟩,
⟨(some 12), .bin .add .no (.t 11) (.c (.i .i64 1)), none⟩,
⟨(some 7), .mv (.t 12), none⟩])
(.seq (.seq (.reg [
⟨(some 8), .mv (.c (.i .i64 0)), none⟩])
(.blk 0 (.loop (.seq (.seq (.reg [
⟨(some 13), .mv (.t 8), none⟩,
⟨(some 14), .bin .lss .no (.t 13) (.c (.i .i64 5)), none⟩])
(.cond (.t 14)
.skip
(.exit 0)))
(.seq (.blk 1 (.seq (.blk 2 (.loop (.seq (.seq (.drw [
.op ⟨(some 17), .mv (.t 7), none⟩,
.op ⟨(some 18), .mv (.t 2), none⟩,
.op ⟨(some 19), .bin .lss .no (.t 17) (.t 18), none⟩,
.op ⟨(some 20), .mv (.t 19), none⟩,
.op ⟨(some 21), .mv (.t 0), (some (20, true))⟩,
.op ⟨(some 22), .mv (.t 7), (some (20, true))⟩,
.op ⟨(some 23), .iaL 1 (.t 21) (.t 22), (some (20, true))⟩,
.op ⟨(some 24), .ld false 1 (.t 23), (some (20, true))⟩,
.op ⟨(some 25), .mv (.t 0), (some (20, true))⟩,
.op ⟨(some 26), .mv (.t 7), (some (20, true))⟩,
.op ⟨(some 27), .bin .sub .no (.t 26) (.c (.i .i64 1)), (some (20, true))⟩,
.op ⟨(some 28), .iaL 1 (.t 25) (.t 27), (some (20, true))⟩,
.op ⟨(some 29), .ld false 1 (.t 28), (some (20, true))⟩,
.op ⟨(some 30), .call 209 [(.t 24), (.t 29)], (some (20, true))⟩,
.op ⟨(some 31), .un .not (.t 30), (some (20, true))⟩,
.op ⟨(some 32), .pick (.t 20) (.t 31) (.c (.b false)), none⟩])
(.cond (.t 32)
.skip
(.exit 2)))
(.blk 3 (.reg [
⟨(some 33), .mv (.t 7), none⟩,
⟨(some 34), .bin .add .no (.t 33) (.c (.i .i64 1)), none⟩,
⟨(some 7), .mv (.t 34), none⟩])))))
(.seq (.seq (.reg [
⟨(some 35), .mv (.t 7), none⟩,
⟨(some 36), .mv (.t 2), none⟩,
⟨(some 37), .bin .eql .int (.t 35) (.t 36), none⟩])
(.cond (.t 37)
(.seq (.reg [
⟨(some 6), .mv (.c (.b true)), none⟩])
.ret)
.skip))
(.seq (.seq (.reg [
⟨(some 38), .mv (.t 2), none⟩,
⟨(some 39), .mv (.t 1), none⟩,
⟨(some 40), .bin .sub .no (.t 38) (.t 39), none⟩,
⟨(some 41), .bin .lss .no (.t 40) (.c (.i .i64 50)), none⟩])
(.cond (.t 41)
(.seq (.reg [
⟨(some 6), .mv (.c (.b false)), none⟩])
.ret)
.skip))
(.seq (.drw [
.op ⟨(some 42), .mv (.t 0), none⟩,
.op ⟨(some 43), .mv (.t 7), none⟩,
.op ⟨(some 44), .mv (.t 0), none⟩,
.op ⟨(some 45), .mv (.t 7), none⟩,
.op ⟨(some 46), .bin .sub .no (.t 45) (.c (.i .i64 1)), none⟩,
.op ⟨(some 47), .mv (.t 0), none⟩,
.op ⟨(some 48), .mv (.t 7), none⟩,
.op ⟨(some 49), .bin .sub .no (.t 48) (.c (.i .i64 1)), none⟩,
.op ⟨(some 50), .iaL 1 (.t 47) (.t 49), none⟩,
.op ⟨(some 51), .ld false 1 (.t 50), none⟩,
.op ⟨(some 52), .mv (.t 0), none⟩,
.op ⟨(some 53), .mv (.t 7), none⟩,
.op ⟨(some 54), .iaL 1 (.t 52) (.t 53), none⟩,
.op ⟨(some 55), .ld false 1 (.t 54), none⟩,
.op ⟨(some 56), .iaL 1 (.t 42) (.t 43), none⟩,
.op ⟨none, .st 1 (.t 56) (.t 51), none⟩,
.op ⟨(some 57), .iaL 1 (.t 44) (.t 46), none⟩,
.op ⟨none, .st 1 (.t 57) (.t 55), none⟩])
(.seq (.seq (.reg [
⟨(some 58), .mv (.t 7), none⟩,
⟨(some 59), .mv (.t 1), none⟩,
⟨(some 60), .bin .sub .no (.t 58) (.t 59), none⟩,
⟨(some 61), .bin .geq .no (.t 60) (.c (.i .i64 2)), none⟩])
(.cond (.t 61)
(.seq (.reg [
⟨(some 62), .mv (.t 7), none⟩,
⟨(some 63), .bin .sub .no (.t 62) (.c (.i .i64 1)), none⟩,
⟨(some 9), .mv (.t 63), none⟩])
(.blk 4 (.loop (.seq (.seq (.reg [
⟨(some 64), .mv (.t 9), none⟩,
⟨(some 65), .bin .geq .no (.t 64) (.c (.i .i64 1)), none⟩])
(.cond (.t 65)
.skip
(.exit 4)))
(.seq (.blk 5 (.seq (.seq (.drw [
.op ⟨(some 68), .mv (.t 0), none⟩,
.op ⟨(some 69), .mv (.t 9), none⟩,
.op ⟨(some 70), .iaL 1 (.t 68) (.t 69), none⟩,
.op ⟨(some 71), .ld false 1 (.t 70), none⟩,
.op ⟨(some 72), .mv (.t 0), none⟩,
.op ⟨(some 73), .mv (.t 9), none⟩,
.op ⟨(some 74), .bin .sub .no (.t 73) (.c (.i .i64 1)), none⟩,
.op ⟨(some 75), .iaL 1 (.t 72) (.t 74), none⟩,
.op ⟨(some 76), .ld false 1 (.t 75), none⟩,
.op ⟨(some 77), .call 209 [(.t 71), (.t 76)], none⟩,
.op ⟨(some 78), .un .not (.t 77), none⟩])
(.cond (.t 78)
(.exit 4)
.skip))
(.drw [
.op ⟨(some 79), .mv (.t 0), none⟩,
.op ⟨(some 80), .mv (.t 9), none⟩,
.op ⟨(some 81), .mv (.t 0), none⟩,
.op ⟨(some 82), .mv (.t 9), none⟩,
.op ⟨(some 83), .bin .sub .no (.t 82) (.c (.i .i64 1)), none⟩,
.op ⟨(some 84), .mv (.t 0), none⟩,
.op ⟨(some 85), .mv (.t 9), none⟩,
.op ⟨(some 86), .bin .sub .no (.t 85) (.c (.i .i64 1)), none⟩,
.op ⟨(some 87), .iaL 1 (.t 84) (.t 86), none⟩,
.op ⟨(some 88), .ld false 1 (.t 87), none⟩,
.op ⟨(some 89), .mv (.t 0), none⟩,
.op ⟨(some 90), .mv (.t 9), none⟩,
.op ⟨(some 91), .iaL 1 (.t 89) (.t 90), none⟩,
.op ⟨(some 92), .ld false 1 (.t 91), none⟩,
.op ⟨(some 93), .iaL 1 (.t 79) (.t 80), none⟩,
.op ⟨none, .st 1 (.t 93) (.t 88), none⟩,
.op ⟨(some 94), .iaL 1 (.t 81) (.t 83), none⟩,
.op ⟨none, .st 1 (.t 94) (.t 92), none⟩])))
(.reg [
⟨(some 66), .mv (.t 9), none⟩,
⟨(some 67), .bin .sub .no (.t 66) (.c (.i .i64 1)), none⟩,
⟨(some 9), .mv (.t 67), none⟩]))))))
.skip))
(.seq (.reg [
⟨(some 95), .mv (.t 2), none⟩,
⟨(some 96), .mv (.t 7), none⟩,
⟨(some 97), .bin .sub .no (.t 95) (.t 96), none⟩,
⟨(some 98), .bin .geq .no (.t 97) (.c (.i .i64 2)), none⟩])
(.cond (.t 98)
(.seq (.reg [
⟨(some 99), .mv (.t 7), none⟩,
⟨(some 100), .bin .add .no (.t 99) (.c (.i .i64 1)), none⟩,
⟨(some 10), .mv (.t 100), none⟩])
(.blk 6 (.loop (.seq (.seq (.reg [
⟨(some 101), .mv (.t 10), none⟩,
⟨(some 102), .mv (.t 2), none⟩,
⟨(some 103), .bin .lss .no (.t 101) (.t 102), none⟩])
(.cond (.t 103)
.skip
(.exit 6)))
(.seq (.blk 7 (.seq (.seq (.drw [
.op ⟨(some 106), .mv (.t 0), none⟩,
.op ⟨(some 107), .mv (.t 10), none⟩,
.op ⟨(some 108), .iaL 1 (.t 106) (.t 107), none⟩,
.op ⟨(some 109), .ld false 1 (.t 108), none⟩,
.op ⟨(some 110), .mv (.t 0), none⟩,
.op ⟨(some 111), .mv (.t 10), none⟩,
.op ⟨(some 112), .bin .sub .no (.t 111) (.c (.i .i64 1)), none⟩,
.op ⟨(some 113), .iaL 1 (.t 110) (.t 112), none⟩,
.op ⟨(some 114), .ld false 1 (.t 113), none⟩,
.op ⟨(some 115), .call 209 [(.t 109), (.t 114)], none⟩,
.op ⟨(some 116), .un .not (.t 115), none⟩])
(.cond (.t 116)
(.exit 6)
.skip))
(.drw [
.op ⟨(some 117), .mv (.t 0), none⟩,
.op ⟨(some 118), .mv (.t 10), none⟩,
.op ⟨(some 119), .mv (.t 0), none⟩,
.op ⟨(some 120), .mv (.t 10), none⟩,
.op ⟨(some 121), .bin .sub .no (.t 120) (.c (.i .i64 1)), none⟩,
.op ⟨(some 122), .mv (.t 0), none⟩,
.op ⟨(some 123), .mv (.t 10), none⟩,
.op ⟨(some 124), .bin .sub .no (.t 123) (.c (.i .i64 1)), none⟩,
.op ⟨(some 125), .iaL 1 (.t 122) (.t 124), none⟩,
.op ⟨(some 126), .ld false 1 (.t 125), none⟩,
.op ⟨(some 127), .mv (.t 0), none⟩,
.op ⟨(some 128), .mv (.t 10), none⟩,
.op ⟨(some 129), .iaL 1 (.t 127) (.t 128), none⟩,
.op ⟨(some 130), .ld false 1 (.t 129), none⟩,
.op ⟨(some 131), .iaL 1 (.t 117) (.t 118), none⟩,
.op ⟨none, .st 1 (.t 131) (.t 126), none⟩,
.op ⟨(some 132), .iaL 1 (.t 119) (.t 121), none⟩,
.op ⟨none, .st 1 (.t 132) (.t 130), none⟩])))
(.reg [
⟨(some 104), .mv (.t 10), none⟩,
⟨(some 105), .bin .add .no (.t 104) (.c (.i .i64 1)), none⟩,
⟨(some 10), .mv (.t 105), none⟩]))))))
.skip))))))))
(.reg [
⟨(some 15), .mv (.t 8), none⟩,
⟨(some 16), .bin .add .no (.t 15) (.c (.i .i64 1)), none⟩,
⟨(some 8), .mv (.t 16), none⟩]))))))
(.seq (.reg [
⟨(some 6), .mv (.c (.b false)), none⟩])
.ret))))⟩
def f209 : AF := ⟨17, [.t 4], (.seq (.reg [
⟨(some 4), .mv (.c (.b false)), none⟩])
(.seq (.reg [
⟨(some 5), .mv (.t 0), none⟩,
⟨(some 6), .call 251 [(.t 5)], none⟩,
⟨(some 7), .mv (.t 6), none⟩,
⟨(some 8), .mv (.t 1), (some (7, true))⟩,
⟨(some 9), .call 251 [(.t 8)], (some (7, true))⟩,
⟨(some 10), .un .not (.t 9), (some (7, true))⟩,
⟨(some 11), .pick (.t 7) (.t 10) (.c (.b false)), none⟩,
⟨(some 12), .mv (.t 11), none⟩,
⟨(some 13), .mv (.t 0), (some (12, false))⟩,
⟨(some 14), .mv (.t 1), (some (12, false))⟩,
⟨(some 15), .bin .lss .no (.t 13) (.t 14), (some (12, false))⟩,
⟨(some 16), .pick (.t 12) (.c (.b true)) (.t 15), none⟩,
⟨(some 4), .mv (.t 16), none⟩])
.ret))⟩
def f210 : AF := ⟨84, [.t 8], (.seq (.reg [
⟨(some 8), .mv (.c (.i .i64 0)), none⟩])
(.seq (.drw [
.op ⟨(some 11), .mv (.t 0), none⟩,
.op ⟨(some 12), .mv (.t 1), none⟩,
.op ⟨(some 13), .mv (.t 0), none⟩,
.op ⟨(some 14), .mv (.t 3), none⟩,
.op ⟨(some 15), .mv (.t 0), none⟩,
.op ⟨(some 16), .mv (.t 3), none⟩,
.op ⟨(some 17), .iaL 1 (.t 15) (.t 16), none⟩,
.op ⟨(some 18), .ld false 1 (.t 17), none⟩,
.op ⟨(some 19), .mv (.t 0), none⟩,
.op ⟨(some 20), .mv (.t 1), none⟩,
.op ⟨(some 21), .iaL 1 (.t 19) (.t 20), none⟩,
.op ⟨(some 22), .ld false 1 (.t 21), none⟩,
.op ⟨(some 23), .iaL 1 (.t 11) (.t 12), none⟩,
.op ⟨none, .st 1 (.t 23) (.t 18), none⟩,
.op ⟨(some 24), .iaL 1 (.t 13) (.t 14), none⟩,
.op ⟨none, .st 1 (.t 24) (.t 22), none⟩])
(.seq (.reg [
⟨(some 25), .mv (.t 1), none⟩,
⟨(some 26), .bin .add .no (.t 25) (.c (.i .i64 1)), none⟩,
⟨(some 27), .mv (.t 2), none⟩,
⟨(some 28), .bin .sub .no (.t 27) (.c (.i .i64 1)), none⟩,
⟨(some 9), .mv (.t 26), none⟩,
⟨(some 10), .mv (.t 28), none⟩])
(.seq (.blk 0 (.loop (.blk 1 (.seq (.blk 2 (.loop (.seq (.seq (.drw [
.op ⟨(some 29), .mv (.t 9), none⟩,
.op ⟨(some 30), .mv (.t 10), none⟩,
.op ⟨(some 31), .bin .leq .no (.t 29) (.t 30), none⟩,
.op ⟨(some 32), .mv (.t 31), none⟩,
.op ⟨(some 33), .mv (.t 0), (some (32, true))⟩,
.op ⟨(some 34), .mv (.t 1), (some (32, true))⟩,
.op ⟨(some 35), .iaL 1 (.t 33) (.t 34), (some (32, true))⟩,
.op ⟨(some 36), .ld false 1 (.t 35), (some (32, true))⟩,
.op ⟨(some 37), .mv (.t 0), (some (32, true))⟩,
.op ⟨(some 38), .mv (.t 9), (some (32, true))⟩,
.op ⟨(some 39), .iaL 1 (.t 37) (.t 38), (some (32, true))⟩,
.op ⟨(some 40), .ld false 1 (.t 39), (some (32, true))⟩,
.op ⟨(some 41), .call 209 [(.t 36), (.t 40)], (some (32, true))⟩,
.op ⟨(some 42), .un .not (.t 41), (some (32, true))⟩,
.op ⟨(some 43), .pick (.t 32) (.t 42) (.c (.b false)), none⟩])
(.cond (.t 43)
.skip
(.exit 2)))
(.blk 3 (.reg [
⟨(some 44), .mv (.t 9), none⟩,
⟨(some 45), .bin .add .no (.t 44) (.c (.i .i64 1)), none⟩,
⟨(some 9), .mv (.t 45), none⟩])))))
(.seq (.blk 4 (.loop (.seq (.seq (.drw [
.op ⟨(some 46), .mv (.t 9), none⟩,
.op ⟨(some 47), .mv (.t 10), none⟩,
.op ⟨(some 48), .bin .leq .no (.t 46) (.t 47), none⟩,
.op ⟨(some 49), .mv (.t 48), none⟩,
.op ⟨(some 50), .mv (.t 0), (some (49, true))⟩,
.op ⟨(some 51), .mv (.t 1), (some (49, true))⟩,
.op ⟨(some 52), .iaL 1 (.t 50) (.t 51), (some (49, true))⟩,
.op ⟨(some 53), .ld false 1 (.t 52), (some (49, true))⟩,
.op ⟨(some 54), .mv (.t 0), (some (49, true))⟩,
.op ⟨(some 55), .mv (.t 10), (some (49, true))⟩,
.op ⟨(some 56), .iaL 1 (.t 54) (.t 55), (some (49, true))⟩,
.op ⟨(some 57), .ld false 1 (.t 56), (some (49, true))⟩,
.op ⟨(some 58), .call 209 [(.t 53), (.t 57)], (some (49, true))⟩,
.op ⟨(some 59), .pick (.t 49) (.t 58) (.c (.b false)), none⟩])
(.cond (.t 59)
.skip
(.exit 4)))
(.blk 5 (.reg [
⟨(some 60), .mv (.t 10), none⟩,
⟨(some 61), .bin .sub .no (.t 60) (.c (.i .i64 1)), none⟩,
⟨(some 10), .mv (.t 61), none⟩])))))
(.seq (.seq (.reg [
⟨(some 62), .mv (.t 9), none⟩,
⟨(some 63), .mv (.t 10), none⟩,
⟨(some 64), .bin .gtr .no (.t 62) (.t 63), none⟩])
(.cond (.t 64)
(.exit 0)
.skip))
(.seq (.drw [
.op ⟨(some 65), .mv (.t 0), none⟩,
.op ⟨(some 66), .mv (.t 9), none⟩,
.op ⟨(some 67), .mv (.t 0), none⟩,
.op ⟨(some 68), .mv (.t 10), none⟩,
.op ⟨(some 69), .mv (.t 0), none⟩,
.op ⟨(some 70), .mv (.t 10), none⟩,
.op ⟨(some 71), .iaL 1 (.t 69) (.t 70), none⟩,
.op ⟨(some 72), .ld false 1 (.t 71), none⟩,
.op ⟨(some 73), .mv (.t 0), none⟩,
.op ⟨(some 74), .mv (.t 9), none⟩,
.op ⟨(some 75), .iaL 1 (.t 73) (.t 74), none⟩,
.op ⟨(some 76), .ld false 1 (.t 75), none⟩,
.op ⟨(some 77), .iaL 1 (.t 65) (.t 66), none⟩,
.op ⟨none, .st 1 (.t 77) (.t 72), none⟩,
.op ⟨(some 78), .iaL 1 (.t 67) (.t 68), none⟩,
.op ⟨none, .st 1 (.t 78) (.t 76), none⟩])
(.seq (.reg [
⟨(some 79), .mv (.t 9), none⟩,
⟨(some 80), .bin .add .no (.t 79) (.c (.i .i64 1)), none⟩,
⟨(some 9), .mv (.t 80), none⟩])
(.reg [
⟨(some 81), .mv (.t 10), none⟩,
⟨(some 82), .bin .sub .no (.t 81) (.c (.i .i64 1)), none⟩,
⟨(some 10), .mv (.t 82), none⟩])))))))))
(.seq (.reg [
⟨(some 83), .mv (.t 9), none⟩,
⟨(some 8), .mv (.t 83), none⟩])
.ret)))))⟩
def f211 : AF := ⟨168, [.t 8, .t 9], (.seq (.reg [
⟨(some 8), .mv (.c (.i .i64 0)), none⟩,
⟨(some 9), .mv (.c (.b false)), none⟩])
(.seq (.drw [
.op ⟨(some 12), .mv (.t 0), none⟩,
.op ⟨(some 13), .mv (.t 1), none⟩,
.op ⟨(some 14), .mv (.t 0), none⟩,
.op ⟨(some 15), .mv (.t 3), none⟩,
.op ⟨(some 16), .mv (.t 0), none⟩,
.op ⟨(some 17), .mv (.t 3), none⟩,
.op ⟨(some 18), .iaL 1 (.t 16) (.t 17), none⟩,
.op ⟨(some 19), .ld false 1 (.t 18), none⟩,
.op ⟨(some 20), .mv (.t 0), none⟩,
.op ⟨(some 21), .mv (.t 1), none⟩,
.op ⟨(some 22), .iaL 1 (.t 20) (.t 21), none⟩,
.op ⟨(some 23), .ld false 1 (.t 22), none⟩,
.op ⟨(some 24), .iaL 1 (.t 12) (.t 13), none⟩,
.op ⟨none, .st 1 (.t 24) (.t 19), none⟩,
.op ⟨(some 25), .iaL 1 (.t 14) (.t 15), none⟩,
.op ⟨none, .st 1 (.t 25) (.t 23), none⟩])
(.seq (.reg [
⟨(some 26), .mv (.t 1), none⟩,
⟨(some 27), .bin .add .no (.t 26) (.c (.i .i64 1)), none⟩,
⟨(some 28), .mv (.t 2), none⟩,
⟨(some 29), .bin .sub .no (.t 28) (.c (.i .i64 1)), none⟩,
⟨(some 10), .mv (.t 27), none⟩,
⟨(some 11), .mv (.t 29), none⟩])
(.seq (.blk 0 (.loop (.seq (.seq (.drw [
.op ⟨(some 30), .mv (.t 10), none⟩,
.op ⟨(some 31), .mv (.t 11), none⟩,
.op ⟨(some 32), .bin .leq .no (.t 30) (.t 31), none⟩,
.op ⟨(some 33), .mv (.t 32), none⟩,
.op ⟨(some 34), .mv (.t 0), (some (33, true))⟩,
.op ⟨(some 35), .mv (.t 10), (some (33, true))⟩,
.op ⟨(some 36), .iaL 1 (.t 34) (.t 35), (some (33, true))⟩,
.op ⟨(some 37), .ld false 1 (.t 36), (some (33, true))⟩,
.op ⟨(some 38), .mv (.t 0), (some (33, true))⟩,
.op ⟨(some 39), .mv (.t 1), (some (33, true))⟩,
.op ⟨(some 40), .iaL 1 (.t 38) (.t 39), (some (33, true))⟩,
.op ⟨(some 41), .ld false 1 (.t 40), (some (33, true))⟩,
.op ⟨(some 42), .call 209 [(.t 37), (.t 41)], (some (33, true))⟩,
.op ⟨(some 43), .pick (.t 33) (.t 42) (.c (.b false)), none⟩])
(.cond (.t 43)
.skip
(.exit 0)))
(.blk 1 (.reg [
⟨(some 44), .mv (.t 10), none⟩,
⟨(some 45), .bin .add .no (.t 44) (.c (.i .i64 1)), none⟩,
⟨(some 10), .mv (.t 45), none⟩])))))
(.seq (.blk 2 (.loop (.seq (.seq (.drw [
.op ⟨(some 46), .mv (.t 10), none⟩,
.op ⟨(some 47), .mv (.t 11), none⟩,
.op ⟨(some 48), .bin .leq .no (.t 46) (.t 47), none⟩,
.op ⟨(some 49), .mv (.t 48), none⟩,
.op ⟨(some 50), .mv (.t 0), (some (49, true))⟩,
.op ⟨(some 51), .mv (.t 11), (some (49, true))⟩,
.op ⟨(some 52), .iaL 1 (.t 50) (.t 51), (some (49, true))⟩,
.op ⟨(some 53), .ld false 1 (.t 52), (some (49, true))⟩,
.op ⟨(some 54), .mv (.t 0), (some (49, true))⟩,
.op ⟨(some 55), .mv (.t 1), (some (49, true))⟩,
.op ⟨(some 56), .iaL 1 (.t 54) (.t 55), (some (49, true))⟩,
.op ⟨(some 57), .ld false 1 (.t 56), (some (49, true))⟩,
.op ⟨(some 58), .call 209 [(.t 53), (.t 57)], (some (49, true))⟩,
.op ⟨(some 59), .un .not (.t 58), (some (49, true))⟩,
.op ⟨(some 60), .pick (.t 49) (.t 59) (.c (.b false)), none⟩])
(.cond (.t 60)
.skip
(.exit 2)))
(.blk 3 (.reg [
⟨(some 61), .mv (.t 11), none⟩,
⟨(some 62), .bin .sub .no (.t 61) (.c (.i .i64 1)), none⟩,
⟨(some 11), .mv (.t 62), none⟩])))))
(.seq (.seq (.reg [
⟨(some 63), .mv (.t 10), none⟩,
⟨(some 64), .mv (.t 11), none⟩,
⟨(some 65), .bin .gtr .no (.t 63) (.t 64), none⟩])
(.cond (.t 65)
(.seq (.drw [
.op ⟨(some 66), .mv (.t 0), none⟩,
.op ⟨(some 67), .mv (.t 11), none⟩,
.op ⟨(some 68), .mv (.t 0), none⟩,
.op ⟨(some 69), .mv (.t 1), none⟩,
.op ⟨(some 70), .mv (.t 0), none⟩,
.op ⟨(some 71), .mv (.t 1), none⟩,
.op ⟨(some 72), .iaL 1 (.t 70) (.t 71), none⟩,
.op ⟨(some 73), .ld false 1 (.t 72), none⟩,
.op ⟨(some 74), .mv (.t 0), none⟩,
.op ⟨(some 75), .mv (.t 11), none⟩,
.op ⟨(some 76), .iaL 1 (.t 74) (.t 75), none⟩,
.op ⟨(some 77), .ld false 1 (.t 76), none⟩,
.op ⟨(some 78), .iaL 1 (.t 66) (.t 67), none⟩,
.op ⟨none, .st 1 (.t 78) (.t 73), none⟩,
.op ⟨(some 79), .iaL 1 (.t 68) (.t 69), none⟩,
.op ⟨none, .st 1 (.t 79) (.t 77), none⟩])
(.seq (.reg [
⟨(some 80), .mv (.t 11), none⟩,
⟨(some 8), .mv (.t 80), none⟩,
⟨(some 9), .mv (.c (.b true)), none⟩])
.ret))
.skip))
(.seq (.drw [
.op ⟨(some 81), .mv (.t 0), none⟩,
.op ⟨(some 82), .mv (.t 10), none⟩,
.op ⟨(some 83), .mv (.t 0), none⟩,
.op ⟨(some 84), .mv (.t 11), none⟩,
.op ⟨(some 85), .mv (.t 0), none⟩,
.op ⟨(some 86), .mv (.t 11), none⟩,
.op ⟨(some 87), .iaL 1 (.t 85) (.t 86), none⟩,
.op ⟨(some 88), .ld false 1 (.t 87), none⟩,
.op ⟨(some 89), .mv (.t 0), none⟩,
.op ⟨(some 90), .mv (.t 10), none⟩,
.op ⟨(some 91), .iaL 1 (.t 89) (.t 90), none⟩,
.op ⟨(some 92), .ld false 1 (.t 91), none⟩,
.op ⟨(some 93), .iaL 1 (.t 81) (.t 82), none⟩,
.op ⟨none, .st 1 (.t 93) (.t 88), none⟩,
.op ⟨(some 94), .iaL 1 (.t 83) (.t 84), none⟩,
.op ⟨none, .st 1 (.t 94) (.t 92), none⟩])
(.seq (.reg [
⟨(some 95), .mv (.t 10), none⟩,
⟨(some 96), .bin .add .no (.t 95) (.c (.i .i64 1)), none⟩,
⟨(some 10), .mv (.t 96), none⟩])
(.seq (.reg [
⟨(some 97), .mv (.t 11), none⟩,
⟨(some 98), .bin .sub .no (.t 97) (.c (.i .i64 1)), none⟩,
⟨(some 11), .mv (.t 98), none⟩])
(.seq (.blk 4 (.loop (.blk 5 (.seq (.blk 6 (.loop (.seq (.seq (.drw [
.op ⟨(some 99), .mv (.t 10), none⟩,
.op ⟨(some 100), .mv (.t 11), none⟩,
.op ⟨(some 101), .bin .leq .no (.t 99) (.t 100), none⟩,
.op ⟨(some 102), .mv (.t 101), none⟩,
.op ⟨(some 103), .mv (.t 0), (some (102, true))⟩,
.op ⟨(some 104), .mv (.t 10), (some (102, true))⟩,
.op ⟨(some 105), .iaL 1 (.t 103) (.t 104), (some (102, true))⟩,
.op ⟨(some 106), .ld false 1 (.t 105), (some (102, true))⟩,
.op ⟨(some 107), .mv (.t 0), (some (102, true))⟩,
.op ⟨(some 108), .mv (.t 1), (some (102, true))⟩,
.op ⟨(some 109), .iaL 1 (.t 107) (.t 108), (some (102, true))⟩,
.op ⟨(some 110), .ld false 1 (.t 109), (some (102, true))⟩,
.op ⟨(some 111), .call 209 [(.t 106), (.t 110)], (some (102, true))⟩,
.op ⟨(some 112), .pick (.t 102) (.t 111) (.c (.b false)), none⟩])
(.cond (.t 112)
.skip
(.exit 6)))
(.blk 7 (.reg [
⟨(some 113), .mv (.t 10), none⟩,
⟨(some 114), .bin .add .no (.t 113) (.c (.i .i64 1)), none⟩,
⟨(some 10), .mv (.t 114), none⟩])))))
(.seq (.blk 8 (.loop (.seq (.seq (.drw [
.op ⟨(some 115), .mv (.t 10), none⟩,
.op ⟨(some 116), .mv (.t 11), none⟩,
.op ⟨(some 117), .bin .leq .no (.t 115) (.t 116), none⟩,
.op ⟨(some 118), .mv (.t 117), none⟩,
.op ⟨(some 119), .mv (.t 0), (some (118, true))⟩,
.op ⟨(some 120), .mv (.t 11), (some (118, true))⟩,
.op ⟨(some 121), .iaL 1 (.t 119) (.t 120), (some (118, true))⟩,
.op ⟨(some 122), .ld false 1 (.t 121), (some (118, true))⟩,
.op ⟨(some 123), .mv (.t 0), (some (118, true))⟩,
.op ⟨(some 124), .mv (.t 1), (some (118, true))⟩,
.op ⟨(some 125), .iaL 1 (.t 123) (.t 124), (some (118, true))⟩,
.op ⟨(some 126), .ld false 1 (.t 125), (some (118, true))⟩,
.op ⟨(some 127), .call 209 [(.t 122), (.t 126)], (some (118, true))⟩,
.op ⟨(some 128), .un .not (.t 127), (some (118, true))⟩,
.op ⟨(some 129), .pick (.t 118) (.t 128) (.c (.b false)), none⟩])
(.cond (.t 129)
.skip
(.exit 8)))
(.blk 9 (.reg [
⟨(some 130), .mv (.t 11), none⟩,
⟨(some 131), .bin .sub .no (.t 130) (.c (.i .i64 1)), none⟩,
⟨(some 11), .mv (.t 131), none⟩])))))
(.seq (.seq (.reg [
⟨(some 132), .mv (.t 10), none⟩,
⟨(some 133), .mv (.t 11), none⟩,
⟨(some 134), .bin .gtr .no (.t 132) (.t 133), none⟩])
(.cond (.t 134)
(.exit 4)
.skip))
(.seq (.drw [
.op ⟨(some 135), .mv (.t 0), none⟩,
.op ⟨(some 136), .mv (.t 10), none⟩,
.op ⟨(some 137), .mv (.t 0), none⟩,
.op ⟨(some 138), .mv (.t 11), none⟩,
.op ⟨(some 139), .mv (.t 0), none⟩,
.op ⟨(some 140), .mv (.t 11), none⟩,
.op ⟨(some 141), .iaL 1 (.t 139) (.t 140), none⟩,
.op ⟨(some 142), .ld false 1 (.t 141), none⟩,
.op ⟨(some 143), .mv (.t 0), none⟩,
.op ⟨(some 144), .mv (.t 10), none⟩,
.op ⟨(some 145), .iaL 1 (.t 143) (.t 144), none⟩,
.op ⟨(some 146), .ld false 1 (.t 145), none⟩,
.op ⟨(some 147), .iaL 1 (.t 135) (.t 136), none⟩,
.op ⟨none, .st 1 (.t 147) (.t 142), none⟩,
.op ⟨(some 148), .iaL 1 (.t 137) (.t 138), none⟩,
.op ⟨none, .st 1 (.t 148) (.t 146), none⟩])
(.seq (.reg [
⟨(some 149), .mv (.t 10), none⟩,
⟨(some 150), .bin .add .no (.t 149) (.c (.i .i64 1)), none⟩,
⟨(some 10), .mv (.t 150), none⟩])
(.reg [
⟨(some 151), .mv (.t 11), none⟩,
⟨(some 152), .bin .sub .no (.t 151) (.c (.i .i64 1)), none⟩,
⟨(some 11), .mv (.t 152), none⟩])))))))))
(.seq (.drw [
.op ⟨(some 153), .mv (.t 0), none⟩,
.op ⟨(some 154), .mv (.t 11), none⟩,
.op ⟨(some 155), .mv (.t 0), none⟩,
.op ⟨(some 156), .mv (.t 1), none⟩,
.op ⟨(some 157), .mv (.t 0), none⟩,
.op ⟨(some 158), .mv (.t 1), none⟩,
.op ⟨(some 159), .iaL 1 (.t 157) (.t 158), none⟩,
.op ⟨(some 160), .ld false 1 (.t 159), none⟩,
.op ⟨(some 161), .mv (.t 0), none⟩,
.op ⟨(some 162), .mv (.t 11), none⟩,
.op ⟨(some 163), .iaL 1 (.t 161) (.t 162), none⟩,
.op ⟨(some 164), .ld false 1 (.t 163), none⟩,
.op ⟨(some 165), .iaL 1 (.t 153) (.t 154), none⟩,
.op ⟨none, .st 1 (.t 165) (.t 160), none⟩,
.op ⟨(some 166), .iaL 1 (.t 155) (.t 156), none⟩,
.op ⟨none, .st 1 (.t 166) (.t 164), none⟩])
(.seq (.reg [
⟨(some 167), .mv (.t 11), none⟩,
⟨(some 8), .mv (.t 167), none⟩,
⟨(some 9), .mv (.c (.b false)), none⟩])
.ret))))))))))))⟩
def f212 : AF := ⟨19, [.t 2], (.seq (.reg [
⟨(some 2), .mv (.c (.i .i64 0)), none⟩])
(.seq (.seq (.reg [
⟨(some 3), .mv (.t 0), none⟩,
⟨(some 4), .bin .geq .no (.t 3) (.c (.i .u32 65536)), none⟩])
(.cond (.t 4)
(.seq (.reg [
⟨(some 5), .mv (.t 0), none⟩,
⟨(some 6), .bin .shr .no (.t 5) (.c (.i .u64 16)), none⟩,
⟨(some 0), .mv (.t 6), none⟩])
(.reg [
⟨(some 2), .mv (.c (.i .i64 16)), none⟩]))
.skip))
(.seq (.seq (.reg [
⟨(some 7), .mv (.t 0), none⟩,
⟨(some 8), .bin .geq .no (.t 7) (.c (.i .u32 256)), none⟩])
(.cond (.t 8)
(.seq (.reg [
⟨(some 9), .mv (.t 0), none⟩,
⟨(some 10), .bin .shr .no (.t 9) (.c (.i .u64 8)), none⟩,
⟨(some 0), .mv (.t 10), none⟩])
(.reg [
⟨(some 11), .mv (.t 2), none⟩,
⟨(some 12), .bin .add .no (.t 11) (.c (.i .i64 8)), none⟩,
⟨(some 2), .mv (.t 12), none⟩]))
.skip))
(.seq (.reg [
⟨(some 13), .mv (.t 2), none⟩,
⟨(some 14), .mv (.t 0), none⟩,
⟨(some 15), .cvi .u8 (.t 14), none⟩,
⟨(some 16), .ixS (.c (.s [0, 1, 2, 2, 3, 3, 3, 3, 4, 4, 4, 4, 4, 4, 4, 4, 5, 5, 5, 5, 5, 5, 5, 5, 5, 5, 5, 5, 5, 5, 5, 5, 6, 6, 6, 6, 6, 6, 6, 6, 6, 6, 6, 6, 6, 6, 6, 6, 6, 6, 6, 6, 6, 6, 6, 6, 6, 6, 6, 6, 6, 6, 6, 6, 7, 7, 7, 7, 7, 7, 7, 7, 7, 7, 7, 7, 7, 7, 7, 7, 7, 7, 7, 7, 7, 7, 7, 7, 7, 7, 7, 7, 7, 7, 7, 7, 7, 7, 7, 7, 7, 7, 7, 7, 7, 7, 7, 7, 7, 7, 7, 7, 7, 7, 7, 7, 7, 7, 7, 7, 7, 7, 7, 7, 7, 7, 7, 7, 8, 8, 8, 8, 8, 8, 8, 8, 8, 8, 8, 8, 8, 8, 8, 8, 8, 8, 8, 8, 8, 8, 8, 8, 8, 8, 8, 8, 8, 8, 8, 8, 8, 8, 8, 8, 8, 8, 8, 8, 8, 8, 8, 8, 8, 8, 8, 8, 8, 8, 8, 8, 8, 8, 8, 8, 8, 8, 8, 8, 8, 8, 8, 8, 8, 8, 8, 8, 8, 8, 8, 8, 8, 8, 8, 8, 8, 8, 8, 8, 8, 8, 8, 8, 8, 8, 8, 8, 8, 8, 8, 8, 8, 8, 8, 8, 8, 8, 8, 8, 8, 8, 8, 8, 8, 8, 8, 8, 8, 8, 8, 8, 8, 8, 8, 8, 8, 8, 8, 8, 8, 8, 8, 8, 8, 8, 8, 8])) (.t 15), none⟩,
⟨(some 17), .cvi .i64 (.t 16), none⟩,
⟨(some 18), .bin .add .no (.t 13) (.t 17), none⟩,
⟨(some 2), .mv (.t 18), none⟩])
.ret))))⟩
def f213 : AF := ⟨17, [.t 4], (.seq (.reg [
⟨(some 4), .mv (.c (.i .u64 0)), none⟩])
(.seq (.reg [
⟨(some 6), .mv (.t 1), none⟩,
⟨(some 7), .cvi .u64 (.t 6), none⟩,
⟨(some 8), .bin .and .no (.t 7) (.c (.i .u64 63)), none⟩,
⟨(some 5), .mv (.t 8), none⟩])
(.seq (.reg [
⟨(some 9), .mv (.t 0), none⟩,
⟨(some 10), .mv (.t 5), none⟩,
⟨(some 11), .bin .shl .no (.t 9) (.t 10), none⟩,
⟨(some 12), .mv (.t 0), none⟩,
⟨(some 13), .mv (.t 5), none⟩,
⟨(some 14), .bin .sub .no (.c (.i .u64 64)) (.t 13), none⟩,
⟨(some 15), .bin .shr .no (.t 12) (.t 14), none⟩,
⟨(some 16), .bin .or .no (.t 11) (.t 15), none⟩,
⟨(some 4), .mv (.t 16), none⟩])
.ret)))⟩
def f214 : AF := ⟨36, [.t 4], (.seq (.reg [
⟨(some 4), .mv (.c .nsl), none⟩])
(.seq (.seq (.reg [
⟨(some 7), .mv (.t 1), none⟩,
⟨(some 8), .bin .lss .no (.t 7) (.c (.i .i64 1)), none⟩,
⟨(some 9), .mv (.t 8), none⟩,
⟨(some 10), .mv (.t 1), (some (9, false))⟩,
⟨(some 11), .bin .gtr .no (.t 10) (.c (.i .i64 8)), (some (9, false))⟩,
⟨(some 12), .pick (.t 9) (.c (.b true)) (.t 11), none⟩,
⟨(some 13), .mv (.t 12), none⟩,
⟨(some 14), .mv (.t 0), (some (13, false))⟩,
⟨(some 15), .bin .lss .no (.t 14) (.c (.i .i64 0)), (some (13, false))⟩,
⟨(some 16), .pick (.t 13) (.c (.b true)) (.t 15), none⟩,
⟨(some 17), .mv (.t 16), none⟩,
⟨(some 18), .mv (.t 0), (some (17, false))⟩,
⟨(some 19), .mv (.t 1), (some (17, false))⟩,
⟨(some 20), .bin .geq .no (.t 18) (.t 19), (some (17, false))⟩,
⟨(some 21), .pick (.t 17) (.c (.b true)) (.t 20), none⟩])
(.cond (.t 21)
(.seq (.reg [
⟨(some 4), .mv (.c .nsl), none⟩])
.ret)
.skip))
(.seq (.reg [
⟨(some 5), .mv (.c .nsl), none⟩])
(.seq (.seq (.reg [
⟨(some 22), .mv (.t 1), none⟩,
⟨(some 23), .mv (.c (.i .i64 0)), none⟩])
(.blk 0 (.loop (.seq (.reg [
⟨(some 24), .bin .lss .no (.t 23) (.t 22), none⟩])
(.seq (.cond (.t 24)
.skip
(.exit 0))
(.seq (.blk 1 (.seq (.reg [
⟨(some 25), .mv (.t 23), none⟩,
⟨(some 6), .mv (.t 25), none⟩])
(.reg [
⟨(some 26), .mv (.t 5), none⟩,
⟨(some 27), .mv (.t 0), none⟩,
⟨(some 28), .mv (.t 6), none⟩,
⟨(some 29), .bin .add .no (.t 27) (.t 28), none⟩,
⟨(some 30), .mv (.t 1), none⟩,
⟨(some 31), .bin .rem .no (.t 29) (.t 30), none⟩,
⟨(some 32), .bsl 1 [(.i .i64 0)] [(0, 1, (.t 31))], none⟩,
⟨(some 33), .app 1 8 [(.i .i64 0)] (.t 26) (.t 32), none⟩,
⟨(some 5), .mv (.t 33), none⟩])))
(.reg [
⟨(some 34), .bin .add .no (.t 23) (.c (.i .i64 1)), none⟩,
⟨(some 23), .mv (.t 34), none⟩])))))))
(.seq (.reg [
⟨(some 35), .mv (.t 5), none⟩,
⟨(some 4), .mv (.t 35), none⟩])
.ret)))))⟩
def f215 : AF := ⟨7, [.t 2], (.seq (.reg [
⟨(some 2), .mv (.c (.i .i64 0)), none⟩])
(.seq (.seq (.reg [
⟨(some 3), .mv (.t 0), none⟩,
⟨(some 4), .bin .lss .no (.t 3) (.c (.i .i64 1)), none⟩])
(.cond (.t 4)
(.seq (.reg [
⟨(some 2), .mv (.c (.i .i64 0)), none⟩])
.ret)
.skip))
(.seq (.reg [
⟨(some 5), .mv (.t 0), none⟩,
⟨(some 6), .bin .rem .no (.t 5) (.c (.i .i64 64)), none⟩,
⟨(some 2), .mv (.t 6), none⟩])
.ret)))⟩
def f216 : AF := ⟨19, [.t 4], (.seq (.reg [
⟨(some 4), .mv (.c (.i .i64 0)), none⟩])
(.seq (.seq (.reg [
⟨(some 6), .mv (.t 0), none⟩,
⟨(some 7), .len 1 (.t 6), none⟩,
⟨(some 8), .mv (.c (.i .i64 0)), none⟩])
(.blk 0 (.loop (.seq (.reg [
⟨(some 9), .bin .lss .no (.t 8) (.t 7), none⟩])
(.seq (.cond (.t 9)
.skip
(.exit 0))
(.seq (.blk 1 (.seq (.reg [
⟨(some 10), .mv (.t 8), none⟩,
⟨(some 5), .mv (.t 10), none⟩])
(.seq (.reg [
⟨(some 11), .mv (.t 1), none⟩,
⟨(some 12), .mv (.t 0), none⟩,
⟨(some 13), .mv (.t 5), none⟩,
⟨(some 14), .iaL 3 (.t 12) (.t 13), none⟩,
⟨(some 15), .ld true 3 (.t 14), none⟩,
⟨(some 16), .cald (.t 11) [(.t 15)], none⟩])
(.cond (.t 16)
(.seq (.reg [
⟨(some 17), .mv (.t 5), none⟩,
⟨(some 4), .mv (.t 17), none⟩])
.ret)
.skip))))
(.reg [
⟨(some 18), .bin .add .no (.t 8) (.c (.i .i64 1)), none⟩,
⟨(some 8), .mv (.t 18), none⟩])))))))
(.seq (.reg [
⟨(some 4), .mv (.c (.i .i64 (-1))), none⟩])
.ret)))⟩
def f217 : AF := ⟨8, [.t 4], (.seq (.reg [
⟨(some 4), .mv (.c .nsl), none⟩])
(.seq (.reg [
⟨(some 5), .mv (.t 0), none⟩,
⟨(some 6), .mv (.t 1), none⟩,
⟨(some 7), .call 252 [(.t 5), (.t 6), (.c (.f (.func 253) [] []))], none⟩,
⟨(some 4), .mv (.t 7), none⟩])
.ret))⟩
def f218 : AF := ⟨30, [.t 2], (.seq (.reg [
⟨(some 1), .box 10 (.t 0), none⟩,
⟨(some 2), .mv (.c (.b false)), none⟩])
(.seq (.seq (.reg [
⟨(some 6), .fa 7 (.t 1), none⟩,
⟨(some 7), .ld false 1 (.t 6), none⟩,
⟨(some 8), .call 254 [(.t 7), (.c (.f (.func 255) [] []))], none⟩])
(.cond (.t 8)
(.seq (.reg [
⟨(some 2), .mv (.c (.b false)), none⟩])
.ret)
.skip))
(.seq (.reg [
⟨(some 3), .mv (.c (.i .i64 0)), none⟩])
(.seq (.seq (.reg [
⟨(some 9), .fa 7 (.t 1), none⟩,
⟨(some 10), .ld false 1 (.t 9), none⟩,
⟨(some 11), .len 1 (.t 10), none⟩,
⟨(some 12), .mv (.c (.i .i64 0)), none⟩])
(.blk 0 (.loop (.seq (.reg [
⟨(some 13), .bin .lss .no (.t 12) (.t 11), none⟩])
(.seq (.cond (.t 13)
.skip
(.exit 0))
(.seq (.blk 1 (.seq (.reg [
⟨(some 14), .iaL 1 (.t 10) (.t 12), none⟩,
⟨(some 15), .ld false 1 (.t 14), none⟩,
⟨(some 5), .mv (.t 15), none⟩])
(.reg [
⟨(some 16), .mv (.t 3), none⟩,
⟨(some 17), .mv (.t 5), none⟩,
⟨(some 18), .call 256 [(.t 17)], none⟩,
⟨(some 19), .bin .add .no (.t 16) (.t 18), none⟩,
⟨(some 3), .mv (.t 19), none⟩])))
(.reg [
⟨(some 20), .bin .add .no (.t 12) (.c (.i .i64 1)), none⟩,
⟨(some 12), .mv (.t 20), none⟩])))))))
(.seq (.drw [
.op ⟨(some 21), .mv (.t 3), none⟩,
.op ⟨(some 22), .ld true 10 (.t 1), none⟩,
.op ⟨(some 26), .fa 3 (.t 1), none⟩,
.op ⟨(some 27), .ld false 1 (.t 26), none⟩,
.op ⟨(some 23), .call 220 [(.t 22)], none⟩,
.chk ⟨(some 27), .ld false 1 (.t 26), none⟩,
.op ⟨(some 24), .call 256 [(.t 23)], none⟩,
.chk ⟨(some 27), .ld false 1 (.t 26), none⟩,
.op ⟨(some 25), .bin .add .no (.t 21) (.t 24), none⟩,
.op ⟨(some 28), .call 256 [(.t 27)], none⟩,
.op ⟨(some 29), .bin .eql .int (.t 25) (.t 28), none⟩,
.op ⟨(some 2), .mv (.t 29), none⟩])
.ret)))))⟩
def f219 : AF := ⟨23, [.t 2], (.seq (.reg [
⟨(some 1), .box 10 (.t 0), none⟩,
⟨(some 2), .mv (.c .nsl), none⟩])
(.seq (.reg [
⟨(some 3), .mv (.c .nsl), none⟩])
(.seq (.seq (.reg [
⟨(some 6), .fa 7 (.t 1), none⟩,
⟨(some 7), .ld false 1 (.t 6), none⟩,
⟨(some 8), .len 1 (.t 7), none⟩,
⟨(some 9), .mv (.c (.i .i64 0)), none⟩])
(.blk 0 (.loop (.seq (.reg [
⟨(some 10), .bin .lss .no (.t 9) (.t 8), none⟩])
(.seq (.cond (.t 10)
.skip
(.exit 0))
(.seq (.blk 1 (.seq (.reg [
⟨(some 11), .mv (.t 9), none⟩,
⟨(some 12), .iaL 1 (.t 7) (.t 9), none⟩,
⟨(some 13), .ld false 1 (.t 12), none⟩,
⟨(some 4), .mv (.t 11), none⟩,
⟨(some 5), .mv (.t 13), none⟩])
(.seq (.reg [
⟨(some 14), .mv (.t 5), none⟩,
⟨(some 15), .len 1 (.t 14), none⟩,
⟨(some 16), .bin .gtr .no (.t 15) (.c (.i .i64 0)), none⟩])
(.cond (.t 16)
(.reg [
⟨(some 17), .mv (.t 3), none⟩,
⟨(some 18), .mv (.t 4), none⟩,
⟨(some 19), .bsl 1 [(.i .i64 0)] [(0, 1, (.t 18))], none⟩,
⟨(some 20), .app 1 8 [(.i .i64 0)] (.t 17) (.t 19), none⟩,
⟨(some 3), .mv (.t 20), none⟩])
.skip))))
(.reg [
⟨(some 21), .bin .add .no (.t 9) (.c (.i .i64 1)), none⟩,
⟨(some 9), .mv (.t 21), none⟩])))))))
(.seq (.reg [
⟨(some 22), .mv (.t 3), none⟩,
⟨(some 2), .mv (.t 22), none⟩])
.ret))))⟩
def f220 : AF := ⟨8, [.t 2], (.seq (.reg [
⟨(some 1), .box 10 (.t 0), none⟩,
⟨(some 2), .mv (.c .nsl), none⟩])
(.seq (.reg [
⟨(some 3), .fa 3 (.t 1), none⟩,
⟨(some 4), .ld false 1 (.t 3), none⟩,
⟨(some 5), .fa 7 (.t 1), none⟩,
⟨(some 6), .ld false 1 (.t 5), none⟩,
⟨(some 7), .call 257 [(.t 4), (.t 6)], none⟩,
⟨(some 2), .mv (.t 7), none⟩])
.ret))⟩
def f221 : AF := ⟨4, [.t 2], (.seq (.reg [
⟨(some 1), .box 1 (.t 0), none⟩,
⟨(some 2), .mv (.c .nf), none⟩])
(.seq (.reg [
⟨(some 3), .mkf 258 [] [(.t 1)], none⟩,
⟨(some 2), .mv (.t 3), none⟩])
.ret))⟩
def f222 : AF := ⟨26, [.t 4], (.seq (.reg [
⟨(some 4), .mv (.c (.b false)), none⟩])
(.seq (.seq (.reg [
⟨(some 6), .mv (.t 0), none⟩,
⟨(some 7), .len 1 (.t 6), none⟩,
⟨(some 8), .mv (.t 1), none⟩,
⟨(some 9), .len 1 (.t 8), none⟩,
⟨(some 10), .bin .neq .int (.t 7) (.t 9), none⟩])
(.cond (.t 10)
(.seq (.reg [
⟨(some 4), .mv (.c (.b false)), none⟩])
.ret)
.skip))
(.seq (.seq (.reg [
⟨(some 11), .mv (.t 0), none⟩,
⟨(some 12), .len 1 (.t 11), none⟩,
⟨(some 13), .mv (.c (.i .i64 0)), none⟩])
(.blk 0 (.loop (.seq (.reg [
⟨(some 14), .bin .lss .no (.t 13) (.t 12), none⟩])
(.seq (.cond (.t 14)
.skip
(.exit 0))
(.seq (.blk 1 (.seq (.reg [
⟨(some 15), .mv (.t 13), none⟩,
⟨(some 5), .mv (.t 15), none⟩])
(.seq (.drw [
.op ⟨(some 16), .mv (.t 0), none⟩,
.op ⟨(some 17), .mv (.t 5), none⟩,
.op ⟨(some 18), .iaL 1 (.t 16) (.t 17), none⟩,
.op ⟨(some 19), .ld false 1 (.t 18), none⟩,
.op ⟨(some 20), .mv (.t 1), none⟩,
.op ⟨(some 21), .mv (.t 5), none⟩,
.op ⟨(some 22), .iaL 1 (.t 20) (.t 21), none⟩,
.op ⟨(some 23), .ld false 1 (.t 22), none⟩,
.op ⟨(some 24), .bin .neq .int (.t 19) (.t 23), none⟩])
(.cond (.t 24)
(.seq (.reg [
⟨(some 4), .mv (.c (.b false)), none⟩])
.ret)
.skip))))
(.reg [
⟨(some 25), .bin .add .no (.t 13) (.c (.i .i64 1)), none⟩,
⟨(some 13), .mv (.t 25), none⟩])))))))
(.seq (.reg [
⟨(some 4), .mv (.c (.b true)), none⟩])
.ret))))⟩
def f223 : AF := ⟨32, [.t 4], (.seq (.reg [
⟨(some 4), .mv (.c (.b false)), none⟩])
(.seq (.seq (.reg [
⟨(some 7), .mv (.t 0), none⟩,
⟨(some 8), .len 1 (.t 7), none⟩,
⟨(some 9), .mv (.c (.i .i64 0)), none⟩])
(.blk 0 (.loop (.seq (.reg [
⟨(some 10), .bin .lss .no (.t 9) (.t 8), none⟩])
(.seq (.cond (.t 10)
.skip
(.exit 0))
(.seq (.blk 1 (.seq (.reg [
⟨(some 11), .mv (.t 9), none⟩,
⟨(some 12), .iaL 1 (.t 7) (.t 9), none⟩,
⟨(some 13), .ld false 1 (.t 12), none⟩,
⟨(some 5), .mv (.t 11), none⟩,
⟨(some 6), .mv (.t 13), none⟩])
(.seq (.reg [
⟨(some 14), .mv (.t 5), none⟩,
⟨(some 15), .bin .gtr .no (.t 14) (.c (.i .i64 0)), none⟩,
⟨(some 16), .mv (.t 15), none⟩,
⟨(some 17), .mv (.t 0), (some (16, true))⟩,
⟨(some 18), .mv (.t 5), (some (16, true))⟩,
⟨(some 19), .bin .sub .no (.t 18) (.c (.i .i64 1)), (some (16, true))⟩,
⟨(some 20), .iaL 1 (.t 17) (.t 19), (some (16, true))⟩,
⟨(some 21), .ld false 1 (.t 20), (some (16, true))⟩,
⟨(some 22), .mv (.t 6), (some (16, true))⟩,
⟨(some 23), .bin .geq .no (.t 21) (.t 22), (some (16, true))⟩,
⟨(some 24), .pick (.t 16) (.t 23) (.c (.b false)), none⟩,
⟨(some 25), .mv (.t 24), none⟩,
⟨(some 26), .mv (.t 1), (some (25, false))⟩,
⟨(some 27), .mv (.t 6), (some (25, false))⟩,
⟨(some 28), .call 259 [(.t 26), (.t 27)], (some (25, false))⟩,
⟨(some 29), .un .not (.t 28), (some (25, false))⟩,
⟨(some 30), .pick (.t 25) (.c (.b true)) (.t 29), none⟩])
(.cond (.t 30)
(.seq (.reg [
⟨(some 4), .mv (.c (.b false)), none⟩])
.ret)
.skip))))
(.reg [
⟨(some 31), .bin .add .no (.t 9) (.c (.i .i64 1)), none⟩,
⟨(some 9), .mv (.t 31), none⟩])))))))
(.seq (.reg [
⟨(some 4), .mv (.c (.b true)), none⟩])
.ret)))⟩
def f224 : AF := ⟨92, [.t 4, .t 5], (.seq (.reg [
⟨(some 3), .box 3 (.t 1), none⟩,
⟨(some 4), .mv (.c .nsl), none⟩,
⟨(some 5), .mv (.c (.i .i64 0)), none⟩])
(.seq (.reg [
⟨(some 8), .mv (.t 0), none⟩,
⟨(some 9), .nck (.t 8), none⟩,
⟨(some 10), .ld true 10 (.t 9), none⟩,
⟨(some 11), .call 220 [(.t 10)], none⟩,
⟨(some 6), .mv (.t 11), none⟩])
(.seq (.blk 0 (.seq (.reg [
⟨(some 13), .mv (.t 0), none⟩,
⟨(some 14), .fa 1 (.t 3), none⟩,
⟨(some 15), .ld false 1 (.t 14), none⟩,
⟨(some 16), .call 260 [(.t 13), (.c (.i .i64 1)), (.t 15)], none⟩,
⟨(some 17), .un .not (.t 16), none⟩,
⟨(some 12), .mv (.t 17), none⟩])
(.cond (.t 12)
(.seq (.reg [
⟨(some 4), .mv (.c .nsl), none⟩,
⟨(some 5), .mv (.c (.i .i64 80)), none⟩])
.ret)
(.seq (.reg [
⟨(some 19), .mv (.t 6), none⟩,
⟨(some 20), .fa 2 (.t 3), none⟩,
⟨(some 21), .ld false 1 (.t 20), none⟩,
⟨(some 22), .call 183 [(.t 19), (.t 21)], none⟩,
⟨(some 23), .un .not (.t 22), none⟩,
⟨(some 18), .mv (.t 23), none⟩])
(.cond (.t 18)
(.seq (.reg [
⟨(some 4), .mv (.c .nsl), none⟩,
⟨(some 5), .mv (.c (.i .i64 60)), none⟩])
.ret)
.skip)))))
(.seq (.drw [
.op ⟨(some 24), .mv (.t 0), none⟩,
.op ⟨(some 25), .nck (.t 24), none⟩,
.op ⟨(some 26), .fa 7 (.t 25), none⟩,
.op ⟨(some 27), .ld false 1 (.t 26), none⟩,
.op ⟨(some 28), .fa 1 (.t 3), none⟩,
.op ⟨(some 29), .ld false 1 (.t 28), none⟩,
.op ⟨(some 30), .fa 2 (.t 3), none⟩,
.op ⟨(some 31), .ld false 1 (.t 30), none⟩,
.op ⟨(some 32), .call 48 [(.t 31)], none⟩,
.chk ⟨(some 27), .ld false 1 (.t 26), none⟩,
.chk ⟨(some 29), .ld false 1 (.t 28), none⟩,
.op ⟨(some 33), .iaL 1 (.t 27) (.t 29), none⟩,
.op ⟨none, .st 1 (.t 33) (.t 32), none⟩])
(.seq (.reg [
⟨(some 34), .mv (.t 6), none⟩,
⟨(some 35), .fa 2 (.t 3), none⟩,
⟨(some 36), .ld false 1 (.t 35), none⟩,
⟨(some 37), .call 217 [(.t 34), (.t 36)], none⟩,
⟨(some 6), .mv (.t 37), none⟩])
(.seq (.blk 1 (.seq (.reg [
⟨(some 39), .mv (.t 0), none⟩,
⟨(some 40), .nck (.t 39), none⟩,
⟨(some 41), .fa 9 (.t 40), none⟩,
⟨(some 42), .ld false 1 (.t 41), none⟩,
⟨(some 38), .mv (.t 42), none⟩])
(.cond (.t 38)
.skip
(.seq (.reg [
⟨(some 44), .mv (.t 6), none⟩,
⟨(some 45), .len 1 (.t 44), none⟩,
⟨(some 46), .bin .eql .int (.t 45) (.c (.i .i64 0)), none⟩,
⟨(some 43), .mv (.t 46), none⟩])
(.cond (.t 43)
(.seq (.reg [
⟨(some 47), .mv (.t 0), none⟩,
⟨(some 48), .call 261 [(.t 47), (.c (.i .i64 2))], none⟩,
⟨(some 4), .mv (.t 48), none⟩,
⟨(some 5), .mv (.c (.i .i64 0)), none⟩])
.ret)
(.seq (.drw [
.op ⟨(some 50), .mv (.t 0), none⟩,
.op ⟨(some 51), .nck (.t 50), none⟩,
.op ⟨(some 52), .fa 6 (.t 51), none⟩,
.op ⟨(some 53), .ld false 1 (.t 52), none⟩,
.op ⟨(some 54), .mv (.t 0), none⟩,
.op ⟨(some 55), .nck (.t 54), none⟩,
.op ⟨(some 56), .fa 2 (.t 55), none⟩,
.op ⟨(some 57), .ld false 1 (.t 56), none⟩,
.op ⟨(some 58), .bin .lss .no (.t 53) (.t 57), none⟩,
.op ⟨(some 49), .mv (.t 58), none⟩])
(.cond (.t 49)
(.seq (.drw [
.op ⟨(some 59), .mv (.t 0), none⟩,
.op ⟨(some 60), .nck (.t 59), none⟩,
.op ⟨(some 61), .fa 1 (.t 60), none⟩,
.op ⟨(some 62), .ld false 1 (.t 61), none⟩,
.op ⟨(some 63), .mv (.t 0), none⟩,
.op ⟨(some 64), .nck (.t 63), none⟩,
.op ⟨(some 65), .fa 2 (.t 64), none⟩,
.op ⟨(some 66), .ld false 1 (.t 65), none⟩,
.op ⟨(some 68), .mv (.t 0), none⟩,
.op ⟨(some 69), .nck (.t 68), none⟩,
.op ⟨(some 70), .fa 6 (.t 69), none⟩,
.op ⟨(some 71), .ld false 1 (.t 70), none⟩,
.op ⟨(some 67), .call 214 [(.t 62), (.t 66)], none⟩,
.chk ⟨(some 71), .ld false 1 (.t 70), none⟩,
.op ⟨(some 72), .iaL 1 (.t 67) (.t 71), none⟩,
.op ⟨(some 73), .ld false 1 (.t 72), none⟩,
.op ⟨(some 7), .mv (.t 73), none⟩])
(.seq (.reg [
⟨(some 74), .mv (.t 0), none⟩,
⟨(some 75), .nck (.t 74), none⟩,
⟨(some 76), .fa 6 (.t 75), none⟩,
⟨(some 77), .ld false 1 (.t 76), none⟩,
⟨(some 78), .bin .add .no (.t 77) (.c (.i .i64 1)), none⟩,
⟨(some 79), .nck (.t 74), none⟩,
⟨(some 80), .fa 6 (.t 79), none⟩,
⟨none, .st 1 (.t 80) (.t 78), none⟩])
(.seq (.reg [
⟨(some 81), .mv (.t 0), none⟩,
⟨(some 82), .mv (.t 7), none⟩,
⟨(some 83), .bsl 1 [(.i .i64 0)] [(0, 1, (.t 82))], none⟩,
⟨(some 84), .nck (.t 81), none⟩,
⟨(some 85), .fa 8 (.t 84), none⟩,
⟨none, .st 1 (.t 85) (.t 83), none⟩])
(.seq (.reg [
⟨(some 86), .mv (.t 7), none⟩,
⟨(some 87), .mv (.t 6), none⟩,
⟨(some 88), .build [(.i .i64 0), (.i .i64 0), .nsl, (.i .i64 0)] [(0, 1, (.c (.i .i64 3))), (1, 1, (.t 86)), (2, 1, (.t 87))], none⟩,
⟨(some 89), .bsl 1 [(.i .i64 0), (.i .i64 0), .nsl, (.i .i64 0)] [(0, 4, (.t 88))], none⟩,
⟨(some 4), .mv (.t 89), none⟩,
⟨(some 5), .mv (.c (.i .i64 0)), none⟩])
.ret))))
.skip)))))))
(.seq (.reg [
⟨(some 90), .mv (.t 0), none⟩,
⟨(some 91), .call 262 [(.t 90)], none⟩,
⟨(some 4), .mv (.t 91), none⟩,
⟨(some 5), .mv (.c (.i .i64 0)), none⟩])
.ret)))))))⟩
def f225 : AF := ⟨26, [.t 4, .t 5], (.seq (.reg [
⟨(some 3), .box 3 (.t 1), none⟩,
⟨(some 4), .mv (.c .nsl), none⟩,
⟨(some 5), .mv (.c (.i .i64 0)), none⟩])
(.seq (.seq (.reg [
⟨(some 6), .mv (.t 0), none⟩,
⟨(some 7), .fa 1 (.t 3), none⟩,
⟨(some 8), .ld false 1 (.t 7), none⟩,
⟨(some 9), .call 260 [(.t 6), (.c (.i .i64 4)), (.t 8)], none⟩,
⟨(some 10), .un .not (.t 9), none⟩])
(.cond (.t 10)
(.seq (.reg [
⟨(some 4), .mv (.c .nsl), none⟩,
⟨(some 5), .mv (.c (.i .i64 80)), none⟩])
.ret)
.skip))
(.seq (.drw [
.op ⟨(some 11), .mv (.t 0), none⟩,
.op ⟨(some 12), .nck (.t 11), none⟩,
.op ⟨(some 13), .fa 7 (.t 12), none⟩,
.op ⟨(some 14), .ld false 1 (.t 13), none⟩,
.op ⟨(some 15), .fa 1 (.t 3), none⟩,
.op ⟨(some 16), .ld false 1 (.t 15), none⟩,
.op ⟨(some 17), .iaL 1 (.t 14) (.t 16), none⟩,
.op ⟨none, .st 1 (.t 17) (.c .nsl), none⟩])
(.seq (.seq (.reg [
⟨(some 18), .mv (.t 0), none⟩,
⟨(some 19), .nck (.t 18), none⟩,
⟨(some 20), .fa 8 (.t 19), none⟩,
⟨(some 21), .ld false 1 (.t 20), none⟩,
⟨(some 22), .len 1 (.t 21), none⟩,
⟨(some 23), .bin .gtr .no (.t 22) (.c (.i .i64 0)), none⟩])
(.cond (.t 23)
(.seq (.reg [
⟨(some 4), .mv (.c .nsl), none⟩,
⟨(some 5), .mv (.c (.i .i64 0)), none⟩])
.ret)
.skip))
(.seq (.reg [
⟨(some 24), .mv (.t 0), none⟩,
⟨(some 25), .call 263 [(.t 24)], none⟩,
⟨(some 4), .mv (.t 25), none⟩,
⟨(some 5), .mv (.c (.i .i64 0)), none⟩])
.ret)))))⟩
def f226 : AF := ⟨28, [.t 2, .t 3], (.seq (.reg [
⟨(some 2), .mv (.c .nsl), none⟩,
⟨(some 3), .mv (.c (.i .i64 0)), none⟩])
(.seq (.reg [
⟨(some 5), .mv (.t 0), none⟩,
⟨(some 6), .nck (.t 5), none⟩,
⟨(some 7), .fa 9 (.t 6), none⟩,
⟨(some 8), .ld false 1 (.t 7), none⟩,
⟨(some 4), .mv (.t 8), none⟩])
(.seq (.reg [
⟨(some 9), .mv (.t 0), none⟩,
⟨(some 10), .nck (.t 9), none⟩,
⟨(some 11), .fa 9 (.t 10), none⟩,
⟨none, .st 1 (.t 11) (.c (.b true)), none⟩])
(.seq (.seq (.reg [
⟨(some 12), .mv (.t 0), none⟩,
⟨(some 13), .nck (.t 12), none⟩,
⟨(some 14), .fa 5 (.t 13), none⟩,
⟨(some 15), .ld false 1 (.t 14), none⟩])
(.blk 0 (.seq (.seq (.reg [
⟨(some 17), .bin .eql .int (.t 15) (.c (.i .i64 1)), none⟩,
⟨(some 16), .mv (.t 17), none⟩])
(.cond (.t 16)
.skip
(.reg [
⟨(some 18), .bin .eql .int (.t 15) (.c (.i .i64 4)), none⟩,
⟨(some 16), .mv (.t 18), none⟩])))
(.cond (.t 16)
(.seq (.seq (.reg [
⟨(some 19), .mv (.t 4), none⟩])
(.cond (.t 19)
(.seq (.reg [
⟨(some 2), .mv (.c .nsl), none⟩,
⟨(some 3), .mv (.c (.i .i64 5)), none⟩])
.ret)
.skip))
(.seq (.reg [
⟨(some 2), .mv (.c .nsl), none⟩,
⟨(some 3), .mv (.c (.i .i64 0)), none⟩])
.ret))
(.seq (.reg [
⟨(some 21), .bin .eql .int (.t 15) (.c (.i .i64 3)), none⟩,
⟨(some 20), .mv (.t 21), none⟩])
(.cond (.t 20)
(.seq (.reg [
⟨(some 22), .mv (.t 0), none⟩,
⟨(some 23), .call 263 [(.t 22)], none⟩,
⟨(some 2), .mv (.t 23), none⟩,
⟨(some 3), .mv (.c (.i .i64 0)), none⟩])
.ret)
(.seq (.reg [
⟨(some 25), .bin .eql .int (.t 15) (.c (.i .i64 2)), none⟩,
⟨(some 24), .mv (.t 25), none⟩])
(.cond (.t 24)
(.seq (.reg [
⟨(some 26), .mv (.t 0), none⟩,
⟨(some 27), .call 262 [(.t 26)], none⟩,
⟨(some 2), .mv (.t 27), none⟩,
⟨(some 3), .mv (.c (.i .i64 0)), none⟩])
.ret)
.skip))))))))
(.seq (.reg [
⟨(some 2), .mv (.c .nsl), none⟩,
⟨(some 3), .mv (.c (.i .i64 80)), none⟩])
.ret)))))⟩
def f227 : AF := ⟨42, [.t 2, .t 3], (.seq (.reg [
⟨(some 2), .mv (.c .nsl), none⟩,
⟨(some 3), .mv (.c (.i .i64 0)), none⟩])
(.seq (.seq (.reg [
⟨(some 7), .mv (.t 0), none⟩,
⟨(some 8), .nck (.t 7), none⟩,
⟨(some 9), .fa 5 (.t 8), none⟩,
⟨(some 10), .ld false 1 (.t 9), none⟩,
⟨(some 11), .bin .neq .int (.t 10) (.c (.i .i64 3)), none⟩])
(.cond (.t 11)
(.seq (.reg [
⟨(some 2), .mv (.c .nsl), none⟩,
⟨(some 3), .mv (.c (.i .i64 80)), none⟩])
.ret)
.skip))
(.seq (.drw [
.op ⟨(some 13), .mv (.t 0), none⟩,
.op ⟨(some 14), .nck (.t 13), none⟩,
.op ⟨(some 15), .fa 0 (.t 14), none⟩,
.op ⟨(some 16), .ld false 1 (.t 15), none⟩,
.op ⟨(some 17), .mv (.t 0), none⟩,
.op ⟨(some 18), .nck (.t 17), none⟩,
.op ⟨(some 19), .fa 1 (.t 18), none⟩,
.op ⟨(some 20), .ld false 1 (.t 19), none⟩,
.op ⟨(some 21), .mv (.t 0), none⟩,
.op ⟨(some 22), .nck (.t 21), none⟩,
.op ⟨(some 23), .fa 2 (.t 22), none⟩,
.op ⟨(some 24), .ld false 1 (.t 23), none⟩,
.op ⟨(some 25), .mv (.t 0), none⟩,
.op ⟨(some 26), .nck (.t 25), none⟩,
.op ⟨(some 27), .fa 3 (.t 26), none⟩,
.op ⟨(some 28), .ld false 1 (.t 27), none⟩,
.op ⟨(some 29), .mv (.t 0), none⟩,
.op ⟨(some 30), .nck (.t 29), none⟩,
.op ⟨(some 31), .fa 4 (.t 30), none⟩,
.op ⟨(some 32), .ld false 1 (.t 31), none⟩,
.op ⟨(some 33), .call 167 [(.t 16), (.t 20), (.t 24), (.t 28), (.t 32)], none⟩,
.op ⟨(some 12), .mv (.t 33), none⟩,
.op ⟨(some 34), .xt (.t 12) 0, none⟩,
.op ⟨(some 35), .xt (.t 12) 1, none⟩,
.op ⟨(some 36), .xt (.t 12) 2, none⟩,
.fl ⟨(some 4), .alloc [(.i .i64 0), (.i .i64 0), (.i .i64 0), .nsl, (.b false), (.i .i64 0), (.i .i64 0), .nsl, .nsl, (.b false)], none⟩,
.chk ⟨(some 16), .ld false 1 (.t 15), none⟩,
.chk ⟨(some 20), .ld false 1 (.t 19), none⟩,
.chk ⟨(some 24), .ld false 1 (.t 23), none⟩,
.chk ⟨(some 28), .ld false 1 (.t 27), none⟩,
.chk ⟨(some 32), .ld false 1 (.t 31), none⟩,
.op ⟨none, .st 10 (.t 4) (.t 34), none⟩,
.op ⟨(some 5), .mv (.t 35), none⟩,
.op ⟨(some 6), .mv (.t 36), none⟩])
(.seq (.reg [
⟨(some 37), .mv (.t 0), none⟩,
⟨(some 38), .ld true 10 (.t 4), none⟩,
⟨(some 39), .nck (.t 37), none⟩,
⟨none, .st 10 (.t 39) (.t 38), none⟩])
(.seq (.reg [
⟨(some 40), .mv (.t 5), none⟩,
⟨(some 41), .mv (.t 6), none⟩,
⟨(some 2), .mv (.t 40), none⟩,
⟨(some 3), .mv (.t 41), none⟩])
.ret)))))⟩
def f228 : AF := ⟨20, [.t 8, .t 9], (.seq (.reg [
⟨(some 8), .mv (.c .nsl), none⟩,
⟨(some 9), .mv (.c (.i .i64 0)), none⟩])
(.seq (.seq (.reg [
⟨(some 10), .mv (.t 0), none⟩,
⟨(some 11), .nck (.t 10), none⟩,
⟨(some 12), .fa 5 (.t 11), none⟩,
⟨(some 13), .ld false 1 (.t 12), none⟩,
⟨(some 14), .mv (.t 1), none⟩,
⟨(some 15), .bin .neq .int (.t 13) (.t 14), none⟩])
(.cond (.t 15)
(.seq (.reg [
⟨(some 8), .mv (.c .nsl), none⟩,
⟨(some 9), .mv (.c (.i .i64 80)), none⟩])
.ret)
.skip))
(.seq (.reg [
⟨(some 16), .mv (.t 0), none⟩,
⟨(some 17), .mv (.t 2), none⟩,
⟨(some 18), .mv (.t 3), none⟩,
⟨(some 19), .call 264 [(.t 16), (.t 17), (.t 18)], none⟩,
⟨(some 8), .mv (.t 19), none⟩,
⟨(some 9), .mv (.c (.i .i64 0)), none⟩])
.ret)))⟩
def f229 : AF := ⟨40, [.t 8, .t 9], (.seq (.reg [
⟨(some 5), .box 3 (.t 1), none⟩,
⟨(some 8), .mv (.c .nsl), none⟩,
⟨(some 9), .mv (.c (.i .i64 0)), none⟩])
(.seq (.blk 0 (.seq (.reg [
⟨(some 11), .mv (.t 0), none⟩,
⟨(some 12), .mv (.t 2), none⟩,
⟨(some 13), .fa 1 (.t 5), none⟩,
⟨(some 14), .ld false 1 (.t 13), none⟩,
⟨(some 15), .call 260 [(.t 11), (.t 12), (.t 14)], none⟩,
⟨(some 16), .un .not (.t 15), none⟩,
⟨(some 10), .mv (.t 16), none⟩])
(.cond (.t 10)
(.seq (.reg [
⟨(some 8), .mv (.c .nsl), none⟩,
⟨(some 9), .mv (.c (.i .i64 80)), none⟩])
.ret)
(.seq (.drw [
.op ⟨(some 18), .fa 2 (.t 5), none⟩,
.op ⟨(some 19), .ld false 1 (.t 18), none⟩,
.op ⟨(some 20), .mv (.t 0), none⟩,
.op ⟨(some 21), .nck (.t 20), none⟩,
.op ⟨(some 22), .fa 7 (.t 21), none⟩,
.op ⟨(some 23), .ld false 1 (.t 22), none⟩,
.op ⟨(some 24), .fa 1 (.t 5), none⟩,
.op ⟨(some 25), .ld false 1 (.t 24), none⟩,
.op ⟨(some 26), .iaL 1 (.t 23) (.t 25), none⟩,
.op ⟨(some 27), .ld false 1 (.t 26), none⟩,
.op ⟨(some 28), .call 140 [(.t 19), (.t 27)], none⟩,
.op ⟨(some 29), .un .not (.t 28), none⟩,
.op ⟨(some 17), .mv (.t 29), none⟩])
(.cond (.t 17)
(.seq (.reg [
⟨(some 8), .mv (.c .nsl), none⟩,
⟨(some 9), .mv (.c (.i .i64 60)), none⟩])
.ret)
(.seq (.reg [
⟨(some 31), .mv (.t 0), none⟩,
⟨(some 32), .nck (.t 31), none⟩,
⟨(some 33), .fa 8 (.t 32), none⟩,
⟨(some 34), .ld false 1 (.t 33), none⟩,
⟨(some 35), .len 1 (.t 34), none⟩,
⟨(some 36), .bin .gtr .no (.t 35) (.c (.i .i64 0)), none⟩,
⟨(some 30), .mv (.t 36), none⟩])
(.cond (.t 30)
(.seq (.reg [
⟨(some 8), .mv (.c .nsl), none⟩,
⟨(some 9), .mv (.c (.i .i64 0)), none⟩])
.ret)
.skip)))))))
(.seq (.reg [
⟨(some 37), .mv (.t 0), none⟩,
⟨(some 38), .mv (.t 3), none⟩,
⟨(some 39), .call 261 [(.t 37), (.t 38)], none⟩,
⟨(some 8), .mv (.t 39), none⟩,
⟨(some 9), .mv (.c (.i .i64 0)), none⟩])
.ret)))⟩
def f230 : AF := ⟨27, [.t 4, .t 5], (.seq (.reg [
⟨(some 4), .mv (.c (.i .i64 0)), none⟩,
⟨(some 5), .mv (.c (.b false)), none⟩])
(.seq (.seq (.reg [
⟨(some 6), .mv (.t 0), none⟩,
⟨(some 7), .mv (.t 1), none⟩,
⟨(some 8), .build [(.i .i64 0), (.i .i64 0)] [(0, 1, (.t 6)), (1, 1, (.t 7))], none⟩])
(.blk 0 (.seq (.seq (.reg [
⟨(some 10), .build [(.i .i64 0), (.i .i64 0)] [(0, 1, (.c (.i .i64 1))), (1, 1, (.c (.i .i64 2)))], none⟩,
⟨(some 11), .bin .eql (.ag [(0, 1, false, .int), (1, 1, false, .int)]) (.t 8) (.t 10), none⟩,
⟨(some 9), .mv (.t 11), none⟩])
(.cond (.t 9)
.skip
(.seq (.reg [
⟨(some 12), .build [(.i .i64 0), (.i .i64 0)] [(0, 1, (.c (.i .i64 2))), (1, 1, (.c (.i .i64 6)))], none⟩,
⟨(some 13), .bin .eql (.ag [(0, 1, false, .int), (1, 1, false, .int)]) (.t 8) (.t 12), none⟩,
⟨(some 9), .mv (.t 13), none⟩])
(.cond (.t 9)
.skip
(.seq (.reg [
⟨(some 14), .build [(.i .i64 0), (.i .i64 0)] [(0, 1, (.c (.i .i64 3))), (1, 1, (.c (.i .i64 8)))], none⟩,
⟨(some 15), .bin .eql (.ag [(0, 1, false, .int), (1, 1, false, .int)]) (.t 8) (.t 14), none⟩,
⟨(some 9), .mv (.t 15), none⟩])
(.cond (.t 9)
.skip
(.reg [
⟨(some 16), .build [(.i .i64 0), (.i .i64 0)] [(0, 1, (.c (.i .i64 4))), (1, 1, (.c (.i .i64 10)))], none⟩,
⟨(some 17), .bin .eql (.ag [(0, 1, false, .int), (1, 1, false, .int)]) (.t 8) (.t 16), none⟩,
⟨(some 9), .mv (.t 17), none⟩])))))))
(.cond (.t 9)
(.seq (.reg [
⟨(some 4), .mv (.c (.i .i64 0)), none⟩,
⟨(some 5), .mv (.c (.b true)), none⟩])
.ret)
(.seq (.reg [
⟨(some 19), .build [(.i .i64 0), (.i .i64 0)] [(0, 1, (.c (.i .i64 1))), (1, 1, (.c (.i .i64 3)))], none⟩,
⟨(some 20), .bin .eql (.ag [(0, 1, false, .int), (1, 1, false, .int)]) (.t 8) (.t 19), none⟩,
⟨(some 18), .mv (.t 20), none⟩])
(.cond (.t 18)
(.seq (.reg [
⟨(some 4), .mv (.c (.i .i64 200)), none⟩,
⟨(some 5), .mv (.c (.b true)), none⟩])
.ret)
(.seq (.reg [
⟨(some 22), .build [(.i .i64 0), (.i .i64 0)] [(0, 1, (.c (.i .i64 1))), (1, 1, (.c (.i .i64 5)))], none⟩,
⟨(some 23), .bin .eql (.ag [(0, 1, false, .int), (1, 1, false, .int)]) (.t 8) (.t 22), none⟩,
⟨(some 21), .mv (.t 23), none⟩])
(.cond (.t 21)
(.seq (.reg [
⟨(some 4), .mv (.c (.i .i64 51)), none⟩,
⟨(some 5), .mv (.c (.b true)), none⟩])
.ret)
(.seq (.reg [
⟨(some 25), .build [(.i .i64 0), (.i .i64 0)] [(0, 1, (.c (.i .i64 1))), (1, 1, (.c (.i .i64 6)))], none⟩,
⟨(some 26), .bin .eql (.ag [(0, 1, false, .int), (1, 1, false, .int)]) (.t 8) (.t 25), none⟩,
⟨(some 24), .mv (.t 26), none⟩])
(.cond (.t 24)
(.seq (.reg [
⟨(some 4), .mv (.c (.i .i64 4)), none⟩,
⟨(some 5), .mv (.c (.b true)), none⟩])
.ret)
.skip))))))))))
(.seq (.reg [
⟨(some 4), .mv (.c (.i .i64 0)), none⟩,
⟨(some 5), .mv (.c (.b false)), none⟩])
.ret)))⟩
def f231 : AF := ⟨34, [.t 4], (.seq (.reg [
⟨(some 4), .mv (.c (.i .i64 0)), none⟩])
(.seq (.blk 0 (.seq (.reg [
⟨(some 6), .mv (.t 0), none⟩,
⟨(some 7), .bin .eql .ptr (.t 6) (.c .np), none⟩,
⟨(some 5), .mv (.t 7), none⟩])
(.cond (.t 5)
(.seq (.reg [
⟨(some 4), .mv (.c (.i .i64 6)), none⟩])
.ret)
(.seq (.reg [
⟨(some 9), .mv (.t 1), none⟩,
⟨(some 10), .bin .lss .no (.t 9) (.c (.i .i64 1)), none⟩,
⟨(some 8), .mv (.t 10), none⟩])
(.cond (.t 8)
(.seq (.reg [
⟨(some 4), .mv (.c (.i .i64 1)), none⟩])
.ret)
(.seq (.reg [
⟨(some 12), .mv (.t 0), none⟩,
⟨(some 13), .mv (.t 1), none⟩,
⟨(some 14), .call 265 [(.t 12), (.t 13)], none⟩,
⟨(some 15), .bin .neq .int (.t 14) (.c (.i .i64 (-1))), none⟩,
⟨(some 11), .mv (.t 15), none⟩])
(.cond (.t 11)
(.seq (.reg [
⟨(some 4), .mv (.c (.i .i64 5)), none⟩])
.ret)
(.seq (.reg [
⟨(some 17), .mv (.t 0), none⟩,
⟨(some 18), .nck (.t 17), none⟩,
⟨(some 19), .fa 0 (.t 18), none⟩,
⟨(some 20), .ld false 1 (.t 19), none⟩,
⟨(some 21), .len 1 (.t 20), none⟩,
⟨(some 22), .bin .geq .no (.t 21) (.c (.i .i64 256)), none⟩,
⟨(some 16), .mv (.t 22), none⟩])
(.cond (.t 16)
(.seq (.reg [
⟨(some 4), .mv (.c (.i .i64 2)), none⟩])
.ret)
.skip)))))))))
(.seq (.reg [
⟨(some 23), .mv (.t 0), none⟩,
⟨(some 24), .mv (.t 0), none⟩,
⟨(some 25), .nck (.t 24), none⟩,
⟨(some 26), .fa 0 (.t 25), none⟩,
⟨(some 27), .ld false 1 (.t 26), none⟩,
⟨(some 28), .mv (.t 1), none⟩,
⟨(some 29), .build [(.i .i64 0), (.b false)] [(0, 1, (.t 28))], none⟩,
⟨(some 30), .bsl 1 [(.i .i64 0), (.b false)] [(0, 2, (.t 29))], none⟩,
⟨(some 31), .app 2 16 [(.i .i64 0), (.b false)] (.t 27) (.t 30), none⟩,
⟨(some 32), .nck (.t 23), none⟩,
⟨(some 33), .fa 0 (.t 32), none⟩,
⟨none, .st 1 (.t 33) (.t 31), none⟩])
(.seq (.reg [
⟨(some 4), .mv (.c (.i .i64 0)), none⟩])
.ret))))⟩
def f232 : AF := ⟨15, [], (.seq (.reg [
⟨(some 3), .mv (.t 0), none⟩,
⟨(some 4), .nck (.t 3), none⟩,
⟨(some 5), .fa 1 (.t 4), none⟩,
⟨(some 6), .ld false 1 (.t 5), none⟩,
⟨(some 7), .mv (.c (.i .i64 0)), none⟩])
(.blk 0 (.loop (.seq (.reg [
⟨(some 8), .bin .lss .no (.t 7) (.t 6), none⟩])
(.seq (.cond (.t 8)
.skip
(.exit 0))
(.seq (.blk 1 (.seq (.reg [
⟨(some 9), .mv (.t 7), none⟩,
⟨(some 2), .mv (.t 9), none⟩])
(.reg [
⟨(some 10), .mv (.t 0), none⟩,
⟨(some 11), .mv (.t 2), none⟩,
⟨(some 12), .build [(.i .i64 0), (.i .i64 0), .nsl, (.i .i64 0), (.i .i64 0), (.i .i64 0), (.i .i64 0), (.i .i64 0), (.i .i64 0), (.i .i64 0), (.s []), .nsl, (.i .i64 0), (.i .i64 0), (.i .i64 0), (.i .i64 0)] [(0, 1, (.c (.i .i64 14)))], none⟩,
⟨(some 13), .call 115 [(.t 10), (.t 11), (.t 12)], none⟩])))
(.reg [
⟨(some 14), .bin .add .no (.t 7) (.c (.i .i64 1)), none⟩,
⟨(some 7), .mv (.t 14), none⟩])))))))⟩
def f233 : AF := ⟨25, [.t 4], (.seq (.reg [
⟨(some 4), .mv (.c (.b false)), none⟩])
(.seq (.seq (.reg [
⟨(some 5), .mv (.t 0), none⟩,
⟨(some 6), .bin .eql .ptr (.t 5) (.c .np), none⟩,
⟨(some 7), .mv (.t 6), none⟩,
⟨(some 8), .mv (.t 0), (some (7, false))⟩,
⟨(some 9), .nck (.t 8), (some (7, false))⟩,
⟨(some 10), .fa 1 (.t 9), (some (7, false))⟩,
⟨(some 11), .ld false 1 (.t 10), (some (7, false))⟩,
⟨(some 12), .bin .eql .int (.t 11) (.c (.i .i64 0)), (some (7, false))⟩,
⟨(some 13), .pick (.t 7) (.c (.b true)) (.t 12), none⟩,
⟨(some 14), .mv (.t 13), none⟩,
⟨(some 15), .mv (.t 0), (some (14, false))⟩,
⟨(some 16), .nck (.t 15), (some (14, false))⟩,
⟨(some 17), .fa 1 (.t 16), (some (14, false))⟩,
⟨(some 18), .ld false 1 (.t 17), (some (14, false))⟩,
⟨(some 19), .mv (.t 1), (some (14, false))⟩,
⟨(some 20), .bin .neq .int (.t 18) (.t 19), (some (14, false))⟩,
⟨(some 21), .pick (.t 14) (.c (.b true)) (.t 20), none⟩])
(.cond (.t 21)
(.seq (.reg [
⟨(some 4), .mv (.c (.b false)), none⟩])
.ret)
.skip))
(.seq (.reg [
⟨(some 22), .mv (.t 0), none⟩,
⟨(some 23), .nck (.t 22), none⟩,
⟨(some 24), .fa 1 (.t 23), none⟩,
⟨none, .st 1 (.t 24) (.c (.i .i64 0)), none⟩])
(.seq (.reg [
⟨(some 4), .mv (.c (.b true)), none⟩])
.ret))))⟩
def f234 : AF := ⟨25, [.t 4], (.seq (.reg [
⟨(some 4), .mv (.c (.b false)), none⟩])
(.seq (.reg [
⟨(some 6), .mv (.t 0), none⟩,
⟨(some 7), .mv (.t 1), none⟩,
⟨(some 8), .call 265 [(.t 6), (.t 7)], none⟩,
⟨(some 5), .mv (.t 8), none⟩])
(.seq (.seq (.reg [
⟨(some 9), .mv (.t 5), none⟩,
⟨(some 10), .bin .eql .int (.t 9) (.c (.i .i64 (-1))), none⟩])
(.cond (.t 10)
(.seq (.reg [
⟨(some 4), .mv (.c (.b false)), none⟩])
.ret)
.skip))
(.seq (.reg [
⟨(some 11), .mv (.t 0), none⟩,
⟨(some 12), .mv (.t 0), none⟩,
⟨(some 13), .nck (.t 12), none⟩,
⟨(some 14), .fa 0 (.t 13), none⟩,
⟨(some 15), .ld false 1 (.t 14), none⟩,
⟨(some 16), .mv (.t 5), none⟩,
⟨(some 17), .mv (.t 5), none⟩,
⟨(some 18), .bin .add .no (.t 17) (.c (.i .i64 1)), none⟩,
⟨(some 19), .call 266 [(.t 15), (.t 16), (.t 18)], none⟩,
⟨(some 20), .nck (.t 11), none⟩,
⟨(some 21), .fa 0 (.t 20), none⟩,
⟨none, .st 1 (.t 21) (.t 19), none⟩])
(.seq (.reg [
⟨(some 22), .mv (.t 0), none⟩,
⟨(some 23), .mv (.t 1), none⟩,
⟨(some 24), .call 233 [(.t 22), (.t 23)], none⟩])
(.seq (.reg [
⟨(some 4), .mv (.c (.b true)), none⟩])
.ret))))))⟩
def f235 : AF := ⟨14, [], (.seq (.reg [
⟨(some 4), .ld false 1 (.t 1), none⟩,
⟨(some 5), .rng false (.t 4), none⟩])
(.blk 0 (.loop (.seq (.reg [
⟨(some 6), .nxt false (.t 5), none⟩,
⟨(some 7), .xt (.t 6) 0, none⟩])
(.seq (.cond (.t 7)
.skip
(.exit 0))
(.blk 1 (.seq (.reg [
⟨(some 8), .ent (.t 5), none⟩,
⟨(some 9), .xt (.t 8) 0, none⟩,
⟨(some 3), .mv (.t 9), none⟩])
(.seq (.reg [
⟨(some 10), .mv (.t 0), none⟩,
⟨(some 11), .mv (.t 3), none⟩,
⟨(some 12), .cald (.t 10) [(.t 11)], none⟩,
⟨(some 13), .un .not (.t 12), none⟩])
(.cond (.t 13)
.ret
.skip)))))))))⟩
def f236 : AF := ⟨14, [], (.seq (.reg [
⟨(some 4), .ld false 1 (.t 1), none⟩,
⟨(some 5), .rng false (.t 4), none⟩])
(.blk 0 (.loop (.seq (.reg [
⟨(some 6), .nxt false (.t 5), none⟩,
⟨(some 7), .xt (.t 6) 0, none⟩])
(.seq (.cond (.t 7)
.skip
(.exit 0))
(.blk 1 (.seq (.reg [
⟨(some 8), .ent (.t 5), none⟩,
⟨(some 9), .xt (.t 8) 0, none⟩,
⟨(some 3), .mv (.t 9), none⟩])
(.seq (.reg [
⟨(some 10), .mv (.t 0), none⟩,
⟨(some 11), .mv (.t 3), none⟩,
⟨(some 12), .cald (.t 10) [(.t 11)], none⟩,
⟨(some 13), .un .not (.t 12), none⟩])
(.cond (.t 13)
.ret
.skip)))))))))⟩
def f237 : AF := ⟨8, [.t 4], (.seq (.reg [
⟨(some 4), .mv (.c (.i .i64 0)), none⟩])
(.seq (.reg [
⟨(some 5), .mv (.t 0), none⟩,
⟨(some 6), .mv (.t 1), none⟩,
⟨(some 7), .ibs (.t 5) (.t 6), none⟩,
⟨(some 4), .mv (.t 7), none⟩])
.ret))⟩
def f239 : AF := ⟨6, [.t 2], (.seq (.reg [
⟨(some 2), .mv (.c (.i .i64 0)), none⟩])
(.seq (.reg [
⟨(some 3), .mv (.t 0), none⟩,
⟨(some 4), .bin .add .no (.t 3) (.c (.i .i64 16)), none⟩,
⟨(some 5), .bin .quo .no (.t 4) (.c (.i .i64 8)), none⟩,
⟨(some 2), .mv (.t 5), none⟩])
.ret))⟩
def f240 : AF := ⟨81, [.t 4], (.seq (.reg [
⟨(some 4), .mv (.c (.i .i64 0)), none⟩])
(.seq (.reg [
⟨(some 12), .mv (.t 1), none⟩,
⟨(some 13), .call 268 [(.t 12)], none⟩,
⟨(some 11), .mv (.t 13), none⟩,
⟨(some 14), .xt (.t 11) 0, none⟩,
⟨(some 15), .xt (.t 11) 1, none⟩,
⟨(some 5), .mv (.t 14), none⟩,
⟨(some 6), .mv (.t 15), none⟩])
(.seq (.reg [
⟨(some 16), .mv (.t 1), none⟩,
⟨(some 17), .len 0 (.t 16), none⟩,
⟨(some 7), .mv (.t 17), none⟩])
(.seq (.reg [
⟨(some 8), .mv (.c (.i .u32 0)), none⟩])
(.seq (.seq (.reg [
⟨(some 9), .mv (.c (.i .i64 0)), none⟩])
(.blk 0 (.loop (.seq (.seq (.reg [
⟨(some 18), .mv (.t 9), none⟩,
⟨(some 19), .mv (.t 7), none⟩,
⟨(some 20), .bin .lss .no (.t 18) (.t 19), none⟩])
(.cond (.t 20)
.skip
(.exit 0)))
(.seq (.blk 1 (.reg [
⟨(some 23), .mv (.t 8), none⟩,
⟨(some 24), .bin .mul .no (.t 23) (.c (.i .u32 16777619)), none⟩,
⟨(some 25), .mv (.t 0), none⟩,
⟨(some 26), .mv (.t 9), none⟩,
⟨(some 27), .ixS (.t 25) (.t 26), none⟩,
⟨(some 28), .cvi .u32 (.t 27), none⟩,
⟨(some 29), .bin .add .no (.t 24) (.t 28), none⟩,
⟨(some 8), .mv (.t 29), none⟩]))
(.reg [
⟨(some 21), .mv (.t 9), none⟩,
⟨(some 22), .bin .add .no (.t 21) (.c (.i .i64 1)), none⟩,
⟨(some 9), .mv (.t 22), none⟩]))))))
(.seq (.seq (.reg [
⟨(some 30), .mv (.t 8), none⟩,
⟨(some 31), .mv (.t 5), none⟩,
⟨(some 32), .bin .eql .int (.t 30) (.t 31), none⟩,
⟨(some 33), .mv (.t 32), none⟩,
⟨(some 34), .mv (.t 0), (some (33, true))⟩,
⟨(some 35), .mv (.t 7), (some (33, true))⟩,
⟨(some 36), .slS (.t 34) none (some (.t 35)), (some (33, true))⟩,
⟨(some 37), .mv (.t 1), (some (33, true))⟩,
⟨(some 38), .bin .eql .str (.t 36) (.t 37), (some (33, true))⟩,
⟨(some 39), .pick (.t 33) (.t 38) (.c (.b false)), none⟩])
(.cond (.t 39)
(.seq (.reg [
⟨(some 4), .mv (.c (.i .i64 0)), none⟩])
.ret)
.skip))
(.seq (.seq (.reg [
⟨(some 40), .mv (.t 7), none⟩,
⟨(some 10), .mv (.t 40), none⟩])
(.blk 2 (.loop (.seq (.seq (.reg [
⟨(some 41), .mv (.t 10), none⟩,
⟨(some 42), .mv (.t 0), none⟩,
⟨(some 43), .len 0 (.t 42), none⟩,
⟨(some 44), .bin .lss .no (.t 41) (.t 43), none⟩])
(.cond (.t 44)
.skip
(.exit 2)))
(.blk 3 (.seq (.reg [
⟨(some 45), .mv (.t 8), none⟩,
⟨(some 46), .bin .mul .no (.t 45) (.c (.i .u32 16777619)), none⟩,
⟨(some 8), .mv (.t 46), none⟩])
(.seq (.reg [
⟨(some 47), .mv (.t 8), none⟩,
⟨(some 48), .mv (.t 0), none⟩,
⟨(some 49), .mv (.t 10), none⟩,
⟨(some 50), .ixS (.t 48) (.t 49), none⟩,
⟨(some 51), .cvi .u32 (.t 50), none⟩,
⟨(some 52), .bin .add .no (.t 47) (.t 51), none⟩,
⟨(some 8), .mv (.t 52), none⟩])
(.seq (.reg [
⟨(some 53), .mv (.t 8), none⟩,
⟨(some 54), .mv (.t 6), none⟩,
⟨(some 55), .mv (.t 0), none⟩,
⟨(some 56), .mv (.t 10), none⟩,
⟨(some 57), .mv (.t 7), none⟩,
⟨(some 58), .bin .sub .no (.t 56) (.t 57), none⟩,
⟨(some 59), .ixS (.t 55) (.t 58), none⟩,
⟨(some 60), .cvi .u32 (.t 59), none⟩,
⟨(some 61), .bin .mul .no (.t 54) (.t 60), none⟩,
⟨(some 62), .bin .sub .no (.t 53) (.t 61), none⟩,
⟨(some 8), .mv (.t 62), none⟩])
(.seq (.reg [
⟨(some 63), .mv (.t 10), none⟩,
⟨(some 64), .bin .add .no (.t 63) (.c (.i .i64 1)), none⟩,
⟨(some 10), .mv (.t 64), none⟩])
(.seq (.reg [
⟨(some 65), .mv (.t 8), none⟩,
⟨(some 66), .mv (.t 5), none⟩,
⟨(some 67), .bin .eql .int (.t 65) (.t 66), none⟩,
⟨(some 68), .mv (.t 67), none⟩,
⟨(some 69), .mv (.t 0), (some (68, true))⟩,
⟨(some 70), .mv (.t 10), (some (68, true))⟩,
⟨(some 71), .mv (.t 7), (some (68, true))⟩,
⟨(some 72), .bin .sub .no (.t 70) (.t 71), (some (68, true))⟩,
⟨(some 73), .mv (.t 10), (some (68, true))⟩,
⟨(some 74), .slS (.t 69) (some (.t 72)) (some (.t 73)), (some (68, true))⟩,
⟨(some 75), .mv (.t 1), (some (68, true))⟩,
⟨(some 76), .bin .eql .str (.t 74) (.t 75), (some (68, true))⟩,
⟨(some 77), .pick (.t 68) (.t 76) (.c (.b false)), none⟩])
(.cond (.t 77)
(.seq (.reg [
⟨(some 78), .mv (.t 10), none⟩,
⟨(some 79), .mv (.t 7), none⟩,
⟨(some 80), .bin .sub .no (.t 78) (.t 79), none⟩,
⟨(some 4), .mv (.t 80), none⟩])
.ret)
.skip)))))))))))
(.seq (.reg [
⟨(some 4), .mv (.c (.i .i64 (-1))), none⟩])
.ret))))))))⟩
def f241 : AF := ⟨19, [.t 4, .t 5], (.seq (.reg [
⟨(some 4), .mv (.c (.i .i64 0)), none⟩,
⟨(some 5), .mv (.c (.i .i64 0)), none⟩])
(.seq (.blk 0 (.seq (.reg [
⟨(some 7), .mv (.t 0), none⟩,
⟨(some 8), .mv (.t 1), none⟩,
⟨(some 9), .bsl 2 [(.i .i64 0)] [(0, 1, (.t 7)), (1, 1, (.t 8))], none⟩,
⟨(some 10), .call 269 [(.t 9)], none⟩,
⟨(some 6), .mv (.t 10), none⟩])
(.cond (.t 6)
(.seq (.reg [
⟨(some 4), .mv (.c (.i .i64 0)), none⟩,
⟨(some 5), .mv (.c (.i .i64 1)), none⟩])
.ret)
(.seq (.reg [
⟨(some 12), .mv (.t 1), none⟩,
⟨(some 13), .mv (.t 0), none⟩,
⟨(some 14), .bin .sub .no (.c (.i .i64 1099511627776)) (.t 13), none⟩,
⟨(some 15), .bin .gtr .no (.t 12) (.t 14), none⟩,
⟨(some 11), .mv (.t 15), none⟩])
(.cond (.t 11)
(.seq (.reg [
⟨(some 4), .mv (.c (.i .i64 0)), none⟩,
⟨(some 5), .mv (.c (.i .i64 50)), none⟩])
.ret)
.skip)))))
(.seq (.reg [
⟨(some 16), .mv (.t 0), none⟩,
⟨(some 17), .mv (.t 1), none⟩,
⟨(some 18), .bin .add .no (.t 16) (.t 17), none⟩,
⟨(some 4), .mv (.t 18), none⟩,
⟨(some 5), .mv (.c (.i .i64 0)), none⟩])
.ret)))⟩
def f242 : AF := ⟨14, [], (.seq (.reg [
⟨(some 4), .ld false 1 (.t 1), none⟩,
⟨(some 5), .rng false (.t 4), none⟩])
(.blk 0 (.loop (.seq (.reg [
⟨(some 6), .nxt false (.t 5), none⟩,
⟨(some 7), .xt (.t 6) 0, none⟩])
(.seq (.cond (.t 7)
.skip
(.exit 0))
(.blk 1 (.seq (.reg [
⟨(some 8), .ent (.t 5), none⟩,
⟨(some 9), .xt (.t 8) 0, none⟩,
⟨(some 3), .mv (.t 9), none⟩])
(.seq (.reg [
⟨(some 10), .mv (.t 0), none⟩,
⟨(some 11), .mv (.t 3), none⟩,
⟨(some 12), .cald (.t 10) [(.t 11)], none⟩,
⟨(some 13), .un .not (.t 12), none⟩])
(.cond (.t 13)
.ret
.skip)))))))))⟩
def f243 : AF := ⟨13, [.t 4], (.seq (.reg [
⟨(some 2), .box 1 (.t 0), none⟩,
⟨(some 4), .mv (.c .nsl), none⟩])
(.seq (.seq (.reg [
⟨(some 6), .mv (.t 1), none⟩])
(.blk 0 (.rf (.t 6) [7] (.reg [
⟨(some 5), .mv (.t 7), none⟩])
(.blk 1 (.reg [
⟨(some 8), .ld false 1 (.t 2), none⟩,
⟨(some 9), .mv (.t 5), none⟩,
⟨(some 10), .bsl 1 [(.s [])] [(0, 1, (.t 9))], none⟩,
⟨(some 11), .app 1 16 [(.s [])] (.t 8) (.t 10), none⟩,
⟨none, .st 1 (.t 2) (.t 11), none⟩])))))
(.seq (.reg [
⟨(some 12), .ld false 1 (.t 2), none⟩,
⟨(some 4), .mv (.t 12), none⟩])
.ret)))⟩
def f244 : AF := ⟨134, [], (.seq (.reg [
⟨(some 8), .mv (.c (.b true)), none⟩])
(.seq (.reg [
⟨(some 9), .mv (.c (.b true)), none⟩])
(.blk 0 (.loop (.blk 1 (.seq (.reg [
⟨(some 19), .mv (.t 2), none⟩,
⟨(some 20), .mv (.t 1), none⟩,
⟨(some 21), .bin .sub .no (.t 19) (.t 20), none⟩,
⟨(some 10), .mv (.t 21), none⟩])
(.seq (.seq (.reg [
⟨(some 22), .mv (.t 10), none⟩,
⟨(some 23), .bin .leq .no (.t 22) (.c (.i .i64 12)), none⟩])
(.cond (.t 23)
(.seq (.reg [
⟨(some 24), .mv (.t 0), none⟩,
⟨(some 25), .mv (.t 1), none⟩,
⟨(some 26), .mv (.t 2), none⟩,
⟨(some 27), .call 270 [(.t 24), (.t 25), (.t 26)], none⟩])
.ret)
.skip))
(.seq (.seq (.reg [
⟨(some 28), .mv (.t 3), none⟩,
⟨(some 29), .bin .eql .int (.t 28) (.c (.i .i64 0)), none⟩])
(.cond (.t 29)
(.seq (.reg [
⟨(some 30), .mv (.t 0), none⟩,
⟨(some 31), .mv (.t 1), none⟩,
⟨(some 32), .mv (.t 2), none⟩,
⟨(some 33), .call 271 [(.t 30), (.t 31), (.t 32)], none⟩])
.ret)
.skip))
(.seq (.seq (.reg [
⟨(some 34), .mv (.t 8), none⟩,
⟨(some 35), .un .not (.t 34), none⟩])
(.cond (.t 35)
(.seq (.reg [
⟨(some 36), .mv (.t 0), none⟩,
⟨(some 37), .mv (.t 1), none⟩,
⟨(some 38), .mv (.t 2), none⟩,
⟨(some 39), .call 272 [(.t 36), (.t 37), (.t 38)], none⟩])
(.reg [
⟨(some 40), .mv (.t 3), none⟩,
⟨(some 41), .bin .sub .no (.t 40) (.c (.i .i64 1)), none⟩,
⟨(some 3), .mv (.t 41), none⟩]))
.skip))
(.seq (.reg [
⟨(some 43), .mv (.t 0), none⟩,
⟨(some 44), .mv (.t 1), none⟩,
⟨(some 45), .mv (.t 2), none⟩,
⟨(some 46), .call 273 [(.t 43), (.t 44), (.t 45)], none⟩,
⟨(some 42), .mv (.t 46), none⟩,
⟨(some 47), .xt (.t 42) 0, none⟩,
⟨(some 48), .xt (.t 42) 1, none⟩,
⟨(some 11), .mv (.t 47), none⟩,
⟨(some 12), .mv (.t 48), none⟩])
(.seq (.seq (.reg [
⟨(some 49), .mv (.t 12), none⟩,
⟨(some 50), .bin .eql .int (.t 49) (.c (.i .i64 2)), none⟩])
(.cond (.t 50)
(.seq (.reg [
⟨(some 51), .mv (.t 0), none⟩,
⟨(some 52), .mv (.t 1), none⟩,
⟨(some 53), .mv (.t 2), none⟩,
⟨(some 54), .call 274 [(.t 51), (.t 52), (.t 53)], none⟩])
(.seq (.reg [
⟨(some 55), .mv (.t 2), none⟩,
⟨(some 56), .bin .sub .no (.t 55) (.c (.i .i64 1)), none⟩,
⟨(some 57), .mv (.t 11), none⟩,
⟨(some 58), .mv (.t 1), none⟩,
⟨(some 59), .bin .sub .no (.t 57) (.t 58), none⟩,
⟨(some 60), .bin .sub .no (.t 56) (.t 59), none⟩,
⟨(some 11), .mv (.t 60), none⟩])
(.reg [
⟨(some 12), .mv (.c (.i .i64 1)), none⟩])))
.skip))
(.seq (.seq (.reg [
⟨(some 61), .mv (.t 8), none⟩,
⟨(some 62), .mv (.t 61), none⟩,
⟨(some 63), .mv (.t 9), (some (62, true))⟩,
⟨(some 64), .pick (.t 62) (.t 63) (.c (.b false)), none⟩,
⟨(some 65), .mv (.t 64), none⟩,
⟨(some 66), .mv (.t 12), (some (65, true))⟩,
⟨(some 67), .bin .eql .int (.t 66) (.c (.i .i64 1)), (some (65, true))⟩,
⟨(some 68), .pick (.t 65) (.t 67) (.c (.b false)), none⟩])
(.cond (.t 68)
(.seq (.reg [
⟨(some 69), .mv (.t 0), none⟩,
⟨(some 70), .mv (.t 1), none⟩,
⟨(some 71), .mv (.t 2), none⟩,
⟨(some 72), .call 275 [(.t 69), (.t 70), (.t 71)], none⟩])
(.cond (.t 72)
.ret
.skip))
.skip))
(.seq (.seq (.drw [
.op ⟨(some 73), .mv (.t 1), none⟩,
.op ⟨(some 74), .bin .gtr .no (.t 73) (.c (.i .i64 0)), none⟩,
.op ⟨(some 75), .mv (.t 74), none⟩,
.op ⟨(some 76), .mv (.t 0), (some (75, true))⟩,
.op ⟨(some 77), .mv (.t 1), (some (75, true))⟩,
.op ⟨(some 78), .bin .sub .no (.t 77) (.c (.i .i64 1)), (some (75, true))⟩,
.op ⟨(some 79), .iaL 1 (.t 76) (.t 78), (some (75, true))⟩,
.op ⟨(some 80), .ld false 1 (.t 79), (some (75, true))⟩,
.op ⟨(some 81), .mv (.t 0), (some (75, true))⟩,
.op ⟨(some 82), .mv (.t 11), (some (75, true))⟩,
.op ⟨(some 83), .iaL 1 (.t 81) (.t 82), (some (75, true))⟩,
.op ⟨(some 84), .ld false 1 (.t 83), (some (75, true))⟩,
.op ⟨(some 85), .call 276 [(.t 80), (.t 84)], (some (75, true))⟩,
.op ⟨(some 86), .un .not (.t 85), (some (75, true))⟩,
.op ⟨(some 87), .pick (.t 75) (.t 86) (.c (.b false)), none⟩])
(.cond (.t 87)
(.seq (.reg [
⟨(some 88), .mv (.t 0), none⟩,
⟨(some 89), .mv (.t 1), none⟩,
⟨(some 90), .mv (.t 2), none⟩,
⟨(some 91), .mv (.t 11), none⟩,
⟨(some 92), .call 277 [(.t 88), (.t 89), (.t 90), (.t 91)], none⟩,
⟨(some 13), .mv (.t 92), none⟩])
(.seq (.reg [
⟨(some 93), .mv (.t 13), none⟩,
⟨(some 1), .mv (.t 93), none⟩])
(.exit 1)))
.skip))
(.seq (.reg [
⟨(some 95), .mv (.t 0), none⟩,
⟨(some 96), .mv (.t 1), none⟩,
⟨(some 97), .mv (.t 2), none⟩,
⟨(some 98), .mv (.t 11), none⟩,
⟨(some 99), .call 278 [(.t 95), (.t 96), (.t 97), (.t 98)], none⟩,
⟨(some 94), .mv (.t 99), none⟩,
⟨(some 100), .xt (.t 94) 0, none⟩,
⟨(some 101), .xt (.t 94) 1, none⟩,
⟨(some 14), .mv (.t 100), none⟩,
⟨(some 15), .mv (.t 101), none⟩])
(.seq (.reg [
⟨(some 102), .mv (.t 15), none⟩,
⟨(some 9), .mv (.t 102), none⟩])
(.seq (.reg [
⟨(some 103), .mv (.t 14), none⟩,
⟨(some 104), .mv (.t 1), none⟩,
⟨(some 105), .bin .sub .no (.t 103) (.t 104), none⟩,
⟨(some 106), .mv (.t 2), none⟩,
⟨(some 107), .mv (.t 14), none⟩,
⟨(some 108), .bin .sub .no (.t 106) (.t 107), none⟩,
⟨(some 16), .mv (.t 105), none⟩,
⟨(some 17), .mv (.t 108), none⟩])
(.seq (.reg [
⟨(some 109), .mv (.t 10), none⟩,
⟨(some 110), .bin .quo .no (.t 109) (.c (.i .i64 8)), none⟩,
⟨(some 18), .mv (.t 110), none⟩])
(.seq (.reg [
⟨(some 111), .mv (.t 16), none⟩,
⟨(some 112), .mv (.t 17), none⟩,
⟨(some 113), .bin .lss .no (.t 111) (.t 112), none⟩])
(.cond (.t 113)
(.seq (.reg [
⟨(some 114), .mv (.t 16), none⟩,
⟨(some 115), .mv (.t 18), none⟩,
⟨(some 116), .bin .geq .no (.t 114) (.t 115), none⟩,
⟨(some 8), .mv (.t 116), none⟩])
(.seq (.reg [
⟨(some 117), .mv (.t 0), none⟩,
⟨(some 118), .mv (.t 1), none⟩,
⟨(some 119), .mv (.t 14), none⟩,
⟨(some 120), .mv (.t 3), none⟩,
⟨(some 121), .call 244 [(.t 117), (.t 118), (.t 119), (.t 120)], none⟩])
(.reg [
⟨(some 122), .mv (.t 14), none⟩,
⟨(some 123), .bin .add .no (.t 122) (.c (.i .i64 1)), none⟩,
⟨(some 1), .mv (.t 123), none⟩])))
(.seq (.reg [
⟨(some 124), .mv (.t 17), none⟩,
⟨(some 125), .mv (.t 18), none⟩,
⟨(some 126), .bin .geq .no (.t 124) (.t 125), none⟩,
⟨(some 8), .mv (.t 126), none⟩])
(.seq (.reg [
⟨(some 127), .mv (.t 0), none⟩,
⟨(some 128), .mv (.t 14), none⟩,
⟨(some 129), .bin .add .no (.t 128) (.c (.i .i64 1)), none⟩,
⟨(some 130), .mv (.t 2), none⟩,
⟨(some 131), .mv (.t 3), none⟩,
⟨(some 132), .call 244 [(.t 127), (.t 129), (.t 130), (.t 131)], none⟩])
(.reg [
⟨(some 133), .mv (.t 14), none⟩,
⟨(some 2), .mv (.t 133), none⟩]))))))))))))))))))))))⟩
def f245 : AF := ⟨27, [.t 4], (.seq (.reg [
⟨(some 4), .mv (.c .nsl), none⟩])
(.seq (.seq (.reg [
⟨(some 5), .mv (.t 1), none⟩,
⟨(some 6), .bin .lss .no (.t 5) (.c (.i .i64 0)), none⟩])
(.cond (.t 6)
(.reg [
⟨(some 7), .mki 9 (.c (.s [99, 97, 110, 110, 111, 116, 32, 98, 101, 32, 110, 101, 103, 97, 116, 105, 118, 101])), none⟩,
⟨none, .bad 0, none⟩])
.skip))
(.seq (.seq (.reg [
⟨(some 8), .mv (.t 1), none⟩,
⟨(some 9), .mv (.t 0), none⟩,
⟨(some 10), .cap (.t 9), none⟩,
⟨(some 11), .mv (.t 0), none⟩,
⟨(some 12), .len 1 (.t 11), none⟩,
⟨(some 13), .bin .sub .no (.t 10) (.t 12), none⟩,
⟨(some 14), .bin .sub .no (.t 8) (.t 13), none⟩,
⟨(some 1), .mv (.t 14), none⟩])
(.seq (.reg [
⟨(some 15), .mv (.t 1), none⟩,
⟨(some 16), .bin .gtr .no (.t 15) (.c (.i .i64 0)), none⟩])
(.cond (.t 16)
(.reg [
⟨(some 17), .mv (.t 0), none⟩,
⟨(some 18), .mv (.t 0), none⟩,
⟨(some 19), .cap (.t 18), none⟩,
⟨(some 20), .slL 1 (.t 17) none (some (.t 19)) none, none⟩,
⟨(some 21), .mv (.t 1), none⟩,
⟨(some 22), .appz 1 1 [(.i .u8 0)] (.t 20) (.t 21), none⟩,
⟨(some 23), .mv (.t 0), none⟩,
⟨(some 24), .len 1 (.t 23), none⟩,
⟨(some 25), .slL 1 (.t 22) none (some (.t 24)) none, none⟩,
⟨(some 0), .mv (.t 25), none⟩])
.skip)))
(.seq (.reg [
⟨(some 26), .mv (.t 0), none⟩,
⟨(some 4), .mv (.t 26), none⟩])
.ret))))⟩
def f246 : AF := ⟨76, [], (.seq (.reg [
⟨(some 10), .mv (.t 1), none⟩,
⟨(some 8), .mv (.t 10), none⟩])
(.blk 0 (.loop (.blk 1 (.seq (.reg [
⟨(some 11), .mv (.t 8), none⟩,
⟨(some 12), .bin .mul .no (.c (.i .i64 2)) (.t 11), none⟩,
⟨(some 13), .bin .add .no (.t 12) (.c (.i .i64 1)), none⟩,
⟨(some 9), .mv (.t 13), none⟩])
(.seq (.seq (.reg [
⟨(some 14), .mv (.t 9), none⟩,
⟨(some 15), .mv (.t 2), none⟩,
⟨(some 16), .bin .geq .no (.t 14) (.t 15), none⟩])
(.cond (.t 16)
(.exit 0)
.skip))
(.seq (.seq (.drw [
.op ⟨(some 17), .mv (.t 9), none⟩,
.op ⟨(some 18), .bin .add .no (.t 17) (.c (.i .i64 1)), none⟩,
.op ⟨(some 19), .mv (.t 2), none⟩,
.op ⟨(some 20), .bin .lss .no (.t 18) (.t 19), none⟩,
.op ⟨(some 21), .mv (.t 20), none⟩,
.op ⟨(some 22), .mv (.t 0), (some (21, true))⟩,
.op ⟨(some 23), .mv (.t 3), (some (21, true))⟩,
.op ⟨(some 24), .mv (.t 9), (some (21, true))⟩,
.op ⟨(some 25), .bin .add .no (.t 23) (.t 24), (some (21, true))⟩,
.op ⟨(some 26), .iaL 1 (.t 22) (.t 25), (some (21, true))⟩,
.op ⟨(some 27), .ld false 1 (.t 26), (some (21, true))⟩,
.op ⟨(some 28), .mv (.t 0), (some (21, true))⟩,
.op ⟨(some 29), .mv (.t 3), (some (21, true))⟩,
.op ⟨(some 30), .mv (.t 9), (some (21, true))⟩,
.op ⟨(some 31), .bin .add .no (.t 29) (.t 30), (some (21, true))⟩,
.op ⟨(some 32), .bin .add .no (.t 31) (.c (.i .i64 1)), (some (21, true))⟩,
.op ⟨(some 33), .iaL 1 (.t 28) (.t 32), (some (21, true))⟩,
.op ⟨(some 34), .ld false 1 (.t 33), (some (21, true))⟩,
.op ⟨(some 35), .call 209 [(.t 27), (.t 34)], (some (21, true))⟩,
.op ⟨(some 36), .pick (.t 21) (.t 35) (.c (.b false)), none⟩])
(.cond (.t 36)
(.reg [
⟨(some 37), .mv (.t 9), none⟩,
⟨(some 38), .bin .add .no (.t 37) (.c (.i .i64 1)), none⟩,
⟨(some 9), .mv (.t 38), none⟩])
.skip))
(.seq (.seq (.drw [
.op ⟨(some 39), .mv (.t 0), none⟩,
.op ⟨(some 40), .mv (.t 3), none⟩,
.op ⟨(some 41), .mv (.t 8), none⟩,
.op ⟨(some 42), .bin .add .no (.t 40) (.t 41), none⟩,
.op ⟨(some 43), .iaL 1 (.t 39) (.t 42), none⟩,
.op ⟨(some 44), .ld false 1 (.t 43), none⟩,
.op ⟨(some 45), .mv (.t 0), none⟩,
.op ⟨(some 46), .mv (.t 3), none⟩,
.op ⟨(some 47), .mv (.t 9), none⟩,
.op ⟨(some 48), .bin .add .no (.t 46) (.t 47), none⟩,
.op ⟨(some 49), .iaL 1 (.t 45) (.t 48), none⟩,
.op ⟨(some 50), .ld false 1 (.t 49), none⟩,
.op ⟨(some 51), .call 209 [(.t 44), (.t 50)], none⟩,
.op ⟨(some 52), .un .not (.t 51), none⟩])
(.cond (.t 52)
.ret
.skip))
(.seq (.drw [
.op ⟨(some 53), .mv (.t 0), none⟩,
.op ⟨(some 54), .mv (.t 3), none⟩,
.op ⟨(some 55), .mv (.t 8), none⟩,
.op ⟨(some 56), .bin .add .no (.t 54) (.t 55), none⟩,
.op ⟨(some 57), .mv (.t 0), none⟩,
.op ⟨(some 58), .mv (.t 3), none⟩,
.op ⟨(some 59), .mv (.t 9), none⟩,
.op ⟨(some 60), .bin .add .no (.t 58) (.t 59), none⟩,
.op ⟨(some 61), .mv (.t 0), none⟩,
.op ⟨(some 62), .mv (.t 3), none⟩,
.op ⟨(some 63), .mv (.t 9), none⟩,
.op ⟨(some 64), .bin .add .no (.t 62) (.t 63), none⟩,
.op ⟨(some 65), .iaL 1 (.t 61) (.t 64), none⟩,
.op ⟨(some 66), .ld false 1 (.t 65), none⟩,
.op ⟨(some 67), .mv (.t 0), none⟩,
.op ⟨(some 68), .mv (.t 3), none⟩,
.op ⟨(some 69), .mv (.t 8), none⟩,
.op ⟨(some 70), .bin .add .no (.t 68) (.t 69), none⟩,
.op ⟨(some 71), .iaL 1 (.t 67) (.t 70), none⟩,
.op ⟨(some 72), .ld false 1 (.t 71), none⟩,
.op ⟨(some 73), .iaL 1 (.t 53) (.t 56), none⟩,
.op ⟨none, .st 1 (.t 73) (.t 66), none⟩,
.op ⟨(some 74), .iaL 1 (.t 57) (.t 60), none⟩,
.op ⟨none, .st 1 (.t 74) (.t 72), none⟩])
(.reg [
⟨(some 75), .mv (.t 9), none⟩,
⟨(some 8), .mv (.t 75), none⟩]))))))))))⟩
def f247 : AF := ⟨7, [.t 2], (.seq (.reg [
⟨(some 2), .mv (.c (.i .u64 0)), none⟩])
(.seq (.reg [
⟨(some 3), .mv (.t 0), none⟩,
⟨(some 4), .cvi .u64 (.t 3), none⟩,
⟨(some 5), .call 163 [(.t 4)], none⟩,
⟨(some 6), .bin .shl .no (.c (.i .u64 1)) (.t 5), none⟩,
⟨(some 2), .mv (.t 6), none⟩])
.ret))⟩
def f248 : AF := ⟨33, [.t 2], (.seq (.reg [
⟨(some 2), .mv (.c (.i .u64 0)), none⟩])
(.seq (.drw [
.op ⟨(some 3), .mv (.t 0), none⟩,
.op ⟨(some 4), .nck (.t 3), none⟩,
.op ⟨(some 5), .ld false 1 (.t 4), none⟩,
.op ⟨(some 6), .mv (.t 0), none⟩,
.op ⟨(some 7), .nck (.t 6), none⟩,
.op ⟨(some 8), .ld false 1 (.t 7), none⟩,
.op ⟨(some 9), .bin .shl .no (.t 8) (.c (.i .u64 13)), none⟩,
.op ⟨(some 10), .bin .xor .no (.t 5) (.t 9), none⟩,
.op ⟨(some 11), .nck (.t 3), none⟩,
.op ⟨none, .st 1 (.t 11) (.t 10), none⟩])
(.seq (.drw [
.op ⟨(some 12), .mv (.t 0), none⟩,
.op ⟨(some 13), .nck (.t 12), none⟩,
.op ⟨(some 14), .ld false 1 (.t 13), none⟩,
.op ⟨(some 15), .mv (.t 0), none⟩,
.op ⟨(some 16), .nck (.t 15), none⟩,
.op ⟨(some 17), .ld false 1 (.t 16), none⟩,
.op ⟨(some 18), .bin .shr .no (.t 17) (.c (.i .u64 7)), none⟩,
.op ⟨(some 19), .bin .xor .no (.t 14) (.t 18), none⟩,
.op ⟨(some 20), .nck (.t 12), none⟩,
.op ⟨none, .st 1 (.t 20) (.t 19), none⟩])
(.seq (.drw [
.op ⟨(some 21), .mv (.t 0), none⟩,
.op ⟨(some 22), .nck (.t 21), none⟩,
.op ⟨(some 23), .ld false 1 (.t 22), none⟩,
.op ⟨(some 24), .mv (.t 0), none⟩,
.op ⟨(some 25), .nck (.t 24), none⟩,
.op ⟨(some 26), .ld false 1 (.t 25), none⟩,
.op ⟨(some 27), .bin .shl .no (.t 26) (.c (.i .u64 17)), none⟩,
.op ⟨(some 28), .bin .xor .no (.t 23) (.t 27), none⟩,
.op ⟨(some 29), .nck (.t 21), none⟩,
.op ⟨none, .st 1 (.t 29) (.t 28), none⟩])
(.seq (.reg [
⟨(some 30), .mv (.t 0), none⟩,
⟨(some 31), .nck (.t 30), none⟩,
⟨(some 32), .ld false 1 (.t 31), none⟩,
⟨(some 2), .mv (.t 32), none⟩])
.ret)))))⟩
def f249 : AF := ⟨15, [.t 6], (.seq (.reg [
⟨(some 6), .mv (.c (.i .i64 0)), none⟩])
(.seq (.reg [
⟨(some 7), .mv (.t 0), none⟩,
⟨(some 8), .mv (.t 1), none⟩,
⟨(some 9), .bin .sub .no (.t 8) (.c (.i .i64 1)), none⟩,
⟨(some 10), .mv (.t 1), none⟩,
⟨(some 11), .mv (.t 1), none⟩,
⟨(some 12), .bin .add .no (.t 11) (.c (.i .i64 1)), none⟩,
⟨(some 13), .mv (.t 2), none⟩,
⟨(some 14), .call 250 [(.t 7), (.t 9), (.t 10), (.t 12), (.t 13)], none⟩,
⟨(some 6), .mv (.t 14), none⟩])
.ret))⟩
def f250 : AF := ⟨36, [.t 10], (.seq (.reg [
⟨(some 10), .mv (.c (.i .i64 0)), none⟩])
(.seq (.reg [
⟨(some 12), .mv (.t 0), none⟩,
⟨(some 13), .mv (.t 1), none⟩,
⟨(some 14), .mv (.t 2), none⟩,
⟨(some 15), .mv (.t 4), none⟩,
⟨(some 16), .call 279 [(.t 12), (.t 13), (.t 14), (.t 15)], none⟩,
⟨(some 11), .mv (.t 16), none⟩,
⟨(some 17), .xt (.t 11) 0, none⟩,
⟨(some 18), .xt (.t 11) 1, none⟩,
⟨(some 1), .mv (.t 17), none⟩,
⟨(some 2), .mv (.t 18), none⟩])
(.seq (.reg [
⟨(some 20), .mv (.t 0), none⟩,
⟨(some 21), .mv (.t 2), none⟩,
⟨(some 22), .mv (.t 3), none⟩,
⟨(some 23), .mv (.t 4), none⟩,
⟨(some 24), .call 279 [(.t 20), (.t 21), (.t 22), (.t 23)], none⟩,
⟨(some 19), .mv (.t 24), none⟩,
⟨(some 25), .xt (.t 19) 0, none⟩,
⟨(some 26), .xt (.t 19) 1, none⟩,
⟨(some 2), .mv (.t 25), none⟩,
⟨(some 3), .mv (.t 26), none⟩])
(.seq (.reg [
⟨(some 28), .mv (.t 0), none⟩,
⟨(some 29), .mv (.t 1), none⟩,
⟨(some 30), .mv (.t 2), none⟩,
⟨(some 31), .mv (.t 4), none⟩,
⟨(some 32), .call 279 [(.t 28), (.t 29), (.t 30), (.t 31)], none⟩,
⟨(some 27), .mv (.t 32), none⟩,
⟨(some 33), .xt (.t 27) 0, none⟩,
⟨(some 34), .xt (.t 27) 1, none⟩,
⟨(some 1), .mv (.t 33), none⟩,
⟨(some 2), .mv (.t 34), none⟩])
(.seq (.reg [
⟨(some 35), .mv (.t 2), none⟩,
⟨(some 10), .mv (.t 35), none⟩])
.ret)))))⟩
def f251 : AF := ⟨6, [.t 2], (.seq (.reg [
⟨(some 2), .mv (.c (.b false)), none⟩])
(.seq (.reg [
⟨(some 3), .mv (.t 0), none⟩,
⟨(some 4), .mv (.t 0), none⟩,
⟨(some 5), .bin .neq .int (.t 3) (.t 4), none⟩,
⟨(some 2), .mv (.t 5), none⟩])
.ret))⟩
def f252 : AF := ⟨38, [.t 6], (.seq (.reg [
⟨(some 4), .box 1 (.t 1), none⟩,
⟨(some 5), .box 1 (.t 2), none⟩,
⟨(some 6), .mv (.c .nsl), none⟩])
(.seq (.seq (.reg [
⟨(some 11), .mv (.t 0), none⟩,
⟨(some 12), .call 78 [(.t 11)], none⟩,
⟨(some 13), .un .not (.t 12), none⟩,
⟨(some 14), .mv (.t 13), none⟩,
⟨(some 15), .ld false 1 (.t 4), (some (14, false))⟩,
⟨(some 16), .call 78 [(.t 15)], (some (14, false))⟩,
⟨(some 17), .un .not (.t 16), (some (14, false))⟩,
⟨(some 18), .pick (.t 14) (.c (.b true)) (.t 17), none⟩])
(.cond (.t 18)
(.seq (.reg [
⟨(some 6), .mv (.c .nsl), none⟩])
.ret)
.skip))
(.seq (.reg [
⟨(some 7), .alloc [.nsl], none⟩])
(.seq (.seq (.reg [
⟨(some 19), .mv (.t 0), none⟩,
⟨(some 20), .call 97 [(.t 19)], none⟩])
(.blk 0 (.rf (.t 20) [21, 22] (.seq (.reg [
⟨(some 8), .mv (.t 21), none⟩])
(.reg [
⟨(some 9), .mv (.t 22), none⟩]))
(.blk 1 (.seq (.drw [
.op ⟨(some 23), .ld false 1 (.t 5), none⟩,
.op ⟨(some 24), .mv (.t 9), none⟩,
.op ⟨(some 25), .ld false 1 (.t 4), none⟩,
.op ⟨(some 26), .mv (.t 8), none⟩,
.op ⟨(some 27), .call 280 [(.t 25), (.t 26)], none⟩,
.chk ⟨(some 23), .ld false 1 (.t 5), none⟩,
.op ⟨(some 28), .cald (.t 23) [(.t 24), (.t 27)], none⟩,
.op ⟨(some 10), .mv (.t 28), none⟩])
(.seq (.reg [
⟨(some 29), .mv (.t 10), none⟩,
⟨(some 30), .bin .gtr .no (.t 29) (.c (.i .i64 0)), none⟩])
(.cond (.t 30)
(.reg [
⟨(some 31), .ld false 1 (.t 7), none⟩,
⟨(some 32), .mv (.t 8), none⟩,
⟨(some 33), .mv (.t 10), none⟩,
⟨(some 34), .build [(.s []), (.i .i64 0)] [(0, 1, (.t 32)), (1, 1, (.t 33))], none⟩,
⟨(some 35), .bsl 1 [(.s []), (.i .i64 0)] [(0, 2, (.t 34))], none⟩,
⟨(some 36), .app 2 24 [(.s []), (.i .i64 0)] (.t 31) (.t 35), none⟩,
⟨none, .st 1 (.t 7) (.t 36), none⟩])
.skip)))))))
(.seq (.reg [
⟨(some 37), .ld false 1 (.t 7), none⟩,
⟨(some 6), .mv (.t 37), none⟩])
.ret)))))⟩
def f253 : AF := ⟨8, [.t 4], (.seq (.reg [
⟨(some 4), .mv (.c (.i .i64 0)), none⟩])
(.seq (.reg [
⟨(some 5), .mv (.t 0), none⟩,
⟨(some 6), .mv (.t 1), none⟩,
⟨(some 7), .bin .sub .no (.t 5) (.t 6), none⟩,
⟨(some 4), .mv (.t 7), none⟩])
.ret))⟩
def f254 : AF := ⟨9, [.t 4], (.seq (.reg [
⟨(some 4), .mv (.c (.b false)), none⟩])
(.seq (.reg [
⟨(some 5), .mv (.t 0), none⟩,
⟨(some 6), .mv (.t 1), none⟩,
⟨(some 7), .call 281 [(.t 5), (.t 6)], none⟩,
⟨(some 8), .bin .geq .no (.t 7) (.c (.i .i64 0)), none⟩,
⟨(some 4), .mv (.t 8), none⟩])
.ret))⟩
def f255 : AF := ⟨6, [.t 2], (.seq (.reg [
⟨(some 2), .mv (.c (.b false)), none⟩])
(.seq (.reg [
⟨(some 3), .mv (.t 0), none⟩,
⟨(some 4), .call 78 [(.t 3)], none⟩,
⟨(some 5), .un .not (.t 4), none⟩,
⟨(some 2), .mv (.t 5), none⟩])
.ret))⟩
def f256 : AF := ⟨14, [.t 2], (.seq (.reg [
⟨(some 2), .mv (.c (.i .i64 0)), none⟩])
(.seq (.reg [
⟨(some 3), .alloc [(.i .i64 0)], none⟩,
⟨none, .st 1 (.t 3) (.c (.i .i64 0)), none⟩])
(.seq (.seq (.reg [
⟨(some 6), .mv (.t 0), none⟩,
⟨(some 7), .call 97 [(.t 6)], none⟩])
(.blk 0 (.rf (.t 7) [8, 9] (.reg [
⟨(some 5), .mv (.t 9), none⟩])
(.blk 1 (.reg [
⟨(some 10), .ld false 1 (.t 3), none⟩,
⟨(some 11), .mv (.t 5), none⟩,
⟨(some 12), .bin .add .no (.t 10) (.t 11), none⟩,
⟨none, .st 1 (.t 3) (.t 12), none⟩])))))
(.seq (.reg [
⟨(some 13), .ld false 1 (.t 3), none⟩,
⟨(some 2), .mv (.t 13), none⟩])
.ret))))⟩
def f257 : AF := ⟨14, [.t 4], (.seq (.reg [
⟨(some 4), .mv (.c .nsl), none⟩])
(.seq (.reg [
⟨(some 8), .mv (.t 0), none⟩,
⟨(some 9), .mv (.t 1), none⟩,
⟨(some 10), .call 282 [(.t 8), (.t 9)], none⟩,
⟨(some 7), .mv (.t 10), none⟩,
⟨(some 11), .xt (.t 7) 0, none⟩,
⟨(some 12), .xt (.t 7) 1, none⟩,
⟨(some 5), .mv (.t 11), none⟩,
⟨(some 6), .mv (.t 12), none⟩])
(.seq (.reg [
⟨(some 13), .mv (.t 6), none⟩,
⟨(some 4), .mv (.t 13), none⟩])
.ret)))⟩
def f258 : AF := ⟨16, [], (.seq (.reg [
⟨(some 5), .ld false 1 (.t 1), none⟩,
⟨(some 6), .len 1 (.t 5), none⟩,
⟨(some 7), .mv (.c (.i .i64 0)), none⟩])
(.blk 0 (.loop (.seq (.reg [
⟨(some 8), .bin .lss .no (.t 7) (.t 6), none⟩])
(.seq (.cond (.t 8)
.skip
(.exit 0))
(.seq (.blk 1 (.seq (.reg [
⟨(some 9), .iaL 1 (.t 5) (.t 7), none⟩,
⟨(some 10), .ld false 1 (.t 9), none⟩,
⟨(some 4), .mv (.t 10), none⟩])
(.seq (.reg [
⟨(some 11), .mv (.t 0), none⟩,
⟨(some 12), .mv (.t 4), none⟩,
⟨(some 13), .cald (.t 11) [(.t 12)], none⟩,
⟨(some 14), .un .not (.t 13), none⟩])
(.cond (.t 14)
.ret
.skip))))
(.reg [
⟨(some 15), .bin .add .no (.t 7) (.c (.i .i64 1)), none⟩,
⟨(some 7), .mv (.t 15), none⟩])))))))⟩
def f259 : AF := ⟨9, [.t 4], (.seq (.reg [
⟨(some 4), .mv (.c (.b false)), none⟩])
(.seq (.reg [
⟨(some 5), .mv (.t 0), none⟩,
⟨(some 6), .mv (.t 1), none⟩,
⟨(some 7), .call 283 [(.t 5), (.t 6)], none⟩,
⟨(some 8), .bin .geq .no (.t 7) (.c (.i .i64 0)), none⟩,
⟨(some 4), .mv (.t 8), none⟩])
.ret))⟩
def f260 : AF := ⟨35, [.t 6], (.seq (.reg [
⟨(some 6), .mv (.c (.b false)), none⟩])
(.seq (.reg [
⟨(some 8), .mv (.t 0), none⟩,
⟨(some 9), .nck (.t 8), none⟩,
⟨(some 10), .fa 8 (.t 9), none⟩,
⟨(some 11), .ld false 1 (.t 10), none⟩,
⟨(some 12), .mv (.t 2), none⟩,
⟨(some 13), .call 283 [(.t 11), (.t 12)], none⟩,
⟨(some 7), .mv (.t 13), none⟩])
(.seq (.seq (.reg [
⟨(some 14), .mv (.t 0), none⟩,
⟨(some 15), .nck (.t 14), none⟩,
⟨(some 16), .fa 5 (.t 15), none⟩,
⟨(some 17), .ld false 1 (.t 16), none⟩,
⟨(some 18), .mv (.t 1), none⟩,
⟨(some 19), .bin .neq .int (.t 17) (.t 18), none⟩,
⟨(some 20), .mv (.t 19), none⟩,
⟨(some 21), .mv (.t 7), (some (20, false))⟩,
⟨(some 22), .bin .lss .no (.t 21) (.c (.i .i64 0)), (some (20, false))⟩,
⟨(some 23), .pick (.t 20) (.c (.b true)) (.t 22), none⟩])
(.cond (.t 23)
(.seq (.reg [
⟨(some 6), .mv (.c (.b false)), none⟩])
.ret)
.skip))
(.seq (.reg [
⟨(some 24), .mv (.t 0), none⟩,
⟨(some 25), .mv (.t 0), none⟩,
⟨(some 26), .nck (.t 25), none⟩,
⟨(some 27), .fa 8 (.t 26), none⟩,
⟨(some 28), .ld false 1 (.t 27), none⟩,
⟨(some 29), .mv (.t 7), none⟩,
⟨(some 30), .mv (.t 7), none⟩,
⟨(some 31), .bin .add .no (.t 30) (.c (.i .i64 1)), none⟩,
⟨(some 32), .call 284 [(.t 28), (.t 29), (.t 31)], none⟩,
⟨(some 33), .nck (.t 24), none⟩,
⟨(some 34), .fa 8 (.t 33), none⟩,
⟨none, .st 1 (.t 34) (.t 32), none⟩])
(.seq (.reg [
⟨(some 6), .mv (.c (.b true)), none⟩])
.ret)))))⟩
def f261 : AF := ⟨12, [.t 4], (.seq (.reg [
⟨(some 4), .mv (.c .nsl), none⟩])
(.seq (.reg [
⟨(some 5), .mv (.t 0), none⟩,
⟨(some 6), .mv (.t 1), none⟩,
⟨(some 7), .nck (.t 5), none⟩,
⟨(some 8), .fa 5 (.t 7), none⟩,
⟨none, .st 1 (.t 8) (.t 6), none⟩])
(.seq (.reg [
⟨(some 9), .mv (.t 1), none⟩,
⟨(some 10), .build [(.i .i64 0), (.i .i64 0), .nsl, (.i .i64 0)] [(0, 1, (.c (.i .i64 100))), (3, 1, (.t 9))], none⟩,
⟨(some 11), .bsl 1 [(.i .i64 0), (.i .i64 0), .nsl, (.i .i64 0)] [(0, 4, (.t 10))], none⟩,
⟨(some 4), .mv (.t 11), none⟩])
.ret)))⟩
def f262 : AF := ⟨13, [.t 2], (.seq (.reg [
⟨(some 2), .mv (.c .nsl), none⟩])
(.seq (.seq (.reg [
⟨(some 3), .mv (.t 0), none⟩,
⟨(some 4), .nck (.t 3), none⟩,
⟨(some 5), .ld true 10 (.t 4), none⟩,
⟨(some 6), .call 219 [(.t 5)], none⟩,
⟨(some 7), .len 1 (.t 6), none⟩,
⟨(some 8), .bin .eql .int (.t 7) (.c (.i .i64 0)), none⟩])
(.cond (.t 8)
(.seq (.reg [
⟨(some 9), .mv (.t 0), none⟩,
⟨(some 10), .call 263 [(.t 9)], none⟩,
⟨(some 2), .mv (.t 10), none⟩])
.ret)
.skip))
(.seq (.reg [
⟨(some 11), .mv (.t 0), none⟩,
⟨(some 12), .call 264 [(.t 11), (.c (.i .i64 4)), (.c (.i .i64 5))], none⟩,
⟨(some 2), .mv (.t 12), none⟩])
.ret)))⟩
def f263 : AF := ⟨22, [.t 2], (.seq (.reg [
⟨(some 2), .mv (.c .nsl), none⟩])
(.seq (.reg [
⟨(some 3), .mv (.t 0), none⟩,
⟨(some 4), .nck (.t 3), none⟩,
⟨(some 5), .fa 8 (.t 4), none⟩,
⟨none, .st 1 (.t 5) (.c .nsl), none⟩])
(.seq (.blk 0 (.seq (.reg [
⟨(some 7), .mv (.t 0), none⟩,
⟨(some 8), .nck (.t 7), none⟩,
⟨(some 9), .fa 9 (.t 8), none⟩,
⟨(some 10), .ld false 1 (.t 9), none⟩,
⟨(some 6), .mv (.t 10), none⟩])
(.cond (.t 6)
(.seq (.reg [
⟨(some 11), .mv (.t 0), none⟩,
⟨(some 12), .call 261 [(.t 11), (.c (.i .i64 6))], none⟩,
⟨(some 2), .mv (.t 12), none⟩])
.ret)
(.seq (.reg [
⟨(some 14), .mv (.t 0), none⟩,
⟨(some 15), .nck (.t 14), none⟩,
⟨(some 16), .fa 4 (.t 15), none⟩,
⟨(some 17), .ld false 1 (.t 16), none⟩,
⟨(some 13), .mv (.t 17), none⟩])
(.cond (.t 13)
(.seq (.reg [
⟨(some 18), .mv (.t 0), none⟩,
⟨(some 19), .call 261 [(.t 18), (.c (.i .i64 3))], none⟩,
⟨(some 2), .mv (.t 19), none⟩])
.ret)
.skip)))))
(.seq (.reg [
⟨(some 20), .mv (.t 0), none⟩,
⟨(some 21), .call 261 [(.t 20), (.c (.i .i64 5))], none⟩,
⟨(some 2), .mv (.t 21), none⟩])
.ret))))⟩
def f264 : AF := ⟨38, [.t 6], (.seq (.reg [
⟨(some 6), .mv (.c .nsl), none⟩])
(.seq (.reg [
⟨(some 10), .mv (.t 0), none⟩,
⟨(some 11), .mv (.t 0), none⟩,
⟨(some 12), .mv (.t 1), none⟩,
⟨(some 13), .mv (.t 0), none⟩,
⟨(some 14), .nck (.t 13), none⟩,
⟨(some 15), .ld true 10 (.t 14), none⟩,
⟨(some 16), .call 219 [(.t 15)], none⟩,
⟨(some 17), .nck (.t 10), none⟩,
⟨(some 18), .fa 5 (.t 17), none⟩,
⟨none, .st 1 (.t 18) (.t 12), none⟩,
⟨(some 19), .nck (.t 11), none⟩,
⟨(some 20), .fa 8 (.t 19), none⟩,
⟨none, .st 1 (.t 20) (.t 16), none⟩])
(.seq (.reg [
⟨(some 7), .mv (.c .nsl), none⟩])
(.seq (.seq (.reg [
⟨(some 21), .mv (.t 0), none⟩,
⟨(some 22), .nck (.t 21), none⟩,
⟨(some 23), .fa 8 (.t 22), none⟩,
⟨(some 24), .ld false 1 (.t 23), none⟩,
⟨(some 25), .len 1 (.t 24), none⟩,
⟨(some 26), .mv (.c (.i .i64 0)), none⟩])
(.blk 0 (.loop (.seq (.reg [
⟨(some 27), .bin .lss .no (.t 26) (.t 25), none⟩])
(.seq (.cond (.t 27)
.skip
(.exit 0))
(.seq (.blk 1 (.seq (.reg [
⟨(some 28), .iaL 1 (.t 24) (.t 26), none⟩,
⟨(some 29), .ld false 1 (.t 28), none⟩,
⟨(some 9), .mv (.t 29), none⟩])
(.reg [
⟨(some 30), .mv (.t 7), none⟩,
⟨(some 31), .mv (.t 2), none⟩,
⟨(some 32), .mv (.t 9), none⟩,
⟨(some 33), .build [(.i .i64 0), (.i .i64 0), .nsl, (.i .i64 0)] [(0, 1, (.t 31)), (1, 1, (.t 32))], none⟩,
⟨(some 34), .bsl 1 [(.i .i64 0), (.i .i64 0), .nsl, (.i .i64 0)] [(0, 4, (.t 33))], none⟩,
⟨(some 35), .app 4 48 [(.i .i64 0), (.i .i64 0), .nsl, (.i .i64 0)] (.t 30) (.t 34), none⟩,
⟨(some 7), .mv (.t 35), none⟩])))
(.reg [
⟨(some 36), .bin .add .no (.t 26) (.c (.i .i64 1)), none⟩,
⟨(some 26), .mv (.t 36), none⟩])))))))
(.seq (.reg [
⟨(some 37), .mv (.t 7), none⟩,
⟨(some 6), .mv (.t 37), none⟩])
.ret)))))⟩
def f265 : AF := ⟨13, [.t 4], (.seq (.reg [
⟨(some 3), .box 1 (.t 1), none⟩,
⟨(some 4), .mv (.c (.i .i64 0)), none⟩])
(.seq (.seq (.reg [
⟨(some 5), .mv (.t 0), none⟩,
⟨(some 6), .bin .eql .ptr (.t 5) (.c .np), none⟩])
(.cond (.t 6)
(.seq (.reg [
⟨(some 4), .mv (.c (.i .i64 (-1))), none⟩])
.ret)
.skip))
(.seq (.reg [
⟨(some 7), .mv (.t 0), none⟩,
⟨(some 8), .nck (.t 7), none⟩,
⟨(some 9), .fa 0 (.t 8), none⟩,
⟨(some 10), .ld false 1 (.t 9), none⟩,
⟨(some 11), .mkf 285 [] [(.t 3)], none⟩,
⟨(some 12), .call 177 [(.t 10), (.t 11)], none⟩,
⟨(some 4), .mv (.t 12), none⟩])
.ret)))⟩
def f266 : AF := ⟨33, [.t 6], (.seq (.reg [
⟨(some 6), .mv (.c .nsl), none⟩])
(.seq (.reg [
⟨(some 8), .mv (.t 0), none⟩,
⟨(some 9), .mv (.t 1), none⟩,
⟨(some 10), .mv (.t 2), none⟩,
⟨(some 11), .mv (.t 0), none⟩,
⟨(some 12), .len 1 (.t 11), none⟩,
⟨(some 13), .slL 2 (.t 8) (some (.t 9)) (some (.t 10)) (some (.t 12)), none⟩])
(.seq (.seq (.reg [
⟨(some 14), .mv (.t 1), none⟩,
⟨(some 15), .mv (.t 2), none⟩,
⟨(some 16), .bin .eql .int (.t 14) (.t 15), none⟩])
(.cond (.t 16)
(.seq (.reg [
⟨(some 17), .mv (.t 0), none⟩,
⟨(some 6), .mv (.t 17), none⟩])
.ret)
.skip))
(.seq (.reg [
⟨(some 18), .mv (.t 0), none⟩,
⟨(some 19), .len 1 (.t 18), none⟩,
⟨(some 7), .mv (.t 19), none⟩])
(.seq (.drw [
.op ⟨(some 20), .mv (.t 0), none⟩,
.op ⟨(some 21), .mv (.t 1), none⟩,
.op ⟨(some 22), .slL 2 (.t 20) none (some (.t 21)) none, none⟩,
.op ⟨(some 23), .mv (.t 0), none⟩,
.op ⟨(some 24), .mv (.t 2), none⟩,
.op ⟨(some 25), .slL 2 (.t 23) (some (.t 24)) none none, none⟩,
.op ⟨(some 26), .app 2 16 [(.i .i64 0), (.b false)] (.t 22) (.t 25), none⟩,
.op ⟨(some 0), .mv (.t 26), none⟩])
(.seq (.reg [
⟨(some 27), .mv (.t 0), none⟩,
⟨(some 28), .mv (.t 0), none⟩,
⟨(some 29), .len 1 (.t 28), none⟩,
⟨(some 30), .mv (.t 7), none⟩,
⟨(some 31), .slL 2 (.t 27) (some (.t 29)) (some (.t 30)) none, none⟩,
⟨none, .clr false [(.i .i64 0), (.b false)] (.t 31), none⟩])
(.seq (.reg [
⟨(some 32), .mv (.t 0), none⟩,
⟨(some 6), .mv (.t 32), none⟩])
.ret)))))))⟩
def f268 : AF := ⟨39, [.t 2, .t 3], (.seq (.reg [
⟨(some 2), .mv (.c (.i .u32 0)), none⟩,
⟨(some 3), .mv (.c (.i .u32 0)), none⟩])
(.seq (.reg [
⟨(some 4), .mv (.c (.i .u32 0)), none⟩])
(.seq (.seq (.reg [
⟨(some 5), .mv (.c (.i .i64 0)), none⟩])
(.blk 0 (.loop (.seq (.seq (.reg [
⟨(some 9), .mv (.t 5), none⟩,
⟨(some 10), .mv (.t 0), none⟩,
⟨(some 11), .len 0 (.t 10), none⟩,
⟨(some 12), .bin .lss .no (.t 9) (.t 11), none⟩])
(.cond (.t 12)
.skip
(.exit 0)))
(.seq (.blk 1 (.reg [
⟨(some 15), .mv (.t 4), none⟩,
⟨(some 16), .bin .mul .no (.t 15) (.c (.i .u32 16777619)), none⟩,
⟨(some 17), .mv (.t 0), none⟩,
⟨(some 18), .mv (.t 5), none⟩,
⟨(some 19), .ixS (.t 17) (.t 18), none⟩,
⟨(some 20), .cvi .u32 (.t 19), none⟩,
⟨(some 21), .bin .add .no (.t 16) (.t 20), none⟩,
⟨(some 4), .mv (.t 21), none⟩]))
(.reg [
⟨(some 13), .mv (.t 5), none⟩,
⟨(some 14), .bin .add .no (.t 13) (.c (.i .i64 1)), none⟩,
⟨(some 5), .mv (.t 14), none⟩]))))))
(.seq (.reg [
⟨(some 6), .mv (.c (.i .u32 1)), none⟩,
⟨(some 7), .mv (.c (.i .u32 16777619)), none⟩])
(.seq (.seq (.reg [
⟨(some 22), .mv (.t 0), none⟩,
⟨(some 23), .len 0 (.t 22), none⟩,
⟨(some 8), .mv (.t 23), none⟩])
(.blk 2 (.loop (.seq (.seq (.reg [
⟨(some 24), .mv (.t 8), none⟩,
⟨(some 25), .bin .gtr .no (.t 24) (.c (.i .i64 0)), none⟩])
(.cond (.t 25)
.skip
(.exit 2)))
(.seq (.blk 3 (.seq (.seq (.reg [
⟨(some 28), .mv (.t 8), none⟩,
⟨(some 29), .bin .and .no (.t 28) (.c (.i .i64 1)), none⟩,
⟨(some 30), .bin .neq .int (.t 29) (.c (.i .i64 0)), none⟩])
(.cond (.t 30)
(.reg [
⟨(some 31), .mv (.t 6), none⟩,
⟨(some 32), .mv (.t 7), none⟩,
⟨(some 33), .bin .mul .no (.t 31) (.t 32), none⟩,
⟨(some 6), .mv (.t 33), none⟩])
.skip))
(.reg [
⟨(some 34), .mv (.t 7), none⟩,
⟨(some 35), .mv (.t 7), none⟩,
⟨(some 36), .bin .mul .no (.t 34) (.t 35), none⟩,
⟨(some 7), .mv (.t 36), none⟩])))
(.reg [
⟨(some 26), .mv (.t 8), none⟩,
⟨(some 27), .bin .shr .no (.t 26) (.c (.i .u64 1)), none⟩,
⟨(some 8), .mv (.t 27), none⟩]))))))
(.seq (.reg [
⟨(some 37), .mv (.t 4), none⟩,
⟨(some 38), .mv (.t 6), none⟩,
⟨(some 2), .mv (.t 37), none⟩,
⟨(some 3), .mv (.t 38), none⟩])
.ret))))))⟩
def f269 : AF := ⟨5, [.t 2], (.seq (.reg [
⟨(some 2), .mv (.c (.b false)), none⟩])
(.seq (.reg [
⟨(some 3), .mv (.t 0), none⟩,
⟨(some 4), .call 286 [(.t 3), (.c (.f (.func 287) [] []))], none⟩,
⟨(some 2), .mv (.t 4), none⟩])
.ret))⟩
def f270 : AF := ⟨49, [], (.seq (.reg [
⟨(some 8), .mv (.t 1), none⟩,
⟨(some 9), .bin .add .no (.t 8) (.c (.i .i64 1)), none⟩,
⟨(some 6), .mv (.t 9), none⟩])
(.blk 0 (.loop (.seq (.seq (.reg [
⟨(some 10), .mv (.t 6), none⟩,
⟨(some 11), .mv (.t 2), none⟩,
⟨(some 12), .bin .lss .no (.t 10) (.t 11), none⟩])
(.cond (.t 12)
.skip
(.exit 0)))
(.seq (.blk 1 (.seq (.reg [
⟨(some 15), .mv (.t 6), none⟩,
⟨(some 7), .mv (.t 15), none⟩])
(.blk 2 (.loop (.seq (.seq (.drw [
.op ⟨(some 16), .mv (.t 7), none⟩,
.op ⟨(some 17), .mv (.t 1), none⟩,
.op ⟨(some 18), .bin .gtr .no (.t 16) (.t 17), none⟩,
.op ⟨(some 19), .mv (.t 18), none⟩,
.op ⟨(some 20), .mv (.t 0), (some (19, true))⟩,
.op ⟨(some 21), .mv (.t 7), (some (19, true))⟩,
.op ⟨(some 22), .iaL 1 (.t 20) (.t 21), (some (19, true))⟩,
.op ⟨(some 23), .ld false 1 (.t 22), (some (19, true))⟩,
.op ⟨(some 24), .mv (.t 0), (some (19, true))⟩,
.op ⟨(some 25), .mv (.t 7), (some (19, true))⟩,
.op ⟨(some 26), .bin .sub .no (.t 25) (.c (.i .i64 1)), (some (19, true))⟩,
.op ⟨(some 27), .iaL 1 (.t 24) (.t 26), (some (19, true))⟩,
.op ⟨(some 28), .ld false 1 (.t 27), (some (19, true))⟩,
.op ⟨(some 29), .call 276 [(.t 23), (.t 28)], (some (19, true))⟩,
.op ⟨(some 30), .pick (.t 19) (.t 29) (.c (.b false)), none⟩])
(.cond (.t 30)
.skip
(.exit 2)))
(.seq (.blk 3 (.drw [
.op ⟨(some 33), .mv (.t 0), none⟩,
.op ⟨(some 34), .mv (.t 7), none⟩,
.op ⟨(some 35), .mv (.t 0), none⟩,
.op ⟨(some 36), .mv (.t 7), none⟩,
.op ⟨(some 37), .bin .sub .no (.t 36) (.c (.i .i64 1)), none⟩,
.op ⟨(some 38), .mv (.t 0), none⟩,
.op ⟨(some 39), .mv (.t 7), none⟩,
.op ⟨(some 40), .bin .sub .no (.t 39) (.c (.i .i64 1)), none⟩,
.op ⟨(some 41), .iaL 1 (.t 38) (.t 40), none⟩,
.op ⟨(some 42), .ld false 1 (.t 41), none⟩,
.op ⟨(some 43), .mv (.t 0), none⟩,
.op ⟨(some 44), .mv (.t 7), none⟩,
.op ⟨(some 45), .iaL 1 (.t 43) (.t 44), none⟩,
.op ⟨(some 46), .ld false 1 (.t 45), none⟩,
.op ⟨(some 47), .iaL 1 (.t 33) (.t 34), none⟩,
.op ⟨none, .st 1 (.t 47) (.t 42), none⟩,
.op ⟨(some 48), .iaL 1 (.t 35) (.t 37), none⟩,
.op ⟨none, .st 1 (.t 48) (.t 46), none⟩]))
(.reg [
⟨(some 31), .mv (.t 7), none⟩,
⟨(some 32), .bin .sub .no (.t 31) (.c (.i .i64 1)), none⟩,
⟨(some 7), .mv (.t 32), none⟩])))))))
(.reg [
⟨(some 13), .mv (.t 6), none⟩,
⟨(some 14), .bin .add .no (.t 13) (.c (.i .i64 1)), none⟩,
⟨(some 6), .mv (.t 14), none⟩]))))))⟩
def f271 : AF := ⟨56, [], (.seq (.reg [
⟨(some 11), .mv (.t 1), none⟩,
⟨(some 6), .mv (.t 11), none⟩])
(.seq (.reg [
⟨(some 7), .mv (.c (.i .i64 0)), none⟩])
(.seq (.reg [
⟨(some 12), .mv (.t 2), none⟩,
⟨(some 13), .mv (.t 1), none⟩,
⟨(some 14), .bin .sub .no (.t 12) (.t 13), none⟩,
⟨(some 8), .mv (.t 14), none⟩])
(.seq (.seq (.reg [
⟨(some 15), .mv (.t 8), none⟩,
⟨(some 16), .bin .sub .no (.t 15) (.c (.i .i64 1)), none⟩,
⟨(some 17), .bin .quo .no (.t 16) (.c (.i .i64 2)), none⟩,
⟨(some 9), .mv (.t 17), none⟩])
(.blk 0 (.loop (.seq (.seq (.reg [
⟨(some 18), .mv (.t 9), none⟩,
⟨(some 19), .bin .geq .no (.t 18) (.c (.i .i64 0)), none⟩])
(.cond (.t 19)
.skip
(.exit 0)))
(.seq (.blk 1 (.reg [
⟨(some 22), .mv (.t 0), none⟩,
⟨(some 23), .mv (.t 9), none⟩,
⟨(some 24), .mv (.t 8), none⟩,
⟨(some 25), .mv (.t 6), none⟩,
⟨(some 26), .call 288 [(.t 22), (.t 23), (.t 24), (.t 25)], none⟩]))
(.reg [
⟨(some 20), .mv (.t 9), none⟩,
⟨(some 21), .bin .sub .no (.t 20) (.c (.i .i64 1)), none⟩,
⟨(some 9), .mv (.t 21), none⟩]))))))
(.seq (.reg [
⟨(some 27), .mv (.t 8), none⟩,
⟨(some 28), .bin .sub .no (.t 27) (.c (.i .i64 1)), none⟩,
⟨(some 10), .mv (.t 28), none⟩])
(.blk 2 (.loop (.seq (.seq (.reg [
⟨(some 29), .mv (.t 10), none⟩,
⟨(some 30), .bin .geq .no (.t 29) (.c (.i .i64 0)), none⟩])
(.cond (.t 30)
.skip
(.exit 2)))
(.seq (.blk 3 (.seq (.drw [
.op ⟨(some 33), .mv (.t 0), none⟩,
.op ⟨(some 34), .mv (.t 6), none⟩,
.op ⟨(some 35), .mv (.t 0), none⟩,
.op ⟨(some 36), .mv (.t 6), none⟩,
.op ⟨(some 37), .mv (.t 10), none⟩,
.op ⟨(some 38), .bin .add .no (.t 36) (.t 37), none⟩,
.op ⟨(some 39), .mv (.t 0), none⟩,
.op ⟨(some 40), .mv (.t 6), none⟩,
.op ⟨(some 41), .mv (.t 10), none⟩,
.op ⟨(some 42), .bin .add .no (.t 40) (.t 41), none⟩,
.op ⟨(some 43), .iaL 1 (.t 39) (.t 42), none⟩,
.op ⟨(some 44), .ld false 1 (.t 43), none⟩,
.op ⟨(some 45), .mv (.t 0), none⟩,
.op ⟨(some 46), .mv (.t 6), none⟩,
.op ⟨(some 47), .iaL 1 (.t 45) (.t 46), none⟩,
.op ⟨(some 48), .ld false 1 (.t 47), none⟩,
.op ⟨(some 49), .iaL 1 (.t 33) (.t 34), none⟩,
.op ⟨none, .st 1 (.t 49) (.t 44), none⟩,
.op ⟨(some 50), .iaL 1 (.t 35) (.t 38), none⟩,
.op ⟨none, .st 1 (.t 50) (.t 48), none⟩])
(.reg [
⟨(some 51), .mv (.t 0), none⟩,
⟨(some 52), .mv (.t 7), none⟩,
⟨(some 53), .mv (.t 10), none⟩,
⟨(some 54), .mv (.t 6), none⟩,
⟨(some 55), .call 288 [(.t 51), (.t 52), (.t 53), (.t 54)], none⟩])))
(.reg [
⟨(some 31), .mv (.t 10), none⟩,
⟨(some 32), .bin .sub .no (.t 31) (.c (.i .i64 1)), none⟩,
⟨(some 10), .mv (.t 32), none⟩]))))))))))⟩
def f272 : AF := ⟨65, [], (.seq (.reg [
⟨(some 11), .mv (.t 2), none⟩,
⟨(some 12), .mv (.t 1), none⟩,
⟨(some 13), .bin .sub .no (.t 11) (.t 12), none⟩,
⟨(some 6), .mv (.t 13), none⟩])
(.seq (.reg [
⟨(some 14), .mv (.t 6), none⟩,
⟨(some 15), .bin .geq .no (.t 14) (.c (.i .i64 8)), none⟩])
(.cond (.t 15)
(.seq (.reg [
⟨(some 16), .mv (.t 6), none⟩,
⟨(some 17), .cvi .u64 (.t 16), none⟩,
⟨(some 7), .alloc [(.i .u64 0)], none⟩,
⟨none, .st 1 (.t 7) (.t 17), none⟩])
(.seq (.reg [
⟨(some 18), .mv (.t 6), none⟩,
⟨(some 19), .call 247 [(.t 18)], none⟩,
⟨(some 8), .mv (.t 19), none⟩])
(.seq (.reg [
⟨(some 20), .mv (.t 1), none⟩,
⟨(some 21), .mv (.t 6), none⟩,
⟨(some 22), .bin .quo .no (.t 21) (.c (.i .i64 4)), none⟩,
⟨(some 23), .bin .mul .no (.t 22) (.c (.i .i64 2)), none⟩,
⟨(some 24), .bin .add .no (.t 20) (.t 23), none⟩,
⟨(some 25), .bin .sub .no (.t 24) (.c (.i .i64 1)), none⟩,
⟨(some 9), .mv (.t 25), none⟩])
(.blk 0 (.loop (.seq (.seq (.reg [
⟨(some 26), .mv (.t 9), none⟩,
⟨(some 27), .mv (.t 1), none⟩,
⟨(some 28), .mv (.t 6), none⟩,
⟨(some 29), .bin .quo .no (.t 28) (.c (.i .i64 4)), none⟩,
⟨(some 30), .bin .mul .no (.t 29) (.c (.i .i64 2)), none⟩,
⟨(some 31), .bin .add .no (.t 27) (.t 30), none⟩,
⟨(some 32), .bin .add .no (.t 31) (.c (.i .i64 1)), none⟩,
⟨(some 33), .bin .leq .no (.t 26) (.t 32), none⟩])
(.cond (.t 33)
.skip
(.exit 0)))
(.seq (.blk 1 (.seq (.reg [
⟨(some 36), .call 248 [(.t 7)], none⟩,
⟨(some 37), .mv (.t 8), none⟩,
⟨(some 38), .bin .sub .no (.t 37) (.c (.i .u64 1)), none⟩,
⟨(some 39), .bin .and .no (.t 36) (.t 38), none⟩,
⟨(some 40), .cvi .i64 (.t 39), none⟩,
⟨(some 10), .mv (.t 40), none⟩])
(.seq (.seq (.reg [
⟨(some 41), .mv (.t 10), none⟩,
⟨(some 42), .mv (.t 6), none⟩,
⟨(some 43), .bin .geq .no (.t 41) (.t 42), none⟩])
(.cond (.t 43)
(.reg [
⟨(some 44), .mv (.t 10), none⟩,
⟨(some 45), .mv (.t 6), none⟩,
⟨(some 46), .bin .sub .no (.t 44) (.t 45), none⟩,
⟨(some 10), .mv (.t 46), none⟩])
.skip))
(.drw [
.op ⟨(some 47), .mv (.t 0), none⟩,
.op ⟨(some 48), .mv (.t 9), none⟩,
.op ⟨(some 49), .mv (.t 0), none⟩,
.op ⟨(some 50), .mv (.t 1), none⟩,
.op ⟨(some 51), .mv (.t 10), none⟩,
.op ⟨(some 52), .bin .add .no (.t 50) (.t 51), none⟩,
.op ⟨(some 53), .mv (.t 0), none⟩,
.op ⟨(some 54), .mv (.t 1), none⟩,
.op ⟨(some 55), .mv (.t 10), none⟩,
.op ⟨(some 56), .bin .add .no (.t 54) (.t 55), none⟩,
.op ⟨(some 57), .iaL 1 (.t 53) (.t 56), none⟩,
.op ⟨(some 58), .ld false 1 (.t 57), none⟩,
.op ⟨(some 59), .mv (.t 0), none⟩,
.op ⟨(some 60), .mv (.t 9), none⟩,
.op ⟨(some 61), .iaL 1 (.t 59) (.t 60), none⟩,
.op ⟨(some 62), .ld false 1 (.t 61), none⟩,
.op ⟨(some 63), .iaL 1 (.t 47) (.t 48), none⟩,
.op ⟨none, .st 1 (.t 63) (.t 58), none⟩,
.op ⟨(some 64), .iaL 1 (.t 49) (.t 52), none⟩,
.op ⟨none, .st 1 (.t 64) (.t 62), none⟩]))))
(.reg [
⟨(some 34), .mv (.t 9), none⟩,
⟨(some 35), .bin .add .no (.t 34) (.c (.i .i64 1)), none⟩,
⟨(some 9), .mv (.t 35), none⟩]))))))))
.skip)))⟩
def f273 : AF := ⟨57, [.t 6, .t 7], (.seq (.reg [
⟨(some 6), .mv (.c (.i .i64 0)), none⟩,
⟨(some 7), .mv (.c (.i .i64 0)), none⟩])
(.seq (.reg [
⟨(some 13), .mv (.t 2), none⟩,
⟨(some 14), .mv (.t 1), none⟩,
⟨(some 15), .bin .sub .no (.t 13) (.t 14), none⟩,
⟨(some 8), .mv (.t 15), none⟩])
(.seq (.reg [
⟨(some 9), .alloc [(.i .i64 0)], none⟩])
(.seq (.reg [
⟨(some 16), .mv (.t 1), none⟩,
⟨(some 17), .mv (.t 8), none⟩,
⟨(some 18), .bin .quo .no (.t 17) (.c (.i .i64 4)), none⟩,
⟨(some 19), .bin .mul .no (.t 18) (.c (.i .i64 1)), none⟩,
⟨(some 20), .bin .add .no (.t 16) (.t 19), none⟩,
⟨(some 10), .mv (.t 20), none⟩])
(.seq (.reg [
⟨(some 21), .mv (.t 1), none⟩,
⟨(some 22), .mv (.t 8), none⟩,
⟨(some 23), .bin .quo .no (.t 22) (.c (.i .i64 4)), none⟩,
⟨(some 24), .bin .mul .no (.t 23) (.c (.i .i64 2)), none⟩,
⟨(some 25), .bin .add .no (.t 21) (.t 24), none⟩,
⟨(some 11), .mv (.t 25), none⟩])
(.seq (.reg [
⟨(some 26), .mv (.t 1), none⟩,
⟨(some 27), .mv (.t 8), none⟩,
⟨(some 28), .bin .quo .no (.t 27) (.c (.i .i64 4)), none⟩,
⟨(some 29), .bin .mul .no (.t 28) (.c (.i .i64 3)), none⟩,
⟨(some 30), .bin .add .no (.t 26) (.t 29), none⟩,
⟨(some 12), .mv (.t 30), none⟩])
(.seq (.seq (.reg [
⟨(some 31), .mv (.t 8), none⟩,
⟨(some 32), .bin .geq .no (.t 31) (.c (.i .i64 8)), none⟩])
(.cond (.t 32)
(.seq (.seq (.reg [
⟨(some 33), .mv (.t 8), none⟩,
⟨(some 34), .bin .geq .no (.t 33) (.c (.i .i64 50)), none⟩])
(.cond (.t 34)
(.seq (.reg [
⟨(some 35), .mv (.t 0), none⟩,
⟨(some 36), .mv (.t 10), none⟩,
⟨(some 37), .call 289 [(.t 35), (.t 36), (.t 9)], none⟩,
⟨(some 10), .mv (.t 37), none⟩])
(.seq (.reg [
⟨(some 38), .mv (.t 0), none⟩,
⟨(some 39), .mv (.t 11), none⟩,
⟨(some 40), .call 289 [(.t 38), (.t 39), (.t 9)], none⟩,
⟨(some 11), .mv (.t 40), none⟩])
(.reg [
⟨(some 41), .mv (.t 0), none⟩,
⟨(some 42), .mv (.t 12), none⟩,
⟨(some 43), .call 289 [(.t 41), (.t 42), (.t 9)], none⟩,
⟨(some 12), .mv (.t 43), none⟩])))
.skip))
(.reg [
⟨(some 44), .mv (.t 0), none⟩,
⟨(some 45), .mv (.t 10), none⟩,
⟨(some 46), .mv (.t 11), none⟩,
⟨(some 47), .mv (.t 12), none⟩,
⟨(some 48), .call 290 [(.t 44), (.t 45), (.t 46), (.t 47), (.t 9)], none⟩,
⟨(some 11), .mv (.t 48), none⟩]))
.skip))
(.seq (.reg [
⟨(some 49), .ld false 1 (.t 9), none⟩])
(.blk 0 (.seq (.reg [
⟨(some 52), .bin .eql .int (.t 49) (.c (.i .i64 0)), none⟩,
⟨(some 51), .mv (.t 52), none⟩])
(.cond (.t 51)
(.seq (.reg [
⟨(some 53), .mv (.t 11), none⟩,
⟨(some 6), .mv (.t 53), none⟩,
⟨(some 7), .mv (.c (.i .i64 1)), none⟩])
.ret)
(.seq (.reg [
⟨(some 55), .bin .eql .int (.t 49) (.c (.i .i64 12)), none⟩,
⟨(some 54), .mv (.t 55), none⟩])
(.cond (.t 54)
(.seq (.reg [
⟨(some 56), .mv (.t 11), none⟩,
⟨(some 6), .mv (.t 56), none⟩,
⟨(some 7), .mv (.c (.i .i64 2)), none⟩])
.ret)
(.seq (.reg [
⟨(some 50), .mv (.t 11), none⟩,
⟨(some 6), .mv (.t 50), none⟩,
⟨(some 7), .mv (.c (.i .i64 0)), none⟩])
.ret))))))))))))))⟩
def f274 : AF := ⟨32, [], (.seq (.reg [
⟨(some 8), .mv (.t 1), none⟩,
⟨(some 6), .mv (.t 8), none⟩])
(.seq (.reg [
⟨(some 9), .mv (.t 2), none⟩,
⟨(some 10), .bin .sub .no (.t 9) (.c (.i .i64 1)), none⟩,
⟨(some 7), .mv (.t 10), none⟩])
(.blk 0 (.loop (.seq (.seq (.reg [
⟨(some 11), .mv (.t 6), none⟩,
⟨(some 12), .mv (.t 7), none⟩,
⟨(some 13), .bin .lss .no (.t 11) (.t 12), none⟩])
(.cond (.t 13)
.skip
(.exit 0)))
(.blk 1 (.seq (.drw [
.op ⟨(some 14), .mv (.t 0), none⟩,
.op ⟨(some 15), .mv (.t 6), none⟩,
.op ⟨(some 16), .mv (.t 0), none⟩,
.op ⟨(some 17), .mv (.t 7), none⟩,
.op ⟨(some 18), .mv (.t 0), none⟩,
.op ⟨(some 19), .mv (.t 7), none⟩,
.op ⟨(some 20), .iaL 1 (.t 18) (.t 19), none⟩,
.op ⟨(some 21), .ld false 1 (.t 20), none⟩,
.op ⟨(some 22), .mv (.t 0), none⟩,
.op ⟨(some 23), .mv (.t 6), none⟩,
.op ⟨(some 24), .iaL 1 (.t 22) (.t 23), none⟩,
.op ⟨(some 25), .ld false 1 (.t 24), none⟩,
.op ⟨(some 26), .iaL 1 (.t 14) (.t 15), none⟩,
.op ⟨none, .st 1 (.t 26) (.t 21), none⟩,
.op ⟨(some 27), .iaL 1 (.t 16) (.t 17), none⟩,
.op ⟨none, .st 1 (.t 27) (.t 25), none⟩])
(.seq (.reg [
⟨(some 28), .mv (.t 6), none⟩,
⟨(some 29), .bin .add .no (.t 28) (.c (.i .i64 1)), none⟩,
⟨(some 6), .mv (.t 29), none⟩])
(.reg [
⟨(some 30), .mv (.t 7), none⟩,
⟨(some 31), .bin .sub .no (.t 30) (.c (.i .i64 1)), none⟩,
⟨(some 7), .mv (.t 31), none⟩])))))))))⟩
def f275 : AF := ⟨133, [.t 6], (.seq (.reg [
⟨(some 6), .mv (.c (.b false)), none⟩])
(.seq (.reg [
⟨(some 11), .mv (.t 1), none⟩,
⟨(some 12), .bin .add .no (.t 11) (.c (.i .i64 1)), none⟩,
⟨(some 7), .mv (.t 12), none⟩])
(.seq (.seq (.reg [
⟨(some 8), .mv (.c (.i .i64 0)), none⟩])
(.blk 0 (.loop (.seq (.seq (.reg [
⟨(some 13), .mv (.t 8), none⟩,
⟨(some 14), .bin .lss .no (.t 13) (.c (.i .i64 5)), none⟩])
(.cond (.t 14)
.skip
(.exit 0)))
(.seq (.blk 1 (.seq (.blk 2 (.loop (.seq (.seq (.drw [
.op ⟨(some 17), .mv (.t 7), none⟩,
.op ⟨(some 18), .mv (.t 2), none⟩,
.op ⟨(some 19), .bin .lss .no (.t 17) (.t 18), none⟩,
.op ⟨(some 20), .mv (.t 19), none⟩,
.op ⟨(some 21), .mv (.t 0), (some (20, true))⟩,
.op ⟨(some 22), .mv (.t 7), (some (20, true))⟩,
.op ⟨(some 23), .iaL 1 (.t 21) (.t 22), (some (20, true))⟩,
.op ⟨(some 24), .ld false 1 (.t 23), (some (20, true))⟩,
.op ⟨(some 25), .mv (.t 0), (some (20, true))⟩,
.op ⟨(some 26), .mv (.t 7), (some (20, true))⟩,
.op ⟨(some 27), .bin .sub .no (.t 26) (.c (.i .i64 1)), (some (20, true))⟩,
.op ⟨(some 28), .iaL 1 (.t 25) (.t 27), (some (20, true))⟩,
.op ⟨(some 29), .ld false 1 (.t 28), (some (20, true))⟩,
.op ⟨(some 30), .call 276 [(.t 24), (.t 29)], (some (20, true))⟩,
.op ⟨(some 31), .un .not (.t 30), (some (20, true))⟩,
.op ⟨(some 32), .pick (.t 20) (.t 31) (.c (.b false)), none⟩])
(.cond (.t 32)
.skip
(.exit 2)))
(.blk 3 (.reg [
⟨(some 33), .mv (.t 7), none⟩,
⟨(some 34), .bin .add .no (.t 33) (.c (.i .i64 1)), none⟩,
⟨(some 7), .mv (.t 34), none⟩])))))
(.seq (.seq (.reg [
⟨(some 35), .mv (.t 7), none⟩,
⟨(some 36), .mv (.t 2), none⟩,
⟨(some 37), .bin .eql .int (.t 35) (.t 36), none⟩])
(.cond (.t 37)
(.seq (.reg [
⟨(some 6), .mv (.c (.b true)), none⟩])
.ret)
.skip))
(.seq (.seq (.reg [
⟨(some 38), .mv (.t 2), none⟩,
⟨(some 39), .mv (.t 1), none⟩,
⟨(some 40), .bin .sub .no (.t 38) (.t 39), none⟩,
⟨(some 41), .bin .lss .no (.t 40) (.c (.i .i64 50)), none⟩])
(.cond (.t 41)
(.seq (.reg [
⟨(some 6), .mv (.c (.b false)), none⟩])
.ret)
.skip))
(.seq (.drw [
.op ⟨(some 42), .mv (.t 0), none⟩,
.op ⟨(some 43), .mv (.t 7), none⟩,
.op ⟨(some 44), .mv (.t 0), none⟩,
.op ⟨(some 45), .mv (.t 7), none⟩,
.op ⟨(some 46), .bin .sub .no (.t 45) (.c (.i .i64 1)), none⟩,
.op ⟨(some 47), .mv (.t 0), none⟩,
.op ⟨(some 48), .mv (.t 7), none⟩,
.op ⟨(some 49), .bin .sub .no (.t 48) (.c (.i .i64 1)), none⟩,
.op ⟨(some 50), .iaL 1 (.t 47) (.t 49), none⟩,
.op ⟨(some 51), .ld false 1 (.t 50), none⟩,
.op ⟨(some 52), .mv (.t 0), none⟩,
.op ⟨(some 53), .mv (.t 7), none⟩,
.op ⟨(some 54), .iaL 1 (.t 52) (.t 53), none⟩,
.op ⟨(some 55), .ld false 1 (.t 54), none⟩,
.op ⟨(some 56), .iaL 1 (.t 42) (.t 43), none⟩,
.op ⟨none, .st 1 (.t 56) (.t 51), none⟩,
.op ⟨(some 57), .iaL 1 (.t 44) (.t 46), none⟩,
.op ⟨none, .st 1 (.t 57) (.t 55), none⟩])
(.seq (.seq (.reg [
⟨(some 58), .mv (.t 7), none⟩,
⟨(some 59), .mv (.t 1), none⟩,
⟨(some 60), .bin .sub .no (.t 58) (.t 59), none⟩,
⟨(some 61), .bin .geq .no (.t 60) (.c (.i .i64 2)), none⟩])
(.cond (.t 61)
(.seq (.reg [
⟨(some 62), .mv (.t 7), none⟩,
⟨(some 63), .bin .sub .no (.t 62) (.c (.i .i64 1)), none⟩,
⟨(some 9), .mv (.t 63), none⟩])
(.blk 4 (.loop (.seq (.seq (.reg [
⟨(some 64), .mv (.t 9), none⟩,
⟨(some 65), .bin .geq .no (.t 64) (.c (.i .i64 1)), none⟩])
(.cond (.t 65)
.skip
(.exit 4)))
(.seq (.blk 5 (.seq (.seq (.drw [
.op ⟨(some 68), .mv (.t 0), none⟩,
.op ⟨(some 69), .mv (.t 9), none⟩,
.op ⟨(some 70), .iaL 1 (.t 68) (.t 69), none⟩,
.op ⟨(some 71), .ld false 1 (.t 70), none⟩,
.op ⟨(some 72), .mv (.t 0), none⟩,
.op ⟨(some 73), .mv (.t 9), none⟩,
.op ⟨(some 74), .bin .sub .no (.t 73) (.c (.i .i64 1)), none⟩,
.op ⟨(some 75), .iaL 1 (.t 72) (.t 74), none⟩,
.op ⟨(some 76), .ld false 1 (.t 75), none⟩,
.op ⟨(some 77), .call 276 [(.t 71), (.t 76)], none⟩,
.op ⟨(some 78), .un .not (.t 77), none⟩])
(.cond (.t 78)
(.exit 4)
.skip))
(.drw [
.op ⟨(some 79), .mv (.t 0), none⟩,
.op ⟨(some 80), .mv (.t 9), none⟩,
.op ⟨(some 81), .mv (.t 0), none⟩,
.op ⟨(some 82), .mv (.t 9), none⟩,
.op ⟨(some 83), .bin .sub .no (.t 82) (.c (.i .i64 1)), none⟩,
.op ⟨(some 84), .mv (.t 0), none⟩,
.op ⟨(some 85), .mv (.t 9), none⟩,
.op ⟨(some 86), .bin .sub .no (.t 85) (.c (.i .i64 1)), none⟩,
.op ⟨(some 87), .iaL 1 (.t 84) (.t 86), none⟩,
.op ⟨(some 88), .ld false 1 (.t 87), none⟩,
.op ⟨(some 89), .mv (.t 0), none⟩,
.op ⟨(some 90), .mv (.t 9), none⟩,
.op ⟨(some 91), .iaL 1 (.t 89) (.t 90), none⟩,
.op ⟨(some 92), .ld false 1 (.t 91), none⟩,
.op ⟨(some 93), .iaL 1 (.t 79) (.t 80), none⟩,
.op ⟨none, .st 1 (.t 93) (.t 88), none⟩,
.op ⟨(some 94), .iaL 1 (.t 81) (.t 83), none⟩,
.op ⟨none, .st 1 (.t 94) (.t 92), none⟩])))
(.reg [
⟨(some 66), .mv (.t 9), none⟩,
⟨(some 67), .bin .sub .no (.t 66) (.c (.i .i64 1)), none⟩,
⟨(some 9), .mv (.t 67), none⟩]))))))
.skip))
(.seq (.reg [
⟨(some 95), .mv (.t 2), none⟩,
⟨(some 96), .mv (.t 7), none⟩,
⟨(some 97), .bin .sub .no (.t 95) (.t 96), none⟩,
⟨(some 98), .bin .geq .no (.t 97) (.c (.i .i64 2)), none⟩])
(.cond (.t 98)
(.seq (.reg [
⟨(some 99), .mv (.t 7), none⟩,
⟨(some 100), .bin .add .no (.t 99) (.c (.i .i64 1)), none⟩,
⟨(some 10), .mv (.t 100), none⟩])
(.blk 6 (.loop (.seq (.seq (.reg [
⟨(some 101), .mv (.t 10), none⟩,
⟨(some 102), .mv (.t 2), none⟩,
⟨(some 103), .bin .lss .no (.t 101) (.t 102), none⟩])
(.cond (.t 103)
.skip
(.exit 6)))
(.seq (.blk 7 (.seq (.seq (.drw [
.op ⟨(some 106), .mv (.t 0), none⟩,
.op ⟨(some 107), .mv (.t 10), none⟩,
.op ⟨(some 108), .iaL 1 (.t 106) (.t 107), none⟩,
.op ⟨(some 109), .ld false 1 (.t 108), none⟩,
.op ⟨(some 110), .mv (.t 0), none⟩,
.op ⟨(some 111), .mv (.t 10), none⟩,
.op ⟨(some 112), .bin .sub .no (.t 111) (.c (.i .i64 1)), none⟩,
.op ⟨(some 113), .iaL 1 (.t 110) (.t 112), none⟩,
.op ⟨(some 114), .ld false 1 (.t 113), none⟩,
.op ⟨(some 115), .call 276 [(.t 109), (.t 114)], none⟩,
.op ⟨(some 116), .un .not (.t 115), none⟩])
(.cond (.t 116)
(.exit 6)
.skip))
(.drw [
.op ⟨(some 117), .mv (.t 0), none⟩,
.op ⟨(some 118), .mv (.t 10), none⟩,
.op ⟨(some 119), .mv (.t 0), none⟩,
.op ⟨(some 120), .mv (.t 10), none⟩,
.op ⟨(some 121), .bin .sub .no (.t 120) (.c (.i .i64 1)), none⟩,
.op ⟨(some 122), .mv (.t 0), none⟩,
.op ⟨(some 123), .mv (.t 10), none⟩,
.op ⟨(some 124), .bin .sub .no (.t 123) (.c (.i .i64 1)), none⟩,
.op ⟨(some 125), .iaL 1 (.t 122) (.t 124), none⟩,
.op ⟨(some 126), .ld false 1 (.t 125), none⟩,
.op ⟨(some 127), .mv (.t 0), none⟩,
.op ⟨(some 128), .mv (.t 10), none⟩,
.op ⟨(some 129), .iaL 1 (.t 127) (.t 128), none⟩,
.op ⟨(some 130), .ld false 1 (.t 129), none⟩,
.op ⟨(some 131), .iaL 1 (.t 117) (.t 118), none⟩,
.op ⟨none, .st 1 (.t 131) (.t 126), none⟩,
.op ⟨(some 132), .iaL 1 (.t 119) (.t 121), none⟩,
.op ⟨none, .st 1 (.t 132) (.t 130), none⟩])))
(.reg [
⟨(some 104), .mv (.t 10), none⟩,
⟨(some 105), .bin .add .no (.t 104) (.c (.i .i64 1)), none⟩,
⟨(some 10), .mv (.t 105), none⟩]))))))
.skip))))))))
(.reg [
⟨(some 15), .mv (.t 8), none⟩,
⟨(some 16), .bin .add .no (.t 15) (.c (.i .i64 1)), none⟩,
⟨(some 8), .mv (.t 16), none⟩]))))))
(.seq (.reg [
⟨(some 6), .mv (.c (.b false)), none⟩])
.ret))))⟩
def f276 : AF := ⟨17, [.t 4], (.seq (.reg [
⟨(some 4), .mv (.c (.b false)), none⟩])
(.seq (.reg [
⟨(some 5), .mv (.t 0), none⟩,
⟨(some 6), .call 291 [(.t 5)], none⟩,
⟨(some 7), .mv (.t 6), none⟩,
⟨(some 8), .mv (.t 1), (some (7, true))⟩,
⟨(some 9), .call 291 [(.t 8)], (some (7, true))⟩,
⟨(some 10), .un .not (.t 9), (some (7, true))⟩,
⟨(some 11), .pick (.t 7) (.t 10) (.c (.b false)), none⟩,
⟨(some 12), .mv (.t 11), none⟩,
⟨(some 13), .mv (.t 0), (some (12, false))⟩,
⟨(some 14), .mv (.t 1), (some (12, false))⟩,
⟨(some 15), .bin .lss .no (.t 13) (.t 14), (some (12, false))⟩,
⟨(some 16), .pick (.t 12) (.c (.b true)) (.t 15), none⟩,
⟨(some 4), .mv (.t 16), none⟩])
.ret))⟩
def f277 : AF := ⟨84, [.t 8], (.seq (.reg [
⟨(some 8), .mv (.c (.i .i64 0)), none⟩])
(.seq (.drw [
.op ⟨(some 11), .mv (.t 0), none⟩,
.op ⟨(some 12), .mv (.t 1), none⟩,
.op ⟨(some 13), .mv (.t 0), none⟩,
.op ⟨(some 14), .mv (.t 3), none⟩,
.op ⟨(some 15), .mv (.t 0), none⟩,
.op ⟨(some 16), .mv (.t 3), none⟩,
.op ⟨(some 17), .iaL 1 (.t 15) (.t 16), none⟩,
.op ⟨(some 18), .ld false 1 (.t 17), none⟩,
.op ⟨(some 19), .mv (.t 0), none⟩,
.op ⟨(some 20), .mv (.t 1), none⟩,
.op ⟨(some 21), .iaL 1 (.t 19) (.t 20), none⟩,
.op ⟨(some 22), .ld false 1 (.t 21), none⟩,
.op ⟨(some 23), .iaL 1 (.t 11) (.t 12), none⟩,
.op ⟨none, .st 1 (.t 23) (.t 18), none⟩,
.op ⟨(some 24), .iaL 1 (.t 13) (.t 14), none⟩,
.op ⟨none, .st 1 (.t 24) (.t 22), none⟩])
(.seq (.reg [
⟨(some 25), .mv (.t 1), none⟩,
⟨(some 26), .bin .add .no (.t 25) (.c (.i .i64 1)), none⟩,
⟨(some 27), .mv (.t 2), none⟩,
⟨(some 28), .bin .sub .no (.t 27) (.c (.i .i64 1)), none⟩,
⟨(some 9), .mv (.t 26), none⟩,
⟨(some 10), .mv (.t 28), none⟩])
(.seq (.blk 0 (.loop (.blk 1 (.seq (.blk 2 (.loop (.seq (.seq (.drw [
.op ⟨(some 29), .mv (.t 9), none⟩,
.op ⟨(some 30), .mv (.t 10), none⟩,
.op ⟨(some 31), .bin .leq .no (.t 29) (.t 30), none⟩,
.op ⟨(some 32), .mv (.t 31), none⟩,
.op ⟨(some 33), .mv (.t 0), (some (32, true))⟩,
.op ⟨(some 34), .mv (.t 1), (some (32, true))⟩,
.op ⟨(some 35), .iaL 1 (.t 33) (.t 34), (some (32, true))⟩,
.op ⟨(some 36), .ld false 1 (.t 35), (some (32, true))⟩,
.op ⟨(some 37), .mv (.t 0), (some (32, true))⟩,
.op ⟨(some 38), .mv (.t 9), (some (32, true))⟩,
.op ⟨(some 39), .iaL 1 (.t 37) (.t 38), (some (32, true))⟩,
.op ⟨(some 40), .ld false 1 (.t 39), (some (32, true))⟩,
.op ⟨(some 41), .call 276 [(.t 36), (.t 40)], (some (32, true))⟩,
.op ⟨(some 42), .un .not (.t 41), (some (32, true))⟩,
.op ⟨(some 43), .pick (.t 32) (.t 42) (.c (.b false)), none⟩])
(.cond (.t 43)
.skip
(.exit 2)))
(.blk 3 (.reg [
⟨(some 44), .mv (.t 9), none⟩,
⟨(some 45), .bin .add .no (.t 44) (.c (.i .i64 1)), none⟩,
⟨(some 9), .mv (.t 45), none⟩])))))
(.seq (.blk 4 (.loop (.seq (.seq (.drw [
.op ⟨(some 46), .mv (.t 9), none⟩,
.op ⟨(some 47), .mv (.t 10), none⟩,
.op ⟨(some 48), .bin .leq .no (.t 46) (.t 47), none⟩,
.op ⟨(some 49), .mv (.t 48), none⟩,
.op ⟨(some 50), .mv (.t 0), (some (49, true))⟩,
.op ⟨(some 51), .mv (.t 1), (some (49, true))⟩,
.op ⟨(some 52), .iaL 1 (.t 50) (.t 51), (some (49, true))⟩,
.op ⟨(some 53), .ld false 1 (.t 52), (some (49, true))⟩,
.op ⟨(some 54), .mv (.t 0), (some (49, true))⟩,
.op ⟨(some 55), .mv (.t 10), (some (49, true))⟩,
.op ⟨(some 56), .iaL 1 (.t 54) (.t 55), (some (49, true))⟩,
.op ⟨(some 57), .ld false 1 (.t 56), (some (49, true))⟩,
.op ⟨(some 58), .call 276 [(.t 53), (.t 57)], (some (49, true))⟩,
.op ⟨(some 59), .pick (.t 49) (.t 58) (.c (.b false)), none⟩])
(.cond (.t 59)
.skip
(.exit 4)))
(.blk 5 (.reg [
⟨(some 60), .mv (.t 10), none⟩,
⟨(some 61), .bin .sub .no (.t 60) (.c (.i .i64 1)), none⟩,
⟨(some 10), .mv (.t 61), none⟩])))))
(.seq (.seq (.reg [
⟨(some 62), .mv (.t 9), none⟩,
⟨(some 63), .mv (.t 10), none⟩,
⟨(some 64), .bin .gtr .no (.t 62) (.t 63), none⟩])
(.cond (.t 64)
(.exit 0)
.skip))
(.seq (.drw [
.op ⟨(some 65), .mv (.t 0), none⟩,
.op ⟨(some 66), .mv (.t 9), none⟩,
.op ⟨(some 67), .mv (.t 0), none⟩,
.op ⟨(some 68), .mv (.t 10), none⟩,
.op ⟨(some 69), .mv (.t 0), none⟩,
.op ⟨(some 70), .mv (.t 10), none⟩,
.op ⟨(some 71), .iaL 1 (.t 69) (.t 70), none⟩,
.op ⟨(some 72), .ld false 1 (.t 71), none⟩,
.op ⟨(some 73), .mv (.t 0), none⟩,
.op ⟨(some 74), .mv (.t 9), none⟩,
.op ⟨(some 75), .iaL 1 (.t 73) (.t 74), none⟩,
.op ⟨(some 76), .ld false 1 (.t 75), none⟩,
.op ⟨(some 77), .iaL 1 (.t 65) (.t 66), none⟩,
.op ⟨none, .st 1 (.t 77) (.t 72), none⟩,
.op ⟨(some 78), .iaL 1 (.t 67) (.t 68), none⟩,
.op ⟨none, .st 1 (.t 78) (.t 76), none⟩])
(.seq (.reg [
⟨(some 79), .mv (.t 9), none⟩,
⟨(some 80), .bin .add .no (.t 79) (.c (.i .i64 1)), none⟩,
⟨(some 9), .mv (.t 80), none⟩])
(.reg [
⟨(some 81), .mv (.t 10), none⟩,
⟨(some 82), .bin .sub .no (.t 81) (.c (.i .i64 1)), none⟩,
⟨(some 10), .mv (.t 82), none⟩])))))))))
(.seq (.reg [
⟨(some 83), .mv (.t 9), none⟩,
⟨(some 8), .mv (.t 83), none⟩])
.ret)))))⟩
def f278 : AF := ⟨168, [.t 8, .t 9], (.seq (.reg [
⟨(some 8), .mv (.c (.i .i64 0)), none⟩,
⟨(some 9), .mv (.c (.b false)), none⟩])
(.seq (.drw [
.op ⟨(some 12), .mv (.t 0), none⟩,
.op ⟨(some 13), .mv (.t 1), none⟩,
.op ⟨(some 14), .mv (.t 0), none⟩,
.op ⟨(some 15), .mv (.t 3), none⟩,
.op ⟨(some 16), .mv (.t 0), none⟩,
.op ⟨(some 17), .mv (.t 3), none⟩,
.op ⟨(some 18), .iaL 1 (.t 16) (.t 17), none⟩,
.op ⟨(some 19), .ld false 1 (.t 18), none⟩,
.op ⟨(some 20), .mv (.t 0), none⟩,
.op ⟨(some 21), .mv (.t 1), none⟩,
.op ⟨(some 22), .iaL 1 (.t 20) (.t 21), none⟩,
.op ⟨(some 23), .ld false 1 (.t 22), none⟩,
.op ⟨(some 24), .iaL 1 (.t 12) (.t 13), none⟩,
.op ⟨none, .st 1 (.t 24) (.t 19), none⟩,
.op ⟨(some 25), .iaL 1 (.t 14) (.t 15), none⟩,
.op ⟨none, .st 1 (.t 25) (.t 23), none⟩])
(.seq (.reg [
⟨(some 26), .mv (.t 1), none⟩,
⟨(some 27), .bin .add .no (.t 26) (.c (.i .i64 1)), none⟩,
⟨(some 28), .mv (.t 2), none⟩,
⟨(some 29), .bin .sub .no (.t 28) (.c (.i .i64 1)), none⟩,
⟨(some 10), .mv (.t 27), none⟩,
⟨(some 11), .mv (.t 29), none⟩])
(.seq (.blk 0 (.loop (.seq (.seq (.drw [
.op ⟨(some 30), .mv (.t 10), none⟩,
.op ⟨(some 31), .mv (.t 11), none⟩,
.op ⟨(some 32), .bin .leq .no (.t 30) (.t 31), none⟩,
.op ⟨(some 33), .mv (.t 32), none⟩,
.op ⟨(some 34), .mv (.t 0), (some (33, true))⟩,
.op ⟨(some 35), .mv (.t 10), (some (33, true))⟩,
.op ⟨(some 36), .iaL 1 (.t 34) (.t 35), (some (33, true))⟩,
.op ⟨(some 37), .ld false 1 (.t 36), (some (33, true))⟩,
.op ⟨(some 38), .mv (.t 0), (some (33, true))⟩,
.op ⟨(some 39), .mv (.t 1), (some (33, true))⟩,
.op ⟨(some 40), .iaL 1 (.t 38) (.t 39), (some (33, true))⟩,
.op ⟨(some 41), .ld false 1 (.t 40), (some (33, true))⟩,
.op ⟨(some 42), .call 276 [(.t 37), (.t 41)], (some (33, true))⟩,
.op ⟨(some 43), .pick (.t 33) (.t 42) (.c (.b false)), none⟩])
(.cond (.t 43)
.skip
(.exit 0)))
(.blk 1 (.reg [
⟨(some 44), .mv (.t 10), none⟩,
⟨(some 45), .bin .add .no (.t 44) (.c (.i .i64 1)), none⟩,
⟨(some 10), .mv (.t 45), none⟩])))))
(.seq (.blk 2 (.loop (.seq (.seq (.drw [
.op ⟨(some 46), .mv (.t 10), none⟩,
.op ⟨(some 47), .mv (.t 11), none⟩,
.op ⟨(some 48), .bin .leq .no (.t 46) (.t 47), none⟩,
.op ⟨(some 49), .mv (.t 48), none⟩,
.op ⟨(some 50), .mv (.t 0), (some (49, true))⟩,
.op ⟨(some 51), .mv (.t 11), (some (49, true))⟩,
.op ⟨(some 52), .iaL 1 (.t 50) (.t 51), (some (49, true))⟩,
.op ⟨(some 53), .ld false 1 (.t 52), (some (49, true))⟩,
.op ⟨(some 54), .mv (.t 0), (some (49, true))⟩,
.op ⟨(some 55), .mv (.t 1), (some (49, true))⟩,
.op ⟨(some 56), .iaL 1 (.t 54) (.t 55), (some (49, true))⟩,
.op ⟨(some 57), .ld false 1 (.t 56), (some (49, true))⟩,
.op ⟨(some 58), .call 276 [(.t 53), (.t 57)], (some (49, true))⟩,
.op ⟨(some 59), .un .not (.t 58), (some (49, true))⟩,
.op ⟨(some 60), .pick (.t 49) (.t 59) (.c (.b false)), none⟩])
(.cond (.t 60)
.skip
(.exit 2)))
(.blk 3 (.reg [
⟨(some 61), .mv (.t 11), none⟩,
⟨(some 62), .bin .sub .no (.t 61) (.c (.i .i64 1)), none⟩,
⟨(some 11), .mv (.t 62), none⟩])))))
(.seq (.seq (.reg [
⟨(some 63), .mv (.t 10), none⟩,
⟨(some 64), .mv (.t 11), none⟩,
⟨(some 65), .bin .gtr .no (.t 63) (.t 64), none⟩])
(.cond (.t 65)
(.seq (.drw [
.op ⟨(some 66), .mv (.t 0), none⟩,
.op ⟨(some 67), .mv (.t 11), none⟩,
.op ⟨(some 68), .mv (.t 0), none⟩,
.op ⟨(some 69), .mv (.t 1), none⟩,
.op ⟨(some 70), .mv (.t 0), none⟩,
.op ⟨(some 71), .mv (.t 1), none⟩,
.op ⟨(some 72), .iaL 1 (.t 70) (.t 71), none⟩,
.op ⟨(some 73), .ld false 1 (.t 72), none⟩,
.op ⟨(some 74), .mv (.t 0), none⟩,
.op ⟨(some 75), .mv (.t 11), none⟩,
.op ⟨(some 76), .iaL 1 (.t 74) (.t 75), none⟩,
.op ⟨(some 77), .ld false 1 (.t 76), none⟩,
.op ⟨(some 78), .iaL 1 (.t 66) (.t 67), none⟩,
.op ⟨none, .st 1 (.t 78) (.t 73), none⟩,
.op ⟨(some 79), .iaL 1 (.t 68) (.t 69), none⟩,
.op ⟨none, .st 1 (.t 79) (.t 77), none⟩])
(.seq (.reg [
⟨(some 80), .mv (.t 11), none⟩,
⟨(some 8), .mv (.t 80), none⟩,
⟨(some 9), .mv (.c (.b true)), none⟩])
.ret))
.skip))
(.seq (.drw [
.op ⟨(some 81), .mv (.t 0), none⟩,
.op ⟨(some 82), .mv (.t 10), none⟩,
.op ⟨(some 83), .mv (.t 0), none⟩,
.op ⟨(some 84), .mv (.t 11), none⟩,
.op ⟨(some 85), .mv (.t 0), none⟩,
.op ⟨(some 86), .mv (.t 11), none⟩,
.op ⟨(some 87), .iaL 1 (.t 85) (.t 86), none⟩,
.op ⟨(some 88), .ld false 1 (.t 87), none⟩,
.op ⟨(some 89), .mv (.t 0), none⟩,
.op ⟨(some 90), .mv (.t 10), none⟩,
.op ⟨(some 91), .iaL 1 (.t 89) (.t 90), none⟩,
.op ⟨(some 92), .ld false 1 (.t 91), none⟩,
.op ⟨(some 93), .iaL 1 (.t 81) (.t 82), none⟩,
.op ⟨none, .st 1 (.t 93) (.t 88), none⟩,
.op ⟨(some 94), .iaL 1 (.t 83) (.t 84), none⟩,
.op ⟨none, .st 1 (.t 94) (.t 92), none⟩])
(.seq (.reg [
⟨(some 95), .mv (.t 10), none⟩,
⟨(some 96), .bin .add .no (.t 95) (.c (.i .i64 1)), none⟩,
⟨(some 10), .mv (.t 96), none⟩])
(.seq (.reg [
⟨(some 97), .mv (.t 11), none⟩,
⟨(some 98), .bin .sub .no (.t 97) (.c (.i .i64 1)), none⟩,
⟨(some 11), .mv (.t 98), none⟩])
(.seq (.blk 4 (.loop (.blk 5 (.seq (.blk 6 (.loop (.seq (.seq (.drw [
.op ⟨(some 99), .mv (.t 10), none⟩,
.op ⟨(some 100), .mv (.t 11), none⟩,
.op ⟨(some 101), .bin .leq .no (.t 99) (.t 100), none⟩,
.op ⟨(some 102), .mv (.t 101), none⟩,
.op ⟨(some 103), .mv (.t 0), (some (102, true))⟩,
.op ⟨(some 104), .mv (.t 10), (some (102, true))⟩,
.op ⟨(some 105), .iaL 1 (.t 103) (.t 104), (some (102, true))⟩,
.op ⟨(some 106), .ld false 1 (.t 105), (some (102, true))⟩,
.op ⟨(some 107), .mv (.t 0), (some (102, true))⟩,
.op ⟨(some 108), .mv (.t 1), (some (102, true))⟩,
.op ⟨(some 109), .iaL 1 (.t 107) (.t 108), (some (102, true))⟩,
.op ⟨(some 110), .ld false 1 (.t 109), (some (102, true))⟩,
.op ⟨(some 111), .call 276 [(.t 106), (.t 110)], (some (102, true))⟩,
.op ⟨(some 112), .pick (.t 102) (.t 111) (.c (.b false)), none⟩])
(.cond (.t 112)
.skip
(.exit 6)))
(.blk 7 (.reg [
⟨(some 113), .mv (.t 10), none⟩,
⟨(some 114), .bin .add .no (.t 113) (.c (.i .i64 1)), none⟩,
⟨(some 10), .mv (.t 114), none⟩])))))
(.seq (.blk 8 (.loop (.seq (.seq (.drw [
.op ⟨(some 115), .mv (.t 10), none⟩,
.op ⟨(some 116), .mv (.t 11), none⟩,
.op ⟨(some 117), .bin .leq .no (.t 115) (.t 116), none⟩,
.op ⟨(some 118), .mv (.t 117), none⟩,
.op ⟨(some 119), .mv (.t 0), (some (118, true))⟩,
.op ⟨(some 120), .mv (.t 11), (some (118, true))⟩,
.op ⟨(some 121), .iaL 1 (.t 119) (.t 120), (some (118, true))⟩,
.op ⟨(some 122), .ld false 1 (.t 121), (some (118, true))⟩,
.op ⟨(some 123), .mv (.t 0), (some (118, true))⟩,
.op ⟨(some 124), .mv (.t 1), (some (118, true))⟩,
.op ⟨(some 125), .iaL 1 (.t 123) (.t 124), (some (118, true))⟩,
.op ⟨(some 126), .ld false 1 (.t 125), (some (118, true))⟩,
.op ⟨(some 127), .call 276 [(.t 122), (.t 126)], (some (118, true))⟩,
.op ⟨(some 128), .un .not (.t 127), (some (118, true))⟩,
.op ⟨(some 129), .pick (.t 118) (.t 128) (.c (.b false)), none⟩])
(.cond (.t 129)
.skip
(.exit 8)))
(.blk 9 (.reg [
⟨(some 130), .mv (.t 11), none⟩,
⟨(some 131), .bin .sub .no (.t 130) (.c (.i .i64 1)), none⟩,
⟨(some 11), .mv (.t 131), none⟩])))))
(.seq (.seq (.reg [
⟨(some 132), .mv (.t 10), none⟩,
⟨(some 133), .mv (.t 11), none⟩,
⟨(some 134), .bin .gtr .no (.t 132) (.t 133), none⟩])
(.cond (.t 134)
(.exit 4)
.skip))
(.seq (.drw [
.op ⟨(some 135), .mv (.t 0), none⟩,
.op ⟨(some 136), .mv (.t 10), none⟩,
.op ⟨(some 137), .mv (.t 0), none⟩,
.op ⟨(some 138), .mv (.t 11), none⟩,
.op ⟨(some 139), .mv (.t 0), none⟩,
.op ⟨(some 140), .mv (.t 11), none⟩,
.op ⟨(some 141), .iaL 1 (.t 139) (.t 140), none⟩,
.op ⟨(some 142), .ld false 1 (.t 141), none⟩,
.op ⟨(some 143), .mv (.t 0), none⟩,
.op ⟨(some 144), .mv (.t 10), none⟩,
.op ⟨(some 145), .iaL 1 (.t 143) (.t 144), none⟩,
.op ⟨(some 146), .ld false 1 (.t 145), none⟩,
.op ⟨(some 147), .iaL 1 (.t 135) (.t 136), none⟩,
.op ⟨none, .st 1 (.t 147) (.t 142), none⟩,
.op ⟨(some 148), .iaL 1 (.t 137) (.t 138), none⟩,
.op ⟨none, .st 1 (.t 148) (.t 146), none⟩])
(.seq (.reg [
⟨(some 149), .mv (.t 10), none⟩,
⟨(some 150), .bin .add .no (.t 149) (.c (.i .i64 1)), none⟩,
⟨(some 10), .mv (.t 150), none⟩])
(.reg [
⟨(some 151), .mv (.t 11), none⟩,
⟨(some 152), .bin .sub .no (.t 151) (.c (.i .i64 1)), none⟩,
⟨(some 11), .mv (.t 152), none⟩])))))))))
(.seq (.drw [
.op ⟨(some 153), .mv (.t 0), none⟩,
.op ⟨(some 154), .mv (.t 11), none⟩,
.op ⟨(some 155), .mv (.t 0), none⟩,
.op ⟨(some 156), .mv (.t 1), none⟩,
.op ⟨(some 157), .mv (.t 0), none⟩,
.op ⟨(some 158), .mv (.t 1), none⟩,
.op ⟨(some 159), .iaL 1 (.t 157) (.t 158), none⟩,
.op ⟨(some 160), .ld false 1 (.t 159), none⟩,
.op ⟨(some 161), .mv (.t 0), none⟩,
.op ⟨(some 162), .mv (.t 11), none⟩,
.op ⟨(some 163), .iaL 1 (.t 161) (.t 162), none⟩,
.op ⟨(some 164), .ld false 1 (.t 163), none⟩,
.op ⟨(some 165), .iaL 1 (.t 153) (.t 154), none⟩,
.op ⟨none, .st 1 (.t 165) (.t 160), none⟩,
.op ⟨(some 166), .iaL 1 (.t 155) (.t 156), none⟩,
.op ⟨none, .st 1 (.t 166) (.t 164), none⟩])
(.seq (.reg [
⟨(some 167), .mv (.t 11), none⟩,
⟨(some 8), .mv (.t 167), none⟩,
⟨(some 9), .mv (.c (.b false)), none⟩])
.ret))))))))))))⟩
def f279 : AF := ⟨28, [.t 8, .t 9], (.seq (.reg [
⟨(some 8), .mv (.c (.i .i64 0)), none⟩,
⟨(some 9), .mv (.c (.i .i64 0)), none⟩])
(.seq (.seq (.drw [
.op ⟨(some 10), .mv (.t 0), none⟩,
.op ⟨(some 11), .mv (.t 2), none⟩,
.op ⟨(some 12), .iaL 1 (.t 10) (.t 11), none⟩,
.op ⟨(some 13), .ld false 1 (.t 12), none⟩,
.op ⟨(some 14), .mv (.t 0), none⟩,
.op ⟨(some 15), .mv (.t 1), none⟩,
.op ⟨(some 16), .iaL 1 (.t 14) (.t 15), none⟩,
.op ⟨(some 17), .ld false 1 (.t 16), none⟩,
.op ⟨(some 18), .call 209 [(.t 13), (.t 17)], none⟩])
(.cond (.t 18)
(.seq (.reg [
⟨(some 19), .mv (.t 3), none⟩,
⟨(some 20), .nck (.t 19), none⟩,
⟨(some 21), .ld false 1 (.t 20), none⟩,
⟨(some 22), .bin .add .no (.t 21) (.c (.i .i64 1)), none⟩,
⟨(some 23), .nck (.t 19), none⟩,
⟨none, .st 1 (.t 23) (.t 22), none⟩])
(.seq (.reg [
⟨(some 24), .mv (.t 2), none⟩,
⟨(some 25), .mv (.t 1), none⟩,
⟨(some 8), .mv (.t 24), none⟩,
⟨(some 9), .mv (.t 25), none⟩])
.ret))
.skip))
(.seq (.reg [
⟨(some 26), .mv (.t 1), none⟩,
⟨(some 27), .mv (.t 2), none⟩,
⟨(some 8), .mv (.t 26), none⟩,
⟨(some 9), .mv (.t 27), none⟩])
.ret)))⟩
def f280 : AF := ⟨19, [.t 4], (.seq (.reg [
⟨(some 3), .box 1 (.t 1), none⟩,
⟨(some 4), .mv (.c (.i .i64 0)), none⟩])
(.seq (.reg [
⟨(some 5), .alloc [(.i .i64 0)], none⟩,
⟨none, .st 1 (.t 5) (.c (.i .i64 0)), none⟩])
(.seq (.seq (.reg [
⟨(some 8), .mv (.t 0), none⟩,
⟨(some 9), .call 97 [(.t 8)], none⟩])
(.blk 0 (.rf (.t 9) [10, 11] (.seq (.reg [
⟨(some 6), .mv (.t 10), none⟩])
(.reg [
⟨(some 7), .mv (.t 11), none⟩]))
(.blk 1 (.seq (.reg [
⟨(some 12), .mv (.t 6), none⟩,
⟨(some 13), .ld false 1 (.t 3), none⟩,
⟨(some 14), .bin .eql .str (.t 12) (.t 13), none⟩])
(.cond (.t 14)
(.reg [
⟨(some 15), .ld false 1 (.t 5), none⟩,
⟨(some 16), .mv (.t 7), none⟩,
⟨(some 17), .bin .add .no (.t 15) (.t 16), none⟩,
⟨none, .st 1 (.t 5) (.t 17), none⟩])
.skip))))))
(.seq (.reg [
⟨(some 18), .ld false 1 (.t 5), none⟩,
⟨(some 4), .mv (.t 18), none⟩])
.ret))))⟩
def f281 : AF := ⟨19, [.t 4], (.seq (.reg [
⟨(some 4), .mv (.c (.i .i64 0)), none⟩])
(.seq (.seq (.reg [
⟨(some 6), .mv (.t 0), none⟩,
⟨(some 7), .len 1 (.t 6), none⟩,
⟨(some 8), .mv (.c (.i .i64 0)), none⟩])
(.blk 0 (.loop (.seq (.reg [
⟨(some 9), .bin .lss .no (.t 8) (.t 7), none⟩])
(.seq (.cond (.t 9)
.skip
(.exit 0))
(.seq (.blk 1 (.seq (.reg [
⟨(some 10), .mv (.t 8), none⟩,
⟨(some 5), .mv (.t 10), none⟩])
(.seq (.reg [
⟨(some 11), .mv (.t 1), none⟩,
⟨(some 12), .mv (.t 0), none⟩,
⟨(some 13), .mv (.t 5), none⟩,
⟨(some 14), .iaL 1 (.t 12) (.t 13), none⟩,
⟨(some 15), .ld false 1 (.t 14), none⟩,
⟨(some 16), .cald (.t 11) [(.t 15)], none⟩])
(.cond (.t 16)
(.seq (.reg [
⟨(some 17), .mv (.t 5), none⟩,
⟨(some 4), .mv (.t 17), none⟩])
.ret)
.skip))))
(.reg [
⟨(some 18), .bin .add .no (.t 8) (.c (.i .i64 1)), none⟩,
⟨(some 8), .mv (.t 18), none⟩])))))))
(.seq (.reg [
⟨(some 4), .mv (.c (.i .i64 (-1))), none⟩])
.ret)))⟩
def f282 : AF := ⟨36, [.t 4, .t 5], (.seq (.reg [
⟨(some 4), .mv (.c .nsl), none⟩,
⟨(some 5), .mv (.c .nsl), none⟩])
(.seq (.seq (.reg [
⟨(some 11), .mv (.t 0), none⟩,
⟨(some 12), .mv (.t 1), none⟩,
⟨(some 13), .call 292 [(.t 11), (.t 12)], none⟩,
⟨(some 14), .un .not (.t 13), none⟩])
(.cond (.t 14)
(.seq (.reg [
⟨(some 4), .mv (.c .nsl), none⟩,
⟨(some 5), .mv (.c .nsl), none⟩])
.ret)
.skip))
(.seq (.reg [
⟨(some 15), .mv (.t 0), none⟩,
⟨(some 16), .call 48 [(.t 15)], none⟩,
⟨(some 6), .mv (.t 16), none⟩])
(.seq (.reg [
⟨(some 7), .mv (.c .nsl), none⟩])
(.seq (.seq (.reg [
⟨(some 17), .mv (.t 1), none⟩,
⟨(some 18), .len 1 (.t 17), none⟩,
⟨(some 19), .mv (.c (.i .i64 0)), none⟩])
(.blk 0 (.loop (.seq (.reg [
⟨(some 20), .bin .lss .no (.t 19) (.t 18), none⟩])
(.seq (.cond (.t 20)
.skip
(.exit 0))
(.seq (.blk 1 (.seq (.reg [
⟨(some 21), .iaL 1 (.t 17) (.t 19), none⟩,
⟨(some 22), .ld false 1 (.t 21), none⟩,
⟨(some 9), .mv (.t 22), none⟩])
(.seq (.reg [
⟨(some 23), .mv (.t 6), none⟩,
⟨(some 24), .mv (.t 9), none⟩,
⟨(some 25), .call 293 [(.t 23), (.t 24)], none⟩,
⟨(some 10), .mv (.t 25), none⟩])
(.seq (.reg [
⟨(some 26), .mv (.t 6), none⟩,
⟨(some 27), .mv (.t 10), none⟩,
⟨(some 28), .call 217 [(.t 26), (.t 27)], none⟩,
⟨(some 6), .mv (.t 28), none⟩])
(.reg [
⟨(some 29), .mv (.t 7), none⟩,
⟨(some 30), .mv (.t 10), none⟩,
⟨(some 31), .bsl 1 [.nsl] [(0, 1, (.t 30))], none⟩,
⟨(some 32), .app 1 24 [.nsl] (.t 29) (.t 31), none⟩,
⟨(some 7), .mv (.t 32), none⟩])))))
(.reg [
⟨(some 33), .bin .add .no (.t 19) (.c (.i .i64 1)), none⟩,
⟨(some 19), .mv (.t 33), none⟩])))))))
(.seq (.reg [
⟨(some 34), .mv (.t 7), none⟩,
⟨(some 35), .mv (.t 6), none⟩,
⟨(some 4), .mv (.t 34), none⟩,
⟨(some 5), .mv (.t 35), none⟩])
.ret))))))⟩
def f283 : AF := ⟨19, [.t 4], (.seq (.reg [
⟨(some 4), .mv (.c (.i .i64 0)), none⟩])
(.seq (.seq (.reg [
⟨(some 6), .mv (.t 0), none⟩,
⟨(some 7), .len 1 (.t 6), none⟩,
⟨(some 8), .mv (.c (.i .i64 0)), none⟩])
(.blk 0 (.loop (.seq (.reg [
⟨(some 9), .bin .lss .no (.t 8) (.t 7), none⟩])
(.seq (.cond (.t 9)
.skip
(.exit 0))
(.seq (.blk 1 (.seq (.reg [
⟨(some 10), .mv (.t 8), none⟩,
⟨(some 5), .mv (.t 10), none⟩])
(.seq (.reg [
⟨(some 11), .mv (.t 1), none⟩,
⟨(some 12), .mv (.t 0), none⟩,
⟨(some 13), .mv (.t 5), none⟩,
⟨(some 14), .iaL 1 (.t 12) (.t 13), none⟩,
⟨(some 15), .ld false 1 (.t 14), none⟩,
⟨(some 16), .bin .eql .int (.t 11) (.t 15), none⟩])
(.cond (.t 16)
(.seq (.reg [
⟨(some 17), .mv (.t 5), none⟩,
⟨(some 4), .mv (.t 17), none⟩])
.ret)
.skip))))
(.reg [
⟨(some 18), .bin .add .no (.t 8) (.c (.i .i64 1)), none⟩,
⟨(some 8), .mv (.t 18), none⟩])))))))
(.seq (.reg [
⟨(some 4), .mv (.c (.i .i64 (-1))), none⟩])
.ret)))⟩
def f284 : AF := ⟨33, [.t 6], (.seq (.reg [
⟨(some 6), .mv (.c .nsl), none⟩])
(.seq (.reg [
⟨(some 8), .mv (.t 0), none⟩,
⟨(some 9), .mv (.t 1), none⟩,
⟨(some 10), .mv (.t 2), none⟩,
⟨(some 11), .mv (.t 0), none⟩,
⟨(some 12), .len 1 (.t 11), none⟩,
⟨(some 13), .slL 1 (.t 8) (some (.t 9)) (some (.t 10)) (some (.t 12)), none⟩])
(.seq (.seq (.reg [
⟨(some 14), .mv (.t 1), none⟩,
⟨(some 15), .mv (.t 2), none⟩,
⟨(some 16), .bin .eql .int (.t 14) (.t 15), none⟩])
(.cond (.t 16)
(.seq (.reg [
⟨(some 17), .mv (.t 0), none⟩,
⟨(some 6), .mv (.t 17), none⟩])
.ret)
.skip))
(.seq (.reg [
⟨(some 18), .mv (.t 0), none⟩,
⟨(some 19), .len 1 (.t 18), none⟩,
⟨(some 7), .mv (.t 19), none⟩])
(.seq (.drw [
.op ⟨(some 20), .mv (.t 0), none⟩,
.op ⟨(some 21), .mv (.t 1), none⟩,
.op ⟨(some 22), .slL 1 (.t 20) none (some (.t 21)) none, none⟩,
.op ⟨(some 23), .mv (.t 0), none⟩,
.op ⟨(some 24), .mv (.t 2), none⟩,
.op ⟨(some 25), .slL 1 (.t 23) (some (.t 24)) none none, none⟩,
.op ⟨(some 26), .app 1 8 [(.i .i64 0)] (.t 22) (.t 25), none⟩,
.op ⟨(some 0), .mv (.t 26), none⟩])
(.seq (.reg [
⟨(some 27), .mv (.t 0), none⟩,
⟨(some 28), .mv (.t 0), none⟩,
⟨(some 29), .len 1 (.t 28), none⟩,
⟨(some 30), .mv (.t 7), none⟩,
⟨(some 31), .slL 1 (.t 27) (some (.t 29)) (some (.t 30)) none, none⟩,
⟨none, .clr false [(.i .i64 0)] (.t 31), none⟩])
(.seq (.reg [
⟨(some 32), .mv (.t 0), none⟩,
⟨(some 6), .mv (.t 32), none⟩])
.ret)))))))⟩
def f285 : AF := ⟨8, [.t 3], (.seq (.reg [
⟨(some 2), .box 2 (.t 0), none⟩,
⟨(some 3), .mv (.c (.b false)), none⟩])
(.seq (.reg [
⟨(some 4), .fa 0 (.t 2), none⟩,
⟨(some 5), .ld false 1 (.t 4), none⟩,
⟨(some 6), .ld false 1 (.t 1), none⟩,
⟨(some 7), .bin .eql .int (.t 5) (.t 6), none⟩,
⟨(some 3), .mv (.t 7), none⟩])
.ret))⟩
def f286 : AF := ⟨9, [.t 4], (.seq (.reg [
⟨(some 4), .mv (.c (.b false)), none⟩])
(.seq (.reg [
⟨(some 5), .mv (.t 0), none⟩,
⟨(some 6), .mv (.t 1), none⟩,
⟨(some 7), .call 294 [(.t 5), (.t 6)], none⟩,
⟨(some 8), .bin .geq .no (.t 7) (.c (.i .i64 0)), none⟩,
⟨(some 4), .mv (.t 8), none⟩])
.ret))⟩
def f287 : AF := ⟨6, [.t 2], (.seq (.reg [
⟨(some 2), .mv (.c (.b false)), none⟩])
(.seq (.reg [
⟨(some 3), .mv (.t 0), none⟩,
⟨(some 4), .call 139 [(.t 3)], none⟩,
⟨(some 5), .un .not (.t 4), none⟩,
⟨(some 2), .mv (.t 5), none⟩])
.ret))⟩
def f288 : AF := ⟨76, [], (.seq (.reg [
⟨(some 10), .mv (.t 1), none⟩,
⟨(some 8), .mv (.t 10), none⟩])
(.blk 0 (.loop (.blk 1 (.seq (.reg [
⟨(some 11), .mv (.t 8), none⟩,
⟨(some 12), .bin .mul .no (.c (.i .i64 2)) (.t 11), none⟩,
⟨(some 13), .bin .add .no (.t 12) (.c (.i .i64 1)), none⟩,
⟨(some 9), .mv (.t 13), none⟩])
(.seq (.seq (.reg [
⟨(some 14), .mv (.t 9), none⟩,
⟨(some 15), .mv (.t 2), none⟩,
⟨(some 16), .bin .geq .no (.t 14) (.t 15), none⟩])
(.cond (.t 16)
(.exit 0)
.skip))
(.seq (.seq (.drw [
.op ⟨(some 17), .mv (.t 9), none⟩,
.op ⟨(some 18), .bin .add .no (.t 17) (.c (.i .i64 1)), none⟩,
.op ⟨(some 19), .mv (.t 2), none⟩,
.op ⟨(some 20), .bin .lss .no (.t 18) (.t 19), none⟩,
.op ⟨(some 21), .mv (.t 20), none⟩,
.op ⟨(some 22), .mv (.t 0), (some (21, true))⟩,
.op ⟨(some 23), .mv (.t 3), (some (21, true))⟩,
.op ⟨(some 24), .mv (.t 9), (some (21, true))⟩,
.op ⟨(some 25), .bin .add .no (.t 23) (.t 24), (some (21, true))⟩,
.op ⟨(some 26), .iaL 1 (.t 22) (.t 25), (some (21, true))⟩,
.op ⟨(some 27), .ld false 1 (.t 26), (some (21, true))⟩,
.op ⟨(some 28), .mv (.t 0), (some (21, true))⟩,
.op ⟨(some 29), .mv (.t 3), (some (21, true))⟩,
.op ⟨(some 30), .mv (.t 9), (some (21, true))⟩,
.op ⟨(some 31), .bin .add .no (.t 29) (.t 30), (some (21, true))⟩,
.op ⟨(some 32), .bin .add .no (.t 31) (.c (.i .i64 1)), (some (21, true))⟩,
.op ⟨(some 33), .iaL 1 (.t 28) (.t 32), (some (21, true))⟩,
.op ⟨(some 34), .ld false 1 (.t 33), (some (21, true))⟩,
.op ⟨(some 35), .call 276 [(.t 27), (.t 34)], (some (21, true))⟩,
.op ⟨(some 36), .pick (.t 21) (.t 35) (.c (.b false)), none⟩])
(.cond (.t 36)
(.reg [
⟨(some 37), .mv (.t 9), none⟩,
⟨(some 38), .bin .add .no (.t 37) (.c (.i .i64 1)), none⟩,
⟨(some 9), .mv (.t 38), none⟩])
.skip))
(.seq (.seq (.drw [
.op ⟨(some 39), .mv (.t 0), none⟩,
.op ⟨(some 40), .mv (.t 3), none⟩,
.op ⟨(some 41), .mv (.t 8), none⟩,
.op ⟨(some 42), .bin .add .no (.t 40) (.t 41), none⟩,
.op ⟨(some 43), .iaL 1 (.t 39) (.t 42), none⟩,
.op ⟨(some 44), .ld false 1 (.t 43), none⟩,
.op ⟨(some 45), .mv (.t 0), none⟩,
.op ⟨(some 46), .mv (.t 3), none⟩,
.op ⟨(some 47), .mv (.t 9), none⟩,
.op ⟨(some 48), .bin .add .no (.t 46) (.t 47), none⟩,
.op ⟨(some 49), .iaL 1 (.t 45) (.t 48), none⟩,
.op ⟨(some 50), .ld false 1 (.t 49), none⟩,
.op ⟨(some 51), .call 276 [(.t 44), (.t 50)], none⟩,
.op ⟨(some 52), .un .not (.t 51), none⟩])
(.cond (.t 52)
.ret
.skip))
(.seq (.drw [
.op ⟨(some 53), .mv (.t 0), none⟩,
.op ⟨(some 54), .mv (.t 3), none⟩,
.op ⟨(some 55), .mv (.t 8), none⟩,
.op ⟨(some 56), .bin .add .no (.t 54) (.t 55), none⟩,
.op ⟨(some 57), .mv (.t 0), none⟩,
.op ⟨(some 58), .mv (.t 3), none⟩,
.op ⟨(some 59), .mv (.t 9), none⟩,
.op ⟨(some 60), .bin .add .no (.t 58) (.t 59), none⟩,
.op ⟨(some 61), .mv (.t 0), none⟩,
.op ⟨(some 62), .mv (.t 3), none⟩,
.op ⟨(some 63), .mv (.t 9), none⟩,
.op ⟨(some 64), .bin .add .no (.t 62) (.t 63), none⟩,
.op ⟨(some 65), .iaL 1 (.t 61) (.t 64), none⟩,
.op ⟨(some 66), .ld false 1 (.t 65), none⟩,
.op ⟨(some 67), .mv (.t 0), none⟩,
.op ⟨(some 68), .mv (.t 3), none⟩,
.op ⟨(some 69), .mv (.t 8), none⟩,
.op ⟨(some 70), .bin .add .no (.t 68) (.t 69), none⟩,
.op ⟨(some 71), .iaL 1 (.t 67) (.t 70), none⟩,
.op ⟨(some 72), .ld false 1 (.t 71), none⟩,
.op ⟨(some 73), .iaL 1 (.t 53) (.t 56), none⟩,
.op ⟨none, .st 1 (.t 73) (.t 66), none⟩,
.op ⟨(some 74), .iaL 1 (.t 57) (.t 60), none⟩,
.op ⟨none, .st 1 (.t 74) (.t 72), none⟩])
(.reg [
⟨(some 75), .mv (.t 9), none⟩,
⟨(some 8), .mv (.t 75), none⟩]))))))))))⟩
def f289 : AF := ⟨15, [.t 6], (.seq (.reg [
⟨(some 6), .mv (.c (.i .i64 0)), none⟩])
(.seq (.reg [
⟨(some 7), .mv (.t 0), none⟩,
⟨(some 8), .mv (.t 1), none⟩,
⟨(some 9), .bin .sub .no (.t 8) (.c (.i .i64 1)), none⟩,
⟨(some 10), .mv (.t 1), none⟩,
⟨(some 11), .mv (.t 1), none⟩,
⟨(some 12), .bin .add .no (.t 11) (.c (.i .i64 1)), none⟩,
⟨(some 13), .mv (.t 2), none⟩,
⟨(some 14), .call 290 [(.t 7), (.t 9), (.t 10), (.t 12), (.t 13)], none⟩,
⟨(some 6), .mv (.t 14), none⟩])
.ret))⟩
def f290 : AF := ⟨36, [.t 10], (.seq (.reg [
⟨(some 10), .mv (.c (.i .i64 0)), none⟩])
(.seq (.reg [
⟨(some 12), .mv (.t 0), none⟩,
⟨(some 13), .mv (.t 1), none⟩,
⟨(some 14), .mv (.t 2), none⟩,
⟨(some 15), .mv (.t 4), none⟩,
⟨(some 16), .call 295 [(.t 12), (.t 13), (.t 14), (.t 15)], none⟩,
⟨(some 11), .mv (.t 16), none⟩,
⟨(some 17), .xt (.t 11) 0, none⟩,
⟨(some 18), .xt (.t 11) 1, none⟩,
⟨(some 1), .mv (.t 17), none⟩,
⟨(some 2), .mv (.t 18), none⟩])
(.seq (.reg [
⟨(some 20), .mv (.t 0), none⟩,
⟨(some 21), .mv (.t 2), none⟩,
⟨(some 22), .mv (.t 3), none⟩,
⟨(some 23), .mv (.t 4), none⟩,
⟨(some 24), .call 295 [(.t 20), (.t 21), (.t 22), (.t 23)], none⟩,
⟨(some 19), .mv (.t 24), none⟩,
⟨(some 25), .xt (.t 19) 0, none⟩,
⟨(some 26), .xt (.t 19) 1, none⟩,
⟨(some 2), .mv (.t 25), none⟩,
⟨(some 3), .mv (.t 26), none⟩])
(.seq (.reg [
⟨(some 28), .mv (.t 0), none⟩,
⟨(some 29), .mv (.t 1), none⟩,
⟨(some 30), .mv (.t 2), none⟩,
⟨(some 31), .mv (.t 4), none⟩,
⟨(some 32), .call 295 [(.t 28), (.t 29), (.t 30), (.t 31)], none⟩,
⟨(some 27), .mv (.t 32), none⟩,
⟨(some 33), .xt (.t 27) 0, none⟩,
⟨(some 34), .xt (.t 27) 1, none⟩,
⟨(some 1), .mv (.t 33), none⟩,
⟨(some 2), .mv (.t 34), none⟩])
(.seq (.reg [
⟨(some 35), .mv (.t 2), none⟩,
⟨(some 10), .mv (.t 35), none⟩])
.ret)))))⟩
def f291 : AF := ⟨6, [.t 2], (.seq (.reg [
⟨(some 2), .mv (.c (.b false)), none⟩])
(.seq (.reg [
⟨(some 3), .mv (.t 0), none⟩,
⟨(some 4), .mv (.t 0), none⟩,
⟨(some 5), .bin .neq .str (.t 3) (.t 4), none⟩,
⟨(some 2), .mv (.t 5), none⟩])
.ret))⟩
def f292 : AF := ⟨17, [.t 4], (.seq (.reg [
⟨(some 4), .mv (.c (.b false)), none⟩])
(.seq (.reg [
⟨(some 5), .mv (.t 0), none⟩,
⟨(some 6), .call 78 [(.t 5)], none⟩,
⟨(some 7), .mv (.t 6), none⟩,
⟨(some 8), .mv (.t 1), (some (7, true))⟩,
⟨(some 9), .len 1 (.t 8), (some (7, true))⟩,
⟨(some 10), .bin .leq .no (.t 9) (.c (.i .i64 8)), (some (7, true))⟩,
⟨(some 11), .pick (.t 7) (.t 10) (.c (.b false)), none⟩,
⟨(some 12), .mv (.t 11), none⟩,
⟨(some 13), .mv (.t 1), (some (12, true))⟩,
⟨(some 14), .call 254 [(.t 13), (.c (.f (.func 296) [] []))], (some (12, true))⟩,
⟨(some 15), .un .not (.t 14), (some (12, true))⟩,
⟨(some 16), .pick (.t 12) (.t 15) (.c (.b false)), none⟩,
⟨(some 4), .mv (.t 16), none⟩])
.ret))⟩
def f293 : AF := ⟨8, [.t 4], (.seq (.reg [
⟨(some 4), .mv (.c .nsl), none⟩])
(.seq (.reg [
⟨(some 5), .mv (.t 0), none⟩,
⟨(some 6), .mv (.t 1), none⟩,
⟨(some 7), .call 252 [(.t 5), (.t 6), (.c (.f (.func 297) [] []))], none⟩,
⟨(some 4), .mv (.t 7), none⟩])
.ret))⟩
def f294 : AF := ⟨19, [.t 4], (.seq (.reg [
⟨(some 4), .mv (.c (.i .i64 0)), none⟩])
(.seq (.seq (.reg [
⟨(some 6), .mv (.t 0), none⟩,
⟨(some 7), .len 1 (.t 6), none⟩,
⟨(some 8), .mv (.c (.i .i64 0)), none⟩])
(.blk 0 (.loop (.seq (.reg [
⟨(some 9), .bin .lss .no (.t 8) (.t 7), none⟩])
(.seq (.cond (.t 9)
.skip
(.exit 0))
(.seq (.blk 1 (.seq (.reg [
⟨(some 10), .mv (.t 8), none⟩,
⟨(some 5), .mv (.t 10), none⟩])
(.seq (.reg [
⟨(some 11), .mv (.t 1), none⟩,
⟨(some 12), .mv (.t 0), none⟩,
⟨(some 13), .mv (.t 5), none⟩,
⟨(some 14), .iaL 1 (.t 12) (.t 13), none⟩,
⟨(some 15), .ld false 1 (.t 14), none⟩,
⟨(some 16), .cald (.t 11) [(.t 15)], none⟩])
(.cond (.t 16)
(.seq (.reg [
⟨(some 17), .mv (.t 5), none⟩,
⟨(some 4), .mv (.t 17), none⟩])
.ret)
.skip))))
(.reg [
⟨(some 18), .bin .add .no (.t 8) (.c (.i .i64 1)), none⟩,
⟨(some 8), .mv (.t 18), none⟩])))))))
(.seq (.reg [
⟨(some 4), .mv (.c (.i .i64 (-1))), none⟩])
.ret)))⟩
def f295 : AF := ⟨28, [.t 8, .t 9], (.seq (.reg [
⟨(some 8), .mv (.c (.i .i64 0)), none⟩,
⟨(some 9), .mv (.c (.i .i64 0)), none⟩])
(.seq (.seq (.drw [
.op ⟨(some 10), .mv (.t 0), none⟩,
.op ⟨(some 11), .mv (.t 2), none⟩,
.op ⟨(some 12), .iaL 1 (.t 10) (.t 11), none⟩,
.op ⟨(some 13), .ld false 1 (.t 12), none⟩,
.op ⟨(some 14), .mv (.t 0), none⟩,
.op ⟨(some 15), .mv (.t 1), none⟩,
.op ⟨(some 16), .iaL 1 (.t 14) (.t 15), none⟩,
.op ⟨(some 17), .ld false 1 (.t 16), none⟩,
.op ⟨(some 18), .call 276 [(.t 13), (.t 17)], none⟩])
(.cond (.t 18)
(.seq (.reg [
⟨(some 19), .mv (.t 3), none⟩,
⟨(some 20), .nck (.t 19), none⟩,
⟨(some 21), .ld false 1 (.t 20), none⟩,
⟨(some 22), .bin .add .no (.t 21) (.c (.i .i64 1)), none⟩,
⟨(some 23), .nck (.t 19), none⟩,
⟨none, .st 1 (.t 23) (.t 22), none⟩])
(.seq (.reg [
⟨(some 24), .mv (.t 2), none⟩,
⟨(some 25), .mv (.t 1), none⟩,
⟨(some 8), .mv (.t 24), none⟩,
⟨(some 9), .mv (.t 25), none⟩])
.ret))
.skip))
(.seq (.reg [
⟨(some 26), .mv (.t 1), none⟩,
⟨(some 27), .mv (.t 2), none⟩,
⟨(some 8), .mv (.t 26), none⟩,
⟨(some 9), .mv (.t 27), none⟩])
.ret)))⟩
def f296 : AF := ⟨6, [.t 2], (.seq (.reg [
⟨(some 2), .mv (.c (.b false)), none⟩])
(.seq (.reg [
⟨(some 3), .mv (.t 0), none⟩,
⟨(some 4), .call 78 [(.t 3)], none⟩,
⟨(some 5), .un .not (.t 4), none⟩,
⟨(some 2), .mv (.t 5), none⟩])
.ret))⟩
def f297 : AF := ⟨8, [.t 4], (.seq (.reg [
⟨(some 4), .mv (.c (.i .i64 0)), none⟩])
(.seq (.reg [
⟨(some 5), .mv (.t 0), none⟩,
⟨(some 6), .mv (.t 1), none⟩,
⟨(some 7), .mnx false (.t 5) (.t 6), none⟩,
⟨(some 4), .mv (.t 7), none⟩])
.ret))⟩
def tree : Tr AF := (.n (.n (.n (.n (.n (.n (.n (.n (.n .e (some f255) .e) (some f127) .e) (some f63) (.n .e (some f191) .e)) none (.n (.n (.n .e (some f287) .e) none .e) none (.n .e (some f223) .e))) (some f15) (.n (.n (.n (.n .e (some f271) .e) (some f143) .e) (some f79) (.n .e (some f207) .e)) (some f47) (.n (.n .e (some f175) .e) (some f111) (.n .e (some f239) .e)))) none (.n (.n (.n (.n (.n .e (some f263) .e) (some f135) .e) none .e) none (.n (.n (.n .e (some f295) .e) (some f167) .e) (some f103) (.n .e (some f231) .e))) none (.n (.n (.n (.n .e (some f279) .e) none .e) none (.n .e (some f215) .e)) (some f55) (.n (.n .e (some f183) .e) (some f119) (.n .e (some f247) .e))))) none (.n (.n (.n (.n (.n (.n .e (some f259) .e) (some f131) .e) (some f67) (.n .e (some f195) .e)) none (.n (.n (.n .e (some f291) .e) (some f163) .e) (some f99) (.n .e (some f227) .e))) (some f19) (.n (.n (.n (.n .e (some f275) .e) none .e) (some f83) (.n .e (some f211) .e)) (some f51) (.n (.n .e (some f179) .e) (some f115) (.n .e (some f243) .e)))) none (.n (.n (.n (.n .e (some f139) .e) (some f75) (.n .e (some f203) .e)) (some f43) (.n (.n .e (some f171) .e) (some f107) (.n .e (some f235) .e))) none (.n (.n (.n (.n .e (some f283) .e) none .e) none (.n .e (some f219) .e)) (some f59) (.n .e (some f123) (.n .e (some f251) .e)))))) none (.n (.n (.n (.n (.n (.n (.n .e (some f257) .e) (some f129) .e) (some f65) .e) none (.n (.n (.n .e (some f289) .e) (some f161) .e) (some f97) (.n .e (some f225) .e))) (some f17) (.n (.n (.n (.n .e (some f273) .e) none .e) none (.n .e (some f209) .e)) (some f49) (.n (.n .e (some f177) .e) (some f113) (.n .e (some f241) .e)))) none (.n (.n (.n (.n (.n .e (some f265) .e) none .e) none (.n .e (some f201) .e)) none (.n (.n (.n .e (some f297) .e) (some f169) .e) (some f105) (.n .e (some f233) .e))) none (.n (.n (.n (.n .e (some f281) .e) none .e) none (.n .e (some f217) .e)) (some f57) (.n (.n .e (some f185) .e) (some f121) (.n .e (some f249) .e))))) none (.n (.n (.n (.n (.n (.n .e (some f261) .e) (some f133) .e) none .e) none (.n (.n (.n .e (some f293) .e) (some f165) .e) (some f101) (.n .e (some f229) .e))) (some f21) (.n (.n (.n (.n .e (some f277) .e) none .e) none (.n .e (some f213) .e)) (some f53) (.n (.n .e (some f181) .e) (some f117) (.n .e (some f245) .e)))) (some f13) (.n (.n (.n (.n (.n .e (some f269) .e) none .e) (some f77) (.n .e (some f205) .e)) (some f45) (.n (.n .e (some f173) .e) (some f109) (.n .e (some f237) .e))) none (.n (.n (.n (.n .e (some f285) .e) (some f157) .e) none (.n .e (some f221) .e)) (some f61) (.n (.n .e (some f189) .e) (some f125) (.n .e (some f253) .e))))))) none (.n (.n (.n (.n (.n (.n (.n (.n .e (some f256) .e) (some f128) .e) (some f64) .e) none (.n (.n (.n .e (some f288) .e) (some f160) .e) none (.n .e (some f224) .e))) (some f16) (.n (.n (.n (.n .e (some f272) .e) none .e) (some f80) (.n .e (some f208) .e)) (some f48) (.n (.n .e (some f176) .e) (some f112) (.n .e (some f240) .e)))) none (.n (.n (.n (.n (.n .e (some f264) .e) none .e) none (.n .e (some f200) .e)) none (.n (.n (.n .e (some f296) .e) (some f168) .e) (some f104) (.n .e (some f232) .e))) none (.n (.n (.n (.n .e (some f280) .e) none .e) none (.n .e (some f216) .e)) (some f56) (.n (.n .e (some f184) .e) (some f120) (.n .e (some f248) .e))))) (some f4) (.n (.n (.n (.n (.n (.n .e (some f260) .e) (some f132) .e) none .e) none (.n (.n (.n .e (some f292) .e) (some f164) .e) none (.n .e (some f228) .e))) (some f20) (.n (.n (.n (.n .e (some f276) .e) none .e) none (.n .e (some f212) .e)) (some f52) (.n (.n .e (some f180) .e) (some f116) (.n .e (some f244) .e)))) none (.n (.n (.n (.n (.n .e (some f268) .e) (some f140) .e) (some f76) (.n .e (some f204) .e)) (some f44) (.n (.n .e (some f172) .e) (some f108) (.n .e (some f236) .e))) (some f28) (.n (.n (.n (.n .e (some f284) .e) (some f156) .e) none (.n .e (some f220) .e)) (some f60) (.n (.n .e (some f188) .e) (some f124) (.n .e (some f252) .e)))))) none (.n (.n (.n (.n (.n (.n (.n .e (some f258) .e) (some f130) .e) (some f66) (.n .e (some f194) .e)) none (.n (.n (.n .e (some f290) .e) (some f162) .e) (some f98) (.n .e (some f226) .e))) (some f18) (.n (.n (.n (.n .e (some f274) .e) none .e) none (.n .e (some f210) .e)) (some f50) (.n (.n .e (some f178) .e) (some f114) (.n .e (some f242) .e)))) none (.n (.n (.n (.n (.n .e (some f266) .e) (some f138) .e) none (.n .e (some f202) .e)) (some f42) (.n (.n .e (some f170) .e) (some f106) (.n .e (some f234) .e))) none (.n (.n (.n (.n .e (some f282) .e) none .e) none (.n .e (some f218) .e)) (some f58) (.n (.n .e (some f186) .e) (some f122) (.n .e (some f250) .e))))) none (.n (.n (.n (.n (.n (.n .e (some f262) .e) (some f134) .e) none .e) none (.n (.n (.n .e (some f294) .e) (some f166) .e) none (.n .e (some f230) .e))) (some f22) (.n (.n (.n (.n .e (some f278) .e) (some f150) .e) none (.n .e (some f214) .e)) (some f54) (.n (.n .e (some f182) .e) (some f118) (.n .e (some f246) .e)))) (some f14) (.n (.n (.n (.n (.n .e (some f270) .e) (some f142) .e) (some f78) (.n .e (some f206) .e)) (some f46) (.n (.n .e (some f174) .e) (some f110) .e)) none (.n (.n (.n (.n .e (some f286) .e) (some f158) .e) none (.n .e (some f222) .e)) (some f62) (.n (.n .e (some f190) .e) (some f126) (.n .e (some f254) .e))))))))
def env (i : Nat) : Option AF := tree.get i
end Go.Proofs.YtmlfcopllfdjfaaGreat.Am.Dn
