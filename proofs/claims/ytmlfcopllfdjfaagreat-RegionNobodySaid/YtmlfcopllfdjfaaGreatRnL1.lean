/- The code of the functions that a law reaches, as the abstract machine reads it: part 1. -/
import Derived.Test.YtmlfcopllfdjfaaGreatRnL0
namespace Go.Proofs.YtmlfcopllfdjfaaGreat.Am.Rn
set_option maxRecDepth 100000
def f250 : AF := ⟨36, [.t 10], (.seq (.reg [
⟨(some 10), .mv (.c (.i .i64 0)), none⟩])
(.seq (.reg [
⟨(some 12), .mv (.t 0), none⟩,
⟨(some 13), .mv (.t 1), none⟩,
⟨(some 14), .mv (.t 2), none⟩,
⟨(some 15), .mv (.t 4), none⟩,
⟨(some 16), .call 279 [(.t 12), (.t 13), (.t 14), (.t 15)], none⟩,
⟨(some 11), .mv (.t 16), none⟩,
⟨(some 17), .xt (.t 11) 0, none⟩,
⟨(some 18), .xt (.t 11) 1, none⟩,
⟨(some 1), .mv (.t 17), none⟩,
⟨(some 2), .mv (.t 18), none⟩])
(.seq (.reg [
⟨(some 20), .mv (.t 0), none⟩,
⟨(some 21), .mv (.t 2), none⟩,
⟨(some 22), .mv (.t 3), none⟩,
⟨(some 23), .mv (.t 4), none⟩,
⟨(some 24), .call 279 [(.t 20), (.t 21), (.t 22), (.t 23)], none⟩,
⟨(some 19), .mv (.t 24), none⟩,
⟨(some 25), .xt (.t 19) 0, none⟩,
⟨(some 26), .xt (.t 19) 1, none⟩,
⟨(some 2), .mv (.t 25), none⟩,
⟨(some 3), .mv (.t 26), none⟩])
(.seq (.reg [
⟨(some 28), .mv (.t 0), none⟩,
⟨(some 29), .mv (.t 1), none⟩,
⟨(some 30), .mv (.t 2), none⟩,
⟨(some 31), .mv (.t 4), none⟩,
⟨(some 32), .call 279 [(.t 28), (.t 29), (.t 30), (.t 31)], none⟩,
⟨(some 27), .mv (.t 32), none⟩,
⟨(some 33), .xt (.t 27) 0, none⟩,
⟨(some 34), .xt (.t 27) 1, none⟩,
⟨(some 1), .mv (.t 33), none⟩,
⟨(some 2), .mv (.t 34), none⟩])
(.seq (.reg [
⟨(some 35), .mv (.t 2), none⟩,
⟨(some 10), .mv (.t 35), none⟩])
.ret)))))⟩
def f251 : AF := ⟨6, [.t 2], (.seq (.reg [
⟨(some 2), .mv (.c (.b false)), none⟩])
(.seq (.reg [
⟨(some 3), .mv (.t 0), none⟩,
⟨(some 4), .mv (.t 0), none⟩,
⟨(some 5), .bin .neq .int (.t 3) (.t 4), none⟩,
⟨(some 2), .mv (.t 5), none⟩])
.ret))⟩
def f268 : AF := ⟨39, [.t 2, .t 3], (.seq (.reg [
⟨(some 2), .mv (.c (.i .u32 0)), none⟩,
⟨(some 3), .mv (.c (.i .u32 0)), none⟩])
(.seq (.reg [
⟨(some 4), .mv (.c (.i .u32 0)), none⟩])
(.seq (.seq (.reg [
⟨(some 5), .mv (.c (.i .i64 0)), none⟩])
(.blk 0 (.loop (.seq (.seq (.reg [
⟨(some 9), .mv (.t 5), none⟩,
⟨(some 10), .mv (.t 0), none⟩,
⟨(some 11), .len 0 (.t 10), none⟩,
⟨(some 12), .bin .lss .no (.t 9) (.t 11), none⟩])
(.cond (.t 12)
.skip
(.exit 0)))
(.seq (.blk 1 (.reg [
⟨(some 15), .mv (.t 4), none⟩,
⟨(some 16), .bin .mul .no (.t 15) (.c (.i .u32 16777619)), none⟩,
⟨(some 17), .mv (.t 0), none⟩,
⟨(some 18), .mv (.t 5), none⟩,
⟨(some 19), .ixS (.t 17) (.t 18), none⟩,
⟨(some 20), .cvi .u32 (.t 19), none⟩,
⟨(some 21), .bin .add .no (.t 16) (.t 20), none⟩,
⟨(some 4), .mv (.t 21), none⟩]))
(.reg [
⟨(some 13), .mv (.t 5), none⟩,
⟨(some 14), .bin .add .no (.t 13) (.c (.i .i64 1)), none⟩,
⟨(some 5), .mv (.t 14), none⟩]))))))
(.seq (.reg [
⟨(some 6), .mv (.c (.i .u32 1)), none⟩,
⟨(some 7), .mv (.c (.i .u32 16777619)), none⟩])
(.seq (.seq (.reg [
⟨(some 22), .mv (.t 0), none⟩,
⟨(some 23), .len 0 (.t 22), none⟩,
⟨(some 8), .mv (.t 23), none⟩])
(.blk 2 (.loop (.seq (.seq (.reg [
⟨(some 24), .mv (.t 8), none⟩,
⟨(some 25), .bin .gtr .no (.t 24) (.c (.i .i64 0)), none⟩])
(.cond (.t 25)
.skip
(.exit 2)))
(.seq (.blk 3 (.seq (.seq (.reg [
⟨(some 28), .mv (.t 8), none⟩,
⟨(some 29), .bin .and .no (.t 28) (.c (.i .i64 1)), none⟩,
⟨(some 30), .bin .neq .int (.t 29) (.c (.i .i64 0)), none⟩])
(.cond (.t 30)
(.reg [
⟨(some 31), .mv (.t 6), none⟩,
⟨(some 32), .mv (.t 7), none⟩,
⟨(some 33), .bin .mul .no (.t 31) (.t 32), none⟩,
⟨(some 6), .mv (.t 33), none⟩])
.skip))
(.reg [
⟨(some 34), .mv (.t 7), none⟩,
⟨(some 35), .mv (.t 7), none⟩,
⟨(some 36), .bin .mul .no (.t 34) (.t 35), none⟩,
⟨(some 7), .mv (.t 36), none⟩])))
(.reg [
⟨(some 26), .mv (.t 8), none⟩,
⟨(some 27), .bin .shr .no (.t 26) (.c (.i .u64 1)), none⟩,
⟨(some 8), .mv (.t 27), none⟩]))))))
(.seq (.reg [
⟨(some 37), .mv (.t 4), none⟩,
⟨(some 38), .mv (.t 6), none⟩,
⟨(some 2), .mv (.t 37), none⟩,
⟨(some 3), .mv (.t 38), none⟩])
.ret))))))⟩
def f269 : AF := ⟨5, [.t 2], (.seq (.reg [
⟨(some 2), .mv (.c (.b false)), none⟩])
(.seq (.reg [
⟨(some 3), .mv (.t 0), none⟩,
⟨(some 4), .call 286 [(.t 3), (.c (.f (.func 287) [] []))], none⟩,
⟨(some 2), .mv (.t 4), none⟩])
.ret))⟩
def f270 : AF := ⟨49, [], (.seq (.reg [
⟨(some 8), .mv (.t 1), none⟩,
⟨(some 9), .bin .add .no (.t 8) (.c (.i .i64 1)), none⟩,
⟨(some 6), .mv (.t 9), none⟩])
(.blk 0 (.loop (.seq (.seq (.reg [
⟨(some 10), .mv (.t 6), none⟩,
⟨(some 11), .mv (.t 2), none⟩,
⟨(some 12), .bin .lss .no (.t 10) (.t 11), none⟩])
(.cond (.t 12)
.skip
(.exit 0)))
(.seq (.blk 1 (.seq (.reg [
⟨(some 15), .mv (.t 6), none⟩,
⟨(some 7), .mv (.t 15), none⟩])
(.blk 2 (.loop (.seq (.seq (.drw [
.op ⟨(some 16), .mv (.t 7), none⟩,
.op ⟨(some 17), .mv (.t 1), none⟩,
.op ⟨(some 18), .bin .gtr .no (.t 16) (.t 17), none⟩,
.op ⟨(some 19), .mv (.t 18), none⟩,
.op ⟨(some 20), .mv (.t 0), (some (19, true))⟩,
.op ⟨(some 21), .mv (.t 7), (some (19, true))⟩,
.op ⟨(some 22), .iaL 1 (.t 20) (.t 21), (some (19, true))⟩,
.op ⟨(some 23), .ld false 1 (.t 22), (some (19, true))⟩,
.op ⟨(some 24), .mv (.t 0), (some (19, true))⟩,
.op ⟨(some 25), .mv (.t 7), (some (19, true))⟩,
.op ⟨(some 26), .bin .sub .no (.t 25) (.c (.i .i64 1)), (some (19, true))⟩,
.op ⟨(some 27), .iaL 1 (.t 24) (.t 26), (some (19, true))⟩,
.op ⟨(some 28), .ld false 1 (.t 27), (some (19, true))⟩,
.op ⟨(some 29), .call 276 [(.t 23), (.t 28)], (some (19, true))⟩,
.op ⟨(some 30), .pick (.t 19) (.t 29) (.c (.b false)), none⟩])
(.cond (.t 30)
.skip
(.exit 2)))
(.seq (.blk 3 (.drw [
.op ⟨(some 33), .mv (.t 0), none⟩,
.op ⟨(some 34), .mv (.t 7), none⟩,
.op ⟨(some 35), .mv (.t 0), none⟩,
.op ⟨(some 36), .mv (.t 7), none⟩,
.op ⟨(some 37), .bin .sub .no (.t 36) (.c (.i .i64 1)), none⟩,
.op ⟨(some 38), .mv (.t 0), none⟩,
.op ⟨(some 39), .mv (.t 7), none⟩,
.op ⟨(some 40), .bin .sub .no (.t 39) (.c (.i .i64 1)), none⟩,
.op ⟨(some 41), .iaL 1 (.t 38) (.t 40), none⟩,
.op ⟨(some 42), .ld false 1 (.t 41), none⟩,
.op ⟨(some 43), .mv (.t 0), none⟩,
.op ⟨(some 44), .mv (.t 7), none⟩,
.op ⟨(some 45), .iaL 1 (.t 43) (.t 44), none⟩,
.op ⟨(some 46), .ld false 1 (.t 45), none⟩,
.op ⟨(some 47), .iaL 1 (.t 33) (.t 34), none⟩,
.op ⟨none, .st 1 (.t 47) (.t 42), none⟩,
.op ⟨(some 48), .iaL 1 (.t 35) (.t 37), none⟩,
.op ⟨none, .st 1 (.t 48) (.t 46), none⟩]))
(.reg [
⟨(some 31), .mv (.t 7), none⟩,
⟨(some 32), .bin .sub .no (.t 31) (.c (.i .i64 1)), none⟩,
⟨(some 7), .mv (.t 32), none⟩])))))))
(.reg [
⟨(some 13), .mv (.t 6), none⟩,
⟨(some 14), .bin .add .no (.t 13) (.c (.i .i64 1)), none⟩,
⟨(some 6), .mv (.t 14), none⟩]))))))⟩
def f271 : AF := ⟨56, [], (.seq (.reg [
⟨(some 11), .mv (.t 1), none⟩,
⟨(some 6), .mv (.t 11), none⟩])
(.seq (.reg [
⟨(some 7), .mv (.c (.i .i64 0)), none⟩])
(.seq (.reg [
⟨(some 12), .mv (.t 2), none⟩,
⟨(some 13), .mv (.t 1), none⟩,
⟨(some 14), .bin .sub .no (.t 12) (.t 13), none⟩,
⟨(some 8), .mv (.t 14), none⟩])
(.seq (.seq (.reg [
⟨(some 15), .mv (.t 8), none⟩,
⟨(some 16), .bin .sub .no (.t 15) (.c (.i .i64 1)), none⟩,
⟨(some 17), .bin .quo .no (.t 16) (.c (.i .i64 2)), none⟩,
⟨(some 9), .mv (.t 17), none⟩])
(.blk 0 (.loop (.seq (.seq (.reg [
⟨(some 18), .mv (.t 9), none⟩,
⟨(some 19), .bin .geq .no (.t 18) (.c (.i .i64 0)), none⟩])
(.cond (.t 19)
.skip
(.exit 0)))
(.seq (.blk 1 (.reg [
⟨(some 22), .mv (.t 0), none⟩,
⟨(some 23), .mv (.t 9), none⟩,
⟨(some 24), .mv (.t 8), none⟩,
⟨(some 25), .mv (.t 6), none⟩,
⟨(some 26), .call 288 [(.t 22), (.t 23), (.t 24), (.t 25)], none⟩]))
(.reg [
⟨(some 20), .mv (.t 9), none⟩,
⟨(some 21), .bin .sub .no (.t 20) (.c (.i .i64 1)), none⟩,
⟨(some 9), .mv (.t 21), none⟩]))))))
(.seq (.reg [
⟨(some 27), .mv (.t 8), none⟩,
⟨(some 28), .bin .sub .no (.t 27) (.c (.i .i64 1)), none⟩,
⟨(some 10), .mv (.t 28), none⟩])
(.blk 2 (.loop (.seq (.seq (.reg [
⟨(some 29), .mv (.t 10), none⟩,
⟨(some 30), .bin .geq .no (.t 29) (.c (.i .i64 0)), none⟩])
(.cond (.t 30)
.skip
(.exit 2)))
(.seq (.blk 3 (.seq (.drw [
.op ⟨(some 33), .mv (.t 0), none⟩,
.op ⟨(some 34), .mv (.t 6), none⟩,
.op ⟨(some 35), .mv (.t 0), none⟩,
.op ⟨(some 36), .mv (.t 6), none⟩,
.op ⟨(some 37), .mv (.t 10), none⟩,
.op ⟨(some 38), .bin .add .no (.t 36) (.t 37), none⟩,
.op ⟨(some 39), .mv (.t 0), none⟩,
.op ⟨(some 40), .mv (.t 6), none⟩,
.op ⟨(some 41), .mv (.t 10), none⟩,
.op ⟨(some 42), .bin .add .no (.t 40) (.t 41), none⟩,
.op ⟨(some 43), .iaL 1 (.t 39) (.t 42), none⟩,
.op ⟨(some 44), .ld false 1 (.t 43), none⟩,
.op ⟨(some 45), .mv (.t 0), none⟩,
.op ⟨(some 46), .mv (.t 6), none⟩,
.op ⟨(some 47), .iaL 1 (.t 45) (.t 46), none⟩,
.op ⟨(some 48), .ld false 1 (.t 47), none⟩,
.op ⟨(some 49), .iaL 1 (.t 33) (.t 34), none⟩,
.op ⟨none, .st 1 (.t 49) (.t 44), none⟩,
.op ⟨(some 50), .iaL 1 (.t 35) (.t 38), none⟩,
.op ⟨none, .st 1 (.t 50) (.t 48), none⟩])
(.reg [
⟨(some 51), .mv (.t 0), none⟩,
⟨(some 52), .mv (.t 7), none⟩,
⟨(some 53), .mv (.t 10), none⟩,
⟨(some 54), .mv (.t 6), none⟩,
⟨(some 55), .call 288 [(.t 51), (.t 52), (.t 53), (.t 54)], none⟩])))
(.reg [
⟨(some 31), .mv (.t 10), none⟩,
⟨(some 32), .bin .sub .no (.t 31) (.c (.i .i64 1)), none⟩,
⟨(some 10), .mv (.t 32), none⟩]))))))))))⟩
def f272 : AF := ⟨65, [], (.seq (.reg [
⟨(some 11), .mv (.t 2), none⟩,
⟨(some 12), .mv (.t 1), none⟩,
⟨(some 13), .bin .sub .no (.t 11) (.t 12), none⟩,
⟨(some 6), .mv (.t 13), none⟩])
(.seq (.reg [
⟨(some 14), .mv (.t 6), none⟩,
⟨(some 15), .bin .geq .no (.t 14) (.c (.i .i64 8)), none⟩])
(.cond (.t 15)
(.seq (.reg [
⟨(some 16), .mv (.t 6), none⟩,
⟨(some 17), .cvi .u64 (.t 16), none⟩,
⟨(some 7), .alloc [(.i .u64 0)], none⟩,
⟨none, .st 1 (.t 7) (.t 17), none⟩])
(.seq (.reg [
⟨(some 18), .mv (.t 6), none⟩,
⟨(some 19), .call 247 [(.t 18)], none⟩,
⟨(some 8), .mv (.t 19), none⟩])
(.seq (.reg [
⟨(some 20), .mv (.t 1), none⟩,
⟨(some 21), .mv (.t 6), none⟩,
⟨(some 22), .bin .quo .no (.t 21) (.c (.i .i64 4)), none⟩,
⟨(some 23), .bin .mul .no (.t 22) (.c (.i .i64 2)), none⟩,
⟨(some 24), .bin .add .no (.t 20) (.t 23), none⟩,
⟨(some 25), .bin .sub .no (.t 24) (.c (.i .i64 1)), none⟩,
⟨(some 9), .mv (.t 25), none⟩])
(.blk 0 (.loop (.seq (.seq (.reg [
⟨(some 26), .mv (.t 9), none⟩,
⟨(some 27), .mv (.t 1), none⟩,
⟨(some 28), .mv (.t 6), none⟩,
⟨(some 29), .bin .quo .no (.t 28) (.c (.i .i64 4)), none⟩,
⟨(some 30), .bin .mul .no (.t 29) (.c (.i .i64 2)), none⟩,
⟨(some 31), .bin .add .no (.t 27) (.t 30), none⟩,
⟨(some 32), .bin .add .no (.t 31) (.c (.i .i64 1)), none⟩,
⟨(some 33), .bin .leq .no (.t 26) (.t 32), none⟩])
(.cond (.t 33)
.skip
(.exit 0)))
(.seq (.blk 1 (.seq (.reg [
⟨(some 36), .call 248 [(.t 7)], none⟩,
⟨(some 37), .mv (.t 8), none⟩,
⟨(some 38), .bin .sub .no (.t 37) (.c (.i .u64 1)), none⟩,
⟨(some 39), .bin .and .no (.t 36) (.t 38), none⟩,
⟨(some 40), .cvi .i64 (.t 39), none⟩,
⟨(some 10), .mv (.t 40), none⟩])
(.seq (.seq (.reg [
⟨(some 41), .mv (.t 10), none⟩,
⟨(some 42), .mv (.t 6), none⟩,
⟨(some 43), .bin .geq .no (.t 41) (.t 42), none⟩])
(.cond (.t 43)
(.reg [
⟨(some 44), .mv (.t 10), none⟩,
⟨(some 45), .mv (.t 6), none⟩,
⟨(some 46), .bin .sub .no (.t 44) (.t 45), none⟩,
⟨(some 10), .mv (.t 46), none⟩])
.skip))
(.drw [
.op ⟨(some 47), .mv (.t 0), none⟩,
.op ⟨(some 48), .mv (.t 9), none⟩,
.op ⟨(some 49), .mv (.t 0), none⟩,
.op ⟨(some 50), .mv (.t 1), none⟩,
.op ⟨(some 51), .mv (.t 10), none⟩,
.op ⟨(some 52), .bin .add .no (.t 50) (.t 51), none⟩,
.op ⟨(some 53), .mv (.t 0), none⟩,
.op ⟨(some 54), .mv (.t 1), none⟩,
.op ⟨(some 55), .mv (.t 10), none⟩,
.op ⟨(some 56), .bin .add .no (.t 54) (.t 55), none⟩,
.op ⟨(some 57), .iaL 1 (.t 53) (.t 56), none⟩,
.op ⟨(some 58), .ld false 1 (.t 57), none⟩,
.op ⟨(some 59), .mv (.t 0), none⟩,
.op ⟨(some 60), .mv (.t 9), none⟩,
.op ⟨(some 61), .iaL 1 (.t 59) (.t 60), none⟩,
.op ⟨(some 62), .ld false 1 (.t 61), none⟩,
.op ⟨(some 63), .iaL 1 (.t 47) (.t 48), none⟩,
.op ⟨none, .st 1 (.t 63) (.t 58), none⟩,
.op ⟨(some 64), .iaL 1 (.t 49) (.t 52), none⟩,
.op ⟨none, .st 1 (.t 64) (.t 62), none⟩]))))
(.reg [
⟨(some 34), .mv (.t 9), none⟩,
⟨(some 35), .bin .add .no (.t 34) (.c (.i .i64 1)), none⟩,
⟨(some 9), .mv (.t 35), none⟩]))))))))
.skip)))⟩
def f273 : AF := ⟨57, [.t 6, .t 7], (.seq (.reg [
⟨(some 6), .mv (.c (.i .i64 0)), none⟩,
⟨(some 7), .mv (.c (.i .i64 0)), none⟩])
(.seq (.reg [
⟨(some 13), .mv (.t 2), none⟩,
⟨(some 14), .mv (.t 1), none⟩,
⟨(some 15), .bin .sub .no (.t 13) (.t 14), none⟩,
⟨(some 8), .mv (.t 15), none⟩])
(.seq (.reg [
⟨(some 9), .alloc [(.i .i64 0)], none⟩])
(.seq (.reg [
⟨(some 16), .mv (.t 1), none⟩,
⟨(some 17), .mv (.t 8), none⟩,
⟨(some 18), .bin .quo .no (.t 17) (.c (.i .i64 4)), none⟩,
⟨(some 19), .bin .mul .no (.t 18) (.c (.i .i64 1)), none⟩,
⟨(some 20), .bin .add .no (.t 16) (.t 19), none⟩,
⟨(some 10), .mv (.t 20), none⟩])
(.seq (.reg [
⟨(some 21), .mv (.t 1), none⟩,
⟨(some 22), .mv (.t 8), none⟩,
⟨(some 23), .bin .quo .no (.t 22) (.c (.i .i64 4)), none⟩,
⟨(some 24), .bin .mul .no (.t 23) (.c (.i .i64 2)), none⟩,
⟨(some 25), .bin .add .no (.t 21) (.t 24), none⟩,
⟨(some 11), .mv (.t 25), none⟩])
(.seq (.reg [
⟨(some 26), .mv (.t 1), none⟩,
⟨(some 27), .mv (.t 8), none⟩,
⟨(some 28), .bin .quo .no (.t 27) (.c (.i .i64 4)), none⟩,
⟨(some 29), .bin .mul .no (.t 28) (.c (.i .i64 3)), none⟩,
⟨(some 30), .bin .add .no (.t 26) (.t 29), none⟩,
⟨(some 12), .mv (.t 30), none⟩])
(.seq (.seq (.reg [
⟨(some 31), .mv (.t 8), none⟩,
⟨(some 32), .bin .geq .no (.t 31) (.c (.i .i64 8)), none⟩])
(.cond (.t 32)
(.seq (.seq (.reg [
⟨(some 33), .mv (.t 8), none⟩,
⟨(some 34), .bin .geq .no (.t 33) (.c (.i .i64 50)), none⟩])
(.cond (.t 34)
(.seq (.reg [
⟨(some 35), .mv (.t 0), none⟩,
⟨(some 36), .mv (.t 10), none⟩,
⟨(some 37), .call 289 [(.t 35), (.t 36), (.t 9)], none⟩,
⟨(some 10), .mv (.t 37), none⟩])
(.seq (.reg [
⟨(some 38), .mv (.t 0), none⟩,
⟨(some 39), .mv (.t 11), none⟩,
⟨(some 40), .call 289 [(.t 38), (.t 39), (.t 9)], none⟩,
⟨(some 11), .mv (.t 40), none⟩])
(.reg [
⟨(some 41), .mv (.t 0), none⟩,
⟨(some 42), .mv (.t 12), none⟩,
⟨(some 43), .call 289 [(.t 41), (.t 42), (.t 9)], none⟩,
⟨(some 12), .mv (.t 43), none⟩])))
.skip))
(.reg [
⟨(some 44), .mv (.t 0), none⟩,
⟨(some 45), .mv (.t 10), none⟩,
⟨(some 46), .mv (.t 11), none⟩,
⟨(some 47), .mv (.t 12), none⟩,
⟨(some 48), .call 290 [(.t 44), (.t 45), (.t 46), (.t 47), (.t 9)], none⟩,
⟨(some 11), .mv (.t 48), none⟩]))
.skip))
(.seq (.reg [
⟨(some 49), .ld false 1 (.t 9), none⟩])
(.blk 0 (.seq (.reg [
⟨(some 52), .bin .eql .int (.t 49) (.c (.i .i64 0)), none⟩,
⟨(some 51), .mv (.t 52), none⟩])
(.cond (.t 51)
(.seq (.reg [
⟨(some 53), .mv (.t 11), none⟩,
⟨(some 6), .mv (.t 53), none⟩,
⟨(some 7), .mv (.c (.i .i64 1)), none⟩])
.ret)
(.seq (.reg [
⟨(some 55), .bin .eql .int (.t 49) (.c (.i .i64 12)), none⟩,
⟨(some 54), .mv (.t 55), none⟩])
(.cond (.t 54)
(.seq (.reg [
⟨(some 56), .mv (.t 11), none⟩,
⟨(some 6), .mv (.t 56), none⟩,
⟨(some 7), .mv (.c (.i .i64 2)), none⟩])
.ret)
(.seq (.reg [
⟨(some 50), .mv (.t 11), none⟩,
⟨(some 6), .mv (.t 50), none⟩,
⟨(some 7), .mv (.c (.i .i64 0)), none⟩])
.ret))))))))))))))⟩
def f274 : AF := ⟨32, [], (.seq (.reg [
⟨(some 8), .mv (.t 1), none⟩,
⟨(some 6), .mv (.t 8), none⟩])
(.seq (.reg [
⟨(some 9), .mv (.t 2), none⟩,
⟨(some 10), .bin .sub .no (.t 9) (.c (.i .i64 1)), none⟩,
⟨(some 7), .mv (.t 10), none⟩])
(.blk 0 (.loop (.seq (.seq (.reg [
⟨(some 11), .mv (.t 6), none⟩,
⟨(some 12), .mv (.t 7), none⟩,
⟨(some 13), .bin .lss .no (.t 11) (.t 12), none⟩])
(.cond (.t 13)
.skip
(.exit 0)))
(.blk 1 (.seq (.drw [
.op ⟨(some 14), .mv (.t 0), none⟩,
.op ⟨(some 15), .mv (.t 6), none⟩,
.op ⟨(some 16), .mv (.t 0), none⟩,
.op ⟨(some 17), .mv (.t 7), none⟩,
.op ⟨(some 18), .mv (.t 0), none⟩,
.op ⟨(some 19), .mv (.t 7), none⟩,
.op ⟨(some 20), .iaL 1 (.t 18) (.t 19), none⟩,
.op ⟨(some 21), .ld false 1 (.t 20), none⟩,
.op ⟨(some 22), .mv (.t 0), none⟩,
.op ⟨(some 23), .mv (.t 6), none⟩,
.op ⟨(some 24), .iaL 1 (.t 22) (.t 23), none⟩,
.op ⟨(some 25), .ld false 1 (.t 24), none⟩,
.op ⟨(some 26), .iaL 1 (.t 14) (.t 15), none⟩,
.op ⟨none, .st 1 (.t 26) (.t 21), none⟩,
.op ⟨(some 27), .iaL 1 (.t 16) (.t 17), none⟩,
.op ⟨none, .st 1 (.t 27) (.t 25), none⟩])
(.seq (.reg [
⟨(some 28), .mv (.t 6), none⟩,
⟨(some 29), .bin .add .no (.t 28) (.c (.i .i64 1)), none⟩,
⟨(some 6), .mv (.t 29), none⟩])
(.reg [
⟨(some 30), .mv (.t 7), none⟩,
⟨(some 31), .bin .sub .no (.t 30) (.c (.i .i64 1)), none⟩,
⟨(some 7), .mv (.t 31), none⟩])))))))))⟩
def f275 : AF := ⟨133, [.t 6], (.seq (.reg [
⟨(some 6), .mv (.c (.b false)), none⟩])
(.seq (.reg [
⟨(some 11), .mv (.t 1), none⟩,
⟨(some 12), .bin .add .no (.t 11) (.c (.i .i64 1)), none⟩,
⟨(some 7), .mv (.t 12), none⟩])
(.seq (.seq (.reg [
⟨(some 8), .mv (.c (.i .i64 0)), none⟩])
(.blk 0 (.loop (.seq (.seq (.reg [
⟨(some 13), .mv (.t 8), none⟩,
⟨(some 14), .bin .lss .no (.t 13) (.c (.i .i64 5)), none⟩])
(.cond (.t 14)
.skip
(.exit 0)))
(.seq (.blk 1 (.seq (.blk 2 (.loop (.seq (.seq (.drw [
.op ⟨(some 17), .mv (.t 7), none⟩,
.op ⟨(some 18), .mv (.t 2), none⟩,
.op ⟨(some 19), .bin .lss .no (.t 17) (.t 18), none⟩,
.op ⟨(some 20), .mv (.t 19), none⟩,
.op ⟨(some 21), .mv (.t 0), (some (20, true))⟩,
.op ⟨(some 22), .mv (.t 7), (some (20, true))⟩,
.op ⟨(some 23), .iaL 1 (.t 21) (.t 22), (some (20, true))⟩,
.op ⟨(some 24), .ld false 1 (.t 23), (some (20, true))⟩,
.op ⟨(some 25), .mv (.t 0), (some (20, true))⟩,
.op ⟨(some 26), .mv (.t 7), (some (20, true))⟩,
.op ⟨(some 27), .bin .sub .no (.t 26) (.c (.i .i64 1)), (some (20, true))⟩,
.op ⟨(some 28), .iaL 1 (.t 25) (.t 27), (some (20, true))⟩,
.op ⟨(some 29), .ld false 1 (.t 28), (some (20, true))⟩,
.op ⟨(some 30), .call 276 [(.t 24), (.t 29)], (some (20, true))⟩,
.op ⟨(some 31), .un .not (.t 30), (some (20, true))⟩,
.op ⟨(some 32), .pick (.t 20) (.t 31) (.c (.b false)), none⟩])
(.cond (.t 32)
.skip
(.exit 2)))
(.blk 3 (.reg [
⟨(some 33), .mv (.t 7), none⟩,
⟨(some 34), .bin .add .no (.t 33) (.c (.i .i64 1)), none⟩,
⟨(some 7), .mv (.t 34), none⟩])))))
(.seq (.seq (.reg [
⟨(some 35), .mv (.t 7), none⟩,
⟨(some 36), .mv (.t 2), none⟩,
⟨(some 37), .bin .eql .int (.t 35) (.t 36), none⟩])
(.cond (.t 37)
(.seq (.reg [
⟨(some 6), .mv (.c (.b true)), none⟩])
.ret)
.skip))
(.seq (.seq (.reg [
⟨(some 38), .mv (.t 2), none⟩,
⟨(some 39), .mv (.t 1), none⟩,
⟨(some 40), .bin .sub .no (.t 38) (.t 39), none⟩,
⟨(some 41), .bin .lss .no (.t 40) (.c (.i .i64 50)), none⟩])
(.cond (.t 41)
(.seq (.reg [
⟨(some 6), .mv (.c (.b false)), none⟩])
.ret)
.skip))
(.seq (.drw [
.op ⟨(some 42), .mv (.t 0), none⟩,
.op ⟨(some 43), .mv (.t 7), none⟩,
.op ⟨(some 44), .mv (.t 0), none⟩,
.op ⟨(some 45), .mv (.t 7), none⟩,
.op ⟨(some 46), .bin .sub .no (.t 45) (.c (.i .i64 1)), none⟩,
.op ⟨(some 47), .mv (.t 0), none⟩,
.op ⟨(some 48), .mv (.t 7), none⟩,
.op ⟨(some 49), .bin .sub .no (.t 48) (.c (.i .i64 1)), none⟩,
.op ⟨(some 50), .iaL 1 (.t 47) (.t 49), none⟩,
.op ⟨(some 51), .ld false 1 (.t 50), none⟩,
.op ⟨(some 52), .mv (.t 0), none⟩,
.op ⟨(some 53), .mv (.t 7), none⟩,
.op ⟨(some 54), .iaL 1 (.t 52) (.t 53), none⟩,
.op ⟨(some 55), .ld false 1 (.t 54), none⟩,
.op ⟨(some 56), .iaL 1 (.t 42) (.t 43), none⟩,
.op ⟨none, .st 1 (.t 56) (.t 51), none⟩,
.op ⟨(some 57), .iaL 1 (.t 44) (.t 46), none⟩,
.op ⟨none, .st 1 (.t 57) (.t 55), none⟩])
(.seq (.seq (.reg [
⟨(some 58), .mv (.t 7), none⟩,
⟨(some 59), .mv (.t 1), none⟩,
⟨(some 60), .bin .sub .no (.t 58) (.t 59), none⟩,
⟨(some 61), .bin .geq .no (.t 60) (.c (.i .i64 2)), none⟩])
(.cond (.t 61)
(.seq (.reg [
⟨(some 62), .mv (.t 7), none⟩,
⟨(some 63), .bin .sub .no (.t 62) (.c (.i .i64 1)), none⟩,
⟨(some 9), .mv (.t 63), none⟩])
(.blk 4 (.loop (.seq (.seq (.reg [
⟨(some 64), .mv (.t 9), none⟩,
⟨(some 65), .bin .geq .no (.t 64) (.c (.i .i64 1)), none⟩])
(.cond (.t 65)
.skip
(.exit 4)))
(.seq (.blk 5 (.seq (.seq (.drw [
.op ⟨(some 68), .mv (.t 0), none⟩,
.op ⟨(some 69), .mv (.t 9), none⟩,
.op ⟨(some 70), .iaL 1 (.t 68) (.t 69), none⟩,
.op ⟨(some 71), .ld false 1 (.t 70), none⟩,
.op ⟨(some 72), .mv (.t 0), none⟩,
.op ⟨(some 73), .mv (.t 9), none⟩,
.op ⟨(some 74), .bin .sub .no (.t 73) (.c (.i .i64 1)), none⟩,
.op ⟨(some 75), .iaL 1 (.t 72) (.t 74), none⟩,
.op ⟨(some 76), .ld false 1 (.t 75), none⟩,
.op ⟨(some 77), .call 276 [(.t 71), (.t 76)], none⟩,
.op ⟨(some 78), .un .not (.t 77), none⟩])
(.cond (.t 78)
(.exit 4)
.skip))
(.drw [
.op ⟨(some 79), .mv (.t 0), none⟩,
.op ⟨(some 80), .mv (.t 9), none⟩,
.op ⟨(some 81), .mv (.t 0), none⟩,
.op ⟨(some 82), .mv (.t 9), none⟩,
.op ⟨(some 83), .bin .sub .no (.t 82) (.c (.i .i64 1)), none⟩,
.op ⟨(some 84), .mv (.t 0), none⟩,
.op ⟨(some 85), .mv (.t 9), none⟩,
.op ⟨(some 86), .bin .sub .no (.t 85) (.c (.i .i64 1)), none⟩,
.op ⟨(some 87), .iaL 1 (.t 84) (.t 86), none⟩,
.op ⟨(some 88), .ld false 1 (.t 87), none⟩,
.op ⟨(some 89), .mv (.t 0), none⟩,
.op ⟨(some 90), .mv (.t 9), none⟩,
.op ⟨(some 91), .iaL 1 (.t 89) (.t 90), none⟩,
.op ⟨(some 92), .ld false 1 (.t 91), none⟩,
.op ⟨(some 93), .iaL 1 (.t 79) (.t 80), none⟩,
.op ⟨none, .st 1 (.t 93) (.t 88), none⟩,
.op ⟨(some 94), .iaL 1 (.t 81) (.t 83), none⟩,
.op ⟨none, .st 1 (.t 94) (.t 92), none⟩])))
(.reg [
⟨(some 66), .mv (.t 9), none⟩,
⟨(some 67), .bin .sub .no (.t 66) (.c (.i .i64 1)), none⟩,
⟨(some 9), .mv (.t 67), none⟩]))))))
.skip))
(.seq (.reg [
⟨(some 95), .mv (.t 2), none⟩,
⟨(some 96), .mv (.t 7), none⟩,
⟨(some 97), .bin .sub .no (.t 95) (.t 96), none⟩,
⟨(some 98), .bin .geq .no (.t 97) (.c (.i .i64 2)), none⟩])
(.cond (.t 98)
(.seq (.reg [
⟨(some 99), .mv (.t 7), none⟩,
⟨(some 100), .bin .add .no (.t 99) (.c (.i .i64 1)), none⟩,
⟨(some 10), .mv (.t 100), none⟩])
(.blk 6 (.loop (.seq (.seq (.reg [
⟨(some 101), .mv (.t 10), none⟩,
⟨(some 102), .mv (.t 2), none⟩,
⟨(some 103), .bin .lss .no (.t 101) (.t 102), none⟩])
(.cond (.t 103)
.skip
(.exit 6)))
(.seq (.blk 7 (.seq (.seq (.drw [
.op ⟨(some 106), .mv (.t 0), none⟩,
.op ⟨(some 107), .mv (.t 10), none⟩,
.op ⟨(some 108), .iaL 1 (.t 106) (.t 107), none⟩,
.op ⟨(some 109), .ld false 1 (.t 108), none⟩,
.op ⟨(some 110), .mv (.t 0), none⟩,
.op ⟨(some 111), .mv (.t 10), none⟩,
.op ⟨(some 112), .bin .sub .no (.t 111) (.c (.i .i64 1)), none⟩,
.op ⟨(some 113), .iaL 1 (.t 110) (.t 112), none⟩,
.op ⟨(some 114), .ld false 1 (.t 113), none⟩,
.op ⟨(some 115), .call 276 [(.t 109), (.t 114)], none⟩,
.op ⟨(some 116), .un .not (.t 115), none⟩])
(.cond (.t 116)
(.exit 6)
.skip))
(.drw [
.op ⟨(some 117), .mv (.t 0), none⟩,
.op ⟨(some 118), .mv (.t 10), none⟩,
.op ⟨(some 119), .mv (.t 0), none⟩,
.op ⟨(some 120), .mv (.t 10), none⟩,
.op ⟨(some 121), .bin .sub .no (.t 120) (.c (.i .i64 1)), none⟩,
.op ⟨(some 122), .mv (.t 0), none⟩,
.op ⟨(some 123), .mv (.t 10), none⟩,
.op ⟨(some 124), .bin .sub .no (.t 123) (.c (.i .i64 1)), none⟩,
.op ⟨(some 125), .iaL 1 (.t 122) (.t 124), none⟩,
.op ⟨(some 126), .ld false 1 (.t 125), none⟩,
.op ⟨(some 127), .mv (.t 0), none⟩,
.op ⟨(some 128), .mv (.t 10), none⟩,
.op ⟨(some 129), .iaL 1 (.t 127) (.t 128), none⟩,
.op ⟨(some 130), .ld false 1 (.t 129), none⟩,
.op ⟨(some 131), .iaL 1 (.t 117) (.t 118), none⟩,
.op ⟨none, .st 1 (.t 131) (.t 126), none⟩,
.op ⟨(some 132), .iaL 1 (.t 119) (.t 121), none⟩,
.op ⟨none, .st 1 (.t 132) (.t 130), none⟩])))
(.reg [
⟨(some 104), .mv (.t 10), none⟩,
⟨(some 105), .bin .add .no (.t 104) (.c (.i .i64 1)), none⟩,
⟨(some 10), .mv (.t 105), none⟩]))))))
.skip))))))))
(.reg [
⟨(some 15), .mv (.t 8), none⟩,
⟨(some 16), .bin .add .no (.t 15) (.c (.i .i64 1)), none⟩,
⟨(some 8), .mv (.t 16), none⟩]))))))
(.seq (.reg [
⟨(some 6), .mv (.c (.b false)), none⟩])
.ret))))⟩
def f276 : AF := ⟨17, [.t 4], (.seq (.reg [
⟨(some 4), .mv (.c (.b false)), none⟩])
(.seq (.reg [
⟨(some 5), .mv (.t 0), none⟩,
⟨(some 6), .call 291 [(.t 5)], none⟩,
⟨(some 7), .mv (.t 6), none⟩,
⟨(some 8), .mv (.t 1), (some (7, true))⟩,
⟨(some 9), .call 291 [(.t 8)], (some (7, true))⟩,
⟨(some 10), .un .not (.t 9), (some (7, true))⟩,
⟨(some 11), .pick (.t 7) (.t 10) (.c (.b false)), none⟩,
⟨(some 12), .mv (.t 11), none⟩,
⟨(some 13), .mv (.t 0), (some (12, false))⟩,
⟨(some 14), .mv (.t 1), (some (12, false))⟩,
⟨(some 15), .bin .lss .no (.t 13) (.t 14), (some (12, false))⟩,
⟨(some 16), .pick (.t 12) (.c (.b true)) (.t 15), none⟩,
⟨(some 4), .mv (.t 16), none⟩])
.ret))⟩
def f277 : AF := ⟨84, [.t 8], (.seq (.reg [
⟨(some 8), .mv (.c (.i .i64 0)), none⟩])
(.seq (.drw [
.op ⟨(some 11), .mv (.t 0), none⟩,
.op ⟨(some 12), .mv (.t 1), none⟩,
.op ⟨(some 13), .mv (.t 0), none⟩,
.op ⟨(some 14), .mv (.t 3), none⟩,
.op ⟨(some 15), .mv (.t 0), none⟩,
.op ⟨(some 16), .mv (.t 3), none⟩,
.op ⟨(some 17), .iaL 1 (.t 15) (.t 16), none⟩,
.op ⟨(some 18), .ld false 1 (.t 17), none⟩,
.op ⟨(some 19), .mv (.t 0), none⟩,
.op ⟨(some 20), .mv (.t 1), none⟩,
.op ⟨(some 21), .iaL 1 (.t 19) (.t 20), none⟩,
.op ⟨(some 22), .ld false 1 (.t 21), none⟩,
.op ⟨(some 23), .iaL 1 (.t 11) (.t 12), none⟩,
.op ⟨none, .st 1 (.t 23) (.t 18), none⟩,
.op ⟨(some 24), .iaL 1 (.t 13) (.t 14), none⟩,
.op ⟨none, .st 1 (.t 24) (.t 22), none⟩])
(.seq (.reg [
⟨(some 25), .mv (.t 1), none⟩,
⟨(some 26), .bin .add .no (.t 25) (.c (.i .i64 1)), none⟩,
⟨(some 27), .mv (.t 2), none⟩,
⟨(some 28), .bin .sub .no (.t 27) (.c (.i .i64 1)), none⟩,
⟨(some 9), .mv (.t 26), none⟩,
⟨(some 10), .mv (.t 28), none⟩])
(.seq (.blk 0 (.loop (.blk 1 (.seq (.blk 2 (.loop (.seq (.seq (.drw [
.op ⟨(some 29), .mv (.t 9), none⟩,
.op ⟨(some 30), .mv (.t 10), none⟩,
.op ⟨(some 31), .bin .leq .no (.t 29) (.t 30), none⟩,
.op ⟨(some 32), .mv (.t 31), none⟩,
.op ⟨(some 33), .mv (.t 0), (some (32, true))⟩,
.op ⟨(some 34), .mv (.t 1), (some (32, true))⟩,
.op ⟨(some 35), .iaL 1 (.t 33) (.t 34), (some (32, true))⟩,
.op ⟨(some 36), .ld false 1 (.t 35), (some (32, true))⟩,
.op ⟨(some 37), .mv (.t 0), (some (32, true))⟩,
.op ⟨(some 38), .mv (.t 9), (some (32, true))⟩,
.op ⟨(some 39), .iaL 1 (.t 37) (.t 38), (some (32, true))⟩,
.op ⟨(some 40), .ld false 1 (.t 39), (some (32, true))⟩,
.op ⟨(some 41), .call 276 [(.t 36), (.t 40)], (some (32, true))⟩,
.op ⟨(some 42), .un .not (.t 41), (some (32, true))⟩,
.op ⟨(some 43), .pick (.t 32) (.t 42) (.c (.b false)), none⟩])
(.cond (.t 43)
.skip
(.exit 2)))
(.blk 3 (.reg [
⟨(some 44), .mv (.t 9), none⟩,
⟨(some 45), .bin .add .no (.t 44) (.c (.i .i64 1)), none⟩,
⟨(some 9), .mv (.t 45), none⟩])))))
(.seq (.blk 4 (.loop (.seq (.seq (.drw [
.op ⟨(some 46), .mv (.t 9), none⟩,
.op ⟨(some 47), .mv (.t 10), none⟩,
.op ⟨(some 48), .bin .leq .no (.t 46) (.t 47), none⟩,
.op ⟨(some 49), .mv (.t 48), none⟩,
.op ⟨(some 50), .mv (.t 0), (some (49, true))⟩,
.op ⟨(some 51), .mv (.t 1), (some (49, true))⟩,
.op ⟨(some 52), .iaL 1 (.t 50) (.t 51), (some (49, true))⟩,
.op ⟨(some 53), .ld false 1 (.t 52), (some (49, true))⟩,
.op ⟨(some 54), .mv (.t 0), (some (49, true))⟩,
.op ⟨(some 55), .mv (.t 10), (some (49, true))⟩,
.op ⟨(some 56), .iaL 1 (.t 54) (.t 55), (some (49, true))⟩,
.op ⟨(some 57), .ld false 1 (.t 56), (some (49, true))⟩,
.op ⟨(some 58), .call 276 [(.t 53), (.t 57)], (some (49, true))⟩,
.op ⟨(some 59), .pick (.t 49) (.t 58) (.c (.b false)), none⟩])
(.cond (.t 59)
.skip
(.exit 4)))
(.blk 5 (.reg [
⟨(some 60), .mv (.t 10), none⟩,
⟨(some 61), .bin .sub .no (.t 60) (.c (.i .i64 1)), none⟩,
⟨(some 10), .mv (.t 61), none⟩])))))
(.seq (.seq (.reg [
⟨(some 62), .mv (.t 9), none⟩,
⟨(some 63), .mv (.t 10), none⟩,
⟨(some 64), .bin .gtr .no (.t 62) (.t 63), none⟩])
(.cond (.t 64)
(.exit 0)
.skip))
(.seq (.drw [
.op ⟨(some 65), .mv (.t 0), none⟩,
.op ⟨(some 66), .mv (.t 9), none⟩,
.op ⟨(some 67), .mv (.t 0), none⟩,
.op ⟨(some 68), .mv (.t 10), none⟩,
.op ⟨(some 69), .mv (.t 0), none⟩,
.op ⟨(some 70), .mv (.t 10), none⟩,
.op ⟨(some 71), .iaL 1 (.t 69) (.t 70), none⟩,
.op ⟨(some 72), .ld false 1 (.t 71), none⟩,
.op ⟨(some 73), .mv (.t 0), none⟩,
.op ⟨(some 74), .mv (.t 9), none⟩,
.op ⟨(some 75), .iaL 1 (.t 73) (.t 74), none⟩,
.op ⟨(some 76), .ld false 1 (.t 75), none⟩,
.op ⟨(some 77), .iaL 1 (.t 65) (.t 66), none⟩,
.op ⟨none, .st 1 (.t 77) (.t 72), none⟩,
.op ⟨(some 78), .iaL 1 (.t 67) (.t 68), none⟩,
.op ⟨none, .st 1 (.t 78) (.t 76), none⟩])
(.seq (.reg [
⟨(some 79), .mv (.t 9), none⟩,
⟨(some 80), .bin .add .no (.t 79) (.c (.i .i64 1)), none⟩,
⟨(some 9), .mv (.t 80), none⟩])
(.reg [
⟨(some 81), .mv (.t 10), none⟩,
⟨(some 82), .bin .sub .no (.t 81) (.c (.i .i64 1)), none⟩,
⟨(some 10), .mv (.t 82), none⟩])))))))))
(.seq (.reg [
⟨(some 83), .mv (.t 9), none⟩,
⟨(some 8), .mv (.t 83), none⟩])
.ret)))))⟩
def f278 : AF := ⟨168, [.t 8, .t 9], (.seq (.reg [
⟨(some 8), .mv (.c (.i .i64 0)), none⟩,
⟨(some 9), .mv (.c (.b false)), none⟩])
(.seq (.drw [
.op ⟨(some 12), .mv (.t 0), none⟩,
.op ⟨(some 13), .mv (.t 1), none⟩,
.op ⟨(some 14), .mv (.t 0), none⟩,
.op ⟨(some 15), .mv (.t 3), none⟩,
.op ⟨(some 16), .mv (.t 0), none⟩,
.op ⟨(some 17), .mv (.t 3), none⟩,
.op ⟨(some 18), .iaL 1 (.t 16) (.t 17), none⟩,
.op ⟨(some 19), .ld false 1 (.t 18), none⟩,
.op ⟨(some 20), .mv (.t 0), none⟩,
.op ⟨(some 21), .mv (.t 1), none⟩,
.op ⟨(some 22), .iaL 1 (.t 20) (.t 21), none⟩,
.op ⟨(some 23), .ld false 1 (.t 22), none⟩,
.op ⟨(some 24), .iaL 1 (.t 12) (.t 13), none⟩,
.op ⟨none, .st 1 (.t 24) (.t 19), none⟩,
.op ⟨(some 25), .iaL 1 (.t 14) (.t 15), none⟩,
.op ⟨none, .st 1 (.t 25) (.t 23), none⟩])
(.seq (.reg [
⟨(some 26), .mv (.t 1), none⟩,
⟨(some 27), .bin .add .no (.t 26) (.c (.i .i64 1)), none⟩,
⟨(some 28), .mv (.t 2), none⟩,
⟨(some 29), .bin .sub .no (.t 28) (.c (.i .i64 1)), none⟩,
⟨(some 10), .mv (.t 27), none⟩,
⟨(some 11), .mv (.t 29), none⟩])
(.seq (.blk 0 (.loop (.seq (.seq (.drw [
.op ⟨(some 30), .mv (.t 10), none⟩,
.op ⟨(some 31), .mv (.t 11), none⟩,
.op ⟨(some 32), .bin .leq .no (.t 30) (.t 31), none⟩,
.op ⟨(some 33), .mv (.t 32), none⟩,
.op ⟨(some 34), .mv (.t 0), (some (33, true))⟩,
.op ⟨(some 35), .mv (.t 10), (some (33, true))⟩,
.op ⟨(some 36), .iaL 1 (.t 34) (.t 35), (some (33, true))⟩,
.op ⟨(some 37), .ld false 1 (.t 36), (some (33, true))⟩,
.op ⟨(some 38), .mv (.t 0), (some (33, true))⟩,
.op ⟨(some 39), .mv (.t 1), (some (33, true))⟩,
.op ⟨(some 40), .iaL 1 (.t 38) (.t 39), (some (33, true))⟩,
.op ⟨(some 41), .ld false 1 (.t 40), (some (33, true))⟩,
.op ⟨(some 42), .call 276 [(.t 37), (.t 41)], (some (33, true))⟩,
.op ⟨(some 43), .pick (.t 33) (.t 42) (.c (.b false)), none⟩])
(.cond (.t 43)
.skip
(.exit 0)))
(.blk 1 (.reg [
⟨(some 44), .mv (.t 10), none⟩,
⟨(some 45), .bin .add .no (.t 44) (.c (.i .i64 1)), none⟩,
⟨(some 10), .mv (.t 45), none⟩])))))
(.seq (.blk 2 (.loop (.seq (.seq (.drw [
.op ⟨(some 46), .mv (.t 10), none⟩,
.op ⟨(some 47), .mv (.t 11), none⟩,
.op ⟨(some 48), .bin .leq .no (.t 46) (.t 47), none⟩,
.op ⟨(some 49), .mv (.t 48), none⟩,
.op ⟨(some 50), .mv (.t 0), (some (49, true))⟩,
.op ⟨(some 51), .mv (.t 11), (some (49, true))⟩,
.op ⟨(some 52), .iaL 1 (.t 50) (.t 51), (some (49, true))⟩,
.op ⟨(some 53), .ld false 1 (.t 52), (some (49, true))⟩,
.op ⟨(some 54), .mv (.t 0), (some (49, true))⟩,
.op ⟨(some 55), .mv (.t 1), (some (49, true))⟩,
.op ⟨(some 56), .iaL 1 (.t 54) (.t 55), (some (49, true))⟩,
.op ⟨(some 57), .ld false 1 (.t 56), (some (49, true))⟩,
.op ⟨(some 58), .call 276 [(.t 53), (.t 57)], (some (49, true))⟩,
.op ⟨(some 59), .un .not (.t 58), (some (49, true))⟩,
.op ⟨(some 60), .pick (.t 49) (.t 59) (.c (.b false)), none⟩])
(.cond (.t 60)
.skip
(.exit 2)))
(.blk 3 (.reg [
⟨(some 61), .mv (.t 11), none⟩,
⟨(some 62), .bin .sub .no (.t 61) (.c (.i .i64 1)), none⟩,
⟨(some 11), .mv (.t 62), none⟩])))))
(.seq (.seq (.reg [
⟨(some 63), .mv (.t 10), none⟩,
⟨(some 64), .mv (.t 11), none⟩,
⟨(some 65), .bin .gtr .no (.t 63) (.t 64), none⟩])
(.cond (.t 65)
(.seq (.drw [
.op ⟨(some 66), .mv (.t 0), none⟩,
.op ⟨(some 67), .mv (.t 11), none⟩,
.op ⟨(some 68), .mv (.t 0), none⟩,
.op ⟨(some 69), .mv (.t 1), none⟩,
.op ⟨(some 70), .mv (.t 0), none⟩,
.op ⟨(some 71), .mv (.t 1), none⟩,
.op ⟨(some 72), .iaL 1 (.t 70) (.t 71), none⟩,
.op ⟨(some 73), .ld false 1 (.t 72), none⟩,
.op ⟨(some 74), .mv (.t 0), none⟩,
.op ⟨(some 75), .mv (.t 11), none⟩,
.op ⟨(some 76), .iaL 1 (.t 74) (.t 75), none⟩,
.op ⟨(some 77), .ld false 1 (.t 76), none⟩,
.op ⟨(some 78), .iaL 1 (.t 66) (.t 67), none⟩,
.op ⟨none, .st 1 (.t 78) (.t 73), none⟩,
.op ⟨(some 79), .iaL 1 (.t 68) (.t 69), none⟩,
.op ⟨none, .st 1 (.t 79) (.t 77), none⟩])
(.seq (.reg [
⟨(some 80), .mv (.t 11), none⟩,
⟨(some 8), .mv (.t 80), none⟩,
⟨(some 9), .mv (.c (.b true)), none⟩])
.ret))
.skip))
(.seq (.drw [
.op ⟨(some 81), .mv (.t 0), none⟩,
.op ⟨(some 82), .mv (.t 10), none⟩,
.op ⟨(some 83), .mv (.t 0), none⟩,
.op ⟨(some 84), .mv (.t 11), none⟩,
.op ⟨(some 85), .mv (.t 0), none⟩,
.op ⟨(some 86), .mv (.t 11), none⟩,
.op ⟨(some 87), .iaL 1 (.t 85) (.t 86), none⟩,
.op ⟨(some 88), .ld false 1 (.t 87), none⟩,
.op ⟨(some 89), .mv (.t 0), none⟩,
.op ⟨(some 90), .mv (.t 10), none⟩,
.op ⟨(some 91), .iaL 1 (.t 89) (.t 90), none⟩,
.op ⟨(some 92), .ld false 1 (.t 91), none⟩,
.op ⟨(some 93), .iaL 1 (.t 81) (.t 82), none⟩,
.op ⟨none, .st 1 (.t 93) (.t 88), none⟩,
.op ⟨(some 94), .iaL 1 (.t 83) (.t 84), none⟩,
.op ⟨none, .st 1 (.t 94) (.t 92), none⟩])
(.seq (.reg [
⟨(some 95), .mv (.t 10), none⟩,
⟨(some 96), .bin .add .no (.t 95) (.c (.i .i64 1)), none⟩,
⟨(some 10), .mv (.t 96), none⟩])
(.seq (.reg [
⟨(some 97), .mv (.t 11), none⟩,
⟨(some 98), .bin .sub .no (.t 97) (.c (.i .i64 1)), none⟩,
⟨(some 11), .mv (.t 98), none⟩])
(.seq (.blk 4 (.loop (.blk 5 (.seq (.blk 6 (.loop (.seq (.seq (.drw [
.op ⟨(some 99), .mv (.t 10), none⟩,
.op ⟨(some 100), .mv (.t 11), none⟩,
.op ⟨(some 101), .bin .leq .no (.t 99) (.t 100), none⟩,
.op ⟨(some 102), .mv (.t 101), none⟩,
.op ⟨(some 103), .mv (.t 0), (some (102, true))⟩,
.op ⟨(some 104), .mv (.t 10), (some (102, true))⟩,
.op ⟨(some 105), .iaL 1 (.t 103) (.t 104), (some (102, true))⟩,
.op ⟨(some 106), .ld false 1 (.t 105), (some (102, true))⟩,
.op ⟨(some 107), .mv (.t 0), (some (102, true))⟩,
.op ⟨(some 108), .mv (.t 1), (some (102, true))⟩,
.op ⟨(some 109), .iaL 1 (.t 107) (.t 108), (some (102, true))⟩,
.op ⟨(some 110), .ld false 1 (.t 109), (some (102, true))⟩,
.op ⟨(some 111), .call 276 [(.t 106), (.t 110)], (some (102, true))⟩,
.op ⟨(some 112), .pick (.t 102) (.t 111) (.c (.b false)), none⟩])
(.cond (.t 112)
.skip
(.exit 6)))
(.blk 7 (.reg [
⟨(some 113), .mv (.t 10), none⟩,
⟨(some 114), .bin .add .no (.t 113) (.c (.i .i64 1)), none⟩,
⟨(some 10), .mv (.t 114), none⟩])))))
(.seq (.blk 8 (.loop (.seq (.seq (.drw [
.op ⟨(some 115), .mv (.t 10), none⟩,
.op ⟨(some 116), .mv (.t 11), none⟩,
.op ⟨(some 117), .bin .leq .no (.t 115) (.t 116), none⟩,
.op ⟨(some 118), .mv (.t 117), none⟩,
.op ⟨(some 119), .mv (.t 0), (some (118, true))⟩,
.op ⟨(some 120), .mv (.t 11), (some (118, true))⟩,
.op ⟨(some 121), .iaL 1 (.t 119) (.t 120), (some (118, true))⟩,
.op ⟨(some 122), .ld false 1 (.t 121), (some (118, true))⟩,
.op ⟨(some 123), .mv (.t 0), (some (118, true))⟩,
.op ⟨(some 124), .mv (.t 1), (some (118, true))⟩,
.op ⟨(some 125), .iaL 1 (.t 123) (.t 124), (some (118, true))⟩,
.op ⟨(some 126), .ld false 1 (.t 125), (some (118, true))⟩,
.op ⟨(some 127), .call 276 [(.t 122), (.t 126)], (some (118, true))⟩,
.op ⟨(some 128), .un .not (.t 127), (some (118, true))⟩,
.op ⟨(some 129), .pick (.t 118) (.t 128) (.c (.b false)), none⟩])
(.cond (.t 129)
.skip
(.exit 8)))
(.blk 9 (.reg [
⟨(some 130), .mv (.t 11), none⟩,
⟨(some 131), .bin .sub .no (.t 130) (.c (.i .i64 1)), none⟩,
⟨(some 11), .mv (.t 131), none⟩])))))
(.seq (.seq (.reg [
⟨(some 132), .mv (.t 10), none⟩,
⟨(some 133), .mv (.t 11), none⟩,
⟨(some 134), .bin .gtr .no (.t 132) (.t 133), none⟩])
(.cond (.t 134)
(.exit 4)
.skip))
(.seq (.drw [
.op ⟨(some 135), .mv (.t 0), none⟩,
.op ⟨(some 136), .mv (.t 10), none⟩,
.op ⟨(some 137), .mv (.t 0), none⟩,
.op ⟨(some 138), .mv (.t 11), none⟩,
.op ⟨(some 139), .mv (.t 0), none⟩,
.op ⟨(some 140), .mv (.t 11), none⟩,
.op ⟨(some 141), .iaL 1 (.t 139) (.t 140), none⟩,
.op ⟨(some 142), .ld false 1 (.t 141), none⟩,
.op ⟨(some 143), .mv (.t 0), none⟩,
.op ⟨(some 144), .mv (.t 10), none⟩,
.op ⟨(some 145), .iaL 1 (.t 143) (.t 144), none⟩,
.op ⟨(some 146), .ld false 1 (.t 145), none⟩,
.op ⟨(some 147), .iaL 1 (.t 135) (.t 136), none⟩,
.op ⟨none, .st 1 (.t 147) (.t 142), none⟩,
.op ⟨(some 148), .iaL 1 (.t 137) (.t 138), none⟩,
.op ⟨none, .st 1 (.t 148) (.t 146), none⟩])
(.seq (.reg [
⟨(some 149), .mv (.t 10), none⟩,
⟨(some 150), .bin .add .no (.t 149) (.c (.i .i64 1)), none⟩,
⟨(some 10), .mv (.t 150), none⟩])
(.reg [
⟨(some 151), .mv (.t 11), none⟩,
⟨(some 152), .bin .sub .no (.t 151) (.c (.i .i64 1)), none⟩,
⟨(some 11), .mv (.t 152), none⟩])))))))))
(.seq (.drw [
.op ⟨(some 153), .mv (.t 0), none⟩,
.op ⟨(some 154), .mv (.t 11), none⟩,
.op ⟨(some 155), .mv (.t 0), none⟩,
.op ⟨(some 156), .mv (.t 1), none⟩,
.op ⟨(some 157), .mv (.t 0), none⟩,
.op ⟨(some 158), .mv (.t 1), none⟩,
.op ⟨(some 159), .iaL 1 (.t 157) (.t 158), none⟩,
.op ⟨(some 160), .ld false 1 (.t 159), none⟩,
.op ⟨(some 161), .mv (.t 0), none⟩,
.op ⟨(some 162), .mv (.t 11), none⟩,
.op ⟨(some 163), .iaL 1 (.t 161) (.t 162), none⟩,
.op ⟨(some 164), .ld false 1 (.t 163), none⟩,
.op ⟨(some 165), .iaL 1 (.t 153) (.t 154), none⟩,
.op ⟨none, .st 1 (.t 165) (.t 160), none⟩,
.op ⟨(some 166), .iaL 1 (.t 155) (.t 156), none⟩,
.op ⟨none, .st 1 (.t 166) (.t 164), none⟩])
(.seq (.reg [
⟨(some 167), .mv (.t 11), none⟩,
⟨(some 8), .mv (.t 167), none⟩,
⟨(some 9), .mv (.c (.b false)), none⟩])
.ret))))))))))))⟩
def f279 : AF := ⟨28, [.t 8, .t 9], (.seq (.reg [
⟨(some 8), .mv (.c (.i .i64 0)), none⟩,
⟨(some 9), .mv (.c (.i .i64 0)), none⟩])
(.seq (.seq (.drw [
.op ⟨(some 10), .mv (.t 0), none⟩,
.op ⟨(some 11), .mv (.t 2), none⟩,
.op ⟨(some 12), .iaL 1 (.t 10) (.t 11), none⟩,
.op ⟨(some 13), .ld false 1 (.t 12), none⟩,
.op ⟨(some 14), .mv (.t 0), none⟩,
.op ⟨(some 15), .mv (.t 1), none⟩,
.op ⟨(some 16), .iaL 1 (.t 14) (.t 15), none⟩,
.op ⟨(some 17), .ld false 1 (.t 16), none⟩,
.op ⟨(some 18), .call 209 [(.t 13), (.t 17)], none⟩])
(.cond (.t 18)
(.seq (.reg [
⟨(some 19), .mv (.t 3), none⟩,
⟨(some 20), .nck (.t 19), none⟩,
⟨(some 21), .ld false 1 (.t 20), none⟩,
⟨(some 22), .bin .add .no (.t 21) (.c (.i .i64 1)), none⟩,
⟨(some 23), .nck (.t 19), none⟩,
⟨none, .st 1 (.t 23) (.t 22), none⟩])
(.seq (.reg [
⟨(some 24), .mv (.t 2), none⟩,
⟨(some 25), .mv (.t 1), none⟩,
⟨(some 8), .mv (.t 24), none⟩,
⟨(some 9), .mv (.t 25), none⟩])
.ret))
.skip))
(.seq (.reg [
⟨(some 26), .mv (.t 1), none⟩,
⟨(some 27), .mv (.t 2), none⟩,
⟨(some 8), .mv (.t 26), none⟩,
⟨(some 9), .mv (.t 27), none⟩])
.ret)))⟩
def f286 : AF := ⟨9, [.t 4], (.seq (.reg [
⟨(some 4), .mv (.c (.b false)), none⟩])
(.seq (.reg [
⟨(some 5), .mv (.t 0), none⟩,
⟨(some 6), .mv (.t 1), none⟩,
⟨(some 7), .call 294 [(.t 5), (.t 6)], none⟩,
⟨(some 8), .bin .geq .no (.t 7) (.c (.i .i64 0)), none⟩,
⟨(some 4), .mv (.t 8), none⟩])
.ret))⟩
def f287 : AF := ⟨6, [.t 2], (.seq (.reg [
⟨(some 2), .mv (.c (.b false)), none⟩])
(.seq (.reg [
⟨(some 3), .mv (.t 0), none⟩,
⟨(some 4), .call 139 [(.t 3)], none⟩,
⟨(some 5), .un .not (.t 4), none⟩,
⟨(some 2), .mv (.t 5), none⟩])
.ret))⟩
def f288 : AF := ⟨76, [], (.seq (.reg [
⟨(some 10), .mv (.t 1), none⟩,
⟨(some 8), .mv (.t 10), none⟩])
(.blk 0 (.loop (.blk 1 (.seq (.reg [
⟨(some 11), .mv (.t 8), none⟩,
⟨(some 12), .bin .mul .no (.c (.i .i64 2)) (.t 11), none⟩,
⟨(some 13), .bin .add .no (.t 12) (.c (.i .i64 1)), none⟩,
⟨(some 9), .mv (.t 13), none⟩])
(.seq (.seq (.reg [
⟨(some 14), .mv (.t 9), none⟩,
⟨(some 15), .mv (.t 2), none⟩,
⟨(some 16), .bin .geq .no (.t 14) (.t 15), none⟩])
(.cond (.t 16)
(.exit 0)
.skip))
(.seq (.seq (.drw [
.op ⟨(some 17), .mv (.t 9), none⟩,
.op ⟨(some 18), .bin .add .no (.t 17) (.c (.i .i64 1)), none⟩,
.op ⟨(some 19), .mv (.t 2), none⟩,
.op ⟨(some 20), .bin .lss .no (.t 18) (.t 19), none⟩,
.op ⟨(some 21), .mv (.t 20), none⟩,
.op ⟨(some 22), .mv (.t 0), (some (21, true))⟩,
.op ⟨(some 23), .mv (.t 3), (some (21, true))⟩,
.op ⟨(some 24), .mv (.t 9), (some (21, true))⟩,
.op ⟨(some 25), .bin .add .no (.t 23) (.t 24), (some (21, true))⟩,
.op ⟨(some 26), .iaL 1 (.t 22) (.t 25), (some (21, true))⟩,
.op ⟨(some 27), .ld false 1 (.t 26), (some (21, true))⟩,
.op ⟨(some 28), .mv (.t 0), (some (21, true))⟩,
.op ⟨(some 29), .mv (.t 3), (some (21, true))⟩,
.op ⟨(some 30), .mv (.t 9), (some (21, true))⟩,
.op ⟨(some 31), .bin .add .no (.t 29) (.t 30), (some (21, true))⟩,
.op ⟨(some 32), .bin .add .no (.t 31) (.c (.i .i64 1)), (some (21, true))⟩,
.op ⟨(some 33), .iaL 1 (.t 28) (.t 32), (some (21, true))⟩,
.op ⟨(some 34), .ld false 1 (.t 33), (some (21, true))⟩,
.op ⟨(some 35), .call 276 [(.t 27), (.t 34)], (some (21, true))⟩,
.op ⟨(some 36), .pick (.t 21) (.t 35) (.c (.b false)), none⟩])
(.cond (.t 36)
(.reg [
⟨(some 37), .mv (.t 9), none⟩,
⟨(some 38), .bin .add .no (.t 37) (.c (.i .i64 1)), none⟩,
⟨(some 9), .mv (.t 38), none⟩])
.skip))
(.seq (.seq (.drw [
.op ⟨(some 39), .mv (.t 0), none⟩,
.op ⟨(some 40), .mv (.t 3), none⟩,
.op ⟨(some 41), .mv (.t 8), none⟩,
.op ⟨(some 42), .bin .add .no (.t 40) (.t 41), none⟩,
.op ⟨(some 43), .iaL 1 (.t 39) (.t 42), none⟩,
.op ⟨(some 44), .ld false 1 (.t 43), none⟩,
.op ⟨(some 45), .mv (.t 0), none⟩,
.op ⟨(some 46), .mv (.t 3), none⟩,
.op ⟨(some 47), .mv (.t 9), none⟩,
.op ⟨(some 48), .bin .add .no (.t 46) (.t 47), none⟩,
.op ⟨(some 49), .iaL 1 (.t 45) (.t 48), none⟩,
.op ⟨(some 50), .ld false 1 (.t 49), none⟩,
.op ⟨(some 51), .call 276 [(.t 44), (.t 50)], none⟩,
.op ⟨(some 52), .un .not (.t 51), none⟩])
(.cond (.t 52)
.ret
.skip))
(.seq (.drw [
.op ⟨(some 53), .mv (.t 0), none⟩,
.op ⟨(some 54), .mv (.t 3), none⟩,
.op ⟨(some 55), .mv (.t 8), none⟩,
.op ⟨(some 56), .bin .add .no (.t 54) (.t 55), none⟩,
.op ⟨(some 57), .mv (.t 0), none⟩,
.op ⟨(some 58), .mv (.t 3), none⟩,
.op ⟨(some 59), .mv (.t 9), none⟩,
.op ⟨(some 60), .bin .add .no (.t 58) (.t 59), none⟩,
.op ⟨(some 61), .mv (.t 0), none⟩,
.op ⟨(some 62), .mv (.t 3), none⟩,
.op ⟨(some 63), .mv (.t 9), none⟩,
.op ⟨(some 64), .bin .add .no (.t 62) (.t 63), none⟩,
.op ⟨(some 65), .iaL 1 (.t 61) (.t 64), none⟩,
.op ⟨(some 66), .ld false 1 (.t 65), none⟩,
.op ⟨(some 67), .mv (.t 0), none⟩,
.op ⟨(some 68), .mv (.t 3), none⟩,
.op ⟨(some 69), .mv (.t 8), none⟩,
.op ⟨(some 70), .bin .add .no (.t 68) (.t 69), none⟩,
.op ⟨(some 71), .iaL 1 (.t 67) (.t 70), none⟩,
.op ⟨(some 72), .ld false 1 (.t 71), none⟩,
.op ⟨(some 73), .iaL 1 (.t 53) (.t 56), none⟩,
.op ⟨none, .st 1 (.t 73) (.t 66), none⟩,
.op ⟨(some 74), .iaL 1 (.t 57) (.t 60), none⟩,
.op ⟨none, .st 1 (.t 74) (.t 72), none⟩])
(.reg [
⟨(some 75), .mv (.t 9), none⟩,
⟨(some 8), .mv (.t 75), none⟩]))))))))))⟩
def f289 : AF := ⟨15, [.t 6], (.seq (.reg [
⟨(some 6), .mv (.c (.i .i64 0)), none⟩])
(.seq (.reg [
⟨(some 7), .mv (.t 0), none⟩,
⟨(some 8), .mv (.t 1), none⟩,
⟨(some 9), .bin .sub .no (.t 8) (.c (.i .i64 1)), none⟩,
⟨(some 10), .mv (.t 1), none⟩,
⟨(some 11), .mv (.t 1), none⟩,
⟨(some 12), .bin .add .no (.t 11) (.c (.i .i64 1)), none⟩,
⟨(some 13), .mv (.t 2), none⟩,
⟨(some 14), .call 290 [(.t 7), (.t 9), (.t 10), (.t 12), (.t 13)], none⟩,
⟨(some 6), .mv (.t 14), none⟩])
.ret))⟩
def f290 : AF := ⟨36, [.t 10], (.seq (.reg [
⟨(some 10), .mv (.c (.i .i64 0)), none⟩])
(.seq (.reg [
⟨(some 12), .mv (.t 0), none⟩,
⟨(some 13), .mv (.t 1), none⟩,
⟨(some 14), .mv (.t 2), none⟩,
⟨(some 15), .mv (.t 4), none⟩,
⟨(some 16), .call 295 [(.t 12), (.t 13), (.t 14), (.t 15)], none⟩,
⟨(some 11), .mv (.t 16), none⟩,
⟨(some 17), .xt (.t 11) 0, none⟩,
⟨(some 18), .xt (.t 11) 1, none⟩,
⟨(some 1), .mv (.t 17), none⟩,
⟨(some 2), .mv (.t 18), none⟩])
(.seq (.reg [
⟨(some 20), .mv (.t 0), none⟩,
⟨(some 21), .mv (.t 2), none⟩,
⟨(some 22), .mv (.t 3), none⟩,
⟨(some 23), .mv (.t 4), none⟩,
⟨(some 24), .call 295 [(.t 20), (.t 21), (.t 22), (.t 23)], none⟩,
⟨(some 19), .mv (.t 24), none⟩,
⟨(some 25), .xt (.t 19) 0, none⟩,
⟨(some 26), .xt (.t 19) 1, none⟩,
⟨(some 2), .mv (.t 25), none⟩,
⟨(some 3), .mv (.t 26), none⟩])
(.seq (.reg [
⟨(some 28), .mv (.t 0), none⟩,
⟨(some 29), .mv (.t 1), none⟩,
⟨(some 30), .mv (.t 2), none⟩,
⟨(some 31), .mv (.t 4), none⟩,
⟨(some 32), .call 295 [(.t 28), (.t 29), (.t 30), (.t 31)], none⟩,
⟨(some 27), .mv (.t 32), none⟩,
⟨(some 33), .xt (.t 27) 0, none⟩,
⟨(some 34), .xt (.t 27) 1, none⟩,
⟨(some 1), .mv (.t 33), none⟩,
⟨(some 2), .mv (.t 34), none⟩])
(.seq (.reg [
⟨(some 35), .mv (.t 2), none⟩,
⟨(some 10), .mv (.t 35), none⟩])
.ret)))))⟩
def f291 : AF := ⟨6, [.t 2], (.seq (.reg [
⟨(some 2), .mv (.c (.b false)), none⟩])
(.seq (.reg [
⟨(some 3), .mv (.t 0), none⟩,
⟨(some 4), .mv (.t 0), none⟩,
⟨(some 5), .bin .neq .str (.t 3) (.t 4), none⟩,
⟨(some 2), .mv (.t 5), none⟩])
.ret))⟩
def f294 : AF := ⟨19, [.t 4], (.seq (.reg [
⟨(some 4), .mv (.c (.i .i64 0)), none⟩])
(.seq (.seq (.reg [
⟨(some 6), .mv (.t 0), none⟩,
⟨(some 7), .len 1 (.t 6), none⟩,
⟨(some 8), .mv (.c (.i .i64 0)), none⟩])
(.blk 0 (.loop (.seq (.reg [
⟨(some 9), .bin .lss .no (.t 8) (.t 7), none⟩])
(.seq (.cond (.t 9)
.skip
(.exit 0))
(.seq (.blk 1 (.seq (.reg [
⟨(some 10), .mv (.t 8), none⟩,
⟨(some 5), .mv (.t 10), none⟩])
(.seq (.reg [
⟨(some 11), .mv (.t 1), none⟩,
⟨(some 12), .mv (.t 0), none⟩,
⟨(some 13), .mv (.t 5), none⟩,
⟨(some 14), .iaL 1 (.t 12) (.t 13), none⟩,
⟨(some 15), .ld false 1 (.t 14), none⟩,
⟨(some 16), .cald (.t 11) [(.t 15)], none⟩])
(.cond (.t 16)
(.seq (.reg [
⟨(some 17), .mv (.t 5), none⟩,
⟨(some 4), .mv (.t 17), none⟩])
.ret)
.skip))))
(.reg [
⟨(some 18), .bin .add .no (.t 8) (.c (.i .i64 1)), none⟩,
⟨(some 8), .mv (.t 18), none⟩])))))))
(.seq (.reg [
⟨(some 4), .mv (.c (.i .i64 (-1))), none⟩])
.ret)))⟩
def f295 : AF := ⟨28, [.t 8, .t 9], (.seq (.reg [
⟨(some 8), .mv (.c (.i .i64 0)), none⟩,
⟨(some 9), .mv (.c (.i .i64 0)), none⟩])
(.seq (.seq (.drw [
.op ⟨(some 10), .mv (.t 0), none⟩,
.op ⟨(some 11), .mv (.t 2), none⟩,
.op ⟨(some 12), .iaL 1 (.t 10) (.t 11), none⟩,
.op ⟨(some 13), .ld false 1 (.t 12), none⟩,
.op ⟨(some 14), .mv (.t 0), none⟩,
.op ⟨(some 15), .mv (.t 1), none⟩,
.op ⟨(some 16), .iaL 1 (.t 14) (.t 15), none⟩,
.op ⟨(some 17), .ld false 1 (.t 16), none⟩,
.op ⟨(some 18), .call 276 [(.t 13), (.t 17)], none⟩])
(.cond (.t 18)
(.seq (.reg [
⟨(some 19), .mv (.t 3), none⟩,
⟨(some 20), .nck (.t 19), none⟩,
⟨(some 21), .ld false 1 (.t 20), none⟩,
⟨(some 22), .bin .add .no (.t 21) (.c (.i .i64 1)), none⟩,
⟨(some 23), .nck (.t 19), none⟩,
⟨none, .st 1 (.t 23) (.t 22), none⟩])
(.seq (.reg [
⟨(some 24), .mv (.t 2), none⟩,
⟨(some 25), .mv (.t 1), none⟩,
⟨(some 8), .mv (.t 24), none⟩,
⟨(some 9), .mv (.t 25), none⟩])
.ret))
.skip))
(.seq (.reg [
⟨(some 26), .mv (.t 1), none⟩,
⟨(some 27), .mv (.t 2), none⟩,
⟨(some 8), .mv (.t 26), none⟩,
⟨(some 9), .mv (.t 27), none⟩])
.ret)))⟩
def tree : Tr AF := (.n (.n (.n (.n (.n (.n (.n .e none (.n .e (some f191) .e)) (some f31) (.n (.n (.n .e (some f287) .e) (some f159) .e) (some f95) .e)) none (.n (.n (.n (.n .e (some f271) .e) (some f143) .e) (some f79) (.n .e (some f207) .e)) none (.n .e (some f111) (.n .e (some f239) .e)))) (some f7) (.n (.n (.n .e (some f71) (.n .e (some f199) .e)) (some f39) (.n (.n (.n .e (some f295) .e) none .e) (some f103) .e)) (some f23) (.n (.n (.n (.n .e (some f279) .e) (some f151) .e) (some f87) .e) none (.n .e none (.n .e (some f247) .e))))) (some f3) (.n (.n (.n (.n .e none (.n .e (some f195) .e)) (some f35) (.n (.n (.n .e (some f291) .e) (some f163) .e) (some f99) .e)) none (.n (.n (.n (.n .e (some f275) .e) (some f147) .e) (some f83) (.n .e (some f211) .e)) none (.n .e none (.n .e (some f243) .e)))) (some f11) (.n (.n (.n (.n .e (some f139) .e) (some f75) (.n .e (some f203) .e)) (some f43) .e) (some f27) (.n (.n (.n .e (some f155) .e) (some f91) .e) none (.n (.n .e (some f187) .e) none (.n .e (some f251) .e)))))) none (.n (.n (.n (.n (.n .e none (.n .e (some f193) .e)) (some f33) (.n (.n (.n .e (some f289) .e) (some f161) .e) (some f97) .e)) none (.n (.n (.n (.n .e (some f273) .e) (some f145) .e) (some f81) (.n .e (some f209) .e)) none (.n .e (some f113) (.n .e (some f241) .e)))) (some f9) (.n (.n (.n (.n .e (some f137) .e) (some f73) (.n .e (some f201) .e)) (some f41) (.n .e (some f105) .e)) (some f25) (.n (.n (.n .e (some f153) .e) (some f89) .e) none (.n .e none (.n .e (some f249) .e))))) (some f5) (.n (.n (.n (.n .e (some f69) (.n .e (some f197) .e)) (some f37) (.n .e (some f101) .e)) none (.n (.n (.n (.n .e (some f277) .e) (some f149) .e) (some f85) .e) none (.n .e none (.n .e (some f245) .e)))) none (.n (.n (.n (.n (.n .e (some f269) .e) (some f141) .e) (some f77) (.n .e (some f205) .e)) none (.n .e (some f109) (.n .e (some f237) .e))) (some f29) (.n (.n (.n .e (some f157) .e) (some f93) .e) none (.n (.n .e (some f189) .e) none .e)))))) none (.n (.n (.n (.n (.n .e (some f32) (.n (.n (.n .e (some f288) .e) (some f160) .e) (some f96) .e)) none (.n (.n (.n (.n .e (some f272) .e) (some f144) .e) (some f80) (.n .e (some f208) .e)) (some f48) (.n .e (some f112) (.n .e (some f240) .e)))) (some f8) (.n (.n (.n (.n .e (some f136) .e) (some f72) (.n .e (some f200) .e)) (some f40) (.n .e (some f104) .e)) (some f24) (.n (.n (.n .e (some f152) .e) (some f88) .e) none (.n .e none (.n .e (some f248) .e))))) none (.n (.n (.n (.n .e (some f68) (.n .e (some f196) .e)) (some f36) (.n .e (some f100) .e)) none (.n (.n (.n (.n .e (some f276) .e) (some f148) .e) (some f84) (.n .e (some f212) .e)) (some f52) (.n .e none (.n .e (some f244) .e)))) (some f12) (.n (.n (.n (.n (.n .e (some f268) .e) (some f140) .e) (some f76) (.n .e (some f204) .e)) none .e) (some f28) (.n (.n (.n .e (some f156) .e) (some f92) .e) none (.n (.n .e (some f188) .e) none .e))))) none (.n (.n (.n (.n (.n .e none (.n .e (some f194) .e)) (some f34) (.n (.n (.n .e (some f290) .e) (some f162) .e) (some f98) .e)) none (.n (.n (.n (.n .e (some f274) .e) (some f146) .e) (some f82) (.n .e (some f210) .e)) none (.n .e (some f114) (.n .e (some f242) .e)))) (some f10) (.n (.n (.n (.n .e (some f138) .e) (some f74) (.n .e (some f202) .e)) none .e) (some f26) (.n (.n (.n .e (some f154) .e) (some f90) .e) none (.n .e none (.n .e (some f250) .e))))) (some f6) (.n (.n (.n (.n .e (some f70) (.n .e (some f198) .e)) (some f38) (.n (.n (.n .e (some f294) .e) none .e) (some f102) .e)) none (.n (.n (.n (.n .e (some f278) .e) (some f150) .e) (some f86) .e) none (.n .e none (.n .e (some f246) .e)))) none (.n (.n (.n (.n (.n .e (some f270) .e) (some f142) .e) (some f78) (.n .e (some f206) .e)) none (.n .e (some f110) .e)) (some f30) (.n (.n (.n (.n .e (some f286) .e) (some f158) .e) (some f94) .e) none (.n (.n .e (some f190) .e) none .e)))))))
def env (i : Nat) : Option AF := tree.get i
end Go.Proofs.YtmlfcopllfdjfaaGreat.Am.Rn
