/- The functions that the laws reach, as the abstract machine has them. -/
import Derived.Test.YtnaainlddcpfgaaAc0
import Derived.Test.YtnaainlddcpfgaaAc1
namespace Go.Proofs.Ytnaainlddcpfgaa
open Go Go.Am Go.Proofs
set_option linter.all false
/-- spec.l8DrawNode -/
def ac96 : AFunc := ⟨[2, 3], 1, [(.lcell true 15 100002)], (.seq (.reg [⟨(some 100002), none, (.lbox (.c (.agg [(.int .i64 0), (.int .i64 0), (.int .i64 0), (.int .i64 0), (.int .i64 0), (.int .i64 0), (.int .i64 0), (.int .i64 0), (.int .i64 0), (.int .i64 0), (.int .i64 0), (.int .i64 0), (.int .i64 0), (.str ⟨#[]⟩), (.int .i64 0)])))⟩]) (.seq (.seq (.reg [⟨(some 4), none, (.mov (.t 0))⟩, ⟨(some 5), none, (.call 72 [(.t 4), (.c (.int .i64 16))])⟩]) (.block 0 (.seq (.reg [⟨(some 7), none, (.bin .eql (.t 5) (.c (.int .i64 0)))⟩, ⟨(some 6), none, (.mov (.t 7))⟩]) (.cond (.t 6) (.seq (.reg [⟨(some 8), none, (.mov (.t 0))⟩, ⟨(some 9), none, (.call 95 [(.t 8)])⟩, ⟨(some 10), none, (.bin .sub (.t 9) (.c (.int .i64 262144)))⟩, ⟨(some 11), none, (.build [(.int .i64 0), (.int .i64 0), (.int .i64 0), (.int .i64 0), (.int .i64 0), (.int .i64 0), (.int .i64 0), (.int .i64 0), (.int .i64 0), (.int .i64 0), (.int .i64 0), (.int .i64 0), (.int .i64 0), (.str ⟨#[]⟩), (.int .i64 0)] [(0, (1, (.c (.int .i64 2)))), (1, (1, (.t 10)))])⟩, ⟨(some 100002), none, (.lstore 15 100002 0 (.t 11))⟩]) .ret) (.seq (.seq (.reg [⟨(some 13), none, (.bin .eql (.t 5) (.c (.int .i64 1)))⟩, ⟨(some 12), none, (.mov (.t 13))⟩]) (.cond (.t 12) .skip (.seq (.reg [⟨(some 14), none, (.bin .eql (.t 5) (.c (.int .i64 2)))⟩, ⟨(some 12), none, (.mov (.t 14))⟩]) (.cond (.t 12) .skip (.reg [⟨(some 15), none, (.bin .eql (.t 5) (.c (.int .i64 3)))⟩, ⟨(some 12), none, (.mov (.t 15))⟩]))))) (.cond (.t 12) (.seq (.reg [⟨(some 16), none, (.mov (.t 0))⟩, ⟨(some 17), none, (.call 116 [(.t 16)])⟩, ⟨(some 18), none, (.build [(.int .i64 0), (.int .i64 0), (.int .i64 0), (.int .i64 0), (.int .i64 0), (.int .i64 0), (.int .i64 0), (.int .i64 0), (.int .i64 0), (.int .i64 0), (.int .i64 0), (.int .i64 0), (.int .i64 0), (.str ⟨#[]⟩), (.int .i64 0)] [(0, (1, (.c (.int .i64 3)))), (8, (5, (.t 17)))])⟩, ⟨(some 100002), none, (.lstore 15 100002 0 (.t 18))⟩]) .ret) (.seq (.reg [⟨(some 20), none, (.bin .eql (.t 5) (.c (.int .i64 4)))⟩, ⟨(some 19), none, (.mov (.t 20))⟩]) (.cond (.t 19) (.seq (.reg [⟨(some 21), none, (.bslice 6 1 [(.int .i64 0)] [(0, (.c (.int .i64 0))), (1, (.c (.int .i64 50))), (2, (.c (.int .i64 (-50)))), (3, (.c (.int .i64 10000))), (4, (.c (.int .i64 (-10000)))), (5, (.c (.int .i64 200)))])⟩, ⟨(some 22), none, (.mov (.t 0))⟩, ⟨(some 23), none, (.call 72 [(.t 22), (.c (.int .i64 6))])⟩, ⟨(some 24), none, (.iaddr 1 (.t 21) (.t 23))⟩, ⟨(some 25), none, (.load false 1 (.t 24))⟩, ⟨(some 26), none, (.build [(.int .i64 0), (.int .i64 0), (.int .i64 0), (.int .i64 0), (.int .i64 0), (.int .i64 0), (.int .i64 0), (.int .i64 0), (.int .i64 0), (.int .i64 0), (.int .i64 0), (.int .i64 0), (.int .i64 0), (.str ⟨#[]⟩), (.int .i64 0)] [(0, (1, (.c (.int .i64 4)))), (7, (1, (.t 25)))])⟩, ⟨(some 100002), none, (.lstore 15 100002 0 (.t 26))⟩]) .ret) (.seq (.reg [⟨(some 28), none, (.bin .eql (.t 5) (.c (.int .i64 5)))⟩, ⟨(some 27), none, (.mov (.t 28))⟩]) (.cond (.t 27) (.seq (.reg [⟨(some 29), none, (.mov (.t 0))⟩, ⟨(some 30), none, (.call 95 [(.t 29)])⟩, ⟨(some 31), none, (.mov (.t 0))⟩, ⟨(some 32), none, (.call 95 [(.t 31)])⟩, ⟨(some 33), none, (.mov (.t 0))⟩, ⟨(some 34), none, (.call 95 [(.t 33)])⟩, ⟨(some 35), none, (.bin .quo (.t 34) (.c (.int .i64 4)))⟩, ⟨(some 36), none, (.build [(.int .i64 0), (.int .i64 0), (.int .i64 0), (.int .i64 0), (.int .i64 0), (.int .i64 0), (.int .i64 0), (.int .i64 0), (.int .i64 0), (.int .i64 0), (.int .i64 0), (.int .i64 0), (.int .i64 0), (.str ⟨#[]⟩), (.int .i64 0)] [(0, (1, (.c (.int .i64 5)))), (1, (1, (.t 30))), (2, (1, (.t 32))), (3, (1, (.t 35)))])⟩, ⟨(some 100002), none, (.lstore 15 100002 0 (.t 36))⟩]) .ret) (.seq (.reg [⟨(some 38), none, (.bin .eql (.t 5) (.c (.int .i64 6)))⟩, ⟨(some 37), none, (.mov (.t 38))⟩]) (.cond (.t 37) (.seq (.reg [⟨(some 39), none, (.mov (.t 0))⟩, ⟨(some 40), none, (.call 72 [(.t 39), (.c (.int .i64 3))])⟩, ⟨(some 41), none, (.call 117 [(.t 40), (.c (.int .i64 45))])⟩, ⟨(some 100003), none, (.lbox (.c (.agg [(.int .i64 0), (.int .i64 0), (.int .i64 0), (.int .i64 0), (.int .i64 0), (.int .i64 0), (.int .i64 0), (.int .i64 0), (.int .i64 0), (.int .i64 0), (.int .i64 0), (.int .i64 0), (.int .i64 0), (.str ⟨#[]⟩), (.int .i64 0)])))⟩, ⟨(some 100003), none, (.lstore 15 100003 0 (.t 41))⟩]) (.seq (.reg [⟨(some 42), none, (.laddr 100003)⟩, ⟨(some 100003), none, (.lstore 1 100003 0 (.c (.int .i64 8)))⟩]) (.seq (.reg [⟨(some 43), none, (.lload true 15 100003 0)⟩, ⟨(some 100002), none, (.lstore 15 100002 0 (.t 43))⟩]) .ret))) (.seq (.reg [⟨(some 45), none, (.bin .eql (.t 5) (.c (.int .i64 7)))⟩, ⟨(some 44), none, (.mov (.t 45))⟩]) (.cond (.t 44) (.seq (.seq (.reg [⟨(some 46), none, (.mov (.t 0))⟩, ⟨(some 47), none, (.call 73 [(.t 46), (.c (.int .i64 2))])⟩]) (.cond (.t 47) (.seq (.reg [⟨(some 48), none, (.build [(.int .i64 0), (.int .i64 0), (.int .i64 0), (.int .i64 0), (.int .i64 0), (.int .i64 0), (.int .i64 0), (.int .i64 0), (.int .i64 0), (.int .i64 0), (.int .i64 0), (.int .i64 0), (.int .i64 0), (.str ⟨#[]⟩), (.int .i64 0)] [(0, (1, (.c (.int .i64 9)))), (13, (1, (.c (.str ⟨#[109]⟩))))])⟩, ⟨(some 100002), none, (.lstore 15 100002 0 (.t 48))⟩]) .ret) .skip)) (.seq (.reg [⟨(some 49), none, (.build [(.int .i64 0), (.int .i64 0), (.int .i64 0), (.int .i64 0), (.int .i64 0), (.int .i64 0), (.int .i64 0), (.int .i64 0), (.int .i64 0), (.int .i64 0), (.int .i64 0), (.int .i64 0), (.int .i64 0), (.str ⟨#[]⟩), (.int .i64 0)] [(0, (1, (.c (.int .i64 10)))), (13, (1, (.c (.str ⟨#[119, 49]⟩))))])⟩, ⟨(some 100002), none, (.lstore 15 100002 0 (.t 49))⟩]) .ret)) .skip)))))))))))))) (.seq (.reg [⟨(some 50), none, (.mov (.t 0))⟩, ⟨(some 51), none, (.call 72 [(.t 50), (.c (.int .i64 3))])⟩, ⟨(some 52), none, (.mov (.t 0))⟩, ⟨(some 53), none, (.call 72 [(.t 52), (.c (.int .i64 26))])⟩, ⟨(some 54), none, (.bin .add (.c (.int .i64 97)) (.t 53))⟩, ⟨(some 55), none, (.call 117 [(.t 51), (.t 54)])⟩, ⟨(some 100002), none, (.lstore 15 100002 0 (.t 55))⟩]) .ret)))⟩
theorem ok96 : cF Try.prog [2, 3] Try.f96 = some ac96 := by kernel_rfl
/-- spec.l1Byte -/
def ac97 : AFunc := ⟨[], 1, [(.tmp 2)], (.seq (.reg [⟨(some 2), none, (.mov (.c (.int .i64 0)))⟩]) (.seq (.reg [⟨(some 4), none, (.mov (.t 0))⟩, ⟨(some 5), none, (.mov (.t 0))⟩, ⟨(some 6), none, (.nchk (.t 5))⟩, ⟨(some 7), none, (.faddr 2 (.t 6))⟩, ⟨(some 8), none, (.load false 1 (.t 7))⟩, ⟨(some 9), none, (.bin .mul (.t 8) (.c (.int .i64 6364136223846793005)))⟩, ⟨(some 10), none, (.bin .add (.t 9) (.c (.int .i64 1442695040888963407)))⟩, ⟨(some 11), none, (.nchk (.t 4))⟩, ⟨(some 12), none, (.faddr 2 (.t 11))⟩, ⟨none, none, (.store 1 (.t 12) (.t 10))⟩]) (.seq (.regD [⟨(some 13), none, (.mov (.t 0))⟩, ⟨(some 14), none, (.nchk (.t 13))⟩, ⟨(some 15), none, (.faddr 2 (.t 14))⟩, ⟨(some 16), none, (.load false 1 (.t 15))⟩, ⟨(some 17), none, (.bin .shr (.t 16) (.c (.int .u64 33)))⟩, ⟨(some 18), none, (.mov (.t 0))⟩, ⟨(some 19), none, (.nchk (.t 18))⟩, ⟨(some 20), none, (.faddr 2 (.t 19))⟩, ⟨(some 21), none, (.load false 1 (.t 20))⟩, ⟨(some 22), none, (.bin .shr (.t 21) (.c (.int .u64 45)))⟩, ⟨(some 23), none, (.bin .xor (.t 17) (.t 22))⟩, ⟨(some 24), none, (.bin .and (.t 23) (.c (.int .i64 255)))⟩, ⟨(some 3), none, (.mov (.t 24))⟩]) (.seq (.seq (.regD [⟨(some 25), none, (.mov (.t 0))⟩, ⟨(some 26), none, (.nchk (.t 25))⟩, ⟨(some 27), none, (.faddr 1 (.t 26))⟩, ⟨(some 28), none, (.load false 1 (.t 27))⟩, ⟨(some 29), none, (.mov (.t 0))⟩, ⟨(some 30), none, (.nchk (.t 29))⟩, ⟨(some 31), none, (.faddr 0 (.t 30))⟩, ⟨(some 32), none, (.load false 1 (.t 31))⟩, ⟨(some 33), none, (.len false (.t 32))⟩, ⟨(some 34), none, (.bin .lss (.t 28) (.t 33))⟩]) (.cond (.t 34) (.seq (.regD [⟨(some 35), none, (.mov (.t 3))⟩, ⟨(some 36), none, (.mov (.t 0))⟩, ⟨(some 37), none, (.nchk (.t 36))⟩, ⟨(some 38), none, (.faddr 0 (.t 37))⟩, ⟨(some 39), none, (.load false 1 (.t 38))⟩, ⟨(some 40), none, (.mov (.t 0))⟩, ⟨(some 41), none, (.nchk (.t 40))⟩, ⟨(some 42), none, (.faddr 1 (.t 41))⟩, ⟨(some 43), none, (.load false 1 (.t 42))⟩, ⟨(some 44), none, (.iaddr 1 (.t 39) (.t 43))⟩, ⟨(some 45), none, (.load false 1 (.t 44))⟩, ⟨(some 46), none, (.conv .i64 (.t 45))⟩, ⟨(some 47), none, (.bin .add (.t 35) (.t 46))⟩, ⟨(some 48), none, (.bin .and (.t 47) (.c (.int .i64 255)))⟩, ⟨(some 3), none, (.mov (.t 48))⟩]) (.reg [⟨(some 49), none, (.mov (.t 0))⟩, ⟨(some 50), none, (.mov (.t 0))⟩, ⟨(some 51), none, (.nchk (.t 50))⟩, ⟨(some 52), none, (.faddr 1 (.t 51))⟩, ⟨(some 53), none, (.load false 1 (.t 52))⟩, ⟨(some 54), none, (.bin .add (.t 53) (.c (.int .i64 1)))⟩, ⟨(some 55), none, (.nchk (.t 49))⟩, ⟨(some 56), none, (.faddr 1 (.t 55))⟩, ⟨none, none, (.store 1 (.t 56) (.t 54))⟩])) .skip)) (.seq (.reg [⟨(some 57), none, (.mov (.t 3))⟩, ⟨(some 2), none, (.mov (.t 57))⟩]) .ret)))))⟩
theorem ok97 : cF Try.prog [] Try.f97 = some ac97 := by kernel_rfl
/-- impl.GlueOk -/
def ac98 : AFunc := ⟨[1], 1, [(.tmp 2)], (.seq (.reg [⟨(some 100001), none, (.lbox (.t 0))⟩, ⟨(some 2), none, (.mov (.c (.bool false)))⟩]) (.seq (.reg [⟨(some 3), none, (.mov (.c (.fn 118 [])))⟩]) (.seq (.reg [⟨(some 4), none, (.laddr 100001)⟩, ⟨(some 5), none, (.lload false 1 100001 0)⟩, ⟨(some 6), none, (.call 99 [(.t 5)])⟩, ⟨(some 7), none, (.mov (.t 6))⟩, ⟨(some 8), (some (7, true)), (.laddr 100001)⟩, ⟨(some 9), (some (7, true)), (.lload false 1 100001 1)⟩, ⟨(some 10), (some (7, true)), (.call 99 [(.t 9)])⟩, ⟨(some 11), none, (.pick (.t 7) (.t 10) (.c (.bool false)))⟩, ⟨(some 12), none, (.mov (.t 11))⟩, ⟨(some 13), (some (12, true)), (.laddr 100001)⟩, ⟨(some 14), (some (12, true)), (.lload false 1 100001 3)⟩, ⟨(some 15), (some (12, true)), (.call 99 [(.t 14)])⟩, ⟨(some 16), none, (.pick (.t 12) (.t 15) (.c (.bool false)))⟩, ⟨(some 17), none, (.mov (.t 16))⟩, ⟨(some 18), (some (17, true)), (.mov (.t 3))⟩, ⟨(some 19), (some (17, true)), (.laddr 100001)⟩, ⟨(some 20), (some (17, true)), (.lload false 1 100001 2)⟩, ⟨(some 21), (some (17, true)), (.callv (.t 18) [(.t 20)])⟩, ⟨(some 22), none, (.pick (.t 17) (.t 21) (.c (.bool false)))⟩, ⟨(some 23), none, (.mov (.t 22))⟩, ⟨(some 24), (some (23, true)), (.mov (.t 3))⟩, ⟨(some 25), (some (23, true)), (.laddr 100001)⟩, ⟨(some 26), (some (23, true)), (.lload false 1 100001 4)⟩, ⟨(some 27), (some (23, true)), (.callv (.t 24) [(.t 26)])⟩, ⟨(some 28), none, (.pick (.t 23) (.t 27) (.c (.bool false)))⟩, ⟨(some 2), none, (.mov (.t 28))⟩]) .ret)))⟩
theorem ok98 : cF Try.prog [1] Try.f98 = some ac98 := by kernel_rfl
/-- impl.fits -/
def ac99 : AFunc := ⟨[], 1, [(.tmp 2)], (.seq (.reg [⟨(some 2), none, (.mov (.c (.bool false)))⟩]) (.seq (.reg [⟨(some 3), none, (.mov (.t 0))⟩, ⟨(some 4), none, (.bin .geq (.t 3) (.c (.int .i64 (-1073741823))))⟩, ⟨(some 5), none, (.mov (.t 4))⟩, ⟨(some 6), (some (5, true)), (.mov (.t 0))⟩, ⟨(some 7), (some (5, true)), (.bin .leq (.t 6) (.c (.int .i64 1073741823)))⟩, ⟨(some 8), none, (.pick (.t 5) (.t 7) (.c (.bool false)))⟩, ⟨(some 2), none, (.mov (.t 8))⟩]) .ret))⟩
theorem ok99 : cF Try.prog [] Try.f99 = some ac99 := by kernel_rfl
/-- spec.GlueOk -/
def ac100 : AFunc := ⟨[1], 1, [(.tmp 2)], (.seq (.reg [⟨(some 100001), none, (.lbox (.t 0))⟩, ⟨(some 2), none, (.mov (.c (.bool false)))⟩]) (.seq (.reg [⟨(some 3), none, (.laddr 100001)⟩, ⟨(some 4), none, (.lload false 1 100001 0)⟩, ⟨(some 5), none, (.call 107 [(.t 4)])⟩, ⟨(some 6), none, (.mov (.t 5))⟩, ⟨(some 7), (some (6, true)), (.laddr 100001)⟩, ⟨(some 8), (some (6, true)), (.lload false 1 100001 1)⟩, ⟨(some 9), (some (6, true)), (.call 107 [(.t 8)])⟩, ⟨(some 10), none, (.pick (.t 6) (.t 9) (.c (.bool false)))⟩, ⟨(some 11), none, (.mov (.t 10))⟩, ⟨(some 12), (some (11, true)), (.laddr 100001)⟩, ⟨(some 13), (some (11, true)), (.lload false 1 100001 3)⟩, ⟨(some 14), (some (11, true)), (.call 107 [(.t 13)])⟩, ⟨(some 15), none, (.pick (.t 11) (.t 14) (.c (.bool false)))⟩, ⟨(some 16), none, (.mov (.t 15))⟩, ⟨(some 17), (some (16, true)), (.laddr 100001)⟩, ⟨(some 18), (some (16, true)), (.lload false 1 100001 2)⟩, ⟨(some 19), (some (16, true)), (.call 119 [(.t 18)])⟩, ⟨(some 20), none, (.pick (.t 16) (.t 19) (.c (.bool false)))⟩, ⟨(some 21), none, (.mov (.t 20))⟩, ⟨(some 22), (some (21, true)), (.laddr 100001)⟩, ⟨(some 23), (some (21, true)), (.lload false 1 100001 4)⟩, ⟨(some 24), (some (21, true)), (.call 119 [(.t 23)])⟩, ⟨(some 25), none, (.pick (.t 21) (.t 24) (.c (.bool false)))⟩, ⟨(some 2), none, (.mov (.t 25))⟩]) .ret))⟩
theorem ok100 : cF Try.prog [1] Try.f100 = some ac100 := by kernel_rfl
/-- impl.oLen -/
def ac101 : AFunc := ⟨[], 1, [(.tmp 2)], (.seq (.reg [⟨(some 2), none, (.mov (.c (.bool false)))⟩]) (.seq (.reg [⟨(some 3), none, (.mov (.t 0))⟩, ⟨(some 4), none, (.bin .geq (.t 3) (.c (.int .i64 0)))⟩, ⟨(some 5), none, (.mov (.t 4))⟩, ⟨(some 6), (some (5, true)), (.mov (.t 0))⟩, ⟨(some 7), (some (5, true)), (.bin .leq (.t 6) (.c (.int .i64 1073741823)))⟩, ⟨(some 8), none, (.pick (.t 5) (.t 7) (.c (.bool false)))⟩, ⟨(some 2), none, (.mov (.t 8))⟩]) .ret))⟩
theorem ok101 : cF Try.prog [] Try.f101 = some ac101 := by kernel_rfl
/-- spec.l9Cost -/
def ac102 : AFunc := ⟨[], 1, [(.tmp 2)], (.seq (.reg [⟨(some 2), none, (.mov (.c (.bool false)))⟩]) (.seq (.reg [⟨(some 3), none, (.mov (.t 0))⟩, ⟨(some 4), none, (.bin .geq (.t 3) (.c (.int .i64 0)))⟩, ⟨(some 5), none, (.mov (.t 4))⟩, ⟨(some 6), (some (5, true)), (.mov (.t 0))⟩, ⟨(some 7), (some (5, true)), (.bin .leq (.t 6) (.c (.int .i64 1000000)))⟩, ⟨(some 8), none, (.pick (.t 5) (.t 7) (.c (.bool false)))⟩, ⟨(some 2), none, (.mov (.t 8))⟩]) .ret))⟩
theorem ok102 : cF Try.prog [] Try.f102 = some ac102 := by kernel_rfl
/-- cmp.Less(int64) -/
def ac104 : AFunc := ⟨[], 2, [(.tmp 4)], (.seq (.reg [⟨(some 4), none, (.mov (.c (.bool false)))⟩]) (.seq (.reg [⟨(some 5), none, (.mov (.t 0))⟩, ⟨(some 6), none, (.call 120 [(.t 5)])⟩, ⟨(some 7), none, (.mov (.t 6))⟩, ⟨(some 8), (some (7, true)), (.mov (.t 1))⟩, ⟨(some 9), (some (7, true)), (.call 120 [(.t 8)])⟩, ⟨(some 10), (some (7, true)), (.un .not (.t 9))⟩, ⟨(some 11), none, (.pick (.t 7) (.t 10) (.c (.bool false)))⟩, ⟨(some 12), none, (.mov (.t 11))⟩, ⟨(some 13), (some (12, false)), (.mov (.t 0))⟩, ⟨(some 14), (some (12, false)), (.mov (.t 1))⟩, ⟨(some 15), (some (12, false)), (.bin .lss (.t 13) (.t 14))⟩, ⟨(some 16), none, (.pick (.t 12) (.c (.bool true)) (.t 15))⟩, ⟨(some 4), none, (.mov (.t 16))⟩]) .ret))⟩
theorem ok104 : cF Try.prog [] Try.f104 = some ac104 := by kernel_rfl
/-- slices.isNaN(int64) -/
def ac105 : AFunc := ⟨[], 1, [(.tmp 2)], (.seq (.reg [⟨(some 2), none, (.mov (.c (.bool false)))⟩]) (.seq (.reg [⟨(some 3), none, (.mov (.t 0))⟩, ⟨(some 4), none, (.mov (.t 0))⟩, ⟨(some 5), none, (.bin .neq (.t 3) (.t 4))⟩, ⟨(some 2), none, (.mov (.t 5))⟩]) .ret))⟩
theorem ok105 : cF Try.prog [] Try.f105 = some ac105 := by kernel_rfl
/-- spec.l8Used -/
def ac106 : AFunc := ⟨[1, 2, 3], 1, [(.lcell true 15 100002)], (.seq (.reg [⟨(some 100001), none, (.lbox (.t 0))⟩, ⟨(some 100002), none, (.lbox (.c (.agg [(.int .i64 0), (.int .i64 0), (.int .i64 0), (.int .i64 0), (.int .i64 0), (.int .i64 0), (.int .i64 0), (.int .i64 0), (.int .i64 0), (.int .i64 0), (.int .i64 0), (.int .i64 0), (.int .i64 0), (.str ⟨#[]⟩), (.int .i64 0)])))⟩]) (.seq (.reg [⟨(some 4), none, (.laddr 100001)⟩, ⟨(some 5), none, (.lload false 1 100001 0)⟩, ⟨(some 6), none, (.build [(.int .i64 0), (.int .i64 0), (.int .i64 0), (.int .i64 0), (.int .i64 0), (.int .i64 0), (.int .i64 0), (.int .i64 0), (.int .i64 0), (.int .i64 0), (.int .i64 0), (.int .i64 0), (.int .i64 0), (.str ⟨#[]⟩), (.int .i64 0)] [(0, (1, (.t 5)))])⟩, ⟨(some 100003), none, (.lbox (.c (.agg [(.int .i64 0), (.int .i64 0), (.int .i64 0), (.int .i64 0), (.int .i64 0), (.int .i64 0), (.int .i64 0), (.int .i64 0), (.int .i64 0), (.int .i64 0), (.int .i64 0), (.int .i64 0), (.int .i64 0), (.str ⟨#[]⟩), (.int .i64 0)])))⟩, ⟨(some 100003), none, (.lstore 15 100003 0 (.t 6))⟩]) (.seq (.seq (.reg [⟨(some 7), none, (.laddr 100001)⟩, ⟨(some 8), none, (.lload false 1 100001 0)⟩]) (.block 0 (.seq (.seq (.reg [⟨(some 10), none, (.bin .eql (.t 8) (.c (.int .i64 1)))⟩, ⟨(some 9), none, (.mov (.t 10))⟩]) (.cond (.t 9) .skip (.reg [⟨(some 11), none, (.bin .eql (.t 8) (.c (.int .i64 8)))⟩, ⟨(some 9), none, (.mov (.t 11))⟩]))) (.cond (.t 9) (.seq (.reg [⟨(some 12), none, (.laddr 100001)⟩, ⟨(some 13), none, (.lload false 1 100001 5)⟩, ⟨(some 14), none, (.laddr 100003)⟩, ⟨(some 100003), none, (.lstore 1 100003 5 (.t 13))⟩]) (.seq (.reg [⟨(some 15), none, (.laddr 100001)⟩, ⟨(some 16), none, (.lload false 1 100001 6)⟩, ⟨(some 17), none, (.laddr 100003)⟩, ⟨(some 100003), none, (.lstore 1 100003 6 (.t 16))⟩]) (.seq (.reg [⟨(some 18), none, (.laddr 100001)⟩, ⟨(some 19), none, (.lload false 1 100001 1)⟩, ⟨(some 20), none, (.laddr 100003)⟩, ⟨(some 100003), none, (.lstore 1 100003 1 (.t 19))⟩]) (.seq (.reg [⟨(some 21), none, (.laddr 100001)⟩, ⟨(some 22), none, (.lload false 1 100001 2)⟩, ⟨(some 23), none, (.laddr 100003)⟩, ⟨(some 100003), none, (.lstore 1 100003 2 (.t 22))⟩]) (.reg [⟨(some 24), none, (.laddr 100001)⟩, ⟨(some 25), none, (.lload false 1 100001 3)⟩, ⟨(some 26), none, (.laddr 100003)⟩, ⟨(some 100003), none, (.lstore 1 100003 3 (.t 25))⟩]))))) (.seq (.reg [⟨(some 28), none, (.bin .eql (.t 8) (.c (.int .i64 2)))⟩, ⟨(some 27), none, (.mov (.t 28))⟩]) (.cond (.t 27) (.reg [⟨(some 29), none, (.laddr 100001)⟩, ⟨(some 30), none, (.lload false 1 100001 1)⟩, ⟨(some 31), none, (.laddr 100003)⟩, ⟨(some 100003), none, (.lstore 1 100003 1 (.t 30))⟩]) (.seq (.reg [⟨(some 33), none, (.bin .eql (.t 8) (.c (.int .i64 3)))⟩, ⟨(some 32), none, (.mov (.t 33))⟩]) (.cond (.t 32) (.seq (.reg [⟨(some 34), none, (.laddr 100001)⟩, ⟨(some 35), none, (.lload false 1 100001 1)⟩, ⟨(some 36), none, (.laddr 100003)⟩, ⟨(some 100003), none, (.lstore 1 100003 1 (.t 35))⟩]) (.reg [⟨(some 37), none, (.laddr 100001)⟩, ⟨(some 38), none, (.lload true 5 100001 8)⟩, ⟨(some 39), none, (.laddr 100003)⟩, ⟨(some 100003), none, (.lstore 5 100003 8 (.t 38))⟩])) (.seq (.reg [⟨(some 41), none, (.bin .eql (.t 8) (.c (.int .i64 4)))⟩, ⟨(some 40), none, (.mov (.t 41))⟩]) (.cond (.t 40) (.reg [⟨(some 42), none, (.laddr 100001)⟩, ⟨(some 43), none, (.lload false 1 100001 7)⟩, ⟨(some 44), none, (.laddr 100003)⟩, ⟨(some 100003), none, (.lstore 1 100003 7 (.t 43))⟩]) (.seq (.reg [⟨(some 46), none, (.bin .eql (.t 8) (.c (.int .i64 5)))⟩, ⟨(some 45), none, (.mov (.t 46))⟩]) (.cond (.t 45) (.seq (.reg [⟨(some 47), none, (.laddr 100001)⟩, ⟨(some 48), none, (.lload false 1 100001 1)⟩, ⟨(some 49), none, (.laddr 100003)⟩, ⟨(some 100003), none, (.lstore 1 100003 1 (.t 48))⟩]) (.seq (.reg [⟨(some 50), none, (.laddr 100001)⟩, ⟨(some 51), none, (.lload false 1 100001 2)⟩, ⟨(some 52), none, (.laddr 100003)⟩, ⟨(some 100003), none, (.lstore 1 100003 2 (.t 51))⟩]) (.reg [⟨(some 53), none, (.laddr 100001)⟩, ⟨(some 54), none, (.lload false 1 100001 3)⟩, ⟨(some 55), none, (.laddr 100003)⟩, ⟨(some 100003), none, (.lstore 1 100003 3 (.t 54))⟩]))) (.seq (.seq (.reg [⟨(some 57), none, (.bin .eql (.t 8) (.c (.int .i64 6)))⟩, ⟨(some 56), none, (.mov (.t 57))⟩]) (.cond (.t 56) .skip (.reg [⟨(some 58), none, (.bin .eql (.t 8) (.c (.int .i64 7)))⟩, ⟨(some 56), none, (.mov (.t 58))⟩]))) (.cond (.t 56) (.seq (.reg [⟨(some 59), none, (.laddr 100001)⟩, ⟨(some 60), none, (.lload false 1 100001 1)⟩, ⟨(some 61), none, (.laddr 100003)⟩, ⟨(some 100003), none, (.lstore 1 100003 1 (.t 60))⟩]) (.seq (.reg [⟨(some 62), none, (.laddr 100001)⟩, ⟨(some 63), none, (.lload false 1 100001 2)⟩, ⟨(some 64), none, (.laddr 100003)⟩, ⟨(some 100003), none, (.lstore 1 100003 2 (.t 63))⟩]) (.seq (.reg [⟨(some 65), none, (.laddr 100001)⟩, ⟨(some 66), none, (.lload false 1 100001 3)⟩, ⟨(some 67), none, (.laddr 100003)⟩, ⟨(some 100003), none, (.lstore 1 100003 3 (.t 66))⟩]) (.seq (.reg [⟨(some 68), none, (.laddr 100001)⟩, ⟨(some 69), none, (.lload false 1 100001 4)⟩, ⟨(some 70), none, (.laddr 100003)⟩, ⟨(some 100003), none, (.lstore 1 100003 4 (.t 69))⟩]) (.reg [⟨(some 71), none, (.laddr 100001)⟩, ⟨(some 72), none, (.lload false 1 100001 14)⟩, ⟨(some 73), none, (.laddr 100003)⟩, ⟨(some 100003), none, (.lstore 1 100003 14 (.t 72))⟩]))))) (.seq (.seq (.reg [⟨(some 75), none, (.bin .eql (.t 8) (.c (.int .i64 9)))⟩, ⟨(some 74), none, (.mov (.t 75))⟩]) (.cond (.t 74) .skip (.reg [⟨(some 76), none, (.bin .eql (.t 8) (.c (.int .i64 10)))⟩, ⟨(some 74), none, (.mov (.t 76))⟩]))) (.cond (.t 74) (.reg [⟨(some 77), none, (.laddr 100001)⟩, ⟨(some 78), none, (.lload false 1 100001 13)⟩, ⟨(some 79), none, (.laddr 100003)⟩, ⟨(some 100003), none, (.lstore 1 100003 13 (.t 78))⟩]) (.seq (.reg [⟨(some 81), none, (.bin .eql (.t 8) (.c (.int .i64 11)))⟩, ⟨(some 80), none, (.mov (.t 81))⟩]) (.cond (.t 80) (.seq (.reg [⟨(some 82), none, (.laddr 100001)⟩, ⟨(some 83), none, (.lload false 1 100001 7)⟩, ⟨(some 84), none, (.laddr 100003)⟩, ⟨(some 100003), none, (.lstore 1 100003 7 (.t 83))⟩]) (.seq (.reg [⟨(some 85), none, (.laddr 100001)⟩, ⟨(some 86), none, (.lload false 1 100001 2)⟩, ⟨(some 87), none, (.laddr 100003)⟩, ⟨(some 100003), none, (.lstore 1 100003 2 (.t 86))⟩]) (.reg [⟨(some 88), none, (.laddr 100001)⟩, ⟨(some 89), none, (.lload false 1 100001 14)⟩, ⟨(some 90), none, (.laddr 100003)⟩, ⟨(some 100003), none, (.lstore 1 100003 14 (.t 89))⟩]))) .skip)))))))))))))))))) (.seq (.reg [⟨(some 91), none, (.lload true 15 100003 0)⟩, ⟨(some 100002), none, (.lstore 15 100002 0 (.t 91))⟩]) .ret))))⟩
theorem ok106 : cF Try.prog [1, 2, 3] Try.f106 = some ac106 := by kernel_rfl
/-- spec.l1Fits -/
def ac107 : AFunc := ⟨[], 1, [(.tmp 2)], (.seq (.reg [⟨(some 2), none, (.mov (.c (.bool false)))⟩]) (.seq (.reg [⟨(some 3), none, (.mov (.t 0))⟩, ⟨(some 4), none, (.bin .geq (.t 3) (.c (.int .i64 (-1073741823))))⟩, ⟨(some 5), none, (.mov (.t 4))⟩, ⟨(some 6), (some (5, true)), (.mov (.t 0))⟩, ⟨(some 7), (some (5, true)), (.bin .leq (.t 6) (.c (.int .i64 1073741823)))⟩, ⟨(some 8), none, (.pick (.t 5) (.t 7) (.c (.bool false)))⟩, ⟨(some 2), none, (.mov (.t 8))⟩]) .ret))⟩
theorem ok107 : cF Try.prog [] Try.f107 = some ac107 := by kernel_rfl
/-- spec.l8FontOk -/
def ac108 : AFunc := ⟨[1], 1, [(.tmp 2)], (.seq (.reg [⟨(some 100001), none, (.lbox (.t 0))⟩, ⟨(some 2), none, (.mov (.c (.bool false)))⟩]) (.seq (.reg [⟨(some 3), none, (.laddr 100001)⟩, ⟨(some 4), none, (.lload false 1 100001 5)⟩, ⟨(some 5), none, (.bin .geq (.t 4) (.c (.int .i64 0)))⟩, ⟨(some 6), none, (.mov (.t 5))⟩, ⟨(some 7), (some (6, true)), (.laddr 100001)⟩, ⟨(some 8), (some (6, true)), (.lload false 1 100001 5)⟩, ⟨(some 9), (some (6, true)), (.bin .leq (.t 8) (.c (.int .i64 15)))⟩, ⟨(some 10), none, (.pick (.t 6) (.t 9) (.c (.bool false)))⟩, ⟨(some 11), none, (.mov (.t 10))⟩, ⟨(some 12), (some (11, true)), (.laddr 100001)⟩, ⟨(some 13), (some (11, true)), (.lload false 1 100001 6)⟩, ⟨(some 14), (some (11, true)), (.bin .geq (.t 13) (.c (.int .i64 0)))⟩, ⟨(some 15), none, (.pick (.t 11) (.t 14) (.c (.bool false)))⟩, ⟨(some 16), none, (.mov (.t 15))⟩, ⟨(some 17), (some (16, true)), (.laddr 100001)⟩, ⟨(some 18), (some (16, true)), (.lload false 1 100001 6)⟩, ⟨(some 19), (some (16, true)), (.bin .leq (.t 18) (.c (.int .i64 255)))⟩, ⟨(some 20), none, (.pick (.t 16) (.t 19) (.c (.bool false)))⟩, ⟨(some 2), none, (.mov (.t 20))⟩]) .ret))⟩
theorem ok108 : cF Try.prog [1] Try.f108 = some ac108 := by kernel_rfl
/-- spec.l8DrawGlue -/
def ac116 : AFunc := ⟨[2, 3], 1, [(.lcell true 5 100002)], (.seq (.reg [⟨(some 100002), none, (.lbox (.c (.agg [(.int .i64 0), (.int .i64 0), (.int .i64 0), (.int .i64 0), (.int .i64 0)])))⟩]) (.seq (.reg [⟨(some 4), none, (.mov (.t 0))⟩, ⟨(some 5), none, (.call 95 [(.t 4)])⟩, ⟨(some 6), none, (.build [(.int .i64 0), (.int .i64 0), (.int .i64 0), (.int .i64 0), (.int .i64 0)] [(0, (1, (.t 5)))])⟩, ⟨(some 100003), none, (.lbox (.c (.agg [(.int .i64 0), (.int .i64 0), (.int .i64 0), (.int .i64 0), (.int .i64 0)])))⟩, ⟨(some 100003), none, (.lstore 5 100003 0 (.t 6))⟩]) (.seq (.seq (.reg [⟨(some 7), none, (.mov (.t 0))⟩, ⟨(some 8), none, (.call 73 [(.t 7), (.c (.int .i64 3))])⟩, ⟨(some 9), none, (.un .not (.t 8))⟩]) (.cond (.t 9) (.reg [⟨(some 10), none, (.mov (.t 0))⟩, ⟨(some 11), none, (.call 95 [(.t 10)])⟩, ⟨(some 12), none, (.laddr 100003)⟩, ⟨(some 100003), none, (.lstore 1 100003 1 (.t 11))⟩]) .skip)) (.seq (.seq (.reg [⟨(some 13), none, (.mov (.t 0))⟩, ⟨(some 14), none, (.call 73 [(.t 13), (.c (.int .i64 3))])⟩, ⟨(some 15), none, (.un .not (.t 14))⟩]) (.cond (.t 15) (.reg [⟨(some 16), none, (.mov (.t 0))⟩, ⟨(some 17), none, (.call 95 [(.t 16)])⟩, ⟨(some 18), none, (.bin .quo (.t 17) (.c (.int .i64 2)))⟩, ⟨(some 19), none, (.laddr 100003)⟩, ⟨(some 100003), none, (.lstore 1 100003 3 (.t 18))⟩]) .skip)) (.seq (.seq (.reg [⟨(some 20), none, (.mov (.t 0))⟩, ⟨(some 21), none, (.call 73 [(.t 20), (.c (.int .i64 8))])⟩]) (.cond (.t 21) (.reg [⟨(some 22), none, (.mov (.t 0))⟩, ⟨(some 23), none, (.call 72 [(.t 22), (.c (.int .i64 4))])⟩, ⟨(some 24), none, (.laddr 100003)⟩, ⟨(some 100003), none, (.lstore 1 100003 2 (.t 23))⟩]) .skip)) (.seq (.seq (.reg [⟨(some 25), none, (.mov (.t 0))⟩, ⟨(some 26), none, (.call 73 [(.t 25), (.c (.int .i64 20))])⟩]) (.cond (.t 26) (.reg [⟨(some 27), none, (.mov (.t 0))⟩, ⟨(some 28), none, (.call 127 [(.t 27)])⟩, ⟨(some 100003), none, (.lstore 5 100003 0 (.t 28))⟩]) .skip)) (.seq (.reg [⟨(some 29), none, (.lload true 5 100003 0)⟩, ⟨(some 100002), none, (.lstore 5 100002 0 (.t 29))⟩]) .ret)))))))⟩
theorem ok116 : cF Try.prog [2, 3] Try.f116 = some ac116 := by kernel_rfl
/-- spec.l8Char -/
def ac117 : AFunc := ⟨[4, 5, 7], 2, [(.lcell true 15 100004)], (.seq (.reg [⟨(some 100004), none, (.lbox (.c (.agg [(.int .i64 0), (.int .i64 0), (.int .i64 0), (.int .i64 0), (.int .i64 0), (.int .i64 0), (.int .i64 0), (.int .i64 0), (.int .i64 0), (.int .i64 0), (.int .i64 0), (.int .i64 0), (.int .i64 0), (.str ⟨#[]⟩), (.int .i64 0)])))⟩]) (.seq (.reg [⟨(some 8), none, (.mov (.t 0))⟩, ⟨(some 9), none, (.call 128 [(.t 8)])⟩, ⟨(some 100005), none, (.lbox (.c (.agg [(.str ⟨#[]⟩), .nils, .nils, (.int .i64 0), (.int .i64 0), (.int .i64 0), (.int .i64 0), (.int .i64 0), (.int .i64 0), (.int .i64 0)])))⟩, ⟨(some 100005), none, (.lstore 10 100005 0 (.t 9))⟩]) (.seq (.reg [⟨(some 10), none, (.lload true 10 100005 0)⟩, ⟨(some 11), none, (.mov (.t 1))⟩, ⟨(some 12), none, (.call 129 [(.t 10), (.t 11)])⟩, ⟨(some 6), none, (.mov (.t 12))⟩]) (.seq (.seq (.reg [⟨(some 13), none, (.mov (.t 6))⟩, ⟨(some 14), none, (.bin .lss (.t 13) (.c (.int .i64 0)))⟩]) (.cond (.t 14) (.seq (.reg [⟨(some 15), none, (.build [(.int .i64 0), (.int .i64 0), (.int .i64 0), (.int .i64 0), (.int .i64 0), (.int .i64 0), (.int .i64 0), (.int .i64 0), (.int .i64 0), (.int .i64 0), (.int .i64 0), (.int .i64 0), (.int .i64 0), (.str ⟨#[]⟩), (.int .i64 0)] [(0, (1, (.c (.int .i64 2))))])⟩, ⟨(some 100004), none, (.lstore 15 100004 0 (.t 15))⟩]) .ret) .skip)) (.seq (.reg [⟨(some 16), none, (.laddr 100005)⟩, ⟨(some 17), none, (.lload false 1 100005 1)⟩, ⟨(some 18), none, (.mov (.t 6))⟩, ⟨(some 19), none, (.iaddr 4 (.t 17) (.t 18))⟩, ⟨(some 20), none, (.load true 4 (.t 19))⟩, ⟨(some 100007), none, (.lbox (.c (.agg [(.int .i64 0), (.int .i64 0), (.int .i64 0), (.int .i64 0)])))⟩, ⟨(some 100007), none, (.lstore 4 100007 0 (.t 20))⟩]) (.seq (.reg [⟨(some 21), none, (.mov (.t 0))⟩, ⟨(some 22), none, (.mov (.t 1))⟩, ⟨(some 23), none, (.laddr 100007)⟩, ⟨(some 24), none, (.lload false 1 100007 1)⟩, ⟨(some 25), none, (.laddr 100007)⟩, ⟨(some 26), none, (.lload false 1 100007 2)⟩, ⟨(some 27), none, (.laddr 100007)⟩, ⟨(some 28), none, (.lload false 1 100007 3)⟩, ⟨(some 29), none, (.build [(.int .i64 0), (.int .i64 0), (.int .i64 0), (.int .i64 0), (.int .i64 0), (.int .i64 0), (.int .i64 0), (.int .i64 0), (.int .i64 0), (.int .i64 0), (.int .i64 0), (.int .i64 0), (.int .i64 0), (.str ⟨#[]⟩), (.int .i64 0)] [(0, (1, (.c (.int .i64 1)))), (5, (1, (.t 21))), (6, (1, (.t 22))), (1, (1, (.t 24))), (2, (1, (.t 26))), (3, (1, (.t 28)))])⟩, ⟨(some 100004), none, (.lstore 15 100004 0 (.t 29))⟩]) .ret))))))⟩
theorem ok117 : cF Try.prog [4, 5, 7] Try.f117 = some ac117 := by kernel_rfl
/-- impl.GlueOk$1 -/
def ac118 : AFunc := ⟨[], 1, [(.tmp 2)], (.seq (.reg [⟨(some 2), none, (.mov (.c (.bool false)))⟩]) (.seq (.reg [⟨(some 3), none, (.mov (.t 0))⟩, ⟨(some 4), none, (.bin .geq (.t 3) (.c (.int .i64 0)))⟩, ⟨(some 5), none, (.mov (.t 4))⟩, ⟨(some 6), (some (5, true)), (.mov (.t 0))⟩, ⟨(some 7), (some (5, true)), (.bin .leq (.t 6) (.c (.int .i64 3)))⟩, ⟨(some 8), none, (.pick (.t 5) (.t 7) (.c (.bool false)))⟩, ⟨(some 2), none, (.mov (.t 8))⟩]) .ret))⟩
theorem ok118 : cF Try.prog [] Try.f118 = some ac118 := by kernel_rfl
/-- spec.l1Order -/
def ac119 : AFunc := ⟨[], 1, [(.tmp 2)], (.seq (.reg [⟨(some 2), none, (.mov (.c (.bool false)))⟩]) (.seq (.reg [⟨(some 3), none, (.mov (.t 0))⟩, ⟨(some 4), none, (.bin .geq (.t 3) (.c (.int .i64 0)))⟩, ⟨(some 5), none, (.mov (.t 4))⟩, ⟨(some 6), (some (5, true)), (.mov (.t 0))⟩, ⟨(some 7), (some (5, true)), (.bin .leq (.t 6) (.c (.int .i64 3)))⟩, ⟨(some 8), none, (.pick (.t 5) (.t 7) (.c (.bool false)))⟩, ⟨(some 2), none, (.mov (.t 8))⟩]) .ret))⟩
theorem ok119 : cF Try.prog [] Try.f119 = some ac119 := by kernel_rfl
/-- cmp.isNaN(int64) -/
def ac120 : AFunc := ⟨[], 1, [(.tmp 2)], (.seq (.reg [⟨(some 2), none, (.mov (.c (.bool false)))⟩]) (.seq (.reg [⟨(some 3), none, (.mov (.t 0))⟩, ⟨(some 4), none, (.mov (.t 0))⟩, ⟨(some 5), none, (.bin .neq (.t 3) (.t 4))⟩, ⟨(some 2), none, (.mov (.t 5))⟩]) .ret))⟩
theorem ok120 : cF Try.prog [] Try.f120 = some ac120 := by kernel_rfl
/-- spec.l1DrawGlue -/
def ac127 : AFunc := ⟨[2, 3], 1, [(.lcell true 5 100002)], (.seq (.reg [⟨(some 100002), none, (.lbox (.c (.agg [(.int .i64 0), (.int .i64 0), (.int .i64 0), (.int .i64 0), (.int .i64 0)])))⟩]) (.seq (.reg [⟨(some 4), none, (.mov (.t 0))⟩, ⟨(some 5), none, (.call 136 [(.t 4)])⟩, ⟨(some 6), none, (.build [(.int .i64 0), (.int .i64 0), (.int .i64 0), (.int .i64 0), (.int .i64 0)] [(0, (1, (.t 5)))])⟩, ⟨(some 100003), none, (.lbox (.c (.agg [(.int .i64 0), (.int .i64 0), (.int .i64 0), (.int .i64 0), (.int .i64 0)])))⟩, ⟨(some 100003), none, (.lstore 5 100003 0 (.t 6))⟩]) (.seq (.seq (.reg [⟨(some 7), none, (.mov (.t 0))⟩, ⟨(some 8), none, (.call 73 [(.t 7), (.c (.int .i64 3))])⟩, ⟨(some 9), none, (.un .not (.t 8))⟩]) (.cond (.t 9) (.reg [⟨(some 10), none, (.mov (.t 0))⟩, ⟨(some 11), none, (.call 136 [(.t 10)])⟩, ⟨(some 12), none, (.laddr 100003)⟩, ⟨(some 100003), none, (.lstore 1 100003 1 (.t 11))⟩]) .skip)) (.seq (.seq (.reg [⟨(some 13), none, (.mov (.t 0))⟩, ⟨(some 14), none, (.call 73 [(.t 13), (.c (.int .i64 3))])⟩, ⟨(some 15), none, (.un .not (.t 14))⟩]) (.cond (.t 15) (.reg [⟨(some 16), none, (.mov (.t 0))⟩, ⟨(some 17), none, (.call 136 [(.t 16)])⟩, ⟨(some 18), none, (.laddr 100003)⟩, ⟨(some 100003), none, (.lstore 1 100003 3 (.t 17))⟩]) .skip)) (.seq (.seq (.reg [⟨(some 19), none, (.mov (.t 0))⟩, ⟨(some 20), none, (.call 73 [(.t 19), (.c (.int .i64 4))])⟩]) (.cond (.t 20) (.reg [⟨(some 21), none, (.mov (.t 0))⟩, ⟨(some 22), none, (.call 72 [(.t 21), (.c (.int .i64 4))])⟩, ⟨(some 23), none, (.laddr 100003)⟩, ⟨(some 100003), none, (.lstore 1 100003 2 (.t 22))⟩]) .skip)) (.seq (.seq (.reg [⟨(some 24), none, (.mov (.t 0))⟩, ⟨(some 25), none, (.call 73 [(.t 24), (.c (.int .i64 8))])⟩]) (.cond (.t 25) (.reg [⟨(some 26), none, (.mov (.t 0))⟩, ⟨(some 27), none, (.call 72 [(.t 26), (.c (.int .i64 4))])⟩, ⟨(some 28), none, (.laddr 100003)⟩, ⟨(some 100003), none, (.lstore 1 100003 4 (.t 27))⟩]) .skip)) (.seq (.seq (.reg [⟨(some 29), none, (.mov (.t 0))⟩, ⟨(some 30), none, (.call 73 [(.t 29), (.c (.int .i64 40))])⟩]) (.cond (.t 30) (.reg [⟨(some 31), none, (.bslice 3 1 [(.int .i64 0)] [(0, (.c (.int .i64 (-1)))), (1, (.c (.int .i64 4))), (2, (.c (.int .i64 3)))])⟩, ⟨(some 32), none, (.mov (.t 0))⟩, ⟨(some 33), none, (.call 72 [(.t 32), (.c (.int .i64 3))])⟩, ⟨(some 34), none, (.iaddr 1 (.t 31) (.t 33))⟩, ⟨(some 35), none, (.load false 1 (.t 34))⟩, ⟨(some 36), none, (.laddr 100003)⟩, ⟨(some 100003), none, (.lstore 1 100003 2 (.t 35))⟩]) .skip)) (.seq (.reg [⟨(some 37), none, (.lload true 5 100003 0)⟩, ⟨(some 100002), none, (.lstore 5 100002 0 (.t 37))⟩]) .ret))))))))⟩
theorem ok127 : cF Try.prog [2, 3] Try.f127 = some ac127 := by kernel_rfl
/-- spec.PlainFont -/
def ac128 : AFunc := ⟨[2, 4], 1, [(.lcell true 10 100002)], (.seq (.reg [⟨(some 100002), none, (.lbox (.c (.agg [(.str ⟨#[]⟩), .nils, .nils, (.int .i64 0), (.int .i64 0), (.int .i64 0), (.int .i64 0), (.int .i64 0), (.int .i64 0), (.int .i64 0)])))⟩]) (.seq (.seq (.reg [⟨(some 11), none, (.mov (.t 0))⟩, ⟨(some 12), none, (.bin .lss (.t 11) (.c (.int .i64 0)))⟩, ⟨(some 13), none, (.mov (.t 12))⟩, ⟨(some 14), (some (13, false)), (.mov (.t 0))⟩, ⟨(some 15), (some (13, false)), (.bin .gtr (.t 14) (.c (.int .i64 15)))⟩, ⟨(some 16), none, (.pick (.t 13) (.c (.bool true)) (.t 15))⟩]) (.cond (.t 16) (.seq (.reg [⟨(some 17), none, (.build [(.str ⟨#[]⟩), .nils, .nils, (.int .i64 0), (.int .i64 0), (.int .i64 0), (.int .i64 0), (.int .i64 0), (.int .i64 0), (.int .i64 0)] [])⟩, ⟨(some 100002), none, (.lstore 10 100002 0 (.t 17))⟩]) .ret) .skip)) (.seq (.reg [⟨(some 18), none, (.mov (.t 0))⟩, ⟨(some 19), none, (.bin .add (.c (.int .i64 8)) (.t 18))⟩, ⟨(some 20), none, (.bin .mul (.c (.int .i64 6553)) (.t 19))⟩, ⟨(some 3), none, (.mov (.t 20))⟩]) (.seq (.reg [⟨(some 21), none, (.mov (.t 0))⟩, ⟨(some 22), none, (.call 137 [(.t 21)])⟩, ⟨(some 23), none, (.bin .add (.c (.str ⟨#[112, 108, 97, 105, 110]⟩)) (.t 22))⟩, ⟨(some 24), none, (.mov (.t 3))⟩, ⟨(some 25), none, (.bin .mul (.c (.int .i64 3)) (.t 24))⟩, ⟨(some 26), none, (.mov (.t 3))⟩, ⟨(some 27), none, (.bin .mul (.c (.int .i64 3)) (.t 26))⟩, ⟨(some 28), none, (.bin .quo (.t 27) (.c (.int .i64 2)))⟩, ⟨(some 29), none, (.mov (.t 3))⟩, ⟨(some 30), none, (.build [(.int .i64 0), (.int .i64 0), (.int .i64 0), (.int .i64 0), (.int .i64 0)] [(0, (1, (.t 25))), (1, (1, (.t 28))), (3, (1, (.t 29)))])⟩, ⟨(some 31), none, (.mov (.t 3))⟩, ⟨(some 32), none, (.bin .mul (.c (.int .i64 10)) (.t 31))⟩, ⟨(some 33), none, (.mov (.t 3))⟩, ⟨(some 34), none, (.bin .mul (.c (.int .i64 4)) (.t 33))⟩, ⟨(some 35), none, (.build [(.str ⟨#[]⟩), .nils, .nils, (.int .i64 0), (.int .i64 0), (.int .i64 0), (.int .i64 0), (.int .i64 0), (.int .i64 0), (.int .i64 0)] [(0, (1, (.t 23))), (3, (5, (.t 30))), (8, (1, (.t 32))), (9, (1, (.t 34)))])⟩, ⟨(some 100004), none, (.lbox (.c (.agg [(.str ⟨#[]⟩), .nils, .nils, (.int .i64 0), (.int .i64 0), (.int .i64 0), (.int .i64 0), (.int .i64 0), (.int .i64 0), (.int .i64 0)])))⟩, ⟨(some 100004), none, (.lstore 10 100004 0 (.t 35))⟩]) (.seq (.seq (.reg [⟨(some 5), none, (.mov (.c (.int .i64 1)))⟩]) (.block 0 (.loop (.seq (.seq (.reg [⟨(some 36), none, (.mov (.t 5))⟩, ⟨(some 37), none, (.bin .leq (.t 36) (.c (.int .i64 126)))⟩]) (.cond (.t 37) .skip (.exit 0))) (.seq (.block 1 (.seq (.reg [⟨(some 40), none, (.mov (.t 5))⟩, ⟨(some 41), none, (.bin .leq (.t 40) (.c (.int .i64 3)))⟩, ⟨(some 42), none, (.mov (.t 41))⟩, ⟨(some 43), (some (42, false)), (.mov (.t 5))⟩, ⟨(some 44), (some (42, false)), (.bin .geq (.t 43) (.c (.int .i64 33)))⟩, ⟨(some 45), none, (.pick (.t 42) (.c (.bool true)) (.t 44))⟩]) (.cond (.t 45) (.regD [⟨(some 46), none, (.laddr 100004)⟩, ⟨(some 47), none, (.lload false 1 100004 1)⟩, ⟨(some 48), none, (.mov (.t 0))⟩, ⟨(some 49), none, (.mov (.t 5))⟩, ⟨(some 50), none, (.call 138 [(.t 48), (.t 49)])⟩, ⟨(some 51), none, (.bslice 1 4 [(.int .i64 0), (.int .i64 0), (.int .i64 0), (.int .i64 0)] [(0, (.t 50))])⟩, ⟨(some 52), none, (.append 4 32 (.t 47) (.t 51))⟩, ⟨(some 53), none, (.laddr 100004)⟩, ⟨(some 100004), none, (.lstore 1 100004 1 (.t 52))⟩]) .skip))) (.reg [⟨(some 38), none, (.mov (.t 5))⟩, ⟨(some 39), none, (.bin .add (.t 38) (.c (.int .i64 1)))⟩, ⟨(some 5), none, (.mov (.t 39))⟩])))))) (.seq (.reg [⟨(some 54), none, (.mov (.t 3))⟩, ⟨(some 55), none, (.bin .add (.t 54) (.c (.int .i64 1)))⟩, ⟨(some 56), none, (.bin .quo (.t 55) (.c (.int .i64 2)))⟩, ⟨(some 57), none, (.un .neg (.t 56))⟩, ⟨(some 6), none, (.mov (.t 57))⟩]) (.seq (.reg [⟨(some 58), none, (.laddr 100004)⟩, ⟨(some 59), none, (.lload false 1 100004 2)⟩, ⟨(some 60), none, (.build [(.int .i64 0), (.int .i64 0), (.int .i64 0), (.int .i64 0)] [(0, (1, (.c (.int .i64 1)))), (1, (1, (.c (.int .i64 105)))), (2, (1, (.c (.int .i64 3))))])⟩, ⟨(some 61), none, (.bslice 1 4 [(.int .i64 0), (.int .i64 0), (.int .i64 0), (.int .i64 0)] [(0, (.t 60))])⟩, ⟨(some 62), none, (.append 4 32 (.t 59) (.t 61))⟩, ⟨(some 63), none, (.laddr 100004)⟩, ⟨(some 100004), none, (.lstore 1 100004 2 (.t 62))⟩]) (.seq (.reg [⟨(some 7), none, (.mov (.c (.str ⟨#[65, 76, 84, 86, 87, 89]⟩)))⟩]) (.seq (.seq (.reg [⟨(some 8), none, (.mov (.c (.int .i64 0)))⟩]) (.block 2 (.loop (.seq (.seq (.reg [⟨(some 64), none, (.mov (.t 8))⟩, ⟨(some 65), none, (.mov (.t 7))⟩, ⟨(some 66), none, (.len true (.t 65))⟩, ⟨(some 67), none, (.bin .lss (.t 64) (.t 66))⟩]) (.cond (.t 67) .skip (.exit 2))) (.seq (.block 3 (.seq (.reg [⟨(some 9), none, (.mov (.c (.str ⟨#[97, 101, 111, 117]⟩)))⟩]) (.seq (.seq (.reg [⟨(some 70), none, (.mov (.t 7))⟩, ⟨(some 71), none, (.mov (.t 8))⟩, ⟨(some 72), none, (.index (.t 70) (.t 71))⟩, ⟨(some 73), none, (.bin .eql (.t 72) (.c (.int .u8 76)))⟩]) (.cond (.t 73) (.reg [⟨(some 9), none, (.mov (.c (.str ⟨#[84, 86, 121]⟩)))⟩]) .skip)) (.seq (.reg [⟨(some 10), none, (.mov (.c (.int .i64 0)))⟩]) (.block 4 (.loop (.seq (.seq (.reg [⟨(some 74), none, (.mov (.t 10))⟩, ⟨(some 75), none, (.mov (.t 9))⟩, ⟨(some 76), none, (.len true (.t 75))⟩, ⟨(some 77), none, (.bin .lss (.t 74) (.t 76))⟩]) (.cond (.t 77) .skip (.exit 4))) (.seq (.block 5 (.regD [⟨(some 80), none, (.laddr 100004)⟩, ⟨(some 81), none, (.lload false 1 100004 2)⟩, ⟨(some 82), none, (.mov (.t 7))⟩, ⟨(some 83), none, (.mov (.t 8))⟩, ⟨(some 84), none, (.index (.t 82) (.t 83))⟩, ⟨(some 85), none, (.conv .i64 (.t 84))⟩, ⟨(some 86), none, (.mov (.t 9))⟩, ⟨(some 87), none, (.mov (.t 10))⟩, ⟨(some 88), none, (.index (.t 86) (.t 87))⟩, ⟨(some 89), none, (.conv .i64 (.t 88))⟩, ⟨(some 90), none, (.mov (.t 6))⟩, ⟨(some 91), none, (.build [(.int .i64 0), (.int .i64 0), (.int .i64 0), (.int .i64 0)] [(0, (1, (.t 85))), (1, (1, (.t 89))), (2, (1, (.c (.int .i64 (-1))))), (3, (1, (.t 90)))])⟩, ⟨(some 92), none, (.bslice 1 4 [(.int .i64 0), (.int .i64 0), (.int .i64 0), (.int .i64 0)] [(0, (.t 91))])⟩, ⟨(some 93), none, (.append 4 32 (.t 81) (.t 92))⟩, ⟨(some 94), none, (.laddr 100004)⟩, ⟨(some 100004), none, (.lstore 1 100004 2 (.t 93))⟩])) (.reg [⟨(some 78), none, (.mov (.t 10))⟩, ⟨(some 79), none, (.bin .add (.t 78) (.c (.int .i64 1)))⟩, ⟨(some 10), none, (.mov (.t 79))⟩]))))))))) (.reg [⟨(some 68), none, (.mov (.t 8))⟩, ⟨(some 69), none, (.bin .add (.t 68) (.c (.int .i64 1)))⟩, ⟨(some 8), none, (.mov (.t 69))⟩])))))) (.seq (.reg [⟨(some 95), none, (.laddr 100004)⟩, ⟨(some 96), none, (.lload false 1 100004 2)⟩, ⟨(some 97), none, (.build [(.int .i64 0), (.int .i64 0), (.int .i64 0), (.int .i64 0)] [(0, (1, (.c (.int .i64 102)))), (1, (1, (.c (.int .i64 102)))), (2, (1, (.c (.int .i64 1))))])⟩, ⟨(some 98), none, (.build [(.int .i64 0), (.int .i64 0), (.int .i64 0), (.int .i64 0)] [(0, (1, (.c (.int .i64 102)))), (1, (1, (.c (.int .i64 105)))), (2, (1, (.c (.int .i64 2))))])⟩, ⟨(some 99), none, (.bslice 2 4 [(.int .i64 0), (.int .i64 0), (.int .i64 0), (.int .i64 0)] [(0, (.t 97)), (1, (.t 98))])⟩, ⟨(some 100), none, (.append 4 32 (.t 96) (.t 99))⟩, ⟨(some 101), none, (.laddr 100004)⟩, ⟨(some 100004), none, (.lstore 1 100004 2 (.t 100))⟩]) (.seq (.reg [⟨(some 102), none, (.lload true 10 100004 0)⟩, ⟨(some 100002), none, (.lstore 10 100002 0 (.t 102))⟩]) .ret)))))))))))⟩
theorem ok128 : cF Try.prog [2, 4] Try.f128 = some ac128 := by kernel_rfl
/-- spec.l6Glyph -/
def ac129 : AFunc := ⟨[2], 2, [(.tmp 4)], (.seq (.reg [⟨(some 100002), none, (.lbox (.t 0))⟩, ⟨(some 4), none, (.mov (.c (.int .i64 0)))⟩]) (.seq (.reg [⟨(some 5), none, (.mov (.c (.int .i64 0)))⟩]) (.seq (.reg [⟨(some 8), none, (.laddr 100002)⟩, ⟨(some 9), none, (.lload false 1 100002 1)⟩, ⟨(some 10), none, (.len false (.t 9))⟩, ⟨(some 6), none, (.mov (.t 10))⟩]) (.seq (.block 0 (.loop (.seq (.seq (.reg [⟨(some 11), none, (.mov (.t 5))⟩, ⟨(some 12), none, (.mov (.t 6))⟩, ⟨(some 13), none, (.bin .lss (.t 11) (.t 12))⟩]) (.cond (.t 13) .skip (.exit 0))) (.block 1 (.seq (.reg [⟨(some 14), none, (.mov (.t 5))⟩, ⟨(some 15), none, (.mov (.t 6))⟩, ⟨(some 16), none, (.bin .add (.t 14) (.t 15))⟩, ⟨(some 17), none, (.bin .quo (.t 16) (.c (.int .i64 2)))⟩, ⟨(some 7), none, (.mov (.t 17))⟩]) (.seq (.reg [⟨(some 18), none, (.laddr 100002)⟩, ⟨(some 19), none, (.lload false 1 100002 1)⟩, ⟨(some 20), none, (.mov (.t 7))⟩, ⟨(some 21), none, (.iaddr 4 (.t 19) (.t 20))⟩, ⟨(some 22), none, (.faddr 0 (.t 21))⟩, ⟨(some 23), none, (.load false 1 (.t 22))⟩, ⟨(some 24), none, (.mov (.t 1))⟩, ⟨(some 25), none, (.bin .lss (.t 23) (.t 24))⟩]) (.cond (.t 25) (.reg [⟨(some 26), none, (.mov (.t 7))⟩, ⟨(some 27), none, (.bin .add (.t 26) (.c (.int .i64 1)))⟩, ⟨(some 5), none, (.mov (.t 27))⟩]) (.reg [⟨(some 28), none, (.mov (.t 7))⟩, ⟨(some 6), none, (.mov (.t 28))⟩])))))))) (.seq (.seq (.reg [⟨(some 29), none, (.mov (.t 5))⟩, ⟨(some 30), none, (.laddr 100002)⟩, ⟨(some 31), none, (.lload false 1 100002 1)⟩, ⟨(some 32), none, (.len false (.t 31))⟩, ⟨(some 33), none, (.bin .lss (.t 29) (.t 32))⟩, ⟨(some 34), none, (.mov (.t 33))⟩, ⟨(some 35), (some (34, true)), (.laddr 100002)⟩, ⟨(some 36), (some (34, true)), (.lload false 1 100002 1)⟩, ⟨(some 37), (some (34, true)), (.mov (.t 5))⟩, ⟨(some 38), (some (34, true)), (.iaddr 4 (.t 36) (.t 37))⟩, ⟨(some 39), (some (34, true)), (.faddr 0 (.t 38))⟩, ⟨(some 40), (some (34, true)), (.load false 1 (.t 39))⟩, ⟨(some 41), (some (34, true)), (.mov (.t 1))⟩, ⟨(some 42), (some (34, true)), (.bin .eql (.t 40) (.t 41))⟩, ⟨(some 43), none, (.pick (.t 34) (.t 42) (.c (.bool false)))⟩]) (.cond (.t 43) (.seq (.reg [⟨(some 44), none, (.mov (.t 5))⟩, ⟨(some 4), none, (.mov (.t 44))⟩]) .ret) .skip)) (.seq (.reg [⟨(some 4), none, (.mov (.c (.int .i64 (-1))))⟩]) .ret))))))⟩
theorem ok129 : cF Try.prog [2] Try.f129 = some ac129 := by kernel_rfl
/-- spec.l1Abs -/
def ac135 : AFunc := ⟨[], 1, [(.tmp 2)], (.seq (.reg [⟨(some 2), none, (.mov (.c (.int .u64 0)))⟩]) (.seq (.seq (.reg [⟨(some 3), none, (.mov (.t 0))⟩, ⟨(some 4), none, (.bin .lss (.t 3) (.c (.int .i64 0)))⟩]) (.cond (.t 4) (.seq (.reg [⟨(some 5), none, (.mov (.t 0))⟩, ⟨(some 6), none, (.bin .add (.t 5) (.c (.int .i64 1)))⟩, ⟨(some 7), none, (.un .neg (.t 6))⟩, ⟨(some 8), none, (.conv .u64 (.t 7))⟩, ⟨(some 9), none, (.bin .add (.t 8) (.c (.int .u64 1)))⟩, ⟨(some 2), none, (.mov (.t 9))⟩]) .ret) .skip)) (.seq (.reg [⟨(some 10), none, (.mov (.t 0))⟩, ⟨(some 11), none, (.conv .u64 (.t 10))⟩, ⟨(some 2), none, (.mov (.t 11))⟩]) .ret)))⟩
theorem ok135 : cF Try.prog [] Try.f135 = some ac135 := by kernel_rfl
/-- spec.l1DrawLen -/
def ac136 : AFunc := ⟨[], 1, [(.tmp 2)], (.seq (.reg [⟨(some 2), none, (.mov (.c (.int .i64 0)))⟩]) (.seq (.reg [⟨(some 4), none, (.mov (.t 0))⟩, ⟨(some 5), none, (.call 72 [(.t 4), (.c (.int .i64 1310720))])⟩, ⟨(some 3), none, (.mov (.t 5))⟩]) (.seq (.seq (.reg [⟨(some 6), none, (.mov (.t 0))⟩, ⟨(some 7), none, (.call 72 [(.t 6), (.c (.int .i64 12))])⟩]) (.block 0 (.seq (.reg [⟨(some 9), none, (.bin .eql (.t 7) (.c (.int .i64 0)))⟩, ⟨(some 8), none, (.mov (.t 9))⟩]) (.cond (.t 8) (.reg [⟨(some 3), none, (.mov (.c (.int .i64 0)))⟩]) (.seq (.reg [⟨(some 11), none, (.bin .eql (.t 7) (.c (.int .i64 1)))⟩, ⟨(some 10), none, (.mov (.t 11))⟩]) (.cond (.t 10) (.reg [⟨(some 12), none, (.mov (.t 3))⟩, ⟨(some 13), none, (.un .neg (.t 12))⟩, ⟨(some 3), none, (.mov (.t 13))⟩]) (.seq (.reg [⟨(some 15), none, (.bin .eql (.t 7) (.c (.int .i64 2)))⟩, ⟨(some 14), none, (.mov (.t 15))⟩]) (.cond (.t 14) (.reg [⟨(some 16), none, (.mov (.t 0))⟩, ⟨(some 17), none, (.call 72 [(.t 16), (.c (.int .i64 100))])⟩, ⟨(some 3), none, (.mov (.t 17))⟩]) (.seq (.reg [⟨(some 19), none, (.bin .eql (.t 7) (.c (.int .i64 3)))⟩, ⟨(some 18), none, (.mov (.t 19))⟩]) (.cond (.t 18) (.reg [⟨(some 20), none, (.mov (.t 0))⟩, ⟨(some 21), none, (.call 72 [(.t 20), (.c (.int .i64 300))])⟩, ⟨(some 22), none, (.bin .mul (.c (.int .i64 65536)) (.t 21))⟩, ⟨(some 3), none, (.mov (.t 22))⟩]) (.seq (.reg [⟨(some 24), none, (.bin .eql (.t 7) (.c (.int .i64 4)))⟩, ⟨(some 23), none, (.mov (.t 24))⟩]) (.cond (.t 23) (.reg [⟨(some 25), none, (.mov (.t 0))⟩, ⟨(some 26), none, (.call 72 [(.t 25), (.c (.int .i64 1073741823))])⟩, ⟨(some 3), none, (.mov (.t 26))⟩]) .skip)))))))))))) (.seq (.seq (.reg [⟨(some 27), none, (.mov (.t 0))⟩, ⟨(some 28), none, (.call 73 [(.t 27), (.c (.int .i64 40))])⟩]) (.cond (.t 28) (.reg [⟨(some 29), none, (.bslice 6 1 [(.int .i64 0)] [(0, (.c (.int .i64 1073741823))), (1, (.c (.int .i64 1073741824))), (2, (.c (.int .i64 (-1073741823)))), (3, (.c (.int .i64 (-1073741824)))), (4, (.c (.int .i64 4611686018427387904))), (5, (.c (.int .i64 (-9223372036854775808))))])⟩, ⟨(some 30), none, (.mov (.t 0))⟩, ⟨(some 31), none, (.call 72 [(.t 30), (.c (.int .i64 6))])⟩, ⟨(some 32), none, (.iaddr 1 (.t 29) (.t 31))⟩, ⟨(some 33), none, (.load false 1 (.t 32))⟩, ⟨(some 3), none, (.mov (.t 33))⟩]) .skip)) (.seq (.reg [⟨(some 34), none, (.mov (.t 3))⟩, ⟨(some 2), none, (.mov (.t 34))⟩]) .ret)))))⟩
theorem ok136 : cF Try.prog [] Try.f136 = some ac136 := by kernel_rfl
/-- spec.l4Signed -/
def ac137 : AFunc := ⟨[], 1, [(.tmp 2)], (.seq (.reg [⟨(some 2), none, (.mov (.c (.str ⟨#[]⟩)))⟩]) (.seq (.reg [⟨(some 4), none, (.mov (.t 0))⟩, ⟨(some 5), none, (.call 135 [(.t 4)])⟩, ⟨(some 6), none, (.call 141 [(.t 5)])⟩, ⟨(some 3), none, (.mov (.t 6))⟩]) (.seq (.seq (.reg [⟨(some 7), none, (.mov (.t 0))⟩, ⟨(some 8), none, (.bin .lss (.t 7) (.c (.int .i64 0)))⟩]) (.cond (.t 8) (.seq (.reg [⟨(some 9), none, (.mov (.t 3))⟩, ⟨(some 10), none, (.bin .add (.c (.str ⟨#[45]⟩)) (.t 9))⟩, ⟨(some 2), none, (.mov (.t 10))⟩]) .ret) .skip)) (.seq (.reg [⟨(some 11), none, (.mov (.t 3))⟩, ⟨(some 2), none, (.mov (.t 11))⟩]) .ret))))⟩
theorem ok137 : cF Try.prog [] Try.f137 = some ac137 := by kernel_rfl
/-- spec.l6Plain -/
def ac138 : AFunc := ⟨[4, 6], 2, [(.lcell true 4 100004)], (.seq (.reg [⟨(some 100004), none, (.lbox (.c (.agg [(.int .i64 0), (.int .i64 0), (.int .i64 0), (.int .i64 0)])))⟩]) (.seq (.reg [⟨(some 7), none, (.mov (.t 0))⟩, ⟨(some 8), none, (.bin .add (.c (.int .i64 8)) (.t 7))⟩, ⟨(some 9), none, (.bin .mul (.c (.int .i64 6553)) (.t 8))⟩, ⟨(some 5), none, (.mov (.t 9))⟩]) (.seq (.reg [⟨(some 10), none, (.mov (.t 1))⟩, ⟨(some 11), none, (.mov (.t 5))⟩, ⟨(some 12), none, (.mov (.t 1))⟩, ⟨(some 13), none, (.bin .mul (.t 12) (.c (.int .i64 7)))⟩, ⟨(some 14), none, (.mov (.t 0))⟩, ⟨(some 15), none, (.bin .add (.t 13) (.t 14))⟩, ⟨(some 16), none, (.bin .rem (.t 15) (.c (.int .i64 6)))⟩, ⟨(some 17), none, (.bin .add (.c (.int .i64 4)) (.t 16))⟩, ⟨(some 18), none, (.bin .mul (.t 11) (.t 17))⟩, ⟨(some 19), none, (.mov (.t 5))⟩, ⟨(some 20), none, (.bin .mul (.c (.int .i64 3)) (.t 19))⟩, ⟨(some 21), none, (.build [(.int .i64 0), (.int .i64 0), (.int .i64 0), (.int .i64 0)] [(0, (1, (.t 10))), (1, (1, (.t 18))), (2, (1, (.t 20)))])⟩, ⟨(some 100006), none, (.lbox (.c (.agg [(.int .i64 0), (.int .i64 0), (.int .i64 0), (.int .i64 0)])))⟩, ⟨(some 100006), none, (.lstore 4 100006 0 (.t 21))⟩]) (.seq (.seq (.reg [⟨(some 22), none, (.mov (.t 1))⟩, ⟨(some 23), none, (.conv .u8 (.t 22))⟩, ⟨(some 24), none, (.call 142 [(.t 23)])⟩, ⟨(some 25), none, (.mov (.t 24))⟩, ⟨(some 26), (some (25, false)), (.mov (.t 1))⟩, ⟨(some 27), (some (25, false)), (.bin .geq (.t 26) (.c (.int .i64 48)))⟩, ⟨(some 28), (some (25, false)), (.mov (.t 27))⟩, ⟨(some 29), (some (28, true)), (.mov (.t 1))⟩, ⟨(some 30), (some (28, true)), (.bin .leq (.t 29) (.c (.int .i64 57)))⟩, ⟨(some 31), (some (25, false)), (.pick (.t 28) (.t 30) (.c (.bool false)))⟩, ⟨(some 32), none, (.pick (.t 25) (.c (.bool true)) (.t 31))⟩]) (.cond (.t 32) (.reg [⟨(some 33), none, (.mov (.t 5))⟩, ⟨(some 34), none, (.mov (.t 1))⟩, ⟨(some 35), none, (.bin .rem (.t 34) (.c (.int .i64 4)))⟩, ⟨(some 36), none, (.bin .add (.c (.int .i64 4)) (.t 35))⟩, ⟨(some 37), none, (.bin .mul (.t 33) (.t 36))⟩, ⟨(some 38), none, (.laddr 100006)⟩, ⟨(some 100006), none, (.lstore 1 100006 2 (.t 37))⟩]) .skip)) (.seq (.seq (.reg [⟨(some 39), none, (.mov (.t 1))⟩, ⟨(some 40), none, (.call 143 [(.c (.str ⟨#[103, 106, 112, 113, 121]⟩)), (.t 39)])⟩]) (.cond (.t 40) (.reg [⟨(some 41), none, (.mov (.t 5))⟩, ⟨(some 42), none, (.bin .mul (.c (.int .i64 2)) (.t 41))⟩, ⟨(some 43), none, (.laddr 100006)⟩, ⟨(some 100006), none, (.lstore 1 100006 3 (.t 42))⟩]) .skip)) (.seq (.reg [⟨(some 44), none, (.lload true 4 100006 0)⟩, ⟨(some 100004), none, (.lstore 4 100004 0 (.t 44))⟩]) .ret))))))⟩
theorem ok138 : cF Try.prog [4, 6] Try.f138 = some ac138 := by kernel_rfl
/-- spec.l1Decimal -/
def ac141 : AFunc := ⟨[], 1, [(.tmp 2)], (.seq (.reg [⟨(some 2), none, (.mov (.c (.str ⟨#[]⟩)))⟩]) (.seq (.reg [⟨(some 3), none, (.mov (.c (.str ⟨#[]⟩)))⟩]) (.seq (.block 0 (.loop (.seq (.seq (.reg [⟨(some 4), none, (.mov (.t 0))⟩, ⟨(some 5), none, (.bin .gtr (.t 4) (.c (.int .u64 9)))⟩]) (.cond (.t 5) .skip (.exit 0))) (.block 1 (.seq (.reg [⟨(some 6), none, (.mov (.t 0))⟩, ⟨(some 7), none, (.bin .rem (.t 6) (.c (.int .u64 10)))⟩, ⟨(some 8), none, (.bin .add (.c (.int .u64 48)) (.t 7))⟩, ⟨(some 9), none, (.conv .u8 (.t 8))⟩, ⟨(some 10), none, (.bslice 1 1 [(.int .u8 0)] [(0, (.t 9))])⟩, ⟨(some 11), none, (.b2s (.t 10))⟩, ⟨(some 12), none, (.mov (.t 3))⟩, ⟨(some 13), none, (.bin .add (.t 11) (.t 12))⟩, ⟨(some 3), none, (.mov (.t 13))⟩]) (.reg [⟨(some 14), none, (.mov (.t 0))⟩, ⟨(some 15), none, (.bin .quo (.t 14) (.c (.int .u64 10)))⟩, ⟨(some 0), none, (.mov (.t 15))⟩])))))) (.seq (.reg [⟨(some 16), none, (.mov (.t 0))⟩, ⟨(some 17), none, (.bin .add (.c (.int .u64 48)) (.t 16))⟩, ⟨(some 18), none, (.conv .u8 (.t 17))⟩, ⟨(some 19), none, (.bslice 1 1 [(.int .u8 0)] [(0, (.t 18))])⟩, ⟨(some 20), none, (.b2s (.t 19))⟩, ⟨(some 21), none, (.mov (.t 3))⟩, ⟨(some 22), none, (.bin .add (.t 20) (.t 21))⟩, ⟨(some 2), none, (.mov (.t 22))⟩]) .ret))))⟩
theorem ok141 : cF Try.prog [] Try.f141 = some ac141 := by kernel_rfl
/-- spec.l2Letter -/
def ac142 : AFunc := ⟨[], 1, [(.tmp 2)], (.seq (.reg [⟨(some 2), none, (.mov (.c (.bool false)))⟩]) (.seq (.reg [⟨(some 3), none, (.mov (.t 0))⟩, ⟨(some 4), none, (.bin .geq (.t 3) (.c (.int .u8 97)))⟩, ⟨(some 5), none, (.mov (.t 4))⟩, ⟨(some 6), (some (5, true)), (.mov (.t 0))⟩, ⟨(some 7), (some (5, true)), (.bin .leq (.t 6) (.c (.int .u8 122)))⟩, ⟨(some 8), none, (.pick (.t 5) (.t 7) (.c (.bool false)))⟩, ⟨(some 9), none, (.mov (.t 8))⟩, ⟨(some 10), (some (9, false)), (.mov (.t 0))⟩, ⟨(some 11), (some (9, false)), (.bin .geq (.t 10) (.c (.int .u8 65)))⟩, ⟨(some 12), (some (9, false)), (.mov (.t 11))⟩, ⟨(some 13), (some (12, true)), (.mov (.t 0))⟩, ⟨(some 14), (some (12, true)), (.bin .leq (.t 13) (.c (.int .u8 90)))⟩, ⟨(some 15), (some (9, false)), (.pick (.t 12) (.t 14) (.c (.bool false)))⟩, ⟨(some 16), none, (.pick (.t 9) (.c (.bool true)) (.t 15))⟩, ⟨(some 2), none, (.mov (.t 16))⟩]) .ret))⟩
theorem ok142 : cF Try.prog [] Try.f142 = some ac142 := by kernel_rfl
/-- spec.l6In -/
def ac143 : AFunc := ⟨[], 2, [(.tmp 4)], (.seq (.reg [⟨(some 4), none, (.mov (.c (.bool false)))⟩]) (.seq (.seq (.reg [⟨(some 5), none, (.mov (.c (.int .i64 0)))⟩]) (.block 0 (.loop (.seq (.seq (.reg [⟨(some 6), none, (.mov (.t 5))⟩, ⟨(some 7), none, (.mov (.t 0))⟩, ⟨(some 8), none, (.len true (.t 7))⟩, ⟨(some 9), none, (.bin .lss (.t 6) (.t 8))⟩]) (.cond (.t 9) .skip (.exit 0))) (.seq (.block 1 (.seq (.reg [⟨(some 12), none, (.mov (.t 0))⟩, ⟨(some 13), none, (.mov (.t 5))⟩, ⟨(some 14), none, (.index (.t 12) (.t 13))⟩, ⟨(some 15), none, (.conv .i64 (.t 14))⟩, ⟨(some 16), none, (.mov (.t 1))⟩, ⟨(some 17), none, (.bin .eql (.t 15) (.t 16))⟩]) (.cond (.t 17) (.seq (.reg [⟨(some 4), none, (.mov (.c (.bool true)))⟩]) .ret) .skip))) (.reg [⟨(some 10), none, (.mov (.t 5))⟩, ⟨(some 11), none, (.bin .add (.t 10) (.c (.int .i64 1)))⟩, ⟨(some 5), none, (.mov (.t 11))⟩])))))) (.seq (.reg [⟨(some 4), none, (.mov (.c (.bool false)))⟩]) .ret)))⟩
theorem ok143 : cF Try.prog [] Try.f143 = some ac143 := by kernel_rfl
def ap : FuncId → Option AFunc
  | 3 => some ac3
  | 4 => some ac4
  | 5 => some ac5
  | 6 => some ac6
  | 7 => some ac7
  | 8 => some ac8
  | 9 => some ac9
  | 10 => some ac10
  | 11 => some ac11
  | 12 => some ac12
  | 13 => some ac13
  | 14 => some ac14
  | 15 => some ac15
  | 16 => some ac16
  | 17 => some ac17
  | 18 => some ac18
  | 19 => some ac19
  | 20 => some ac20
  | 21 => some ac21
  | 22 => some ac22
  | 23 => some ac23
  | 24 => some ac24
  | 25 => some ac25
  | 26 => some ac26
  | 27 => some ac27
  | 28 => some ac28
  | 29 => some ac29
  | 30 => some ac30
  | 31 => some ac31
  | 32 => some ac32
  | 33 => some ac33
  | 34 => some ac34
  | 35 => some ac35
  | 36 => some ac36
  | 37 => some ac37
  | 38 => some ac38
  | 39 => some ac39
  | 40 => some ac40
  | 41 => some ac41
  | 42 => some ac42
  | 43 => some ac43
  | 44 => some ac44
  | 45 => some ac45
  | 46 => some ac46
  | 47 => some ac47
  | 48 => some ac48
  | 49 => some ac49
  | 50 => some ac50
  | 51 => some ac51
  | 52 => some ac52
  | 53 => some ac53
  | 54 => some ac54
  | 55 => some ac55
  | 56 => some ac56
  | 57 => some ac57
  | 58 => some ac58
  | 59 => some ac59
  | 60 => some ac60
  | 61 => some ac61
  | 63 => some ac63
  | 64 => some ac64
  | 65 => some ac65
  | 66 => some ac66
  | 67 => some ac67
  | 68 => some ac68
  | 69 => some ac69
  | 70 => some ac70
  | 71 => some ac71
  | 72 => some ac72
  | 73 => some ac73
  | 74 => some ac74
  | 75 => some ac75
  | 76 => some ac76
  | 77 => some ac77
  | 78 => some ac78
  | 79 => some ac79
  | 80 => some ac80
  | 81 => some ac81
  | 82 => some ac82
  | 83 => some ac83
  | 84 => some ac84
  | 85 => some ac85
  | 88 => some ac88
  | 89 => some ac89
  | 90 => some ac90
  | 91 => some ac91
  | 92 => some ac92
  | 95 => some ac95
  | 96 => some ac96
  | 97 => some ac97
  | 98 => some ac98
  | 99 => some ac99
  | 100 => some ac100
  | 101 => some ac101
  | 102 => some ac102
  | 104 => some ac104
  | 105 => some ac105
  | 106 => some ac106
  | 107 => some ac107
  | 108 => some ac108
  | 116 => some ac116
  | 117 => some ac117
  | 118 => some ac118
  | 119 => some ac119
  | 120 => some ac120
  | 127 => some ac127
  | 128 => some ac128
  | 129 => some ac129
  | 135 => some ac135
  | 136 => some ac136
  | 137 => some ac137
  | 138 => some ac138
  | 141 => some ac141
  | 142 => some ac142
  | 143 => some ac143
  | _ => none
theorem hap : ∀ f af, ap f = some af → ∃ fn B, Try.prog.funcs[f]? = some fn ∧ cF Try.prog B fn = some af := by
  intro f af hf
  unfold ap at hf
  split at hf
  · cases hf; exact ⟨_, _, Try.func3, ok3⟩
  · cases hf; exact ⟨_, _, Try.func4, ok4⟩
  · cases hf; exact ⟨_, _, Try.func5, ok5⟩
  · cases hf; exact ⟨_, _, Try.func6, ok6⟩
  · cases hf; exact ⟨_, _, Try.func7, ok7⟩
  · cases hf; exact ⟨_, _, Try.func8, ok8⟩
  · cases hf; exact ⟨_, _, Try.func9, ok9⟩
  · cases hf; exact ⟨_, _, Try.func10, ok10⟩
  · cases hf; exact ⟨_, _, Try.func11, ok11⟩
  · cases hf; exact ⟨_, _, Try.func12, ok12⟩
  · cases hf; exact ⟨_, _, Try.func13, ok13⟩
  · cases hf; exact ⟨_, _, Try.func14, ok14⟩
  · cases hf; exact ⟨_, _, Try.func15, ok15⟩
  · cases hf; exact ⟨_, _, Try.func16, ok16⟩
  · cases hf; exact ⟨_, _, Try.func17, ok17⟩
  · cases hf; exact ⟨_, _, Try.func18, ok18⟩
  · cases hf; exact ⟨_, _, Try.func19, ok19⟩
  · cases hf; exact ⟨_, _, Try.func20, ok20⟩
  · cases hf; exact ⟨_, _, Try.func21, ok21⟩
  · cases hf; exact ⟨_, _, Try.func22, ok22⟩
  · cases hf; exact ⟨_, _, Try.func23, ok23⟩
  · cases hf; exact ⟨_, _, Try.func24, ok24⟩
  · cases hf; exact ⟨_, _, Try.func25, ok25⟩
  · cases hf; exact ⟨_, _, Try.func26, ok26⟩
  · cases hf; exact ⟨_, _, Try.func27, ok27⟩
  · cases hf; exact ⟨_, _, Try.func28, ok28⟩
  · cases hf; exact ⟨_, _, Try.func29, ok29⟩
  · cases hf; exact ⟨_, _, Try.func30, ok30⟩
  · cases hf; exact ⟨_, _, Try.func31, ok31⟩
  · cases hf; exact ⟨_, _, Try.func32, ok32⟩
  · cases hf; exact ⟨_, _, Try.func33, ok33⟩
  · cases hf; exact ⟨_, _, Try.func34, ok34⟩
  · cases hf; exact ⟨_, _, Try.func35, ok35⟩
  · cases hf; exact ⟨_, _, Try.func36, ok36⟩
  · cases hf; exact ⟨_, _, Try.func37, ok37⟩
  · cases hf; exact ⟨_, _, Try.func38, ok38⟩
  · cases hf; exact ⟨_, _, Try.func39, ok39⟩
  · cases hf; exact ⟨_, _, Try.func40, ok40⟩
  · cases hf; exact ⟨_, _, Try.func41, ok41⟩
  · cases hf; exact ⟨_, _, Try.func42, ok42⟩
  · cases hf; exact ⟨_, _, Try.func43, ok43⟩
  · cases hf; exact ⟨_, _, Try.func44, ok44⟩
  · cases hf; exact ⟨_, _, Try.func45, ok45⟩
  · cases hf; exact ⟨_, _, Try.func46, ok46⟩
  · cases hf; exact ⟨_, _, Try.func47, ok47⟩
  · cases hf; exact ⟨_, _, Try.func48, ok48⟩
  · cases hf; exact ⟨_, _, Try.func49, ok49⟩
  · cases hf; exact ⟨_, _, Try.func50, ok50⟩
  · cases hf; exact ⟨_, _, Try.func51, ok51⟩
  · cases hf; exact ⟨_, _, Try.func52, ok52⟩
  · cases hf; exact ⟨_, _, Try.func53, ok53⟩
  · cases hf; exact ⟨_, _, Try.func54, ok54⟩
  · cases hf; exact ⟨_, _, Try.func55, ok55⟩
  · cases hf; exact ⟨_, _, Try.func56, ok56⟩
  · cases hf; exact ⟨_, _, Try.func57, ok57⟩
  · cases hf; exact ⟨_, _, Try.func58, ok58⟩
  · cases hf; exact ⟨_, _, Try.func59, ok59⟩
  · cases hf; exact ⟨_, _, Try.func60, ok60⟩
  · cases hf; exact ⟨_, _, Try.func61, ok61⟩
  · cases hf; exact ⟨_, _, Try.func63, ok63⟩
  · cases hf; exact ⟨_, _, Try.func64, ok64⟩
  · cases hf; exact ⟨_, _, Try.func65, ok65⟩
  · cases hf; exact ⟨_, _, Try.func66, ok66⟩
  · cases hf; exact ⟨_, _, Try.func67, ok67⟩
  · cases hf; exact ⟨_, _, Try.func68, ok68⟩
  · cases hf; exact ⟨_, _, Try.func69, ok69⟩
  · cases hf; exact ⟨_, _, Try.func70, ok70⟩
  · cases hf; exact ⟨_, _, Try.func71, ok71⟩
  · cases hf; exact ⟨_, _, Try.func72, ok72⟩
  · cases hf; exact ⟨_, _, Try.func73, ok73⟩
  · cases hf; exact ⟨_, _, Try.func74, ok74⟩
  · cases hf; exact ⟨_, _, Try.func75, ok75⟩
  · cases hf; exact ⟨_, _, Try.func76, ok76⟩
  · cases hf; exact ⟨_, _, Try.func77, ok77⟩
  · cases hf; exact ⟨_, _, Try.func78, ok78⟩
  · cases hf; exact ⟨_, _, Try.func79, ok79⟩
  · cases hf; exact ⟨_, _, Try.func80, ok80⟩
  · cases hf; exact ⟨_, _, Try.func81, ok81⟩
  · cases hf; exact ⟨_, _, Try.func82, ok82⟩
  · cases hf; exact ⟨_, _, Try.func83, ok83⟩
  · cases hf; exact ⟨_, _, Try.func84, ok84⟩
  · cases hf; exact ⟨_, _, Try.func85, ok85⟩
  · cases hf; exact ⟨_, _, Try.func88, ok88⟩
  · cases hf; exact ⟨_, _, Try.func89, ok89⟩
  · cases hf; exact ⟨_, _, Try.func90, ok90⟩
  · cases hf; exact ⟨_, _, Try.func91, ok91⟩
  · cases hf; exact ⟨_, _, Try.func92, ok92⟩
  · cases hf; exact ⟨_, _, Try.func95, ok95⟩
  · cases hf; exact ⟨_, _, Try.func96, ok96⟩
  · cases hf; exact ⟨_, _, Try.func97, ok97⟩
  · cases hf; exact ⟨_, _, Try.func98, ok98⟩
  · cases hf; exact ⟨_, _, Try.func99, ok99⟩
  · cases hf; exact ⟨_, _, Try.func100, ok100⟩
  · cases hf; exact ⟨_, _, Try.func101, ok101⟩
  · cases hf; exact ⟨_, _, Try.func102, ok102⟩
  · cases hf; exact ⟨_, _, Try.func104, ok104⟩
  · cases hf; exact ⟨_, _, Try.func105, ok105⟩
  · cases hf; exact ⟨_, _, Try.func106, ok106⟩
  · cases hf; exact ⟨_, _, Try.func107, ok107⟩
  · cases hf; exact ⟨_, _, Try.func108, ok108⟩
  · cases hf; exact ⟨_, _, Try.func116, ok116⟩
  · cases hf; exact ⟨_, _, Try.func117, ok117⟩
  · cases hf; exact ⟨_, _, Try.func118, ok118⟩
  · cases hf; exact ⟨_, _, Try.func119, ok119⟩
  · cases hf; exact ⟨_, _, Try.func120, ok120⟩
  · cases hf; exact ⟨_, _, Try.func127, ok127⟩
  · cases hf; exact ⟨_, _, Try.func128, ok128⟩
  · cases hf; exact ⟨_, _, Try.func129, ok129⟩
  · cases hf; exact ⟨_, _, Try.func135, ok135⟩
  · cases hf; exact ⟨_, _, Try.func136, ok136⟩
  · cases hf; exact ⟨_, _, Try.func137, ok137⟩
  · cases hf; exact ⟨_, _, Try.func138, ok138⟩
  · cases hf; exact ⟨_, _, Try.func141, ok141⟩
  · cases hf; exact ⟨_, _, Try.func142, ok142⟩
  · cases hf; exact ⟨_, _, Try.func143, ok143⟩
  · cases hf
end Go.Proofs.Ytnaainlddcpfgaa
