/- The functions that the laws reach, as the abstract machine has them. -/
import Derived.Test.YtojmemlbajnhhaaBc0
import Derived.Test.YtojmemlbajnhhaaBc1
namespace Go.Proofs.Ytojmemlbajnhhaa
open Go Go.Bm Go.Proofs
set_option linter.all false
/-- laws.eqInt64S -/
def ac158 : AFunc := ⟨[], 2, [(.tmp 4)], (.seq (.reg [⟨(some 4), none, (.mov (.c (.bool false)))⟩]) (.seq (.seq (.reg [⟨(some 6), none, (.mov (.t 0))⟩, ⟨(some 7), none, (.len false (.t 6))⟩, ⟨(some 8), none, (.mov (.t 1))⟩, ⟨(some 9), none, (.len false (.t 8))⟩, ⟨(some 10), none, (.bin .neq (.t 7) (.t 9))⟩]) (.cond (.t 10) (.seq (.reg [⟨(some 4), none, (.mov (.c (.bool false)))⟩]) .ret) .skip)) (.seq (.seq (.reg [⟨(some 5), none, (.mov (.c (.int .i64 0)))⟩]) (.block 0 (.loop (.seq (.seq (.reg [⟨(some 11), none, (.mov (.t 5))⟩, ⟨(some 12), none, (.mov (.t 0))⟩, ⟨(some 13), none, (.len false (.t 12))⟩, ⟨(some 14), none, (.bin .lss (.t 11) (.t 13))⟩]) (.cond (.t 14) .skip (.exit 0))) (.seq (.block 1 (.seq (.regF [(0, (false, ⟨(some 17), none, (.mov (.t 0))⟩)), (1, (false, ⟨(some 18), none, (.mov (.t 5))⟩)), (2, (false, ⟨(some 19), none, (.iaddr 1 (.t 17) (.t 18))⟩)), (3, (false, ⟨(some 20), none, (.load false 1 (.t 19))⟩)), (4, (false, ⟨(some 21), none, (.mov (.t 1))⟩)), (5, (false, ⟨(some 22), none, (.mov (.t 5))⟩)), (6, (false, ⟨(some 23), none, (.iaddr 1 (.t 21) (.t 22))⟩)), (7, (false, ⟨(some 24), none, (.load false 1 (.t 23))⟩)), (8, (false, ⟨(some 25), none, (.bin .neq (.t 20) (.t 24))⟩))] [[], [], [0, 1], [2], [], [], [4, 5], [6], [3, 7]]) (.cond (.t 25) (.seq (.reg [⟨(some 4), none, (.mov (.c (.bool false)))⟩]) .ret) .skip))) (.reg [⟨(some 15), none, (.mov (.t 5))⟩, ⟨(some 16), none, (.bin .add (.t 15) (.c (.int .i64 1)))⟩, ⟨(some 5), none, (.mov (.t 16))⟩])))))) (.seq (.reg [⟨(some 4), none, (.mov (.c (.bool true)))⟩]) .ret))))⟩
theorem ok158 : cF Try.prog [] Try.f158 = some ac158.erase := by kernel_rfl
/-- laws.eqBindS -/
def ac159 : AFunc := ⟨[], 2, [(.tmp 4)], (.seq (.reg [⟨(some 4), none, (.mov (.c (.bool false)))⟩]) (.seq (.seq (.reg [⟨(some 6), none, (.mov (.t 0))⟩, ⟨(some 7), none, (.len false (.t 6))⟩, ⟨(some 8), none, (.mov (.t 1))⟩, ⟨(some 9), none, (.len false (.t 8))⟩, ⟨(some 10), none, (.bin .neq (.t 7) (.t 9))⟩]) (.cond (.t 10) (.seq (.reg [⟨(some 4), none, (.mov (.c (.bool false)))⟩]) .ret) .skip)) (.seq (.seq (.reg [⟨(some 5), none, (.mov (.c (.int .i64 0)))⟩]) (.block 0 (.loop (.seq (.seq (.reg [⟨(some 11), none, (.mov (.t 5))⟩, ⟨(some 12), none, (.mov (.t 0))⟩, ⟨(some 13), none, (.len false (.t 12))⟩, ⟨(some 14), none, (.bin .lss (.t 11) (.t 13))⟩]) (.cond (.t 14) .skip (.exit 0))) (.seq (.block 1 (.seq (.regF [(0, (false, ⟨(some 17), none, (.mov (.t 0))⟩)), (1, (false, ⟨(some 18), none, (.mov (.t 5))⟩)), (2, (false, ⟨(some 19), none, (.iaddr 9 (.t 17) (.t 18))⟩)), (3, (false, ⟨(some 20), none, (.load true 9 (.t 19))⟩)), (4, (false, ⟨(some 21), none, (.mov (.t 1))⟩)), (5, (false, ⟨(some 22), none, (.mov (.t 5))⟩)), (6, (false, ⟨(some 23), none, (.iaddr 9 (.t 21) (.t 22))⟩)), (7, (false, ⟨(some 24), none, (.load true 9 (.t 23))⟩)), (8, (false, ⟨(some 25), none, (.call .raw 169 [(.t 20), (.t 24)])⟩)), (9, (false, ⟨(some 26), none, (.un .not (.t 25))⟩))] [[], [], [0, 1], [2], [], [], [4, 5], [6], [3, 7], [8]]) (.cond (.t 26) (.seq (.reg [⟨(some 4), none, (.mov (.c (.bool false)))⟩]) .ret) .skip))) (.reg [⟨(some 15), none, (.mov (.t 5))⟩, ⟨(some 16), none, (.bin .add (.t 15) (.c (.int .i64 1)))⟩, ⟨(some 5), none, (.mov (.t 16))⟩])))))) (.seq (.reg [⟨(some 4), none, (.mov (.c (.bool true)))⟩]) .ret))))⟩
theorem ok159 : cF Try.prog [] Try.f159 = some ac159.erase := by kernel_rfl
/-- laws.eqGlueS -/
def ac160 : AFunc := ⟨[], 2, [(.tmp 4)], (.seq (.reg [⟨(some 4), none, (.mov (.c (.bool false)))⟩]) (.seq (.seq (.reg [⟨(some 6), none, (.mov (.t 0))⟩, ⟨(some 7), none, (.len false (.t 6))⟩, ⟨(some 8), none, (.mov (.t 1))⟩, ⟨(some 9), none, (.len false (.t 8))⟩, ⟨(some 10), none, (.bin .neq (.t 7) (.t 9))⟩]) (.cond (.t 10) (.seq (.reg [⟨(some 4), none, (.mov (.c (.bool false)))⟩]) .ret) .skip)) (.seq (.seq (.reg [⟨(some 5), none, (.mov (.c (.int .i64 0)))⟩]) (.block 0 (.loop (.seq (.seq (.reg [⟨(some 11), none, (.mov (.t 5))⟩, ⟨(some 12), none, (.mov (.t 0))⟩, ⟨(some 13), none, (.len false (.t 12))⟩, ⟨(some 14), none, (.bin .lss (.t 11) (.t 13))⟩]) (.cond (.t 14) .skip (.exit 0))) (.seq (.block 1 (.seq (.regF [(0, (false, ⟨(some 17), none, (.mov (.t 0))⟩)), (1, (false, ⟨(some 18), none, (.mov (.t 5))⟩)), (2, (false, ⟨(some 19), none, (.iaddr 5 (.t 17) (.t 18))⟩)), (3, (false, ⟨(some 20), none, (.load true 5 (.t 19))⟩)), (4, (false, ⟨(some 21), none, (.mov (.t 1))⟩)), (5, (false, ⟨(some 22), none, (.mov (.t 5))⟩)), (6, (false, ⟨(some 23), none, (.iaddr 5 (.t 21) (.t 22))⟩)), (7, (false, ⟨(some 24), none, (.load true 5 (.t 23))⟩)), (8, (false, ⟨(some 25), none, (.call .raw 170 [(.t 20), (.t 24)])⟩)), (9, (false, ⟨(some 26), none, (.un .not (.t 25))⟩))] [[], [], [0, 1], [2], [], [], [4, 5], [6], [3, 7], [8]]) (.cond (.t 26) (.seq (.reg [⟨(some 4), none, (.mov (.c (.bool false)))⟩]) .ret) .skip))) (.reg [⟨(some 15), none, (.mov (.t 5))⟩, ⟨(some 16), none, (.bin .add (.t 15) (.c (.int .i64 1)))⟩, ⟨(some 5), none, (.mov (.t 16))⟩])))))) (.seq (.reg [⟨(some 4), none, (.mov (.c (.bool true)))⟩]) .ret))))⟩
theorem ok160 : cF Try.prog [] Try.f160 = some ac160.erase := by kernel_rfl
/-- laws.eqTokenSS -/
def ac161 : AFunc := ⟨[], 2, [(.tmp 4)], (.seq (.reg [⟨(some 4), none, (.mov (.c (.bool false)))⟩]) (.seq (.seq (.reg [⟨(some 6), none, (.mov (.t 0))⟩, ⟨(some 7), none, (.len false (.t 6))⟩, ⟨(some 8), none, (.mov (.t 1))⟩, ⟨(some 9), none, (.len false (.t 8))⟩, ⟨(some 10), none, (.bin .neq (.t 7) (.t 9))⟩]) (.cond (.t 10) (.seq (.reg [⟨(some 4), none, (.mov (.c (.bool false)))⟩]) .ret) .skip)) (.seq (.seq (.reg [⟨(some 5), none, (.mov (.c (.int .i64 0)))⟩]) (.block 0 (.loop (.seq (.seq (.reg [⟨(some 11), none, (.mov (.t 5))⟩, ⟨(some 12), none, (.mov (.t 0))⟩, ⟨(some 13), none, (.len false (.t 12))⟩, ⟨(some 14), none, (.bin .lss (.t 11) (.t 13))⟩]) (.cond (.t 14) .skip (.exit 0))) (.seq (.block 1 (.seq (.regF [(0, (false, ⟨(some 17), none, (.mov (.t 0))⟩)), (1, (false, ⟨(some 18), none, (.mov (.t 5))⟩)), (2, (false, ⟨(some 19), none, (.iaddr 1 (.t 17) (.t 18))⟩)), (3, (false, ⟨(some 20), none, (.load false 1 (.t 19))⟩)), (4, (false, ⟨(some 21), none, (.mov (.t 1))⟩)), (5, (false, ⟨(some 22), none, (.mov (.t 5))⟩)), (6, (false, ⟨(some 23), none, (.iaddr 1 (.t 21) (.t 22))⟩)), (7, (false, ⟨(some 24), none, (.load false 1 (.t 23))⟩)), (8, (false, ⟨(some 25), none, (.call .raw 113 [(.t 20), (.t 24)])⟩)), (9, (false, ⟨(some 26), none, (.un .not (.t 25))⟩))] [[], [], [0, 1], [2], [], [], [4, 5], [6], [3, 7], [8]]) (.cond (.t 26) (.seq (.reg [⟨(some 4), none, (.mov (.c (.bool false)))⟩]) .ret) .skip))) (.reg [⟨(some 15), none, (.mov (.t 5))⟩, ⟨(some 16), none, (.bin .add (.t 15) (.c (.int .i64 1)))⟩, ⟨(some 5), none, (.mov (.t 16))⟩])))))) (.seq (.reg [⟨(some 4), none, (.mov (.c (.bool true)))⟩]) .ret))))⟩
theorem ok161 : cF Try.prog [] Try.f161 = some ac161.erase := by kernel_rfl
/-- laws.markText -/
def ac163 : AFunc := ⟨[], 1, [(.tmp 2)], (.seq (.reg [⟨(some 2), none, (.mov (.c (.str ⟨#[]⟩)))⟩]) (.seq (.seq (.reg [⟨(some 4), none, (.mov (.t 0))⟩, ⟨(some 5), none, (.bin .leq (.t 4) (.c (.int .i64 0)))⟩]) (.cond (.t 5) (.seq (.reg [⟨(some 2), none, (.mov (.c (.str ⟨#[109, 48]⟩)))⟩]) .ret) .skip)) (.seq (.reg [⟨(some 3), none, (.mov (.c (.str ⟨#[]⟩)))⟩]) (.seq (.block 0 (.loop (.seq (.seq (.reg [⟨(some 6), none, (.mov (.t 0))⟩, ⟨(some 7), none, (.bin .gtr (.t 6) (.c (.int .i64 0)))⟩]) (.cond (.t 7) .skip (.exit 0))) (.block 1 (.seq (.reg [⟨(some 8), none, (.mov (.t 0))⟩, ⟨(some 9), none, (.bin .rem (.t 8) (.c (.int .i64 10)))⟩, ⟨(some 10), none, (.bin .add (.c (.int .i64 48)) (.t 9))⟩, ⟨(some 11), none, (.conv .u8 (.t 10))⟩, ⟨(some 12), none, (.bsliceF 1 1 [(.int .u8 0)] [(0, (.t 11))])⟩, ⟨(some 13), none, (.b2s (.t 12))⟩, ⟨(some 14), none, (.mov (.t 3))⟩, ⟨(some 15), none, (.bin .add (.t 13) (.t 14))⟩, ⟨(some 3), none, (.mov (.t 15))⟩]) (.reg [⟨(some 16), none, (.mov (.t 0))⟩, ⟨(some 17), none, (.bin .quo (.t 16) (.c (.int .i64 10)))⟩, ⟨(some 0), none, (.mov (.t 17))⟩])))))) (.seq (.reg [⟨(some 18), none, (.mov (.t 3))⟩, ⟨(some 19), none, (.bin .add (.c (.str ⟨#[109]⟩)) (.t 18))⟩, ⟨(some 2), none, (.mov (.t 19))⟩]) .ret)))))⟩
theorem ok163 : cF Try.prog [] Try.f163 = some ac163.erase := by kernel_rfl
/-- laws.szBind -/
def ac164 : AFunc := ⟨[2], 2, [(.tmp 4)], (.seq (.reg [⟨(some 100002), none, (.lbox (.t 0))⟩, ⟨(some 4), none, (.mov (.c (.int .i64 0)))⟩]) (.seq (.reg [⟨(some 5), none, (.mov (.t 1))⟩, ⟨(some 6), none, (.laddr 100002)⟩, ⟨(some 7), none, (.lload false 1 100002 0)⟩, ⟨(some 8), none, (.len true (.t 7))⟩, ⟨(some 9), none, (.bin .sub (.t 5) (.t 8))⟩, ⟨(some 1), none, (.mov (.t 9))⟩]) (.seq (.seq (.reg [⟨(some 10), none, (.mov (.t 1))⟩, ⟨(some 11), none, (.bin .lss (.t 10) (.c (.int .i64 0)))⟩]) (.cond (.t 11) (.seq (.reg [⟨(some 4), none, (.mov (.c (.int .i64 (-1))))⟩]) .ret) .skip)) (.seq (.reg [⟨(some 12), none, (.laddr 100002)⟩, ⟨(some 13), none, (.lload true 8 100002 1)⟩, ⟨(some 14), none, (.mov (.t 1))⟩, ⟨(some 15), none, (.call .raw 172 [(.t 13), (.t 14)])⟩, ⟨(some 1), none, (.mov (.t 15))⟩]) (.seq (.seq (.reg [⟨(some 16), none, (.mov (.t 1))⟩, ⟨(some 17), none, (.bin .lss (.t 16) (.c (.int .i64 0)))⟩]) (.cond (.t 17) (.seq (.reg [⟨(some 4), none, (.mov (.c (.int .i64 (-1))))⟩]) .ret) .skip)) (.seq (.reg [⟨(some 18), none, (.mov (.t 1))⟩, ⟨(some 4), none, (.mov (.t 18))⟩]) .ret))))))⟩
theorem ok164 : cF Try.prog [2] Try.f164 = some ac164.erase := by kernel_rfl
/-- laws.szTokenS -/
def ac165 : AFunc := ⟨[], 2, [(.tmp 4)], (.seq (.reg [⟨(some 4), none, (.mov (.c (.int .i64 0)))⟩]) (.seq (.reg [⟨(some 6), none, (.mov (.t 1))⟩, ⟨(some 7), none, (.mov (.t 0))⟩, ⟨(some 8), none, (.len false (.t 7))⟩, ⟨(some 9), none, (.bin .sub (.t 6) (.t 8))⟩, ⟨(some 1), none, (.mov (.t 9))⟩]) (.seq (.seq (.reg [⟨(some 10), none, (.mov (.t 1))⟩, ⟨(some 11), none, (.bin .lss (.t 10) (.c (.int .i64 0)))⟩]) (.cond (.t 11) (.seq (.reg [⟨(some 4), none, (.mov (.c (.int .i64 (-1))))⟩]) .ret) .skip)) (.seq (.seq (.reg [⟨(some 5), none, (.mov (.c (.int .i64 0)))⟩]) (.block 0 (.loop (.seq (.seq (.reg [⟨(some 12), none, (.mov (.t 5))⟩, ⟨(some 13), none, (.mov (.t 0))⟩, ⟨(some 14), none, (.len false (.t 13))⟩, ⟨(some 15), none, (.bin .lss (.t 12) (.t 14))⟩]) (.cond (.t 15) .skip (.exit 0))) (.seq (.block 1 (.seq (.reg [⟨(some 18), none, (.mov (.t 0))⟩, ⟨(some 19), none, (.mov (.t 5))⟩, ⟨(some 20), none, (.iaddr 3 (.t 18) (.t 19))⟩, ⟨(some 21), none, (.load true 3 (.t 20))⟩, ⟨(some 22), none, (.mov (.t 1))⟩, ⟨(some 23), none, (.call .raw 27 [(.t 21), (.t 22)])⟩, ⟨(some 1), none, (.mov (.t 23))⟩]) (.seq (.reg [⟨(some 24), none, (.mov (.t 1))⟩, ⟨(some 25), none, (.bin .lss (.t 24) (.c (.int .i64 0)))⟩]) (.cond (.t 25) (.seq (.reg [⟨(some 4), none, (.mov (.c (.int .i64 (-1))))⟩]) .ret) .skip)))) (.reg [⟨(some 16), none, (.mov (.t 5))⟩, ⟨(some 17), none, (.bin .add (.t 16) (.c (.int .i64 1)))⟩, ⟨(some 5), none, (.mov (.t 17))⟩])))))) (.seq (.reg [⟨(some 26), none, (.mov (.t 1))⟩, ⟨(some 4), none, (.mov (.t 26))⟩]) .ret)))))⟩
theorem ok165 : cF Try.prog [] Try.f165 = some ac165.erase := by kernel_rfl
/-- laws.toBind -/
def ac166 : AFunc := ⟨[1, 2, 3], 1, [(.lcell true 9 100002)], (.seq (.reg [⟨(some 100001), none, (.lbox (.t 0))⟩, ⟨(some 100002), none, (.lbox (.c (.agg [(.str ⟨#[]⟩), (.int .i64 0), (.int .i64 0), (.int .i64 0), (.int .i64 0), (.str ⟨#[]⟩), .nils, (.int .i64 0), .nils])))⟩]) (.seq (.reg [⟨(some 100003), none, (.lbox (.c (.agg [(.str ⟨#[]⟩), (.int .i64 0), (.int .i64 0), (.int .i64 0), (.int .i64 0), (.str ⟨#[]⟩), .nils, (.int .i64 0), .nils])))⟩]) (.seq (.reg [⟨(some 4), none, (.laddr 100001)⟩, ⟨(some 5), none, (.lload false 1 100001 0)⟩, ⟨(some 6), none, (.laddr 100003)⟩, ⟨(some 100003), none, (.lstore 1 100003 0 (.t 5))⟩]) (.seq (.reg [⟨(some 7), none, (.laddr 100001)⟩, ⟨(some 8), none, (.lload true 8 100001 1)⟩, ⟨(some 9), none, (.call .raw 173 [(.t 8)])⟩, ⟨(some 10), none, (.laddr 100003)⟩, ⟨(some 100003), none, (.lstore 8 100003 1 (.t 9))⟩]) (.seq (.reg [⟨(some 11), none, (.lload true 9 100003 0)⟩, ⟨(some 100002), none, (.lstore 9 100002 0 (.t 11))⟩]) .ret)))))⟩
theorem ok166 : cF Try.prog [1, 2, 3] Try.f166 = some ac166.erase := by kernel_rfl
/-- laws.toGlue -/
def ac167 : AFunc := ⟨[1, 2, 3], 1, [(.lcell true 5 100002)], (.seq (.reg [⟨(some 100001), none, (.lbox (.t 0))⟩, ⟨(some 100002), none, (.lbox (.c (.agg [(.int .i64 0), (.int .i64 0), (.int .i64 0), (.int .i64 0), (.int .i64 0)])))⟩]) (.seq (.reg [⟨(some 100003), none, (.lbox (.c (.agg [(.int .i64 0), (.int .i64 0), (.int .i64 0), (.int .i64 0), (.int .i64 0)])))⟩]) (.seq (.reg [⟨(some 4), none, (.laddr 100001)⟩, ⟨(some 5), none, (.lload false 1 100001 0)⟩, ⟨(some 6), none, (.laddr 100003)⟩, ⟨(some 100003), none, (.lstore 1 100003 0 (.t 5))⟩]) (.seq (.reg [⟨(some 7), none, (.laddr 100001)⟩, ⟨(some 8), none, (.lload false 1 100001 1)⟩, ⟨(some 9), none, (.laddr 100003)⟩, ⟨(some 100003), none, (.lstore 1 100003 1 (.t 8))⟩]) (.seq (.reg [⟨(some 10), none, (.laddr 100001)⟩, ⟨(some 11), none, (.lload false 1 100001 2)⟩, ⟨(some 12), none, (.laddr 100003)⟩, ⟨(some 100003), none, (.lstore 1 100003 2 (.t 11))⟩]) (.seq (.reg [⟨(some 13), none, (.laddr 100001)⟩, ⟨(some 14), none, (.lload false 1 100001 3)⟩, ⟨(some 15), none, (.laddr 100003)⟩, ⟨(some 100003), none, (.lstore 1 100003 3 (.t 14))⟩]) (.seq (.reg [⟨(some 16), none, (.laddr 100001)⟩, ⟨(some 17), none, (.lload false 1 100001 4)⟩, ⟨(some 18), none, (.laddr 100003)⟩, ⟨(some 100003), none, (.lstore 1 100003 4 (.t 17))⟩]) (.seq (.reg [⟨(some 19), none, (.lload true 5 100003 0)⟩, ⟨(some 100002), none, (.lstore 5 100002 0 (.t 19))⟩]) .ret))))))))⟩
theorem ok167 : cF Try.prog [1, 2, 3] Try.f167 = some ac167.erase := by kernel_rfl
/-- laws.toTokenS -/
def ac168 : AFunc := ⟨[], 1, [(.tmp 2)], (.seq (.reg [⟨(some 2), none, (.mov (.c .nils))⟩]) (.seq (.reg [⟨(some 5), none, (.mov (.t 0))⟩, ⟨(some 6), none, (.len false (.t 5))⟩, ⟨(some 7), none, (.mslice 3 32 [(.int .i64 0), (.int .i64 0), (.str ⟨#[]⟩)] (.t 6) (.t 6))⟩, ⟨(some 3), none, (.mov (.t 7))⟩]) (.seq (.seq (.reg [⟨(some 4), none, (.mov (.c (.int .i64 0)))⟩]) (.block 0 (.loop (.seq (.seq (.reg [⟨(some 8), none, (.mov (.t 4))⟩, ⟨(some 9), none, (.mov (.t 0))⟩, ⟨(some 10), none, (.len false (.t 9))⟩, ⟨(some 11), none, (.bin .lss (.t 8) (.t 10))⟩]) (.cond (.t 11) .skip (.exit 0))) (.seq (.block 1 (.reg [⟨(some 14), none, (.mov (.t 3))⟩, ⟨(some 15), none, (.mov (.t 4))⟩, ⟨(some 16), none, (.mov (.t 0))⟩, ⟨(some 17), none, (.mov (.t 4))⟩, ⟨(some 18), none, (.iaddr 3 (.t 16) (.t 17))⟩, ⟨(some 19), none, (.load true 3 (.t 18))⟩, ⟨(some 20), none, (.call .raw 29 [(.t 19)])⟩, ⟨(some 21), none, (.iaddr 3 (.t 14) (.t 15))⟩, ⟨none, none, (.store 3 (.t 21) (.t 20))⟩])) (.reg [⟨(some 12), none, (.mov (.t 4))⟩, ⟨(some 13), none, (.bin .add (.t 12) (.c (.int .i64 1)))⟩, ⟨(some 4), none, (.mov (.t 13))⟩])))))) (.seq (.reg [⟨(some 22), none, (.mov (.t 3))⟩, ⟨(some 2), none, (.mov (.t 22))⟩]) .ret))))⟩
theorem ok168 : cF Try.prog [] Try.f168 = some ac168.erase := by kernel_rfl
/-- laws.eqBind -/
def ac169 : AFunc := ⟨[2, 3], 2, [(.tmp 4)], (.seq (.reg [⟨(some 100002), none, (.lbox (.t 0))⟩, ⟨(some 100003), none, (.lbox (.t 1))⟩, ⟨(some 4), none, (.mov (.c (.bool false)))⟩]) (.seq (.seq (.reg [⟨(some 5), none, (.laddr 100002)⟩, ⟨(some 6), none, (.lload false 1 100002 0)⟩, ⟨(some 7), none, (.laddr 100003)⟩, ⟨(some 8), none, (.lload false 1 100003 0)⟩, ⟨(some 9), none, (.bin .neq (.t 6) (.t 8))⟩]) (.cond (.t 9) (.seq (.reg [⟨(some 4), none, (.mov (.c (.bool false)))⟩]) .ret) .skip)) (.seq (.seq (.reg [⟨(some 10), none, (.laddr 100002)⟩, ⟨(some 11), none, (.lload true 8 100002 1)⟩, ⟨(some 12), none, (.laddr 100003)⟩, ⟨(some 13), none, (.lload true 8 100003 1)⟩, ⟨(some 14), none, (.call .raw 18 [(.t 11), (.t 13)])⟩, ⟨(some 15), none, (.un .not (.t 14))⟩]) (.cond (.t 15) (.seq (.reg [⟨(some 4), none, (.mov (.c (.bool false)))⟩]) .ret) .skip)) (.seq (.reg [⟨(some 4), none, (.mov (.c (.bool true)))⟩]) .ret))))⟩
theorem ok169 : cF Try.prog [2, 3] Try.f169 = some ac169.erase := by kernel_rfl
/-- laws.eqGlue -/
def ac170 : AFunc := ⟨[2, 3], 2, [(.tmp 4)], (.seq (.reg [⟨(some 100002), none, (.lbox (.t 0))⟩, ⟨(some 100003), none, (.lbox (.t 1))⟩, ⟨(some 4), none, (.mov (.c (.bool false)))⟩]) (.seq (.seq (.reg [⟨(some 5), none, (.laddr 100002)⟩, ⟨(some 6), none, (.lload false 1 100002 0)⟩, ⟨(some 7), none, (.laddr 100003)⟩, ⟨(some 8), none, (.lload false 1 100003 0)⟩, ⟨(some 9), none, (.bin .neq (.t 6) (.t 8))⟩]) (.cond (.t 9) (.seq (.reg [⟨(some 4), none, (.mov (.c (.bool false)))⟩]) .ret) .skip)) (.seq (.seq (.reg [⟨(some 10), none, (.laddr 100002)⟩, ⟨(some 11), none, (.lload false 1 100002 1)⟩, ⟨(some 12), none, (.laddr 100003)⟩, ⟨(some 13), none, (.lload false 1 100003 1)⟩, ⟨(some 14), none, (.bin .neq (.t 11) (.t 13))⟩]) (.cond (.t 14) (.seq (.reg [⟨(some 4), none, (.mov (.c (.bool false)))⟩]) .ret) .skip)) (.seq (.seq (.reg [⟨(some 15), none, (.laddr 100002)⟩, ⟨(some 16), none, (.lload false 1 100002 2)⟩, ⟨(some 17), none, (.laddr 100003)⟩, ⟨(some 18), none, (.lload false 1 100003 2)⟩, ⟨(some 19), none, (.bin .neq (.t 16) (.t 18))⟩]) (.cond (.t 19) (.seq (.reg [⟨(some 4), none, (.mov (.c (.bool false)))⟩]) .ret) .skip)) (.seq (.seq (.reg [⟨(some 20), none, (.laddr 100002)⟩, ⟨(some 21), none, (.lload false 1 100002 3)⟩, ⟨(some 22), none, (.laddr 100003)⟩, ⟨(some 23), none, (.lload false 1 100003 3)⟩, ⟨(some 24), none, (.bin .neq (.t 21) (.t 23))⟩]) (.cond (.t 24) (.seq (.reg [⟨(some 4), none, (.mov (.c (.bool false)))⟩]) .ret) .skip)) (.seq (.seq (.reg [⟨(some 25), none, (.laddr 100002)⟩, ⟨(some 26), none, (.lload false 1 100002 4)⟩, ⟨(some 27), none, (.laddr 100003)⟩, ⟨(some 28), none, (.lload false 1 100003 4)⟩, ⟨(some 29), none, (.bin .neq (.t 26) (.t 28))⟩]) (.cond (.t 29) (.seq (.reg [⟨(some 4), none, (.mov (.c (.bool false)))⟩]) .ret) .skip)) (.seq (.reg [⟨(some 4), none, (.mov (.c (.bool true)))⟩]) .ret)))))))⟩
theorem ok170 : cF Try.prog [2, 3] Try.f170 = some ac170.erase := by kernel_rfl
/-- laws.szMean -/
def ac172 : AFunc := ⟨[2], 2, [(.tmp 4)], (.seq (.reg [⟨(some 100002), none, (.lbox (.t 0))⟩, ⟨(some 4), none, (.mov (.c (.int .i64 0)))⟩]) (.seq (.reg [⟨(some 5), none, (.laddr 100002)⟩, ⟨(some 6), none, (.lload true 3 100002 2)⟩, ⟨(some 7), none, (.mov (.t 1))⟩, ⟨(some 8), none, (.call .raw 27 [(.t 6), (.t 7)])⟩, ⟨(some 1), none, (.mov (.t 8))⟩]) (.seq (.seq (.reg [⟨(some 9), none, (.mov (.t 1))⟩, ⟨(some 10), none, (.bin .lss (.t 9) (.c (.int .i64 0)))⟩]) (.cond (.t 10) (.seq (.reg [⟨(some 4), none, (.mov (.c (.int .i64 (-1))))⟩]) .ret) .skip)) (.seq (.reg [⟨(some 11), none, (.laddr 100002)⟩, ⟨(some 12), none, (.lload true 3 100002 5)⟩, ⟨(some 13), none, (.mov (.t 1))⟩, ⟨(some 14), none, (.call .raw 174 [(.t 12), (.t 13)])⟩, ⟨(some 1), none, (.mov (.t 14))⟩]) (.seq (.seq (.reg [⟨(some 15), none, (.mov (.t 1))⟩, ⟨(some 16), none, (.bin .lss (.t 15) (.c (.int .i64 0)))⟩]) (.cond (.t 16) (.seq (.reg [⟨(some 4), none, (.mov (.c (.int .i64 (-1))))⟩]) .ret) .skip)) (.seq (.reg [⟨(some 17), none, (.mov (.t 1))⟩, ⟨(some 4), none, (.mov (.t 17))⟩]) .ret))))))⟩
theorem ok172 : cF Try.prog [2] Try.f172 = some ac172.erase := by kernel_rfl
/-- laws.toMean -/
def ac173 : AFunc := ⟨[1, 2, 3], 1, [(.lcell true 8 100002)], (.seq (.reg [⟨(some 100001), none, (.lbox (.t 0))⟩, ⟨(some 100002), none, (.lbox (.c (.agg [(.int .i64 0), (.int .i64 0), (.int .i64 0), (.int .i64 0), (.str ⟨#[]⟩), .nils, (.int .i64 0), .nils])))⟩]) (.seq (.reg [⟨(some 100003), none, (.lbox (.c (.agg [(.int .i64 0), (.int .i64 0), (.int .i64 0), (.int .i64 0), (.str ⟨#[]⟩), .nils, (.int .i64 0), .nils])))⟩]) (.seq (.reg [⟨(some 4), none, (.laddr 100001)⟩, ⟨(some 5), none, (.lload false 1 100001 0)⟩, ⟨(some 6), none, (.laddr 100003)⟩, ⟨(some 100003), none, (.lstore 1 100003 0 (.t 5))⟩]) (.seq (.reg [⟨(some 7), none, (.laddr 100001)⟩, ⟨(some 8), none, (.lload false 1 100001 1)⟩, ⟨(some 9), none, (.laddr 100003)⟩, ⟨(some 100003), none, (.lstore 1 100003 1 (.t 8))⟩]) (.seq (.reg [⟨(some 10), none, (.laddr 100001)⟩, ⟨(some 11), none, (.lload true 3 100001 2)⟩, ⟨(some 12), none, (.call .raw 29 [(.t 11)])⟩, ⟨(some 13), none, (.laddr 100003)⟩, ⟨(some 100003), none, (.lstore 3 100003 2 (.t 12))⟩]) (.seq (.reg [⟨(some 14), none, (.laddr 100001)⟩, ⟨(some 15), none, (.lload true 3 100001 5)⟩, ⟨(some 16), none, (.call .raw 175 [(.t 15)])⟩, ⟨(some 17), none, (.laddr 100003)⟩, ⟨(some 100003), none, (.lstore 3 100003 5 (.t 16))⟩]) (.seq (.reg [⟨(some 18), none, (.lload true 8 100003 0)⟩, ⟨(some 100002), none, (.lstore 8 100002 0 (.t 18))⟩]) .ret)))))))⟩
theorem ok173 : cF Try.prog [1, 2, 3] Try.f173 = some ac173.erase := by kernel_rfl
/-- laws.szMacro -/
def ac174 : AFunc := ⟨[2], 2, [(.tmp 4)], (.seq (.reg [⟨(some 100002), none, (.lbox (.t 0))⟩, ⟨(some 4), none, (.mov (.c (.int .i64 0)))⟩]) (.seq (.reg [⟨(some 5), none, (.laddr 100002)⟩, ⟨(some 6), none, (.lload false 1 100002 0)⟩, ⟨(some 7), none, (.mov (.t 1))⟩, ⟨(some 8), none, (.call .raw 165 [(.t 6), (.t 7)])⟩, ⟨(some 1), none, (.mov (.t 8))⟩]) (.seq (.seq (.reg [⟨(some 9), none, (.mov (.t 1))⟩, ⟨(some 10), none, (.bin .lss (.t 9) (.c (.int .i64 0)))⟩]) (.cond (.t 10) (.seq (.reg [⟨(some 4), none, (.mov (.c (.int .i64 (-1))))⟩]) .ret) .skip)) (.seq (.reg [⟨(some 11), none, (.laddr 100002)⟩, ⟨(some 12), none, (.lload false 1 100002 2)⟩, ⟨(some 13), none, (.mov (.t 1))⟩, ⟨(some 14), none, (.call .raw 165 [(.t 12), (.t 13)])⟩, ⟨(some 1), none, (.mov (.t 14))⟩]) (.seq (.seq (.reg [⟨(some 15), none, (.mov (.t 1))⟩, ⟨(some 16), none, (.bin .lss (.t 15) (.c (.int .i64 0)))⟩]) (.cond (.t 16) (.seq (.reg [⟨(some 4), none, (.mov (.c (.int .i64 (-1))))⟩]) .ret) .skip)) (.seq (.reg [⟨(some 17), none, (.mov (.t 1))⟩, ⟨(some 4), none, (.mov (.t 17))⟩]) .ret))))))⟩
theorem ok174 : cF Try.prog [2] Try.f174 = some ac174.erase := by kernel_rfl
/-- laws.toMacro -/
def ac175 : AFunc := ⟨[1, 2, 3], 1, [(.lcell true 3 100002)], (.seq (.reg [⟨(some 100001), none, (.lbox (.t 0))⟩, ⟨(some 100002), none, (.lbox (.c (.agg [.nils, (.int .i64 0), .nils])))⟩]) (.seq (.reg [⟨(some 100003), none, (.lbox (.c (.agg [.nils, (.int .i64 0), .nils])))⟩]) (.seq (.reg [⟨(some 4), none, (.laddr 100001)⟩, ⟨(some 5), none, (.lload false 1 100001 0)⟩, ⟨(some 6), none, (.call .raw 168 [(.t 5)])⟩, ⟨(some 7), none, (.laddr 100003)⟩, ⟨(some 100003), none, (.lstore 1 100003 0 (.t 6))⟩]) (.seq (.reg [⟨(some 8), none, (.laddr 100001)⟩, ⟨(some 9), none, (.lload false 1 100001 1)⟩, ⟨(some 10), none, (.laddr 100003)⟩, ⟨(some 100003), none, (.lstore 1 100003 1 (.t 9))⟩]) (.seq (.reg [⟨(some 11), none, (.laddr 100001)⟩, ⟨(some 12), none, (.lload false 1 100001 2)⟩, ⟨(some 13), none, (.call .raw 168 [(.t 12)])⟩, ⟨(some 14), none, (.laddr 100003)⟩, ⟨(some 100003), none, (.lstore 1 100003 2 (.t 13))⟩]) (.seq (.reg [⟨(some 15), none, (.lload true 3 100003 0)⟩, ⟨(some 100002), none, (.lstore 3 100002 0 (.t 15))⟩]) .ret))))))⟩
theorem ok175 : cF Try.prog [1, 2, 3] Try.f175 = some ac175.erase := by kernel_rfl
/-- bytealg.CompareString -/
def ac162 : AFunc := cmpAF
def ap : FuncId → Option AFunc
  | 3 => some ac3
  | 4 => some ac4
  | 5 => some ac5
  | 6 => some ac6
  | 7 => some ac7
  | 11 => some ac11
  | 12 => some ac12
  | 13 => some ac13
  | 14 => some ac14
  | 15 => some ac15
  | 16 => some ac16
  | 17 => some ac17
  | 18 => some ac18
  | 19 => some ac19
  | 20 => some ac20
  | 21 => some ac21
  | 22 => some ac22
  | 23 => some ac23
  | 24 => some ac24
  | 25 => some ac25
  | 26 => some ac26
  | 27 => some ac27
  | 28 => some ac28
  | 29 => some ac29
  | 30 => some ac30
  | 41 => some ac41
  | 42 => some ac42
  | 43 => some ac43
  | 44 => some ac44
  | 45 => some ac45
  | 46 => some ac46
  | 47 => some ac47
  | 48 => some ac48
  | 49 => some ac49
  | 50 => some ac50
  | 51 => some ac51
  | 52 => some ac52
  | 53 => some ac53
  | 54 => some ac54
  | 55 => some ac55
  | 56 => some ac56
  | 57 => some ac57
  | 58 => some ac58
  | 59 => some ac59
  | 60 => some ac60
  | 61 => some ac61
  | 62 => some ac62
  | 63 => some ac63
  | 64 => some ac64
  | 65 => some ac65
  | 66 => some ac66
  | 96 => some ac96
  | 97 => some ac97
  | 98 => some ac98
  | 99 => some ac99
  | 100 => some ac100
  | 101 => some ac101
  | 102 => some ac102
  | 103 => some ac103
  | 104 => some ac104
  | 105 => some ac105
  | 106 => some ac106
  | 107 => some ac107
  | 108 => some ac108
  | 109 => some ac109
  | 110 => some ac110
  | 111 => some ac111
  | 112 => some ac112
  | 113 => some ac113
  | 114 => some ac114
  | 115 => some ac115
  | 116 => some ac116
  | 117 => some ac117
  | 118 => some ac118
  | 119 => some ac119
  | 120 => some ac120
  | 121 => some ac121
  | 122 => some ac122
  | 123 => some ac123
  | 124 => some ac124
  | 125 => some ac125
  | 126 => some ac126
  | 127 => some ac127
  | 128 => some ac128
  | 129 => some ac129
  | 130 => some ac130
  | 131 => some ac131
  | 132 => some ac132
  | 133 => some ac133
  | 134 => some ac134
  | 135 => some ac135
  | 142 => some ac142
  | 143 => some ac143
  | 144 => some ac144
  | 145 => some ac145
  | 146 => some ac146
  | 147 => some ac147
  | 148 => some ac148
  | 149 => some ac149
  | 150 => some ac150
  | 151 => some ac151
  | 152 => some ac152
  | 153 => some ac153
  | 154 => some ac154
  | 155 => some ac155
  | 156 => some ac156
  | 157 => some ac157
  | 158 => some ac158
  | 159 => some ac159
  | 160 => some ac160
  | 161 => some ac161
  | 162 => some ac162
  | 163 => some ac163
  | 164 => some ac164
  | 165 => some ac165
  | 166 => some ac166
  | 167 => some ac167
  | 168 => some ac168
  | 169 => some ac169
  | 170 => some ac170
  | 172 => some ac172
  | 173 => some ac173
  | 174 => some ac174
  | 175 => some ac175
  | _ => none
theorem hap2 : ∀ f af, ap f = some af → (∃ fn B, Try.prog.funcs[f]? = some fn ∧ cF Try.prog B fn = some af.erase) ∨ (f = 162 ∧ af = ac162) := by
  intro f af hf
  unfold ap at hf
  split at hf
  · cases hf; exact .inl ⟨_, _, Try.func3, ok3⟩
  · cases hf; exact .inl ⟨_, _, Try.func4, ok4⟩
  · cases hf; exact .inl ⟨_, _, Try.func5, ok5⟩
  · cases hf; exact .inl ⟨_, _, Try.func6, ok6⟩
  · cases hf; exact .inl ⟨_, _, Try.func7, ok7⟩
  · cases hf; exact .inl ⟨_, _, Try.func11, ok11⟩
  · cases hf; exact .inl ⟨_, _, Try.func12, ok12⟩
  · cases hf; exact .inl ⟨_, _, Try.func13, ok13⟩
  · cases hf; exact .inl ⟨_, _, Try.func14, ok14⟩
  · cases hf; exact .inl ⟨_, _, Try.func15, ok15⟩
  · cases hf; exact .inl ⟨_, _, Try.func16, ok16⟩
  · cases hf; exact .inl ⟨_, _, Try.func17, ok17⟩
  · cases hf; exact .inl ⟨_, _, Try.func18, ok18⟩
  · cases hf; exact .inl ⟨_, _, Try.func19, ok19⟩
  · cases hf; exact .inl ⟨_, _, Try.func20, ok20⟩
  · cases hf; exact .inl ⟨_, _, Try.func21, ok21⟩
  · cases hf; exact .inl ⟨_, _, Try.func22, ok22⟩
  · cases hf; exact .inl ⟨_, _, Try.func23, ok23⟩
  · cases hf; exact .inl ⟨_, _, Try.func24, ok24⟩
  · cases hf; exact .inl ⟨_, _, Try.func25, ok25⟩
  · cases hf; exact .inl ⟨_, _, Try.func26, ok26⟩
  · cases hf; exact .inl ⟨_, _, Try.func27, ok27⟩
  · cases hf; exact .inl ⟨_, _, Try.func28, ok28⟩
  · cases hf; exact .inl ⟨_, _, Try.func29, ok29⟩
  · cases hf; exact .inl ⟨_, _, Try.func30, ok30⟩
  · cases hf; exact .inl ⟨_, _, Try.func41, ok41⟩
  · cases hf; exact .inl ⟨_, _, Try.func42, ok42⟩
  · cases hf; exact .inl ⟨_, _, Try.func43, ok43⟩
  · cases hf; exact .inl ⟨_, _, Try.func44, ok44⟩
  · cases hf; exact .inl ⟨_, _, Try.func45, ok45⟩
  · cases hf; exact .inl ⟨_, _, Try.func46, ok46⟩
  · cases hf; exact .inl ⟨_, _, Try.func47, ok47⟩
  · cases hf; exact .inl ⟨_, _, Try.func48, ok48⟩
  · cases hf; exact .inl ⟨_, _, Try.func49, ok49⟩
  · cases hf; exact .inl ⟨_, _, Try.func50, ok50⟩
  · cases hf; exact .inl ⟨_, _, Try.func51, ok51⟩
  · cases hf; exact .inl ⟨_, _, Try.func52, ok52⟩
  · cases hf; exact .inl ⟨_, _, Try.func53, ok53⟩
  · cases hf; exact .inl ⟨_, _, Try.func54, ok54⟩
  · cases hf; exact .inl ⟨_, _, Try.func55, ok55⟩
  · cases hf; exact .inl ⟨_, _, Try.func56, ok56⟩
  · cases hf; exact .inl ⟨_, _, Try.func57, ok57⟩
  · cases hf; exact .inl ⟨_, _, Try.func58, ok58⟩
  · cases hf; exact .inl ⟨_, _, Try.func59, ok59⟩
  · cases hf; exact .inl ⟨_, _, Try.func60, ok60⟩
  · cases hf; exact .inl ⟨_, _, Try.func61, ok61⟩
  · cases hf; exact .inl ⟨_, _, Try.func62, ok62⟩
  · cases hf; exact .inl ⟨_, _, Try.func63, ok63⟩
  · cases hf; exact .inl ⟨_, _, Try.func64, ok64⟩
  · cases hf; exact .inl ⟨_, _, Try.func65, ok65⟩
  · cases hf; exact .inl ⟨_, _, Try.func66, ok66⟩
  · cases hf; exact .inl ⟨_, _, Try.func96, ok96⟩
  · cases hf; exact .inl ⟨_, _, Try.func97, ok97⟩
  · cases hf; exact .inl ⟨_, _, Try.func98, ok98⟩
  · cases hf; exact .inl ⟨_, _, Try.func99, ok99⟩
  · cases hf; exact .inl ⟨_, _, Try.func100, ok100⟩
  · cases hf; exact .inl ⟨_, _, Try.func101, ok101⟩
  · cases hf; exact .inl ⟨_, _, Try.func102, ok102⟩
  · cases hf; exact .inl ⟨_, _, Try.func103, ok103⟩
  · cases hf; exact .inl ⟨_, _, Try.func104, ok104⟩
  · cases hf; exact .inl ⟨_, _, Try.func105, ok105⟩
  · cases hf; exact .inl ⟨_, _, Try.func106, ok106⟩
  · cases hf; exact .inl ⟨_, _, Try.func107, ok107⟩
  · cases hf; exact .inl ⟨_, _, Try.func108, ok108⟩
  · cases hf; exact .inl ⟨_, _, Try.func109, ok109⟩
  · cases hf; exact .inl ⟨_, _, Try.func110, ok110⟩
  · cases hf; exact .inl ⟨_, _, Try.func111, ok111⟩
  · cases hf; exact .inl ⟨_, _, Try.func112, ok112⟩
  · cases hf; exact .inl ⟨_, _, Try.func113, ok113⟩
  · cases hf; exact .inl ⟨_, _, Try.func114, ok114⟩
  · cases hf; exact .inl ⟨_, _, Try.func115, ok115⟩
  · cases hf; exact .inl ⟨_, _, Try.func116, ok116⟩
  · cases hf; exact .inl ⟨_, _, Try.func117, ok117⟩
  · cases hf; exact .inl ⟨_, _, Try.func118, ok118⟩
  · cases hf; exact .inl ⟨_, _, Try.func119, ok119⟩
  · cases hf; exact .inl ⟨_, _, Try.func120, ok120⟩
  · cases hf; exact .inl ⟨_, _, Try.func121, ok121⟩
  · cases hf; exact .inl ⟨_, _, Try.func122, ok122⟩
  · cases hf; exact .inl ⟨_, _, Try.func123, ok123⟩
  · cases hf; exact .inl ⟨_, _, Try.func124, ok124⟩
  · cases hf; exact .inl ⟨_, _, Try.func125, ok125⟩
  · cases hf; exact .inl ⟨_, _, Try.func126, ok126⟩
  · cases hf; exact .inl ⟨_, _, Try.func127, ok127⟩
  · cases hf; exact .inl ⟨_, _, Try.func128, ok128⟩
  · cases hf; exact .inl ⟨_, _, Try.func129, ok129⟩
  · cases hf; exact .inl ⟨_, _, Try.func130, ok130⟩
  · cases hf; exact .inl ⟨_, _, Try.func131, ok131⟩
  · cases hf; exact .inl ⟨_, _, Try.func132, ok132⟩
  · cases hf; exact .inl ⟨_, _, Try.func133, ok133⟩
  · cases hf; exact .inl ⟨_, _, Try.func134, ok134⟩
  · cases hf; exact .inl ⟨_, _, Try.func135, ok135⟩
  · cases hf; exact .inl ⟨_, _, Try.func142, ok142⟩
  · cases hf; exact .inl ⟨_, _, Try.func143, ok143⟩
  · cases hf; exact .inl ⟨_, _, Try.func144, ok144⟩
  · cases hf; exact .inl ⟨_, _, Try.func145, ok145⟩
  · cases hf; exact .inl ⟨_, _, Try.func146, ok146⟩
  · cases hf; exact .inl ⟨_, _, Try.func147, ok147⟩
  · cases hf; exact .inl ⟨_, _, Try.func148, ok148⟩
  · cases hf; exact .inl ⟨_, _, Try.func149, ok149⟩
  · cases hf; exact .inl ⟨_, _, Try.func150, ok150⟩
  · cases hf; exact .inl ⟨_, _, Try.func151, ok151⟩
  · cases hf; exact .inl ⟨_, _, Try.func152, ok152⟩
  · cases hf; exact .inl ⟨_, _, Try.func153, ok153⟩
  · cases hf; exact .inl ⟨_, _, Try.func154, ok154⟩
  · cases hf; exact .inl ⟨_, _, Try.func155, ok155⟩
  · cases hf; exact .inl ⟨_, _, Try.func156, ok156⟩
  · cases hf; exact .inl ⟨_, _, Try.func157, ok157⟩
  · cases hf; exact .inl ⟨_, _, Try.func158, ok158⟩
  · cases hf; exact .inl ⟨_, _, Try.func159, ok159⟩
  · cases hf; exact .inl ⟨_, _, Try.func160, ok160⟩
  · cases hf; exact .inl ⟨_, _, Try.func161, ok161⟩
  · cases hf; exact .inr (⟨rfl, rfl⟩)
  · cases hf; exact .inl ⟨_, _, Try.func163, ok163⟩
  · cases hf; exact .inl ⟨_, _, Try.func164, ok164⟩
  · cases hf; exact .inl ⟨_, _, Try.func165, ok165⟩
  · cases hf; exact .inl ⟨_, _, Try.func166, ok166⟩
  · cases hf; exact .inl ⟨_, _, Try.func167, ok167⟩
  · cases hf; exact .inl ⟨_, _, Try.func168, ok168⟩
  · cases hf; exact .inl ⟨_, _, Try.func169, ok169⟩
  · cases hf; exact .inl ⟨_, _, Try.func170, ok170⟩
  · cases hf; exact .inl ⟨_, _, Try.func172, ok172⟩
  · cases hf; exact .inl ⟨_, _, Try.func173, ok173⟩
  · cases hf; exact .inl ⟨_, _, Try.func174, ok174⟩
  · cases hf; exact .inl ⟨_, _, Try.func175, ok175⟩
  · cases hf
end Go.Proofs.Ytojmemlbajnhhaa
