/-
  The seat's types as the machine reads them, and the regions that draw their order (written by a program).
-/
import Derived.Test.YthndfckapbbbfaaEw
import Derived.Test.YthndfckapbbbfaaProg
import Derived.KernelRfl
namespace Go.Proofs.Ythndfckapbbbfaa
open Go Go.Ev
def tab : List (TypeId × TI) := [
  (2, ⟨(.int .i64), 1, 8, (.int .i64 0)⟩),
  (3, ⟨(.int .i64), 1, 8, (.int .i64 0)⟩),
  (4, ⟨.bool, 1, 1, (.bool false)⟩),
  (5, ⟨(.int .u8), 1, 1, (.int .u8 0)⟩),
  (6, ⟨(.int .u8), 1, 1, (.int .u8 0)⟩),
  (7, ⟨(.struct [(0, 1, 2), (1, 1, 3), (2, 1, 4), (3, 1, 6)]), 4, 24, (.agg [(.int .i64 0), (.int .i64 0), (.bool false), (.int .u8 0)])⟩),
  (8, ⟨(.struct [(0, 1, 2), (1, 1, 3), (2, 1, 4), (3, 1, 6)]), 4, 24, (.agg [(.int .i64 0), (.int .i64 0), (.bool false), (.int .u8 0)])⟩),
  (9, ⟨.str, 1, 16, (.str ByteArray.empty)⟩),
  (10, ⟨.str, 1, 16, (.str ByteArray.empty)⟩),
  (11, ⟨.str, 1, 16, (.str ByteArray.empty)⟩),
  (12, ⟨(.int .u64), 1, 8, (.int .u64 0)⟩),
  (13, ⟨(.struct [(0, 1, 9), (1, 1, 12)]), 2, 24, (.agg [(.str ByteArray.empty), (.int .u64 0)])⟩),
  (14, ⟨(.struct [(0, 1, 9), (1, 1, 12)]), 2, 24, (.agg [(.str ByteArray.empty), (.int .u64 0)])⟩),
  (18, ⟨(.struct [(0, 1, 17)]), 1, 8, (.agg [.undef])⟩),
  (19, ⟨(.struct [(0, 1, 17)]), 1, 8, (.agg [.undef])⟩),
  (21, ⟨(.int .i32), 1, 4, (.int .i32 0)⟩),
  (22, ⟨(.int .i64), 1, 8, (.int .i64 0)⟩),
  (23, ⟨(.slice 22), 1, 24, .zero⟩),
  (32, ⟨(.struct [(0, 1, 3), (1, 1, 3)]), 2, 16, (.agg [(.int .i64 0), (.int .i64 0)])⟩),
  (33, ⟨(.struct [(0, 1, 3), (1, 1, 3)]), 2, 16, (.agg [(.int .i64 0), (.int .i64 0)])⟩),
  (38, ⟨(.slice 3), 1, 24, .zero⟩),
  (44, ⟨(.struct [(0, 1, 9), (1, 1, 3), (2, 1, 3), (3, 1, 3), (4, 1, 3), (5, 1, 9), (6, 1, 9)]), 7, 80, (.agg [(.str ByteArray.empty), (.int .i64 0), (.int .i64 0), (.int .i64 0), (.int .i64 0), (.str ByteArray.empty), (.str ByteArray.empty)])⟩),
  (45, ⟨(.struct [(0, 1, 9), (1, 1, 3), (2, 1, 3), (3, 1, 3), (4, 1, 3), (5, 1, 9), (6, 1, 9)]), 7, 80, (.agg [(.str ByteArray.empty), (.int .i64 0), (.int .i64 0), (.int .i64 0), (.int .i64 0), (.str ByteArray.empty), (.str ByteArray.empty)])⟩),
  (59, ⟨(.slice 64), 1, 24, .zero⟩),
  (63, ⟨(.struct [(0, 1, 3), (1, 1, 3), (2, 1, 3)]), 3, 24, (.agg [(.int .i64 0), (.int .i64 0), (.int .i64 0)])⟩),
  (64, ⟨(.struct [(0, 1, 3), (1, 1, 3), (2, 1, 3)]), 3, 24, (.agg [(.int .i64 0), (.int .i64 0), (.int .i64 0)])⟩),
  (66, ⟨(.slice 104), 1, 24, .zero⟩),
  (67, ⟨(.slice 71), 1, 24, .zero⟩),
  (70, ⟨(.struct [(0, 1, 3), (1, 1, 3)]), 2, 16, (.agg [(.int .i64 0), (.int .i64 0)])⟩),
  (71, ⟨(.struct [(0, 1, 3), (1, 1, 3)]), 2, 16, (.agg [(.int .i64 0), (.int .i64 0)])⟩),
  (91, ⟨(.slice 33), 1, 24, .zero⟩),
  (94, ⟨(.int .u64), 1, 8, (.int .u64 0)⟩),
  (103, ⟨(.slice 71), 1, 24, .zero⟩),
  (104, ⟨(.struct [(0, 1, 3), (1, 1, 3)]), 2, 16, (.agg [(.int .i64 0), (.int .i64 0)])⟩),
  (107, ⟨(.slice 109), 1, 24, .zero⟩),
  (108, ⟨(.struct [(0, 1, 3), (1, 1, 3), (2, 1, 3)]), 3, 24, (.agg [(.int .i64 0), (.int .i64 0), (.int .i64 0)])⟩),
  (109, ⟨(.struct [(0, 1, 3), (1, 1, 3), (2, 1, 3)]), 3, 24, (.agg [(.int .i64 0), (.int .i64 0), (.int .i64 0)])⟩),
  (111, ⟨(.slice 4), 1, 24, .zero⟩),
  (113, ⟨(.slice 115), 1, 24, .zero⟩),
  (114, ⟨(.struct [(0, 1, 3), (1, 1, 3), (2, 1, 3)]), 3, 24, (.agg [(.int .i64 0), (.int .i64 0), (.int .i64 0)])⟩),
  (115, ⟨(.struct [(0, 1, 3), (1, 1, 3), (2, 1, 3)]), 3, 24, (.agg [(.int .i64 0), (.int .i64 0), (.int .i64 0)])⟩),
  (117, ⟨(.int .u64), 1, 8, (.int .u64 0)⟩),
  (122, ⟨(.int .u64), 1, 8, (.int .u64 0)⟩),
  (123, ⟨(.struct [(0, 1, 17), (1, 1, 121), (2, 1, 122)]), 3, 24, (.agg [.undef, .undef, (.int .u64 0)])⟩),
  (124, ⟨(.struct [(0, 1, 17), (1, 1, 121), (2, 1, 122)]), 3, 24, (.agg [.undef, .undef, (.int .u64 0)])⟩),
  (129, ⟨(.struct [(0, 1, 93), (1, 1, 126)]), 2, 16, (.agg [.undef, .undef])⟩),
  (130, ⟨(.struct [(0, 1, 93), (1, 1, 126)]), 2, 16, (.agg [.undef, .undef])⟩),
  (134, ⟨(.struct [(0, 1, 17)]), 1, 8, (.agg [.undef])⟩),
  (135, ⟨(.struct [(0, 1, 17)]), 1, 8, (.agg [.undef])⟩),
  (140, ⟨(.struct [(0, 1, 17), (1, 1, 17), (2, 1, 17), (3, 1, 9)]), 4, 40, (.agg [.undef, .undef, .undef, (.str ByteArray.empty)])⟩),
  (141, ⟨(.struct [(0, 1, 17), (1, 1, 17), (2, 1, 17), (3, 1, 9)]), 4, 40, (.agg [.undef, .undef, .undef, (.str ByteArray.empty)])⟩),
  (145, ⟨(.int .u32), 1, 4, (.int .u32 0)⟩),
  (146, ⟨(.int .u8), 1, 1, (.int .u8 0)⟩),
  (147, ⟨(.int .u8), 1, 1, (.int .u8 0)⟩),
  (150, ⟨(.int .i32), 1, 4, (.int .i32 0)⟩),
  (151, ⟨(.int .i32), 1, 4, (.int .i32 0)⟩),
  (152, ⟨(.struct [(0, 1, 12), (1, 1, 12), (2, 1, 145), (3, 1, 146), (4, 1, 5), (5, 1, 5), (6, 1, 147), (7, 1, 148), (8, 1, 149), (9, 1, 150), (10, 1, 151)]), 11, 48, (.agg [(.int .u64 0), (.int .u64 0), (.int .u32 0), (.int .u8 0), (.int .u8 0), (.int .u8 0), (.int .u8 0), .undef, .undef, (.int .i32 0), (.int .i32 0)])⟩),
  (153, ⟨(.struct [(0, 1, 12), (1, 1, 12), (2, 1, 145), (3, 1, 146), (4, 1, 5), (5, 1, 5), (6, 1, 147), (7, 1, 148), (8, 1, 149), (9, 1, 150), (10, 1, 151)]), 11, 48, (.agg [(.int .u64 0), (.int .u64 0), (.int .u32 0), (.int .u8 0), (.int .u8 0), (.int .u8 0), (.int .u8 0), .undef, .undef, (.int .i32 0), (.int .i32 0)])⟩),
  (154, ⟨(.struct [(0, 1, 9), (1, 1, 147)]), 2, 24, (.agg [(.str ByteArray.empty), (.int .u8 0)])⟩),
  (155, ⟨(.struct [(0, 1, 9), (1, 1, 147)]), 2, 24, (.agg [(.str ByteArray.empty), (.int .u8 0)])⟩)]
def tyF : TypeId → Option TI := fun t => tab.lookup t
theorem tabAll : (tab.all fun (t, i) => tiOk Try.prog t i) = true := by kernel_rfl
def eqsL : List TypeId := [33, 45, 64, 71, 104, 109, 115]
theorem eqsOk : (eqsL.all fun t => eqOkB Try.prog t) = true := by kernel_rfl
theorem mixOk : Try.prog.follows .mixedOrders = true := by kernel_rfl
theorem ty2 : tyF 2 = some ⟨(.int .i64), 1, 8, (.int .i64 0)⟩ := rfl
theorem ty3 : tyF 3 = some ⟨(.int .i64), 1, 8, (.int .i64 0)⟩ := rfl
theorem ty4 : tyF 4 = some ⟨.bool, 1, 1, (.bool false)⟩ := rfl
theorem ty5 : tyF 5 = some ⟨(.int .u8), 1, 1, (.int .u8 0)⟩ := rfl
theorem ty6 : tyF 6 = some ⟨(.int .u8), 1, 1, (.int .u8 0)⟩ := rfl
theorem ty7 : tyF 7 = some ⟨(.struct [(0, 1, 2), (1, 1, 3), (2, 1, 4), (3, 1, 6)]), 4, 24, (.agg [(.int .i64 0), (.int .i64 0), (.bool false), (.int .u8 0)])⟩ := rfl
theorem ty8 : tyF 8 = some ⟨(.struct [(0, 1, 2), (1, 1, 3), (2, 1, 4), (3, 1, 6)]), 4, 24, (.agg [(.int .i64 0), (.int .i64 0), (.bool false), (.int .u8 0)])⟩ := rfl
theorem ty9 : tyF 9 = some ⟨.str, 1, 16, (.str ByteArray.empty)⟩ := rfl
theorem ty10 : tyF 10 = some ⟨.str, 1, 16, (.str ByteArray.empty)⟩ := rfl
theorem ty11 : tyF 11 = some ⟨.str, 1, 16, (.str ByteArray.empty)⟩ := rfl
theorem ty12 : tyF 12 = some ⟨(.int .u64), 1, 8, (.int .u64 0)⟩ := rfl
theorem ty13 : tyF 13 = some ⟨(.struct [(0, 1, 9), (1, 1, 12)]), 2, 24, (.agg [(.str ByteArray.empty), (.int .u64 0)])⟩ := rfl
theorem ty14 : tyF 14 = some ⟨(.struct [(0, 1, 9), (1, 1, 12)]), 2, 24, (.agg [(.str ByteArray.empty), (.int .u64 0)])⟩ := rfl
theorem ty18 : tyF 18 = some ⟨(.struct [(0, 1, 17)]), 1, 8, (.agg [.undef])⟩ := rfl
theorem ty19 : tyF 19 = some ⟨(.struct [(0, 1, 17)]), 1, 8, (.agg [.undef])⟩ := rfl
theorem ty21 : tyF 21 = some ⟨(.int .i32), 1, 4, (.int .i32 0)⟩ := rfl
theorem ty22 : tyF 22 = some ⟨(.int .i64), 1, 8, (.int .i64 0)⟩ := rfl
theorem ty23 : tyF 23 = some ⟨(.slice 22), 1, 24, .zero⟩ := rfl
theorem ty32 : tyF 32 = some ⟨(.struct [(0, 1, 3), (1, 1, 3)]), 2, 16, (.agg [(.int .i64 0), (.int .i64 0)])⟩ := rfl
theorem ty33 : tyF 33 = some ⟨(.struct [(0, 1, 3), (1, 1, 3)]), 2, 16, (.agg [(.int .i64 0), (.int .i64 0)])⟩ := rfl
theorem ty38 : tyF 38 = some ⟨(.slice 3), 1, 24, .zero⟩ := rfl
theorem ty44 : tyF 44 = some ⟨(.struct [(0, 1, 9), (1, 1, 3), (2, 1, 3), (3, 1, 3), (4, 1, 3), (5, 1, 9), (6, 1, 9)]), 7, 80, (.agg [(.str ByteArray.empty), (.int .i64 0), (.int .i64 0), (.int .i64 0), (.int .i64 0), (.str ByteArray.empty), (.str ByteArray.empty)])⟩ := rfl
theorem ty45 : tyF 45 = some ⟨(.struct [(0, 1, 9), (1, 1, 3), (2, 1, 3), (3, 1, 3), (4, 1, 3), (5, 1, 9), (6, 1, 9)]), 7, 80, (.agg [(.str ByteArray.empty), (.int .i64 0), (.int .i64 0), (.int .i64 0), (.int .i64 0), (.str ByteArray.empty), (.str ByteArray.empty)])⟩ := rfl
theorem ty59 : tyF 59 = some ⟨(.slice 64), 1, 24, .zero⟩ := rfl
theorem ty63 : tyF 63 = some ⟨(.struct [(0, 1, 3), (1, 1, 3), (2, 1, 3)]), 3, 24, (.agg [(.int .i64 0), (.int .i64 0), (.int .i64 0)])⟩ := rfl
theorem ty64 : tyF 64 = some ⟨(.struct [(0, 1, 3), (1, 1, 3), (2, 1, 3)]), 3, 24, (.agg [(.int .i64 0), (.int .i64 0), (.int .i64 0)])⟩ := rfl
theorem ty66 : tyF 66 = some ⟨(.slice 104), 1, 24, .zero⟩ := rfl
theorem ty67 : tyF 67 = some ⟨(.slice 71), 1, 24, .zero⟩ := rfl
theorem ty70 : tyF 70 = some ⟨(.struct [(0, 1, 3), (1, 1, 3)]), 2, 16, (.agg [(.int .i64 0), (.int .i64 0)])⟩ := rfl
theorem ty71 : tyF 71 = some ⟨(.struct [(0, 1, 3), (1, 1, 3)]), 2, 16, (.agg [(.int .i64 0), (.int .i64 0)])⟩ := rfl
theorem ty91 : tyF 91 = some ⟨(.slice 33), 1, 24, .zero⟩ := rfl
theorem ty94 : tyF 94 = some ⟨(.int .u64), 1, 8, (.int .u64 0)⟩ := rfl
theorem ty103 : tyF 103 = some ⟨(.slice 71), 1, 24, .zero⟩ := rfl
theorem ty104 : tyF 104 = some ⟨(.struct [(0, 1, 3), (1, 1, 3)]), 2, 16, (.agg [(.int .i64 0), (.int .i64 0)])⟩ := rfl
theorem ty107 : tyF 107 = some ⟨(.slice 109), 1, 24, .zero⟩ := rfl
theorem ty108 : tyF 108 = some ⟨(.struct [(0, 1, 3), (1, 1, 3), (2, 1, 3)]), 3, 24, (.agg [(.int .i64 0), (.int .i64 0), (.int .i64 0)])⟩ := rfl
theorem ty109 : tyF 109 = some ⟨(.struct [(0, 1, 3), (1, 1, 3), (2, 1, 3)]), 3, 24, (.agg [(.int .i64 0), (.int .i64 0), (.int .i64 0)])⟩ := rfl
theorem ty111 : tyF 111 = some ⟨(.slice 4), 1, 24, .zero⟩ := rfl
theorem ty113 : tyF 113 = some ⟨(.slice 115), 1, 24, .zero⟩ := rfl
theorem ty114 : tyF 114 = some ⟨(.struct [(0, 1, 3), (1, 1, 3), (2, 1, 3)]), 3, 24, (.agg [(.int .i64 0), (.int .i64 0), (.int .i64 0)])⟩ := rfl
theorem ty115 : tyF 115 = some ⟨(.struct [(0, 1, 3), (1, 1, 3), (2, 1, 3)]), 3, 24, (.agg [(.int .i64 0), (.int .i64 0), (.int .i64 0)])⟩ := rfl
theorem ty117 : tyF 117 = some ⟨(.int .u64), 1, 8, (.int .u64 0)⟩ := rfl
theorem ty122 : tyF 122 = some ⟨(.int .u64), 1, 8, (.int .u64 0)⟩ := rfl
theorem ty123 : tyF 123 = some ⟨(.struct [(0, 1, 17), (1, 1, 121), (2, 1, 122)]), 3, 24, (.agg [.undef, .undef, (.int .u64 0)])⟩ := rfl
theorem ty124 : tyF 124 = some ⟨(.struct [(0, 1, 17), (1, 1, 121), (2, 1, 122)]), 3, 24, (.agg [.undef, .undef, (.int .u64 0)])⟩ := rfl
theorem ty129 : tyF 129 = some ⟨(.struct [(0, 1, 93), (1, 1, 126)]), 2, 16, (.agg [.undef, .undef])⟩ := rfl
theorem ty130 : tyF 130 = some ⟨(.struct [(0, 1, 93), (1, 1, 126)]), 2, 16, (.agg [.undef, .undef])⟩ := rfl
theorem ty134 : tyF 134 = some ⟨(.struct [(0, 1, 17)]), 1, 8, (.agg [.undef])⟩ := rfl
theorem ty135 : tyF 135 = some ⟨(.struct [(0, 1, 17)]), 1, 8, (.agg [.undef])⟩ := rfl
theorem ty140 : tyF 140 = some ⟨(.struct [(0, 1, 17), (1, 1, 17), (2, 1, 17), (3, 1, 9)]), 4, 40, (.agg [.undef, .undef, .undef, (.str ByteArray.empty)])⟩ := rfl
theorem ty141 : tyF 141 = some ⟨(.struct [(0, 1, 17), (1, 1, 17), (2, 1, 17), (3, 1, 9)]), 4, 40, (.agg [.undef, .undef, .undef, (.str ByteArray.empty)])⟩ := rfl
theorem ty145 : tyF 145 = some ⟨(.int .u32), 1, 4, (.int .u32 0)⟩ := rfl
theorem ty146 : tyF 146 = some ⟨(.int .u8), 1, 1, (.int .u8 0)⟩ := rfl
theorem ty147 : tyF 147 = some ⟨(.int .u8), 1, 1, (.int .u8 0)⟩ := rfl
theorem ty150 : tyF 150 = some ⟨(.int .i32), 1, 4, (.int .i32 0)⟩ := rfl
theorem ty151 : tyF 151 = some ⟨(.int .i32), 1, 4, (.int .i32 0)⟩ := rfl
theorem ty152 : tyF 152 = some ⟨(.struct [(0, 1, 12), (1, 1, 12), (2, 1, 145), (3, 1, 146), (4, 1, 5), (5, 1, 5), (6, 1, 147), (7, 1, 148), (8, 1, 149), (9, 1, 150), (10, 1, 151)]), 11, 48, (.agg [(.int .u64 0), (.int .u64 0), (.int .u32 0), (.int .u8 0), (.int .u8 0), (.int .u8 0), (.int .u8 0), .undef, .undef, (.int .i32 0), (.int .i32 0)])⟩ := rfl
theorem ty153 : tyF 153 = some ⟨(.struct [(0, 1, 12), (1, 1, 12), (2, 1, 145), (3, 1, 146), (4, 1, 5), (5, 1, 5), (6, 1, 147), (7, 1, 148), (8, 1, 149), (9, 1, 150), (10, 1, 151)]), 11, 48, (.agg [(.int .u64 0), (.int .u64 0), (.int .u32 0), (.int .u8 0), (.int .u8 0), (.int .u8 0), (.int .u8 0), .undef, .undef, (.int .i32 0), (.int .i32 0)])⟩ := rfl
theorem ty154 : tyF 154 = some ⟨(.struct [(0, 1, 9), (1, 1, 147)]), 2, 24, (.agg [(.str ByteArray.empty), (.int .u8 0)])⟩ := rfl
theorem ty155 : tyF 155 = some ⟨(.struct [(0, 1, 9), (1, 1, 147)]), 2, 24, (.agg [(.str ByteArray.empty), (.int .u8 0)])⟩ := rfl
theorem eqs33 : eqsL.contains 33 = true := rfl
theorem eqs45 : eqsL.contains 45 = true := rfl
theorem eqs64 : eqsL.contains 64 = true := rfl
theorem eqs71 : eqsL.contains 71 = true := rfl
theorem eqs104 : eqsL.contains 104 = true := rfl
theorem eqs109 : eqsL.contains 109 = true := rfl
theorem eqs115 : eqsL.contains 115 = true := rfl
def dr2 : List (Nat × (Nat × List (List Nat))) := []
def dd2 : List (Nat × List Nat) := [(0, [0])]
theorem drOk2 : drAll dr2 (Try.f2.body.getD .skip) = true := by kernel_rfl
def dr3 : List (Nat × (Nat × List (List Nat))) := []
def dd3 : List (Nat × List Nat) := [(0, [0]), (1, [3]), (2, [4]), (4, [8]), (5, [2, 9, 10, 11, 12, 13]), (7, [15])]
theorem drOk3 : drAll dr3 (Try.f3.body.getD .skip) = true := by kernel_rfl
def dr4 : List (Nat × (Nat × List (List Nat))) := []
def dd4 : List (Nat × List Nat) := [(0, [6]), (1, [17, 18, 19, 20, 21, 22, 23]), (2, [24, 25, 26, 27, 28, 29, 30, 31]), (3, [32, 33, 34, 35, 36, 37, 38, 39]), (4, [40, 41, 42, 43, 44, 45, 46, 47, 48, 49, 50, 51, 52, 53, 54]), (5, [7, 8, 9, 10, 11, 12, 13, 14, 56, 57, 58, 59, 60, 61, 62, 63, 64, 65, 66, 67, 68, 69, 70, 71, 72, 73, 74, 75, 76, 77, 78, 79, 80, 81, 82, 83, 84, 85]), (6, [86, 87, 88, 89, 90]), (7, [1, 2, 91, 92, 93, 94, 95, 96]), (8, [7, 8, 12, 13, 14, 16, 97, 98, 99, 100, 101, 102, 103, 104, 105, 106, 107, 108, 109, 110, 111, 112, 113, 114, 115, 116, 117, 118]), (10, [120, 121, 122, 123]), (11, [9, 10, 11, 125, 126, 127, 128, 129, 130, 131, 132, 133, 134]), (12, [0, 9, 10, 11, 15, 135, 136, 137, 138, 139, 140, 141, 142, 143, 144, 145, 146, 147, 148])]
theorem drOk4 : drAll dr4 (Try.f4.body.getD .skip) = true := by kernel_rfl
def dr5 : List (Nat × (Nat × List (List Nat))) := [(3, (9, []))]
def dd5 : List (Nat × List Nat) := [(0, [0, 1, 6]), (1, [15, 16, 17, 18, 19, 20]), (2, [21, 22, 23, 24, 25, 26]), (3, [27, 28, 29, 30, 31, 32, 33]), (4, [34, 35, 36, 37, 38, 39, 40, 41, 42]), (7, [44]), (8, [4, 46, 47, 48, 49, 50, 51, 52, 53, 54, 55, 56]), (9, [58, 59]), (11, [14, 61, 62]), (13, [7, 8, 12, 13, 63, 64, 65, 66, 67, 68, 69]), (15, [71]), (16, [9, 10, 11, 73, 74, 75, 76, 77, 78, 79]), (17, [2, 3, 9, 10, 80, 81, 82, 83, 84, 85, 86, 87, 88, 89, 90, 91])]
theorem drOk5 : drAll dr5 (Try.f5.body.getD .skip) = true := by kernel_rfl
def dr6 : List (Nat × (Nat × List (List Nat))) := []
def dd6 : List (Nat × List Nat) := [(0, [6]), (1, [12, 13, 14, 15, 16, 17, 18]), (2, [19, 20, 21, 22, 23, 24, 25]), (3, [26, 27, 28, 29]), (4, [30]), (5, [7, 8, 9, 10, 11, 32, 33, 34, 35, 36, 37, 38, 39, 40, 41, 42, 43, 44, 45, 46, 47, 48, 49]), (6, [0, 1, 2, 7, 8, 9, 10, 50, 51, 52, 53, 54, 55, 56, 57, 58, 59, 60, 61, 62, 63, 64, 65, 66, 67, 68, 69, 70, 71, 72, 73, 74, 75])]
theorem drOk6 : drAll dr6 (Try.f6.body.getD .skip) = true := by kernel_rfl
def dr7 : List (Nat × (Nat × List (List Nat))) := [(4, (9, [])), (9, (8, []))]
def dd7 : List (Nat × List Nat) := [(0, [0, 1, 4]), (1, [17, 18, 19, 20, 21]), (2, [22, 23, 24, 25, 26, 27]), (3, [28, 29, 30, 31, 32, 33]), (4, [34, 35, 36, 37, 38, 39, 40]), (5, [41, 42, 43, 44, 45, 46, 47, 48]), (7, [50]), (8, [5, 6, 7, 8, 9, 10, 11, 52, 53, 54, 55, 56, 57, 58, 59, 60, 61, 62, 63, 64, 65, 66, 67, 68, 69, 70, 71, 72, 73, 74, 75, 76, 77, 78, 79]), (9, [5, 6, 80, 81, 82, 83, 84, 85, 86]), (11, [88]), (12, [7, 8, 9, 10, 12, 90, 91, 92, 93, 94, 95, 96, 97, 98, 99, 100, 101, 102, 103, 104, 105, 106, 107]), (13, [108, 109, 110, 111, 112, 113, 114, 115, 116, 117, 118, 119, 120, 121, 122, 123, 124, 125, 126, 127, 128]), (14, [2, 3, 129, 130, 131, 132, 133, 134]), (15, [7, 8, 9, 10, 13, 14, 15, 16, 135, 136, 137, 138, 139, 140, 141, 142, 143, 144, 145, 146, 147, 148, 149, 150, 151, 152])]
theorem drOk7 : drAll dr7 (Try.f7.body.getD .skip) = true := by kernel_rfl
def dr8 : List (Nat × (Nat × List (List Nat))) := []
def dd8 : List (Nat × List Nat) := [(0, [0, 1, 4, 5, 12]), (1, [18, 19, 20, 21, 22, 23, 24, 25]), (2, [26, 27, 28, 29, 30, 31, 32, 33]), (3, [34, 35, 36, 37, 38, 39, 40, 41, 42]), (4, [13, 14, 44, 45, 46, 47, 48, 49]), (6, [2, 3, 13, 14, 51, 52, 53, 54, 55, 56, 57, 58, 59, 60, 61]), (8, [63, 64, 65]), (9, [66, 67, 68, 69, 70, 71, 72, 73, 74]), (11, [76, 77, 78, 79, 80, 81]), (13, [83, 84, 85, 86, 87]), (15, [89]), (16, [15, 16, 17, 91, 92, 93, 94, 95, 96, 97, 98]), (17, [6, 7, 10, 11, 15, 16, 99, 100, 101, 102, 103, 104, 105, 106, 107, 108])]
theorem drOk8 : drAll dr8 (Try.f8.body.getD .skip) = true := by kernel_rfl
def dr9 : List (Nat × (Nat × List (List Nat))) := []
def dd9 : List (Nat × List Nat) := [(0, [8]), (1, [15, 16, 17, 18, 19, 20, 21]), (2, [22, 23, 24, 25, 26, 27, 28]), (3, [2, 29, 30, 31, 32, 33, 34, 35]), (4, [9, 10, 13, 14, 36, 37, 38, 39, 40, 41, 42, 43]), (6, [45, 46, 47, 48, 49, 50, 51, 52, 53, 54, 55, 56, 57, 58, 59, 60, 61, 62]), (7, [11, 12, 64, 65, 66, 67, 68, 69]), (8, [0, 1, 3, 11, 12, 70, 71, 72, 73, 74, 75, 76, 77, 78, 79])]
theorem drOk9 : drAll dr9 (Try.f9.body.getD .skip) = true := by kernel_rfl
def dr10 : List (Nat × (Nat × List (List Nat))) := []
def dd10 : List (Nat × List Nat) := [(0, [2]), (1, [14, 15, 16, 17, 18, 19]), (2, [20, 21, 22, 23, 24, 25]), (3, [26, 27]), (4, [28]), (5, [3, 4, 5, 6, 7, 8, 9, 30, 31, 32, 33, 34, 35, 36, 37, 38, 39, 40, 41, 42, 43, 44, 45, 46, 47, 48, 49, 50, 51, 52, 53, 54, 55, 56, 57]), (6, [58, 59, 60, 61, 62]), (7, [0, 63, 64, 65, 66, 67]), (8, [3, 4, 5, 6, 7, 8, 10, 11, 12, 13, 68, 69, 70, 71, 72, 73, 74, 75, 76, 77, 78, 79, 80, 81, 82, 83, 84, 85, 86, 87, 88, 89, 90, 91, 92, 93])]
theorem drOk10 : drAll dr10 (Try.f10.body.getD .skip) = true := by kernel_rfl
def dr11 : List (Nat × (Nat × List (List Nat))) := [(17, (4, [[], [], [0, 1], []]))]
def dd11 : List (Nat × List Nat) := [(0, [0, 2, 6]), (1, [14, 15, 16, 17, 18, 19]), (2, [20, 21, 22, 23, 24, 25]), (3, [26, 27, 28, 29, 30]), (4, [31, 32, 33, 34, 35, 36]), (6, [11, 38, 39, 40, 41, 42]), (8, [44]), (9, [7, 8, 12, 46, 47, 48, 49, 50, 51, 52]), (11, [1, 7, 8, 54, 55, 56, 57, 58, 59, 60, 61, 62]), (13, [64, 65, 66, 67, 68, 69, 70, 71, 72, 73]), (14, [9, 10, 75, 76, 77, 78, 79, 80, 81]), (16, [82]), (17, [84, 85]), (18, [3, 5, 9, 10, 13, 86, 87, 88, 89, 90, 91, 92, 93, 94])]
theorem drOk11 : drAll dr11 (Try.f11.body.getD .skip) = true := by kernel_rfl
def dr12 : List (Nat × (Nat × List (List Nat))) := []
def dd12 : List (Nat × List Nat) := [(0, [6]), (1, [19, 20, 21, 22, 23, 24, 25]), (2, [26, 27, 28, 29, 30, 31]), (3, [32, 33, 34]), (4, [35]), (5, [36, 37, 38, 39, 40]), (7, [42]), (8, [7, 8, 12, 44, 45, 46, 47, 48, 49, 50]), (10, [0, 7, 8, 52, 53, 54, 55, 56, 57, 58, 59, 60, 61]), (12, [63]), (13, [9, 10, 11, 65, 66, 67, 68, 69, 70, 71, 72]), (17, [77, 78]), (18, [15, 79, 80, 81]), (19, [82]), (21, [2]), (23, [87, 88]), (24, [18, 89, 90, 91, 92, 93, 94, 95, 96, 97, 98, 99, 100, 101, 102]), (25, [103]), (26, [9, 10, 16, 104, 105, 106, 107, 108, 109, 110])]
theorem drOk12 : drAll dr12 (Try.f12.body.getD .skip) = true := by kernel_rfl
def dr13 : List (Nat × (Nat × List (List Nat))) := []
def dd13 : List (Nat × List Nat) := [(0, [6, 7]), (1, [9, 10, 11, 12]), (2, [13]), (3, [8, 15]), (4, [0, 1, 2, 16, 17, 18, 19, 20])]
theorem drOk13 : drAll dr13 (Try.f13.body.getD .skip) = true := by kernel_rfl
def dr14 : List (Nat × (Nat × List (List Nat))) := []
def dd14 : List (Nat × List Nat) := [(0, [6, 7, 8]), (1, [1, 2, 11, 12, 13, 14, 15, 16, 17]), (2, [18]), (3, [10, 20]), (4, [21, 22, 23, 24]), (6, [0, 9, 26, 27, 28, 29])]
theorem drOk14 : drAll dr14 (Try.f14.body.getD .skip) = true := by kernel_rfl
def dr15 : List (Nat × (Nat × List (List Nat))) := []
def dd15 : List (Nat × List Nat) := [(0, [6, 7, 8]), (1, [11, 12, 13, 14]), (2, [15]), (3, [9, 17]), (4, [1, 2, 18, 19, 20, 21, 22, 23]), (5, [0, 10, 24, 25, 26, 27])]
theorem drOk15 : drAll dr15 (Try.f15.body.getD .skip) = true := by kernel_rfl
def dr16 : List (Nat × (Nat × List (List Nat))) := []
def dd16 : List (Nat × List Nat) := [(0, [2]), (1, [0, 3, 4])]
theorem drOk16 : drAll dr16 (Try.f16.body.getD .skip) = true := by kernel_rfl
def dr17 : List (Nat × (Nat × List (List Nat))) := []
def dd17 : List (Nat × List Nat) := [(0, [2]), (1, [0, 3, 4])]
theorem drOk17 : drAll dr17 (Try.f17.body.getD .skip) = true := by kernel_rfl
def dr18 : List (Nat × (Nat × List (List Nat))) := []
def dd18 : List (Nat × List Nat) := [(0, [6]), (1, [9, 10, 11]), (2, [12, 13, 14, 15]), (3, [17, 18]), (4, [19, 20, 21, 22, 23]), (5, [25, 26]), (6, [27, 28, 29, 30, 31]), (7, [33, 34, 35, 36, 37, 38]), (8, [7, 39]), (9, [41, 42]), (10, [7, 43, 44]), (11, [46, 47, 48, 49, 50]), (12, [7, 51]), (13, [1, 8, 53, 54, 55, 56, 57]), (14, [7, 58, 59]), (15, [2, 61, 62]), (16, [7, 63, 64, 65, 66]), (17, [0, 68, 69]), (18, [7, 70, 71]), (19, [7, 72])]
theorem drOk18 : drAll dr18 (Try.f18.body.getD .skip) = true := by kernel_rfl
def dr19 : List (Nat × (Nat × List (List Nat))) := [(4, (12, []))]
def dd19 : List (Nat × List Nat) := [(0, [0, 1, 4, 5]), (1, [9, 10, 11]), (2, [12]), (3, [6, 14]), (4, [2, 3, 15, 16, 17, 18, 19, 20, 21, 22, 23, 24]), (5, [26, 27, 28]), (7, [7, 8, 30, 31, 32])]
theorem drOk19 : drAll dr19 (Try.f19.body.getD .skip) = true := by kernel_rfl
def dr20 : List (Nat × (Nat × List (List Nat))) := []
def dd20 : List (Nat × List Nat) := [(0, [0, 4, 5]), (1, [7, 8]), (2, [9]), (3, [6, 11]), (4, [12, 13, 14, 15, 16]), (6, [1, 2, 18, 19, 20, 21, 22, 23])]
theorem drOk20 : drAll dr20 (Try.f20.body.getD .skip) = true := by kernel_rfl
def dr21 : List (Nat × (Nat × List (List Nat))) := []
def dd21 : List (Nat × List Nat) := [(0, [2]), (1, [0]), (3, [9, 10]), (4, [11, 12]), (6, [4, 14, 15, 16, 17, 18, 19, 20, 21, 22]), (8, [24])]
theorem drOk21 : drAll dr21 (Try.f21.body.getD .skip) = true := by kernel_rfl
def dr22 : List (Nat × (Nat × List (List Nat))) := []
def dd22 : List (Nat × List Nat) := [(0, [0, 1, 2, 6, 7]), (1, [9, 10, 11, 12]), (2, [13]), (3, [8, 15]), (4, [3, 4, 5, 16, 17, 18])]
theorem drOk22 : drAll dr22 (Try.f22.body.getD .skip) = true := by kernel_rfl
def dr23 : List (Nat × (Nat × List (List Nat))) := []
def dd23 : List (Nat × List Nat) := [(0, [0, 1, 2, 6, 7]), (1, [10, 11, 12, 13]), (2, [14]), (3, [8, 16]), (4, [17, 18, 19, 20, 21]), (5, [3, 4, 5, 9, 22, 23, 24])]
theorem drOk23 : drAll dr23 (Try.f23.body.getD .skip) = true := by kernel_rfl
def dr24 : List (Nat × (Nat × List (List Nat))) := []
def dd24 : List (Nat × List Nat) := [(0, [6]), (1, [0, 1, 2, 7, 8, 9, 10, 11, 12, 13, 14, 15, 16])]
theorem drOk24 : drAll dr24 (Try.f24.body.getD .skip) = true := by kernel_rfl
def dr25 : List (Nat × (Nat × List (List Nat))) := [(6, (9, []))]
def dd25 : List (Nat × List Nat) := [(0, [4]), (1, [6, 7, 8, 9]), (3, [11]), (5, [15]), (6, [5, 16, 17, 18, 19, 20, 21, 22, 23]), (8, [25])]
theorem drOk25 : drAll dr25 (Try.f25.body.getD .skip) = true := by kernel_rfl
def dr26 : List (Nat × (Nat × List (List Nat))) := []
def dd26 : List (Nat × List Nat) := [(0, [0, 2]), (1, [1, 3, 4, 5, 6])]
theorem drOk26 : drAll dr26 (Try.f26.body.getD .skip) = true := by kernel_rfl
def dr27 : List (Nat × (Nat × List (List Nat))) := []
def dd27 : List (Nat × List Nat) := [(0, [0, 3]), (1, [5, 6]), (2, [7]), (3, [4, 9, 10]), (4, [1, 11, 12])]
theorem drOk27 : drAll dr27 (Try.f27.body.getD .skip) = true := by kernel_rfl
def dr28 : List (Nat × (Nat × List (List Nat))) := []
def dd28 : List (Nat × List Nat) := [(0, [0, 1, 5]), (1, [7, 8, 9]), (2, [10]), (3, [6, 12, 13]), (4, [2, 3, 14, 15, 16, 17, 18, 19, 20, 21, 22, 23, 24, 25, 26, 27, 28, 29, 30, 31, 32, 33])]
theorem drOk28 : drAll dr28 (Try.f28.body.getD .skip) = true := by kernel_rfl
def dr29 : List (Nat × (Nat × List (List Nat))) := [(4, (4, [])), (5, (14, [])), (6, (13, []))]
def dd29 : List (Nat × List Nat) := [(0, [0, 1, 5]), (1, [9, 10, 11]), (2, [12]), (3, [6, 14, 15]), (4, [16, 17, 18, 19]), (5, [2, 3, 20, 21, 22, 23, 24, 25, 26, 27, 28, 29, 30, 31]), (6, [32, 33, 34, 35, 36, 37, 38, 39, 40, 41, 42, 43]), (7, [45]), (8, [7, 8, 46, 47, 48, 49, 50, 51, 52, 53, 54, 55, 56, 57, 58, 59])]
theorem drOk29 : drAll dr29 (Try.f29.body.getD .skip) = true := by kernel_rfl
def dr30 : List (Nat × (Nat × List (List Nat))) := []
def dd30 : List (Nat × List Nat) := [(0, [0, 2]), (1, [4, 5, 6]), (3, [1, 8, 9, 10, 11, 12, 13, 14, 15, 16, 17, 18, 19, 20, 21])]
theorem drOk30 : drAll dr30 (Try.f30.body.getD .skip) = true := by kernel_rfl
def dr31 : List (Nat × (Nat × List (List Nat))) := [(1, (7, [])), (2, (9, []))]
def dd31 : List (Nat × List Nat) := [(0, [0]), (1, [4, 5, 6, 7, 8, 9]), (2, [1, 3, 10, 11, 12, 13, 14, 15, 16, 17, 18])]
theorem drOk31 : drAll dr31 (Try.f31.body.getD .skip) = true := by kernel_rfl
def dr32 : List (Nat × (Nat × List (List Nat))) := []
def dd32 : List (Nat × List Nat) := [(0, [0, 3]), (1, [4, 5]), (2, [6, 7, 8]), (3, [10]), (4, [1, 11])]
theorem drOk32 : drAll dr32 (Try.f32.body.getD .skip) = true := by kernel_rfl
def dr33 : List (Nat × (Nat × List (List Nat))) := [(1, (4, [])), (2, (14, [])), (3, (10, [])), (7, (16, []))]
def dd33 : List (Nat × List Nat) := [(0, [0, 1, 5]), (1, [12, 13, 14, 15]), (2, [16, 17, 18, 19, 20, 21, 22, 23, 24, 25, 26, 27]), (3, [28, 29, 30, 31, 32, 33, 34, 35]), (4, [36, 37, 38, 39, 40, 41, 42, 43, 44, 45]), (5, [10, 11, 46, 47, 48, 49, 50]), (6, [52]), (7, [2, 3, 6, 7, 8, 9, 53, 54, 55, 56, 57, 58, 59, 60, 61, 62, 63, 64, 65, 66, 67, 68])]
theorem drOk33 : drAll dr33 (Try.f33.body.getD .skip) = true := by kernel_rfl
def dr34 : List (Nat × (Nat × List (List Nat))) := []
def dd34 : List (Nat × List Nat) := [(0, [8, 9]), (1, [14, 15, 16, 17]), (2, [18]), (3, [10, 20]), (4, [21, 22, 23, 24, 25]), (6, [0, 27]), (8, [28]), (9, [30, 31]), (10, [32, 33, 34, 35, 36, 37, 38, 39, 40, 41]), (11, [42, 43, 44, 45, 46]), (12, [47, 48, 49, 50]), (13, [13, 51, 52, 53]), (14, [12, 54])]
theorem drOk34 : drAll dr34 (Try.f34.body.getD .skip) = true := by kernel_rfl
def dr35 : List (Nat × (Nat × List (List Nat))) := []
def dd35 : List (Nat × List Nat) := [(0, [8, 9]), (1, [17, 18, 19]), (2, [20]), (3, [10, 22]), (4, [23, 24, 25, 26, 27]), (6, [29, 30]), (10, [3]), (12, [36, 37]), (13, [38, 39, 40, 41, 42]), (15, [15, 44, 45, 46]), (16, [47, 48, 49, 50, 51, 52, 53, 54, 55]), (17, [12, 56, 57, 58, 59, 60, 61]), (18, [16, 62]), (19, [63]), (20, [13, 64])]
theorem drOk35 : drAll dr35 (Try.f35.body.getD .skip) = true := by kernel_rfl
def dr36 : List (Nat × (Nat × List (List Nat))) := []
def dd36 : List (Nat × List Nat) := [(0, [8]), (1, [10]), (3, [12, 13, 14, 15]), (4, [16, 17, 18, 19, 20, 21, 22, 23, 24, 25]), (5, [26, 27, 28, 29]), (6, [31, 32, 33]), (7, [0, 1, 2, 3, 9, 34, 35, 36, 37, 38, 39, 40, 41, 42, 43, 44])]
theorem drOk36 : drAll dr36 (Try.f36.body.getD .skip) = true := by kernel_rfl
def dr37 : List (Nat × (Nat × List (List Nat))) := []
def dd37 : List (Nat × List Nat) := [(0, [4]), (1, [0, 1, 5, 6, 7, 8])]
theorem drOk37 : drAll dr37 (Try.f37.body.getD .skip) = true := by kernel_rfl
def dr38 : List (Nat × (Nat × List (List Nat))) := []
def dd38 : List (Nat × List Nat) := [(0, [2]), (1, [0, 3, 4, 5, 6, 7, 8])]
theorem drOk38 : drAll dr38 (Try.f38.body.getD .skip) = true := by kernel_rfl
def dr39 : List (Nat × (Nat × List (List Nat))) := []
def dd39 : List (Nat × List Nat) := [(0, [4]), (2, [8, 9]), (4, [10, 11]), (5, [13, 14]), (6, [6, 15, 16, 17, 18, 19, 20, 21, 22]), (7, [23, 24, 25]), (8, [5, 26])]
theorem drOk39 : drAll dr39 (Try.f39.body.getD .skip) = true := by kernel_rfl
def dr40 : List (Nat × (Nat × List (List Nat))) := []
def dd40 : List (Nat × List Nat) := [(0, [6]), (2, [0, 1, 10, 11]), (4, [16, 17]), (5, [9, 18, 19, 20]), (6, [21]), (7, [22, 23]), (8, [25]), (9, [2, 3, 4, 7, 26, 27, 28, 29, 30, 31, 32])]
theorem drOk40 : drAll dr40 (Try.f40.body.getD .skip) = true := by kernel_rfl
def dr41 : List (Nat × (Nat × List (List Nat))) := []
def dd41 : List (Nat × List Nat) := [(0, [6, 7]), (1, [10, 11, 12]), (2, [13]), (3, [8, 15]), (4, [16, 17, 18, 19, 20]), (6, [1, 2, 22, 23, 24, 25]), (7, [0, 27, 28, 29, 30, 31, 32]), (9, [34, 35, 36]), (11, [9, 37])]
theorem drOk41 : drAll dr41 (Try.f41.body.getD .skip) = true := by kernel_rfl
def dr42 : List (Nat × (Nat × List (List Nat))) := []
def dd42 : List (Nat × List Nat) := [(0, [0, 1, 2, 6, 7]), (1, [10, 11, 12]), (2, [13]), (3, [8, 15]), (4, [16, 17, 18, 19, 20]), (6, [3, 4, 5, 22, 23, 24]), (7, [9, 25])]
theorem drOk42 : drAll dr42 (Try.f42.body.getD .skip) = true := by kernel_rfl
def dr43 : List (Nat × (Nat × List (List Nat))) := []
def dd43 : List (Nat × List Nat) := [(0, [6, 7]), (1, [10, 11, 12, 13, 14, 15, 16, 17, 18, 19, 20, 21]), (3, [23, 24, 25, 26, 27, 28, 29, 30, 31]), (5, [0, 1, 2, 33, 34, 35, 36, 37, 38, 39]), (6, [9, 40]), (8, [8, 42])]
theorem drOk43 : drAll dr43 (Try.f43.body.getD .skip) = true := by kernel_rfl
def dr44 : List (Nat × (Nat × List (List Nat))) := [(6, (9, []))]
def dd44 : List (Nat × List Nat) := [(0, [4]), (1, [6, 7, 8, 9]), (3, [11]), (5, [15]), (6, [5, 16, 17, 18, 19, 20, 21, 22, 23]), (8, [25])]
theorem drOk44 : drAll dr44 (Try.f44.body.getD .skip) = true := by kernel_rfl
def dr45 : List (Nat × (Nat × List (List Nat))) := []
def dd45 : List (Nat × List Nat) := [(0, [0, 1, 2, 6]), (1, [3, 4, 5, 10]), (2, [11]), (6, [13]), (7, [15, 16]), (8, [17, 18, 19, 20, 21]), (9, [23, 24, 25]), (10, [8, 26, 27])]
theorem drOk45 : drAll dr45 (Try.f45.body.getD .skip) = true := by kernel_rfl
def dr46 : List (Nat × (Nat × List (List Nat))) := []
def dd46 : List (Nat × List Nat) := [(0, [2, 3, 4]), (1, [12, 13]), (2, [14]), (3, [5, 16]), (6, [0]), (8, [21, 22]), (9, [23, 24]), (10, [9, 26, 27, 28, 29, 30, 31, 32, 33]), (11, [9, 34, 35, 36, 37, 38, 39, 40]), (12, [11, 41]), (14, [10, 43, 44, 45, 46]), (15, [47]), (16, [6, 7, 48, 49, 50])]
theorem drOk46 : drAll dr46 (Try.f46.body.getD .skip) = true := by kernel_rfl
def dr47 : List (Nat × (Nat × List (List Nat))) := [(10, (14, [[], [], [0, 1], [0, 1], [], [0, 1, 2, 3, 4], [0, 1, 2, 3, 4], [0, 1, 2, 3, 4, 5, 6], [0, 1, 2, 3, 4, 5, 6], [0, 1, 2, 3, 4], [7, 8, 9], [7, 8, 9], [], []])), (13, (23, [])), (17, (3, []))]
def dd47 : List (Nat × List Nat) := [(0, [2, 4]), (1, [11, 12]), (2, [13]), (3, [5, 15, 16]), (6, [0]), (8, [21, 22]), (9, [23, 24]), (10, [9, 26, 27, 28, 29, 30, 31, 32, 33, 34, 35, 36, 37]), (11, [38, 39, 40, 41, 42]), (12, [44]), (13, [45, 46, 47, 48, 49, 50, 51, 52, 53, 54, 55, 56, 57, 58, 59, 60, 61, 62, 63, 64, 65, 66]), (14, [9, 67, 68, 69, 70, 71, 72, 73, 74, 75, 76, 77]), (15, [10, 78, 79, 80, 81]), (16, [82]), (17, [6, 7, 83, 84])]
theorem drOk47 : drAll dr47 (Try.f47.body.getD .skip) = true := by kernel_rfl
def dr48 : List (Nat × (Nat × List (List Nat))) := []
def dd48 : List (Nat × List Nat) := [(0, [2]), (1, [8, 9]), (5, [15, 16]), (6, [17, 18, 19, 20, 21, 22, 23, 24, 25, 26, 27, 28, 29, 30]), (8, [4, 32, 33, 34, 35, 36, 37, 38]), (10, [40]), (12, [0]), (14, [45, 46]), (15, [7, 47, 48, 49, 50]), (16, [51]), (18, [53])]
theorem drOk48 : drAll dr48 (Try.f48.body.getD .skip) = true := by kernel_rfl
def dr49 : List (Nat × (Nat × List (List Nat))) := [(15, (10, []))]
def dd49 : List (Nat × List Nat) := [(0, [2, 3]), (4, [0]), (6, [24, 25]), (7, [26, 27]), (8, [29, 30, 31, 32, 33, 34, 35, 36, 37, 38, 39]), (9, [9, 40, 41, 42, 43]), (10, [9, 44, 45, 46, 47]), (14, [52, 53, 54]), (15, [55, 56, 57, 58, 59, 60, 61, 62]), (16, [63, 64]), (17, [66, 67]), (18, [68, 69, 70]), (19, [14, 72, 73, 74, 75, 76, 77, 78, 79, 80, 81, 82]), (20, [12, 13, 15, 83, 84, 85, 86, 87, 88, 89, 90, 91, 92, 93]), (21, [16, 94, 95, 96]), (22, [97]), (23, [10, 98]), (24, [11, 99, 100, 101, 102]), (25, [103]), (27, [4]), (29, [108, 109]), (30, [110, 111, 112, 113]), (31, [19, 115, 116, 117, 118, 119, 120, 121, 122, 123, 124, 125]), (32, [126]), (33, [7, 17, 127, 128])]
theorem drOk49 : drAll dr49 (Try.f49.body.getD .skip) = true := by kernel_rfl
def dr50 : List (Nat × (Nat × List (List Nat))) := [(9, (12, [])), (14, (3, []))]
def dd50 : List (Nat × List Nat) := [(0, [2]), (3, [0]), (5, [16, 17]), (6, [18, 19]), (7, [7, 21, 22, 23, 24, 25, 26, 27, 28, 29, 30, 31]), (8, [7, 32, 33, 34]), (9, [35, 36, 37, 38, 39, 40, 41, 42, 43, 44]), (10, [9, 10, 45, 46, 47, 48, 49, 50, 51, 52, 53, 54, 55, 56, 57, 58, 59]), (11, [8, 60, 61, 62, 63, 64, 65, 66, 67, 68]), (12, [11, 69, 70, 71, 72]), (13, [73]), (14, [4, 5, 74, 75])]
theorem drOk50 : drAll dr50 (Try.f50.body.getD .skip) = true := by kernel_rfl
def dr51 : List (Nat × (Nat × List (List Nat))) := [(6, (9, []))]
def dd51 : List (Nat × List Nat) := [(0, [4]), (1, [6, 7, 8, 9]), (3, [11]), (5, [15]), (6, [5, 16, 17, 18, 19, 20, 21, 22, 23]), (8, [25])]
theorem drOk51 : drAll dr51 (Try.f51.body.getD .skip) = true := by kernel_rfl
def dr52 : List (Nat × (Nat × List (List Nat))) := [(10, (3, []))]
def dd52 : List (Nat × List Nat) := [(0, [0, 1, 4, 5]), (1, [17, 18, 19, 20, 21]), (2, [23, 24]), (3, [7, 25]), (4, [27, 28, 29]), (6, [31, 32]), (9, [33]), (10, [35, 36]), (11, [37, 38, 39]), (12, [40, 41, 42]), (13, [43]), (16, [48, 49, 50]), (17, [13, 51, 52, 53, 54, 55, 56, 57, 58, 59, 60, 61, 62]), (18, [12, 63, 64, 65, 66, 67, 68]), (19, [69]), (20, [2, 3, 6, 70, 71, 72]), (21, [10, 11, 73, 74]), (23, [79, 80]), (24, [15, 81, 82, 83, 84, 85, 86]), (25, [87]), (26, [88]), (28, [92]), (29, [16, 93, 94, 95, 96, 97, 98, 99]), (30, [100]), (31, [9, 101])]
theorem drOk52 : drAll dr52 (Try.f52.body.getD .skip) = true := by kernel_rfl
def dr53 : List (Nat × (Nat × List (List Nat))) := [(10, (17, []))]
def dd53 : List (Nat × List Nat) := [(0, [4, 5]), (1, [9, 10, 11, 12, 13, 14, 15, 16, 17, 18]), (4, [20]), (5, [22, 23]), (6, [24, 25]), (7, [26]), (9, [30]), (10, [8, 31, 32, 33, 34, 35, 36, 37, 38, 39, 40, 41, 42, 43, 44, 45, 46, 47]), (11, [48]), (12, [7, 49])]
theorem drOk53 : drAll dr53 (Try.f53.body.getD .skip) = true := by kernel_rfl
def dr54 : List (Nat × (Nat × List (List Nat))) := []
def dd54 : List (Nat × List Nat) := [(0, [2, 3]), (1, [7, 8]), (6, [14, 15]), (7, [6, 16, 17, 18]), (8, [19]), (9, [0, 20]), (11, [4, 22])]
theorem drOk54 : drAll dr54 (Try.f54.body.getD .skip) = true := by kernel_rfl
def dr55 : List (Nat × (Nat × List (List Nat))) := [(15, (16, [])), (25, (35, []))]
def dd55 : List (Nat × List Nat) := [(0, [4]), (1, [17]), (2, [0, 1, 19, 20, 21, 22]), (3, [23]), (5, [27]), (6, [6, 28, 29, 30, 31, 32, 33, 34, 35]), (7, [36]), (8, [5, 37]), (9, [8, 38, 39, 40, 41, 42]), (10, [43, 44, 45]), (14, [50, 51, 52]), (15, [12, 53, 54, 55, 56, 57, 58, 59, 60, 61, 62, 63, 64, 65, 66, 67, 68]), (16, [11, 69, 70, 71, 72, 73, 74]), (17, [75]), (18, [76, 77, 78]), (19, [79, 80]), (20, [82, 83]), (24, [88, 89, 90]), (25, [16, 91, 92, 93, 94, 95, 96, 97, 98, 99, 100, 101, 102, 103, 104, 105, 106, 107, 108, 109, 110, 111, 112, 113, 114, 115, 116, 117, 118, 119, 120, 121, 122, 123, 124]), (26, [15, 126]), (27, [127]), (28, [128, 129, 130]), (29, [14, 131, 132, 133, 134, 135, 136]), (30, [9, 137])]
theorem drOk55 : drAll dr55 (Try.f55.body.getD .skip) = true := by kernel_rfl
def dr56 : List (Nat × (Nat × List (List Nat))) := [(1, (8, []))]
def dd56 : List (Nat × List Nat) := [(0, [5]), (1, [0, 1, 2, 3, 6, 7, 8, 9, 10, 11, 12])]
theorem drOk56 : drAll dr56 (Try.f56.body.getD .skip) = true := by kernel_rfl
def dr57 : List (Nat × (Nat × List (List Nat))) := [(14, (24, []))]
def dd57 : List (Nat × List Nat) := [(0, [6, 7]), (1, [14, 15, 16, 17, 18]), (3, [8, 20, 21, 22, 23, 24, 25]), (4, [26]), (5, [9, 28]), (6, [29, 30, 31]), (7, [1]), (12, [39, 40, 41]), (13, [42]), (14, [13, 44, 45, 46, 47, 48, 49, 50, 51, 52, 53, 54, 55, 56, 57, 58, 59, 60, 61, 62, 63, 64, 65, 66]), (15, [12, 68]), (16, [69]), (17, [11, 70, 71, 72, 73, 74, 75]), (18, [76]), (19, [10, 77])]
theorem drOk57 : drAll dr57 (Try.f57.body.getD .skip) = true := by kernel_rfl
def dr58 : List (Nat × (Nat × List (List Nat))) := []
def dd58 : List (Nat × List Nat) := [(0, [4, 5]), (1, [11, 12, 13, 14, 15, 16]), (2, [17]), (3, [7, 19]), (4, [20, 21, 22]), (5, [1]), (7, [27, 28, 29]), (8, [9, 10, 30, 31, 32, 33, 34, 35, 36, 37]), (9, [38]), (10, [8, 39])]
theorem drOk58 : drAll dr58 (Try.f58.body.getD .skip) = true := by kernel_rfl
def dr59 : List (Nat × (Nat × List (List Nat))) := []
def dd59 : List (Nat × List Nat) := [(0, [4]), (1, [5, 6]), (3, [0, 8, 9, 10, 11, 12, 13]), (5, [1, 15])]
theorem drOk59 : drAll dr59 (Try.f59.body.getD .skip) = true := by kernel_rfl
def dr60 : List (Nat × (Nat × List (List Nat))) := [(8, (15, []))]
def dd60 : List (Nat × List Nat) := [(0, [6]), (4, [18, 19, 20]), (6, [21, 22, 23, 24, 25, 26]), (7, [28, 29]), (8, [30, 31, 32, 33, 34, 35, 36, 37, 38, 39, 40, 41, 42, 43, 44, 45]), (9, [46]), (10, [47, 48, 49, 50]), (11, [2, 51, 52, 53]), (12, [1, 7, 54, 55]), (14, [60, 61]), (15, [13, 62, 63, 64, 65, 66, 67, 68]), (16, [69]), (17, [11, 70])]
theorem drOk60 : drAll dr60 (Try.f60.body.getD .skip) = true := by kernel_rfl
def dr61 : List (Nat × (Nat × List (List Nat))) := []
def dd61 : List (Nat × List Nat) := [(0, [6]), (1, [0, 1, 2, 7, 8, 9, 10, 11, 12, 13, 14, 15, 16, 17, 18, 19, 20, 21, 22, 23, 24])]
theorem drOk61 : drAll dr61 (Try.f61.body.getD .skip) = true := by kernel_rfl
def dr62 : List (Nat × (Nat × List (List Nat))) := [(1, (8, []))]
def dd62 : List (Nat × List Nat) := [(0, [6]), (1, [10, 11, 12, 13, 14, 15]), (2, [16]), (3, [18, 19, 20, 21, 22]), (5, [2]), (6, [25]), (7, [8, 26, 27]), (8, [29]), (9, [0, 1, 8, 30, 31, 32, 33, 34, 35, 36, 37, 38, 39, 40, 41, 42, 43]), (10, [23, 45]), (11, [1, 8, 46, 47, 48, 49, 50, 51, 52, 53, 54, 55, 56, 57, 58, 59, 60]), (12, [9]), (13, [62, 63]), (14, [7, 64])]
theorem drOk62 : drAll dr62 (Try.f62.body.getD .skip) = true := by kernel_rfl
def dr63 : List (Nat × (Nat × List (List Nat))) := []
def dd63 : List (Nat × List Nat) := [(0, [2]), (1, [0, 3, 4, 5, 6, 7, 8])]
theorem drOk63 : drAll dr63 (Try.f63.body.getD .skip) = true := by kernel_rfl
def dr64 : List (Nat × (Nat × List (List Nat))) := []
def dd64 : List (Nat × List Nat) := [(0, [6]), (1, [0, 1, 2, 7, 8, 9, 10, 11, 12, 13, 14])]
theorem drOk64 : drAll dr64 (Try.f64.body.getD .skip) = true := by kernel_rfl
def dr65 : List (Nat × (Nat × List (List Nat))) := []
def dd65 : List (Nat × List Nat) := [(0, [0, 1, 4]), (1, [2, 6, 7]), (2, [8]), (3, [5, 10]), (4, [3, 11, 12])]
theorem drOk65 : drAll dr65 (Try.f65.body.getD .skip) = true := by kernel_rfl
def dr66 : List (Nat × (Nat × List (List Nat))) := []
def dd66 : List (Nat × List Nat) := [(0, [6]), (1, [0, 1, 2, 7, 8, 9, 10, 11, 12, 13, 14, 15, 16, 17, 18, 19, 20, 21, 22, 23, 24, 25, 26, 27, 28])]
theorem drOk66 : drAll dr66 (Try.f66.body.getD .skip) = true := by kernel_rfl
def dr67 : List (Nat × (Nat × List (List Nat))) := []
def dd67 : List (Nat × List Nat) := [(0, [4]), (1, [0, 7, 8]), (2, [9]), (4, [13]), (5, [6, 14, 15, 16, 17, 18, 19, 20, 21, 22, 23, 24]), (6, [25]), (7, [5, 26])]
theorem drOk67 : drAll dr67 (Try.f67.body.getD .skip) = true := by kernel_rfl
def dr68 : List (Nat × (Nat × List (List Nat))) := []
def dd68 : List (Nat × List Nat) := [(0, [5]), (1, [0, 1, 2, 3, 6, 7, 8, 9, 10, 11, 12])]
theorem drOk68 : drAll dr68 (Try.f68.body.getD .skip) = true := by kernel_rfl
def dr69 : List (Nat × (Nat × List (List Nat))) := []
def dd69 : List (Nat × List Nat) := [(0, [6]), (1, [0, 1, 2, 3, 4, 7, 8, 9, 10, 11, 12, 13, 14, 15, 16, 17, 18, 19, 20, 21])]
theorem drOk69 : drAll dr69 (Try.f69.body.getD .skip) = true := by kernel_rfl
def dr70 : List (Nat × (Nat × List (List Nat))) := [(2, (14, []))]
def dd70 : List (Nat × List Nat) := [(0, [3]), (1, [4, 5]), (2, [0, 1, 7, 8, 9, 10, 11, 12, 13, 14, 15, 16, 17, 18, 19]), (3, [0, 1, 20, 21, 22, 23, 24, 25, 26])]
theorem drOk70 : drAll dr70 (Try.f70.body.getD .skip) = true := by kernel_rfl
def dr71 : List (Nat × (Nat × List (List Nat))) := []
def dd71 : List (Nat × List Nat) := [(0, [4]), (2, [7]), (3, [8, 9, 10, 11]), (4, [13, 14]), (5, [15, 16, 17]), (6, [5, 18])]
theorem drOk71 : drAll dr71 (Try.f71.body.getD .skip) = true := by kernel_rfl
def dr72 : List (Nat × (Nat × List (List Nat))) := [(1, (7, [])), (2, (9, []))]
def dd72 : List (Nat × List Nat) := [(0, [0]), (1, [4, 5, 6, 7, 8, 9]), (2, [1, 3, 10, 11, 12, 13, 14, 15, 16, 17, 18])]
theorem drOk72 : drAll dr72 (Try.f72.body.getD .skip) = true := by kernel_rfl
def dr73 : List (Nat × (Nat × List (List Nat))) := []
def dd73 : List (Nat × List Nat) := [(0, [0, 3]), (1, [4, 5]), (2, [6, 7, 8, 9, 10, 11, 12, 13]), (3, [15]), (4, [1, 16])]
theorem drOk73 : drAll dr73 (Try.f73.body.getD .skip) = true := by kernel_rfl
def dr74 : List (Nat × (Nat × List (List Nat))) := []
def dd74 : List (Nat × List Nat) := [(0, [2]), (1, [3]), (2, [0, 5, 6]), (3, [0, 7])]
theorem drOk74 : drAll dr74 (Try.f74.body.getD .skip) = true := by kernel_rfl
def dr75 : List (Nat × (Nat × List (List Nat))) := []
def dd75 : List (Nat × List Nat) := [(0, [4]), (1, [0, 1, 5, 6, 7, 8, 9, 10, 11, 12, 13])]
theorem drOk75 : drAll dr75 (Try.f75.body.getD .skip) = true := by kernel_rfl
def dr76 : List (Nat × (Nat × List (List Nat))) := []
def dd76 : List (Nat × List Nat) := [(0, [4]), (1, [6, 7, 8, 9, 10, 11]), (2, [0, 1, 12, 13, 14]), (3, [16, 17, 18, 19, 20, 21, 22, 23]), (4, [0, 1, 24, 25, 26, 27, 28, 29]), (5, [31, 32, 33]), (6, [0, 1, 34, 35, 36, 37]), (7, [39, 40, 41]), (8, [0, 1, 42, 43, 44, 45]), (9, [47, 48, 49]), (10, [0, 1, 50, 51, 52, 53, 54, 55]), (11, [0, 1, 56, 57, 58, 59, 60, 61])]
theorem drOk76 : drAll dr76 (Try.f76.body.getD .skip) = true := by kernel_rfl
def dr77 : List (Nat × (Nat × List (List Nat))) := []
def dd77 : List (Nat × List Nat) := [(0, [2]), (1, [0, 3, 4, 5, 6])]
theorem drOk77 : drAll dr77 (Try.f77.body.getD .skip) = true := by kernel_rfl
def dr78 : List (Nat × (Nat × List (List Nat))) := []
def dd78 : List (Nat × List Nat) := [(0, [4, 5]), (1, [14, 15]), (2, [16, 17]), (3, [18, 19]), (4, [20, 21]), (5, [22, 23, 24]), (6, [8, 10, 25, 26, 27, 28, 29, 30]), (7, [31, 32]), (8, [11, 33, 34]), (9, [6, 35, 36, 37, 38, 39]), (10, [7, 9, 12, 13, 40, 41, 42, 43, 44, 45, 46, 47]), (11, [0, 1, 48, 49, 50])]
theorem drOk78 : drAll dr78 (Try.f78.body.getD .skip) = true := by kernel_rfl
def dr79 : List (Nat × (Nat × List (List Nat))) := []
def dd79 : List (Nat × List Nat) := [(0, [4]), (1, [6]), (3, [10]), (4, [11, 12, 13, 14, 15]), (5, [5, 17]), (6, [18])]
theorem drOk79 : drAll dr79 (Try.f79.body.getD .skip) = true := by kernel_rfl
def dr80 : List (Nat × (Nat × List (List Nat))) := []
def dd80 : List (Nat × List Nat) := [(0, [4]), (1, [0, 1, 5, 6, 7, 8, 9, 10, 11, 12, 13, 14, 15, 16, 17])]
theorem drOk80 : drAll dr80 (Try.f80.body.getD .skip) = true := by kernel_rfl
def dr81 : List (Nat × (Nat × List (List Nat))) := []
def dd81 : List (Nat × List Nat) := [(0, [6]), (2, [10, 11, 12, 13, 14, 15]), (3, [17, 18, 19, 20]), (4, [21, 22]), (6, [24, 25, 26, 27, 28]), (7, [29, 30, 31]), (8, [8, 9, 32, 33, 34, 35, 36, 37, 38]), (9, [7, 39])]
theorem drOk81 : drAll dr81 (Try.f81.body.getD .skip) = true := by kernel_rfl
def dr82 : List (Nat × (Nat × List (List Nat))) := []
def dd82 : List (Nat × List Nat) := [(0, [4]), (1, [0, 8]), (2, [9, 10]), (3, [12, 13, 14, 15, 16, 17]), (4, [18, 19, 20]), (5, [7, 22, 23]), (6, [7, 24]), (7, [5, 25])]
theorem drOk82 : drAll dr82 (Try.f82.body.getD .skip) = true := by kernel_rfl
def dr83 : List (Nat × (Nat × List (List Nat))) := []
def dd83 : List (Nat × List Nat) := [(0, [5]), (1, [0, 2, 7, 8, 9, 10, 11]), (2, [1, 3, 6, 12, 13, 14, 15, 16, 17, 18, 19, 20, 21, 22, 23])]
theorem drOk83 : drAll dr83 (Try.f83.body.getD .skip) = true := by kernel_rfl
def dr84 : List (Nat × (Nat × List (List Nat))) := []
def dd84 : List (Nat × List Nat) := [(0, [8, 9]), (1, [14]), (3, [16]), (5, [18, 19, 20, 21]), (6, [22, 23, 24, 25, 26, 27]), (7, [1, 2, 3, 28, 29, 30, 31, 32, 33, 34, 35, 36]), (8, [0, 10, 11, 12, 13, 37, 38, 39, 40, 41, 42, 43, 44, 45, 46])]
theorem drOk84 : drAll dr84 (Try.f84.body.getD .skip) = true := by kernel_rfl
def dr85 : List (Nat × (Nat × List (List Nat))) := []
def dd85 : List (Nat × List Nat) := [(0, [5]), (1, [8, 9, 10, 11, 12, 13, 14, 15, 16]), (3, [0, 1, 2, 3, 6, 18, 19, 20, 21, 22, 23, 24, 25]), (4, [7, 26])]
theorem drOk85 : drAll dr85 (Try.f85.body.getD .skip) = true := by kernel_rfl
def dr86 : List (Nat × (Nat × List (List Nat))) := []
def dd86 : List (Nat × List Nat) := [(0, [2]), (1, [5, 6]), (3, [0]), (5, [12, 13]), (6, [15, 16, 17, 18, 19, 20, 21, 22, 23, 24, 25, 26, 27, 28, 29, 30, 31, 32, 33, 34, 35, 36, 37]), (8, [4, 39, 40, 41, 42, 43, 44, 45, 46]), (10, [47])]
theorem drOk86 : drAll dr86 (Try.f86.body.getD .skip) = true := by kernel_rfl
def dr87 : List (Nat × (Nat × List (List Nat))) := [(7, (14, [])), (9, (12, [])), (10, (20, [[], [0], [0, 1], [0, 1], [0, 1], [0, 1, 2], [0, 1, 2, 3, 4, 5], [0, 1, 2, 3], [0, 1, 2, 3, 4, 5, 6, 7], [0, 1, 2, 3, 4, 5, 6, 7], [0, 1, 2, 3, 4, 5, 6, 7], [0, 1, 2, 3, 4, 5, 6, 7, 8], [0, 1, 2, 3, 4, 5, 6, 7, 8, 9, 10, 11], [0, 1, 2, 3, 4, 5, 6, 7, 8, 9], [1, 8, 9, 12, 13], [1, 8, 9, 12, 13], [1, 8, 9, 12, 13], [], [], []]))]
def dd87 : List (Nat × List Nat) := [(0, [4, 5]), (2, [9]), (3, [11, 12, 13, 14]), (5, [16, 17, 18, 19]), (6, [20, 21, 22, 23, 24]), (7, [7, 26, 27, 28, 29, 30, 31, 32, 33, 34, 35, 36, 37]), (8, [38, 39, 40, 41, 42, 43]), (9, [44, 45, 46, 47, 48, 49, 50, 51, 52, 53, 54]), (10, [1, 7, 55, 56, 57, 58, 59, 60, 61, 62, 63, 64, 65, 66, 67, 68, 69, 70, 71, 72]), (11, [6, 8, 73, 74, 75]), (12, [6, 76])]
theorem drOk87 : drAll dr87 (Try.f87.body.getD .skip) = true := by kernel_rfl
def dr88 : List (Nat × (Nat × List (List Nat))) := []
def dd88 : List (Nat × List Nat) := [(0, [2, 3]), (1, [7, 8]), (4, [0]), (6, [14, 15]), (7, [16, 17, 18, 19, 20]), (9, [6, 22, 23, 24]), (10, [25]), (11, [4, 26])]
theorem drOk88 : drAll dr88 (Try.f88.body.getD .skip) = true := by kernel_rfl
def dr89 : List (Nat × (Nat × List (List Nat))) := []
def dd89 : List (Nat × List Nat) := [(0, [0, 1, 4, 5, 6, 7, 8])]
theorem drOk89 : drAll dr89 (Try.f89.body.getD .skip) = true := by kernel_rfl
def dr90 : List (Nat × (Nat × List (List Nat))) := [(1, (18, []))]
def dd90 : List (Nat × List Nat) := [(0, [7]), (1, [0, 1, 2, 3, 4, 8, 9, 10, 11, 12, 13, 14, 15, 16, 17, 18, 19, 20, 21, 22, 23, 24])]
theorem drOk90 : drAll dr90 (Try.f90.body.getD .skip) = true := by kernel_rfl
def dr91 : List (Nat × (Nat × List (List Nat))) := []
def dd91 : List (Nat × List Nat) := [(0, [2]), (1, [0, 3, 4, 5])]
theorem drOk91 : drAll dr91 (Try.f91.body.getD .skip) = true := by kernel_rfl
def dr92 : List (Nat × (Nat × List (List Nat))) := []
def dd92 : List (Nat × List Nat) := [(0, [4, 5]), (1, [9, 10]), (4, [1]), (6, [16, 17]), (7, [18, 19, 20, 21, 22]), (9, [8, 24, 25, 26]), (10, [27]), (11, [0, 28, 29, 30, 31, 32]), (13, [34]), (15, [6, 36])]
theorem drOk92 : drAll dr92 (Try.f92.body.getD .skip) = true := by kernel_rfl
def dr93 : List (Nat × (Nat × List (List Nat))) := []
def dd93 : List (Nat × List Nat) := [(0, [4]), (1, [0]), (2, [7]), (3, [1, 8, 9]), (4, [5, 11]), (5, [1, 12, 13, 14]), (6, [1, 15])]
theorem drOk93 : drAll dr93 (Try.f93.body.getD .skip) = true := by kernel_rfl
def dr94 : List (Nat × (Nat × List (List Nat))) := []
def dd94 : List (Nat × List Nat) := [(0, [2]), (1, [0, 3, 4, 5])]
theorem drOk94 : drAll dr94 (Try.f94.body.getD .skip) = true := by kernel_rfl
def dr95 : List (Nat × (Nat × List (List Nat))) := []
def dd95 : List (Nat × List Nat) := [(0, [2]), (1, [0, 3, 4])]
theorem drOk95 : drAll dr95 (Try.f95.body.getD .skip) = true := by kernel_rfl
def dr96 : List (Nat × (Nat × List (List Nat))) := []
def dd96 : List (Nat × List Nat) := [(0, [6, 7]), (1, [0, 8, 9]), (2, [1, 4, 5, 10, 11, 12, 13, 14, 15])]
theorem drOk96 : drAll dr96 (Try.f96.body.getD .skip) = true := by kernel_rfl
def dr97 : List (Nat × (Nat × List (List Nat))) := [(1, (12, [[], [0], [], [], [0, 1, 2, 3], [0, 1, 2, 3, 4], [0, 1, 2, 3], [0, 1, 2, 3], [0, 1, 2, 3, 4, 5, 6, 7], [0, 1, 2, 3, 4, 5, 6, 7, 8], [4, 5, 6, 7], []]))]
def dd97 : List (Nat × List Nat) := [(0, [5]), (1, [0, 1, 2, 8, 9, 10, 11, 12, 13, 14, 15]), (2, [16, 17, 18, 19, 20, 21, 22]), (3, [6, 7, 24, 25, 26, 27, 28, 29, 30, 31]), (4, [6, 7, 32, 33, 34, 35, 36, 37, 38, 39, 40, 41, 42])]
theorem drOk97 : drAll dr97 (Try.f97.body.getD .skip) = true := by kernel_rfl
def dr98 : List (Nat × (Nat × List (List Nat))) := [(2, (6, []))]
def dd98 : List (Nat × List Nat) := [(0, [4]), (1, [5]), (2, [7, 8, 9, 10]), (3, [0, 11])]
theorem drOk98 : drAll dr98 (Try.f98.body.getD .skip) = true := by kernel_rfl
def dr99 : List (Nat × (Nat × List (List Nat))) := []
def dd99 : List (Nat × List Nat) := [(1, [10]), (2, [11, 12]), (3, [7, 14, 15, 16, 17, 18]), (4, [19]), (5, [20, 21, 22]), (6, [7, 23, 24, 25, 26, 27]), (7, [28, 29]), (8, [31, 32]), (9, [33, 34]), (10, [7, 36, 37, 38, 39, 40, 41, 42, 43]), (11, [44]), (12, [45, 46, 47, 48]), (13, [49, 50, 51]), (14, [52, 53]), (15, [7, 9, 55, 56, 57, 58, 59, 60]), (16, [61, 62])]
theorem drOk99 : drAll dr99 (Try.f99.body.getD .skip) = true := by kernel_rfl
def dr102 : List (Nat × (Nat × List (List Nat))) := []
def dd102 : List (Nat × List Nat) := [(0, [0]), (2, [8]), (3, [9, 10]), (4, [5, 12, 13, 14, 15]), (5, [16]), (6, [17, 18, 19]), (7, [5, 20, 21, 22, 23]), (8, [24, 25]), (9, [27, 28]), (10, [29, 30]), (11, [5, 32, 33, 34, 35, 36, 37, 38]), (12, [39]), (13, [40, 41, 42, 43]), (14, [44, 45, 46]), (15, [47, 48]), (16, [5, 7, 50, 51, 52, 53, 54]), (17, [55, 56])]
theorem drOk102 : drAll dr102 (Try.f102.body.getD .skip) = true := by kernel_rfl
def dr104 : List (Nat × (Nat × List (List Nat))) := [(4, (17, [])), (6, (18, [[], [0], [0, 1], [0, 1, 2], [0, 1, 2], [0, 1, 2, 3, 4], [0, 1, 2, 3, 4, 5], [0, 1, 2, 3, 4, 5], [0, 1, 2, 3, 4], [0, 1, 2, 3, 4, 6], [0, 1, 2, 3, 4, 5, 6, 7, 8, 9], [0, 1, 2, 3, 4, 5, 6, 7, 8, 9, 10], [0, 1, 2, 3, 4, 5, 6, 7, 8, 9], [0, 1, 2, 3, 4, 5, 6, 7, 8, 9], [2, 3, 4, 10, 11], [2, 3, 4, 10, 11], [], []]))]
def dd104 : List (Nat × List Nat) := [(0, [10, 11]), (1, [12, 13]), (2, [15, 16]), (3, [17]), (4, [18, 19, 20, 21, 22, 23, 24, 25, 26, 27, 28, 29, 30, 31, 32, 33]), (5, [35, 36]), (6, [37, 38, 39, 40, 41, 42, 43, 44, 45, 46, 47, 48, 49, 50, 51, 52])]
theorem drOk104 : drAll dr104 (Try.f104.body.getD .skip) = true := by kernel_rfl
def dr105 : List (Nat × (Nat × List (List Nat))) := [(5, (11, [])), (11, (18, [[], [0], [0, 1], [0, 1, 2], [0, 1, 2], [0, 1, 2, 3, 4], [0, 1, 2, 3, 4, 5], [0, 1, 2, 3, 4, 5], [0, 1, 2, 3, 4], [0, 1, 2, 3, 4, 6], [0, 1, 2, 3, 4, 5, 6, 7, 8, 9], [0, 1, 2, 3, 4, 5, 6, 7, 8, 9, 10], [0, 1, 2, 3, 4, 5, 6, 7, 8, 9], [0, 1, 2, 3, 4, 5, 6, 7, 8, 9], [2, 3, 4, 10, 11], [2, 3, 4, 10, 11], [], []])), (17, (12, [])), (23, (18, [[], [0], [0, 1], [0, 1, 2], [0, 1, 2], [0, 1, 2, 3, 4], [0, 1, 2, 3, 4, 5], [0, 1, 2, 3, 4, 5], [0, 1, 2, 3, 4], [0, 1, 2, 3, 4, 6], [0, 1, 2, 3, 4, 5, 6, 7, 8, 9], [0, 1, 2, 3, 4, 5, 6, 7, 8, 9, 10], [0, 1, 2, 3, 4, 5, 6, 7, 8, 9], [0, 1, 2, 3, 4, 5, 6, 7, 8, 9], [2, 3, 4, 10, 11], [2, 3, 4, 10, 11], [], []])), (35, (14, []))]
def dd105 : List (Nat × List Nat) := [(0, [25, 26, 27]), (1, [2, 29]), (2, [3, 30]), (3, [31, 32]), (4, [34, 35, 36, 37, 38, 39]), (5, [40, 41, 42, 43, 44, 45, 46, 47, 48, 49]), (6, [12, 51, 52]), (7, [12, 53]), (8, [1, 54]), (9, [55, 56, 57]), (10, [59, 60]), (11, [61, 62, 63, 64, 65, 66, 67, 68, 69, 70, 71, 72, 73, 74, 75, 76]), (12, [77, 78, 79]), (13, [1, 81]), (14, [82]), (15, [83, 84]), (16, [86, 87, 88, 89, 90, 91]), (17, [92, 93, 94, 95, 96, 97, 98, 99, 100, 101, 102]), (18, [16, 104, 105]), (19, [16, 106]), (20, [2, 107]), (21, [108, 109]), (22, [111, 112]), (23, [113, 114, 115, 116, 117, 118, 119, 120, 121, 122, 123, 124, 125, 126, 127, 128]), (24, [129, 130, 131, 132, 133, 134]), (25, [135, 136, 137]), (26, [20, 21]), (27, [138, 139]), (28, [141, 142, 143]), (29, [144]), (30, [145]), (31, [146]), (32, [147, 148]), (33, [149, 150]), (34, [152, 153, 154, 155, 156, 157]), (35, [158, 159, 160, 161, 162, 163, 164, 165, 166, 167, 168, 169, 170]), (36, [23, 172, 173]), (37, [23, 174]), (38, [19, 175, 176, 177]), (39, [178, 179, 180, 181, 182, 183, 184]), (40, [2, 186, 187, 188, 189, 190, 191]), (41, [192, 193, 194, 195, 196, 197, 198]), (42, [1, 20, 200, 201, 202, 203, 204, 205]), (43, [206, 207, 208, 209, 210, 211, 212]), (44, [0, 3, 4, 18, 24, 214, 215, 216, 217, 218, 219])]
theorem drOk105 : drAll dr105 (Try.f105.body.getD .skip) = true := by kernel_rfl
def dr115 : List (Nat × (Nat × List (List Nat))) := []
def dd115 : List (Nat × List Nat) := [(0, [0]), (1, [8, 9]), (2, [10, 11]), (3, [13, 14]), (4, [15]), (5, [16, 17, 18, 19, 20, 21, 22, 23, 24, 25]), (6, [27, 28]), (7, [29, 30, 31, 32, 33, 34])]
theorem drOk115 : drAll dr115 (Try.f115.body.getD .skip) = true := by kernel_rfl
def dr116 : List (Nat × (Nat × List (List Nat))) := []
def dd116 : List (Nat × List Nat) := [(0, [0]), (1, [23, 24, 25]), (2, [2, 27]), (3, [3, 28]), (4, [29, 30]), (5, [32, 33, 34, 35, 36, 37]), (6, [38, 39, 40, 41]), (7, [10, 43, 44]), (8, [10, 45]), (9, [1, 46]), (10, [47, 48, 49]), (11, [51, 52]), (12, [53, 54, 55, 56, 57, 58]), (13, [59, 60, 61]), (14, [1, 63]), (15, [64]), (16, [65, 66]), (17, [68, 69, 70, 71, 72, 73]), (18, [74, 75, 76, 77, 78]), (19, [14, 80, 81]), (20, [14, 82]), (21, [2, 83]), (22, [84, 85]), (23, [87, 88]), (24, [89, 90, 91, 92, 93, 94]), (25, [95, 96, 97, 98, 99, 100]), (26, [101, 102, 103]), (27, [18, 19]), (28, [104, 105]), (29, [107, 108, 109]), (30, [110]), (31, [111]), (32, [112]), (33, [113, 114]), (34, [115, 116]), (35, [118, 119, 120, 121, 122, 123]), (36, [124, 125, 126, 127, 128, 129, 130]), (37, [21, 132, 133]), (38, [21, 134]), (39, [17, 135, 136, 137]), (40, [138, 139, 140, 141, 142, 143, 144]), (41, [2, 146, 147, 148, 149, 150]), (42, [151, 152, 153, 154, 155, 156, 157]), (43, [1, 18, 159, 160, 161, 162, 163]), (44, [164, 165, 166, 167, 168, 169, 170]), (45, [3, 4, 16, 22, 172, 173, 174, 175, 176])]
theorem drOk116 : drAll dr116 (Try.f116.body.getD .skip) = true := by kernel_rfl
def dr117 : List (Nat × (Nat × List (List Nat))) := []
def dd117 : List (Nat × List Nat) := [(0, [1, 12, 13, 14]), (1, [3, 15, 16, 17]), (2, [18, 19]), (3, [21, 22]), (4, [24, 25, 26, 27, 28, 29, 30, 31]), (5, [32, 33, 34]), (6, [35, 36, 37, 38, 39, 40, 41, 42, 43, 44, 45, 46]), (7, [47, 48, 49]), (8, [0, 2, 4, 10, 50, 51, 52, 53, 54, 55, 56, 57])]
theorem drOk117 : drAll dr117 (Try.f117.body.getD .skip) = true := by kernel_rfl
def dr118 : List (Nat × (Nat × List (List Nat))) := []
def dd118 : List (Nat × List Nat) := [(0, [0]), (1, [1, 10, 11, 12]), (2, [3, 13, 14, 15]), (3, [16, 17]), (4, [19, 20]), (5, [22, 23, 24, 25, 26, 27, 28]), (6, [29, 30, 31]), (7, [32, 33, 34, 35, 36, 37, 38, 39, 40, 41, 42]), (8, [43, 44, 45]), (9, [2, 4, 8, 46, 47, 48, 49, 50, 51, 52])]
theorem drOk118 : drAll dr118 (Try.f118.body.getD .skip) = true := by kernel_rfl
def dr119 : List (Nat × (Nat × List (List Nat))) := [(3, (24, [[], [0], [0, 1], [0], [0, 1, 2, 3], [0, 1, 2, 3, 4], [0, 1, 2, 3, 4, 5], [0, 1, 2, 3, 4], [0, 1, 2, 3, 4, 5, 6, 7], [0, 1, 2, 3, 4, 5, 6, 7, 8], [0, 1, 2, 3, 4, 5, 6, 7, 8, 9], [0, 1, 2, 3, 4, 5, 6, 7, 8], [0, 1, 2, 3, 4, 5, 6, 7], [0, 1, 2, 3, 4, 5, 6, 7, 9, 10], [0, 1, 2, 3, 4, 5, 6, 7, 8, 9, 10, 11, 12, 13], [0, 1, 2, 3, 4, 5, 6, 7, 8, 9, 10, 11, 12, 13, 14], [0, 1, 2, 3, 4, 5, 6, 7, 8, 9, 10, 11, 12, 13, 14, 15], [0, 1, 2, 3, 4, 5, 6, 7, 8, 9, 10, 11, 12, 13, 14], [0, 1, 2, 3, 4, 5, 6, 7, 8, 9, 10, 11, 12, 13], [0, 1, 2, 3, 4, 5, 6, 7, 8, 9, 10, 11, 12, 13, 15, 16], [4, 5, 6, 7, 14, 15, 16, 17], [4, 5, 6, 7, 14, 15, 16, 17], [], []]))]
def dd119 : List (Nat × List Nat) := [(1, [11, 12]), (2, [14, 15]), (3, [16, 17, 18, 19, 20, 21, 22, 23, 24, 25, 26, 27, 28, 29, 30, 31, 32, 33, 34, 35, 36, 37])]
theorem drOk119 : drAll dr119 (Try.f119.body.getD .skip) = true := by kernel_rfl
def dr120 : List (Nat × (Nat × List (List Nat))) := []
def dd120 : List (Nat × List Nat) := [(0, [0]), (2, [9, 10]), (3, [12, 13]), (4, [14, 15, 16, 17, 18, 19, 20, 21, 22])]
theorem drOk120 : drAll dr120 (Try.f120.body.getD .skip) = true := by kernel_rfl
/-- what the machine runs in: the callees' answers, the variables that begin as nil and are rows of one's own, what becomes data where -/
def mkX (Φ : FuncId → List V → Option (V × List Blk)) (nv : Nat → Option (TypeId × Nat)) (fz : Nat → List Nat) (dr : List (Nat × (Nat × List (List Nat)))) (dd : List (Nat × List Nat)) (lam : Lam) : Ctx := ⟨tyF, Φ, nv, fz, fun i => (Ev.look i dd).getD [], dr, eqsL, fun g => Ev.look g lam⟩
section
variable (Φ : FuncId → List V → Option (V × List Blk)) (nv : Nat → Option (TypeId × Nat)) (fz : Nat → List Nat) (dr : List (Nat × (Nat × List (List Nat)))) (dd : List (Nat × List Nat)) (lam : Lam)
theorem mkX_T : (mkX Φ nv fz dr dd lam).T = tyF := rfl
theorem mkX_Φ : (mkX Φ nv fz dr dd lam).Φ = Φ := rfl
theorem mkX_n : (mkX Φ nv fz dr dd lam).nilv = nv := rfl
theorem mkX_f : (mkX Φ nv fz dr dd lam).frz = fz := rfl
theorem mkX_d (i : Nat) : (mkX Φ nv fz dr dd lam).dead i = (Ev.look i dd).getD [] := rfl
theorem mkX_r : (mkX Φ nv fz dr dd lam).dr = dr := rfl
theorem mkX_L (g : FuncId) : (mkX Φ nv fz dr dd lam).Λ g = Ev.look g lam := rfl
theorem mkX_e : (mkX Φ nv fz dr dd lam).eqs = eqsL := rfl
theorem tyOk : TOkX Try.prog (mkX Φ nv fz dr dd lam) := ⟨TOk_of tabAll, fun t ht => List.all_eq_true.1 eqsOk t ht⟩
end
def nv0 : Nat → Option (TypeId × Nat) := fun _ => none
def fz0 : Nat → List Nat := fun _ => []
theorem mapO_nil {α β : Type} (f : α → Option β) : ([] : List α).mapM f = some [] := rfl
theorem mapO_cons {α β : Type} (f : α → Option β) (a : α) (l : List α) : (a :: l).mapM f = (f a).bind fun y => (l.mapM f).bind fun ys => some (y :: ys) := by rw [List.mapM_cons]; rfl
theorem beqT (b : Bool) : (b == true) = b := by cases b <;> rfl
theorem beqF (b : Bool) : (b == false) = !b := by cases b <;> rfl
def nvL (l : List (Nat × (TypeId × Nat))) : Nat → Option (TypeId × Nat) := fun i => Ev.look i l
theorem nvL_at (l : List (Nat × (TypeId × Nat))) (i : Nat) : nvL l i = Ev.look i l := rfl
def fzL (l : List (Nat × List Nat)) : Nat → List Nat := fun i => (Ev.look i l).getD []
theorem fzL_at (l : List (Nat × List Nat)) (i : Nat) : fzL l i = (Ev.look i l).getD [] := rfl
theorem maxLen_eq : maxLen = 9223372036854775807 := rfl
theorem leT {a b : Nat} (h : a ≤ b) : (a ≤ b) = True := by simp [h]
theorem plainI (k : IntKind) (l : List Int) : ((l.map (V.int k)).all fun v => V.plain v && V.data v) = true := by
  rw [List.all_eq_true]
  intro v hv
  obtain ⟨n, _, rfl⟩ := List.mem_map.1 hv
  rfl
theorem bin_eql_vz (b : Nat) : binV .eql (.vec b) .zero = none := rfl
theorem bin_eql_zv (b : Nat) : binV .eql .zero (.vec b) = none := rfl
theorem bin_eql_rz (z : Nat) (es : List V) : binV .eql (.row z es) .zero = none := rfl
theorem bin_eql_zr (z : Nat) (es : List V) : binV .eql .zero (.row z es) = none := rfl
theorem bin_eql_zz : binV .eql .zero .zero = none := rfl
theorem bin_neq_vz (b : Nat) : binV .neq (.vec b) .zero = none := rfl
theorem bin_neq_zv (b : Nat) : binV .neq .zero (.vec b) = none := rfl
theorem bin_neq_rz (z : Nat) (es : List V) : binV .neq (.row z es) .zero = none := rfl
theorem bin_neq_zr (z : Nat) (es : List V) : binV .neq .zero (.row z es) = none := rfl
theorem bin_neq_zz : binV .neq .zero .zero = none := rfl
theorem nv0_at (i : Nat) : nv0 i = none := rfl
theorem fz0_at (i : Nat) : fz0 i = [] := rfl
/-- a function of this seat, run by the machine -/
theorem evFn {J : World → Prop} {l : Phi} (hl : PhiOk Try.prog J l) (hJ : Stable J) {nv : Nat → Option (TypeId × Nat)} {fz : Nat → List Nat} {dr : List (Nat × (Nat × List (List Nat)))} {dd : List (Nat × List Nat)} {lam : Lam} (hlam : LamOk Try.prog J lam) {f : FuncId} {fn : Func} {args : List V} {r : V} {bs : List Blk}
    (hf : Try.prog.funcs[f]? = some fn) (hname : (fn.name == "runtime.NumGoroutine") = false) (hb : fn.body.isSome = true) (hn : args.length ≤ fn.ntmps) (hsm : fn.ntmps ≤ 100000) (hdr : drAll dr (fn.body.getD .skip) = true)
    (h : ev (mkX (phi l) nv fz dr dd lam) fn.ntmps (fn.body.getD .skip) (St.init args) (post (mkX (phi l) nv fz dr dd lam) fn.results.toList r bs)) : SoundAt Try.prog J f args r bs :=
  sound_fn (X := mkX (phi l) nv fz dr dd lam) mixOk (tyOk _ _ _ _ _ _) (lam_sound hlam) (phi_sound hl) hJ hf hname (by cases hc : fn.body <;> simp_all) hn hsm hdr h
/-- a function of this seat that is lent a row, run by the machine -/
theorem evLend {J : World → Prop} {l : Phi} (hl : PhiOk Try.prog J l) (hJ : Stable J) {nv : Nat → Option (TypeId × Nat)} {fz : Nat → List Nat} {dr : List (Nat × (Nat × List (List Nat)))} {dd : List (Nat × List Nat)} {lam : Lam} (hlam : LamOk Try.prog J lam) {f : FuncId} {fn : Func} {T : TypeId} {sz : Nat} {es xs es' : List V}
    (hf : Try.prog.funcs[f]? = some fn) (hname : (fn.name == "runtime.NumGoroutine") = false) (hb : fn.body.isSome = true) (hn : xs.length + 1 ≤ fn.ntmps) (hsm : fn.ntmps ≤ 100000) (hdr : drAll dr (fn.body.getD .skip) = true) (hres : fn.results = #[]) (hpl : ∀ e ∈ es', V.plain e = true)
    (h : ev (mkX (phi l) nv fz dr dd lam) fn.ntmps (fn.body.getD .skip) (St.lent T sz es xs) (postL T sz es')) : LendAt Try.prog J f T sz es xs es' :=
  sound_lend (X := mkX (phi l) nv fz dr dd lam) mixOk (tyOk _ _ _ _ _ _) (lam_sound hlam) (phi_sound hl) hJ hf hname (by cases hc : fn.body <;> simp_all) hn hsm hdr hres hpl h
/-- what has a body is called -/
theorem callOk {f : FuncId} {fn : Func} (hf : Try.prog.funcs[f]? = some fn) (hname : (fn.name == "runtime.NumGoroutine") = false) (hb : fn.body.isNone = false) : Callable Try.prog f := ⟨fn, hf, hname, hb⟩
def J0 : World → Prop := fun _ => True
theorem stable0 : Stable J0 := fun _ _ _ _ => trivial
end Go.Proofs.Ythndfckapbbbfaa
