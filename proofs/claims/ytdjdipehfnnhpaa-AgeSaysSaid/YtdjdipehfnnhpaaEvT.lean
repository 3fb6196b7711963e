/-
  The seat's types as the machine reads them, and the regions that draw their order (written by a program).
-/
import Derived.Test.YtdjdipehfnnhpaaEw
import Derived.Test.YtdjdipehfnnhpaaProg
import Derived.KernelRfl
namespace Go.Proofs.Ytdjdipehfnnhpaa
open Go Go.Ev
def tab : List (TypeId × TI) := [
  (2, ⟨(.int .i64), 1, 8, (.int .i64 0)⟩),
  (3, ⟨(.int .i64), 1, 8, (.int .i64 0)⟩),
  (4, ⟨.bool, 1, 1, (.bool false)⟩),
  (5, ⟨(.int .u8), 1, 1, (.int .u8 0)⟩),
  (6, ⟨(.int .u8), 1, 1, (.int .u8 0)⟩),
  (7, ⟨(.struct [(0, 1, 2), (1, 1, 3), (2, 1, 4), (3, 1, 6)]), 4, 24, (.agg [(.int .i64 0), (.int .i64 0), (.bool false), (.int .u8 0)])⟩),
  (8, ⟨(.struct [(0, 1, 2), (1, 1, 3), (2, 1, 4), (3, 1, 6)]), 4, 24, (.agg [(.int .i64 0), (.int .i64 0), (.bool false), (.int .u8 0)])⟩),
  (9, ⟨.str, 1, 16, (.str ByteArray.empty)⟩),
  (10, ⟨.str, 1, 16, (.str ByteArray.empty)⟩),
  (11, ⟨.str, 1, 16, (.str ByteArray.empty)⟩),
  (12, ⟨(.int .u64), 1, 8, (.int .u64 0)⟩),
  (13, ⟨(.struct [(0, 1, 9), (1, 1, 12)]), 2, 24, (.agg [(.str ByteArray.empty), (.int .u64 0)])⟩),
  (14, ⟨(.struct [(0, 1, 9), (1, 1, 12)]), 2, 24, (.agg [(.str ByteArray.empty), (.int .u64 0)])⟩),
  (18, ⟨(.struct [(0, 1, 17)]), 1, 8, (.agg [.undef])⟩),
  (19, ⟨(.struct [(0, 1, 17)]), 1, 8, (.agg [.undef])⟩),
  (21, ⟨(.int .i32), 1, 4, (.int .i32 0)⟩),
  (24, ⟨(.slice 3), 1, 24, .zero⟩),
  (25, ⟨(.int .i64), 1, 8, (.int .i64 0)⟩),
  (33, ⟨(.slice 78), 1, 24, .zero⟩),
  (34, ⟨(.slice 43), 1, 24, .zero⟩),
  (35, ⟨(.struct [(0, 1, 33), (1, 1, 34), (2, 1, 3)]), 3, 56, (.agg [.zero, .zero, (.int .i64 0)])⟩),
  (36, ⟨(.struct [(0, 1, 33), (1, 1, 34), (2, 1, 3)]), 3, 56, (.agg [.zero, .zero, (.int .i64 0)])⟩),
  (41, ⟨(.slice 46), 1, 24, .zero⟩),
  (42, ⟨(.struct [(0, 1, 9), (1, 1, 3), (2, 1, 41)]), 3, 48, (.agg [(.str ByteArray.empty), (.int .i64 0), .zero])⟩),
  (43, ⟨(.struct [(0, 1, 9), (1, 1, 3), (2, 1, 41)]), 3, 48, (.agg [(.str ByteArray.empty), (.int .i64 0), .zero])⟩),
  (45, ⟨(.struct [(0, 1, 9), (1, 1, 3)]), 2, 24, (.agg [(.str ByteArray.empty), (.int .i64 0)])⟩),
  (46, ⟨(.struct [(0, 1, 9), (1, 1, 3)]), 2, 24, (.agg [(.str ByteArray.empty), (.int .i64 0)])⟩),
  (53, ⟨(.slice 64), 1, 24, .zero⟩),
  (63, ⟨(.struct [(0, 1, 3), (1, 1, 3)]), 2, 16, (.agg [(.int .i64 0), (.int .i64 0)])⟩),
  (64, ⟨(.struct [(0, 1, 3), (1, 1, 3)]), 2, 16, (.agg [(.int .i64 0), (.int .i64 0)])⟩),
  (69, ⟨(.int .u64), 1, 8, (.int .u64 0)⟩),
  (74, ⟨(.int .u64), 1, 8, (.int .u64 0)⟩),
  (77, ⟨(.struct [(0, 1, 9), (1, 1, 3)]), 2, 24, (.agg [(.str ByteArray.empty), (.int .i64 0)])⟩),
  (78, ⟨(.struct [(0, 1, 9), (1, 1, 3)]), 2, 24, (.agg [(.str ByteArray.empty), (.int .i64 0)])⟩),
  (96, ⟨(.array 5 3), 5, 40, (.agg [(.int .i64 0), (.int .i64 0), (.int .i64 0), (.int .i64 0), (.int .i64 0)])⟩),
  (98, ⟨(.slice 4), 1, 24, .zero⟩),
  (108, ⟨(.int .u32), 1, 4, (.int .u32 0)⟩),
  (115, ⟨(.map 9 4), 1, 8, .undef⟩),
  (142, ⟨(.struct [(0, 1, 17), (1, 1, 17), (2, 1, 17), (3, 1, 9)]), 4, 40, (.agg [.undef, .undef, .undef, (.str ByteArray.empty)])⟩),
  (143, ⟨(.struct [(0, 1, 17), (1, 1, 17), (2, 1, 17), (3, 1, 9)]), 4, 40, (.agg [.undef, .undef, .undef, (.str ByteArray.empty)])⟩),
  (148, ⟨(.int .u8), 1, 1, (.int .u8 0)⟩),
  (149, ⟨(.int .u8), 1, 1, (.int .u8 0)⟩),
  (152, ⟨(.int .i32), 1, 4, (.int .i32 0)⟩),
  (153, ⟨(.int .i32), 1, 4, (.int .i32 0)⟩),
  (154, ⟨(.struct [(0, 1, 12), (1, 1, 12), (2, 1, 108), (3, 1, 148), (4, 1, 5), (5, 1, 5), (6, 1, 149), (7, 1, 150), (8, 1, 151), (9, 1, 152), (10, 1, 153)]), 11, 48, (.agg [(.int .u64 0), (.int .u64 0), (.int .u32 0), (.int .u8 0), (.int .u8 0), (.int .u8 0), (.int .u8 0), .undef, .undef, (.int .i32 0), (.int .i32 0)])⟩),
  (155, ⟨(.struct [(0, 1, 12), (1, 1, 12), (2, 1, 108), (3, 1, 148), (4, 1, 5), (5, 1, 5), (6, 1, 149), (7, 1, 150), (8, 1, 151), (9, 1, 152), (10, 1, 153)]), 11, 48, (.agg [(.int .u64 0), (.int .u64 0), (.int .u32 0), (.int .u8 0), (.int .u8 0), (.int .u8 0), (.int .u8 0), .undef, .undef, (.int .i32 0), (.int .i32 0)])⟩)]
def tyF : TypeId → Option TI := fun t => tab.lookup t
theorem tabAll : (tab.all fun (t, i) => tiOk Try.prog t i) = true := by kernel_rfl
def eqsL : List TypeId := [46, 64, 78]
theorem eqsOk : (eqsL.all fun t => eqOkB Try.prog t) = true := by kernel_rfl
theorem mixOk : Try.prog.follows .mixedOrders = true := by kernel_rfl
theorem ty2 : tyF 2 = some ⟨(.int .i64), 1, 8, (.int .i64 0)⟩ := rfl
theorem ty3 : tyF 3 = some ⟨(.int .i64), 1, 8, (.int .i64 0)⟩ := rfl
theorem ty4 : tyF 4 = some ⟨.bool, 1, 1, (.bool false)⟩ := rfl
theorem ty5 : tyF 5 = some ⟨(.int .u8), 1, 1, (.int .u8 0)⟩ := rfl
theorem ty6 : tyF 6 = some ⟨(.int .u8), 1, 1, (.int .u8 0)⟩ := rfl
theorem ty7 : tyF 7 = some ⟨(.struct [(0, 1, 2), (1, 1, 3), (2, 1, 4), (3, 1, 6)]), 4, 24, (.agg [(.int .i64 0), (.int .i64 0), (.bool false), (.int .u8 0)])⟩ := rfl
theorem ty8 : tyF 8 = some ⟨(.struct [(0, 1, 2), (1, 1, 3), (2, 1, 4), (3, 1, 6)]), 4, 24, (.agg [(.int .i64 0), (.int .i64 0), (.bool false), (.int .u8 0)])⟩ := rfl
theorem ty9 : tyF 9 = some ⟨.str, 1, 16, (.str ByteArray.empty)⟩ := rfl
theorem ty10 : tyF 10 = some ⟨.str, 1, 16, (.str ByteArray.empty)⟩ := rfl
theorem ty11 : tyF 11 = some ⟨.str, 1, 16, (.str ByteArray.empty)⟩ := rfl
theorem ty12 : tyF 12 = some ⟨(.int .u64), 1, 8, (.int .u64 0)⟩ := rfl
theorem ty13 : tyF 13 = some ⟨(.struct [(0, 1, 9), (1, 1, 12)]), 2, 24, (.agg [(.str ByteArray.empty), (.int .u64 0)])⟩ := rfl
theorem ty14 : tyF 14 = some ⟨(.struct [(0, 1, 9), (1, 1, 12)]), 2, 24, (.agg [(.str ByteArray.empty), (.int .u64 0)])⟩ := rfl
theorem ty18 : tyF 18 = some ⟨(.struct [(0, 1, 17)]), 1, 8, (.agg [.undef])⟩ := rfl
theorem ty19 : tyF 19 = some ⟨(.struct [(0, 1, 17)]), 1, 8, (.agg [.undef])⟩ := rfl
theorem ty21 : tyF 21 = some ⟨(.int .i32), 1, 4, (.int .i32 0)⟩ := rfl
theorem ty24 : tyF 24 = some ⟨(.slice 3), 1, 24, .zero⟩ := rfl
theorem ty25 : tyF 25 = some ⟨(.int .i64), 1, 8, (.int .i64 0)⟩ := rfl
theorem ty33 : tyF 33 = some ⟨(.slice 78), 1, 24, .zero⟩ := rfl
theorem ty34 : tyF 34 = some ⟨(.slice 43), 1, 24, .zero⟩ := rfl
theorem ty35 : tyF 35 = some ⟨(.struct [(0, 1, 33), (1, 1, 34), (2, 1, 3)]), 3, 56, (.agg [.zero, .zero, (.int .i64 0)])⟩ := rfl
theorem ty36 : tyF 36 = some ⟨(.struct [(0, 1, 33), (1, 1, 34), (2, 1, 3)]), 3, 56, (.agg [.zero, .zero, (.int .i64 0)])⟩ := rfl
theorem ty41 : tyF 41 = some ⟨(.slice 46), 1, 24, .zero⟩ := rfl
theorem ty42 : tyF 42 = some ⟨(.struct [(0, 1, 9), (1, 1, 3), (2, 1, 41)]), 3, 48, (.agg [(.str ByteArray.empty), (.int .i64 0), .zero])⟩ := rfl
theorem ty43 : tyF 43 = some ⟨(.struct [(0, 1, 9), (1, 1, 3), (2, 1, 41)]), 3, 48, (.agg [(.str ByteArray.empty), (.int .i64 0), .zero])⟩ := rfl
theorem ty45 : tyF 45 = some ⟨(.struct [(0, 1, 9), (1, 1, 3)]), 2, 24, (.agg [(.str ByteArray.empty), (.int .i64 0)])⟩ := rfl
theorem ty46 : tyF 46 = some ⟨(.struct [(0, 1, 9), (1, 1, 3)]), 2, 24, (.agg [(.str ByteArray.empty), (.int .i64 0)])⟩ := rfl
theorem ty53 : tyF 53 = some ⟨(.slice 64), 1, 24, .zero⟩ := rfl
theorem ty63 : tyF 63 = some ⟨(.struct [(0, 1, 3), (1, 1, 3)]), 2, 16, (.agg [(.int .i64 0), (.int .i64 0)])⟩ := rfl
theorem ty64 : tyF 64 = some ⟨(.struct [(0, 1, 3), (1, 1, 3)]), 2, 16, (.agg [(.int .i64 0), (.int .i64 0)])⟩ := rfl
theorem ty69 : tyF 69 = some ⟨(.int .u64), 1, 8, (.int .u64 0)⟩ := rfl
theorem ty74 : tyF 74 = some ⟨(.int .u64), 1, 8, (.int .u64 0)⟩ := rfl
theorem ty77 : tyF 77 = some ⟨(.struct [(0, 1, 9), (1, 1, 3)]), 2, 24, (.agg [(.str ByteArray.empty), (.int .i64 0)])⟩ := rfl
theorem ty78 : tyF 78 = some ⟨(.struct [(0, 1, 9), (1, 1, 3)]), 2, 24, (.agg [(.str ByteArray.empty), (.int .i64 0)])⟩ := rfl
theorem ty96 : tyF 96 = some ⟨(.array 5 3), 5, 40, (.agg [(.int .i64 0), (.int .i64 0), (.int .i64 0), (.int .i64 0), (.int .i64 0)])⟩ := rfl
theorem ty98 : tyF 98 = some ⟨(.slice 4), 1, 24, .zero⟩ := rfl
theorem ty108 : tyF 108 = some ⟨(.int .u32), 1, 4, (.int .u32 0)⟩ := rfl
theorem ty115 : tyF 115 = some ⟨(.map 9 4), 1, 8, .undef⟩ := rfl
theorem ty142 : tyF 142 = some ⟨(.struct [(0, 1, 17), (1, 1, 17), (2, 1, 17), (3, 1, 9)]), 4, 40, (.agg [.undef, .undef, .undef, (.str ByteArray.empty)])⟩ := rfl
theorem ty143 : tyF 143 = some ⟨(.struct [(0, 1, 17), (1, 1, 17), (2, 1, 17), (3, 1, 9)]), 4, 40, (.agg [.undef, .undef, .undef, (.str ByteArray.empty)])⟩ := rfl
theorem ty148 : tyF 148 = some ⟨(.int .u8), 1, 1, (.int .u8 0)⟩ := rfl
theorem ty149 : tyF 149 = some ⟨(.int .u8), 1, 1, (.int .u8 0)⟩ := rfl
theorem ty152 : tyF 152 = some ⟨(.int .i32), 1, 4, (.int .i32 0)⟩ := rfl
theorem ty153 : tyF 153 = some ⟨(.int .i32), 1, 4, (.int .i32 0)⟩ := rfl
theorem ty154 : tyF 154 = some ⟨(.struct [(0, 1, 12), (1, 1, 12), (2, 1, 108), (3, 1, 148), (4, 1, 5), (5, 1, 5), (6, 1, 149), (7, 1, 150), (8, 1, 151), (9, 1, 152), (10, 1, 153)]), 11, 48, (.agg [(.int .u64 0), (.int .u64 0), (.int .u32 0), (.int .u8 0), (.int .u8 0), (.int .u8 0), (.int .u8 0), .undef, .undef, (.int .i32 0), (.int .i32 0)])⟩ := rfl
theorem ty155 : tyF 155 = some ⟨(.struct [(0, 1, 12), (1, 1, 12), (2, 1, 108), (3, 1, 148), (4, 1, 5), (5, 1, 5), (6, 1, 149), (7, 1, 150), (8, 1, 151), (9, 1, 152), (10, 1, 153)]), 11, 48, (.agg [(.int .u64 0), (.int .u64 0), (.int .u32 0), (.int .u8 0), (.int .u8 0), (.int .u8 0), (.int .u8 0), .undef, .undef, (.int .i32 0), (.int .i32 0)])⟩ := rfl
theorem eqs46 : eqsL.contains 46 = true := rfl
theorem eqs64 : eqsL.contains 64 = true := rfl
theorem eqs78 : eqsL.contains 78 = true := rfl
def dr2 : List (Nat × (Nat × List (List Nat))) := []
def dd2 : List (Nat × List Nat) := [(0, [0])]
theorem drOk2 : drAll dr2 (Try.f2.body.getD .skip) = true := by kernel_rfl
def dr3 : List (Nat × (Nat × List (List Nat))) := [(12, (20, []))]
def dd3 : List (Nat × List Nat) := [(0, [10]), (1, [23]), (3, [25, 26]), (4, [27, 28, 29, 30, 31, 32, 33, 34, 35]), (5, [36, 37, 38, 39, 40, 41, 42]), (6, [43, 44, 45, 46, 47, 48, 49]), (7, [2, 50, 51, 52, 53, 54, 55, 56, 57]), (8, [58, 59, 60, 61, 62, 63, 64, 65, 66, 67]), (9, [12, 14, 16, 18, 68, 69, 70, 71, 72, 73, 74, 75, 76, 77, 78, 79, 80, 81, 82, 83, 84, 85, 86, 87, 88, 89, 90, 91, 92, 93, 94, 95, 96, 97, 98, 99, 100, 101, 102, 103, 104]), (11, [3, 106, 107, 108, 109]), (12, [4, 110, 111, 112, 113, 114, 115, 116, 117, 118, 119, 120, 121, 122, 123, 124, 125]), (13, [0, 1, 11, 13, 15, 17, 19, 20, 21, 22, 126, 127, 128, 129, 130, 131, 132, 133, 134, 135, 136, 137, 138, 139, 140, 141, 142, 143, 144, 145, 146, 147, 148, 149, 150, 151, 152, 153, 154, 155, 156, 157, 158, 159, 160, 161, 162, 163, 164, 165, 166, 167, 168, 169, 170, 171, 172, 173, 174, 175, 176, 177])]
theorem drOk3 : drAll dr3 (Try.f3.body.getD .skip) = true := by kernel_rfl
def dr4 : List (Nat × (Nat × List (List Nat))) := []
def dd4 : List (Nat × List Nat) := [(0, [6]), (1, [23]), (3, [25, 26]), (4, [27]), (6, [0, 28, 29, 30, 31]), (8, [36, 37, 38]), (9, [39, 40, 41]), (10, [42, 43, 44, 45, 46, 47, 48]), (11, [14, 49, 50, 51, 52, 53]), (13, [55, 56, 57, 58, 59, 60, 61, 62, 63, 64, 65, 66]), (14, [14, 15, 67, 68, 69, 70, 71, 72, 73]), (16, [10, 12, 75, 76, 77, 78]), (17, [79]), (18, [81, 82, 83, 84, 85, 86, 87, 88]), (19, [89, 90, 91, 92, 93, 94, 95, 96, 97]), (20, [16, 98, 99, 100, 101, 102, 103]), (21, [14, 104]), (23, [11, 13, 106, 107, 108, 109, 110, 111]), (24, [112]), (25, [113, 114, 115, 116, 117]), (26, [118, 119, 120, 121, 122]), (27, [7, 123, 124, 125, 126, 127]), (28, [8, 9, 17, 18, 19, 20, 21, 22, 128, 129, 130, 131, 132, 133, 134, 135, 136, 137, 138, 139, 140, 141, 142, 143, 144, 145, 146, 147, 148, 149, 150, 151, 152, 153, 154, 155])]
theorem drOk4 : drAll dr4 (Try.f4.body.getD .skip) = true := by kernel_rfl
def dr5 : List (Nat × (Nat × List (List Nat))) := []
def dd5 : List (Nat × List Nat) := [(0, [6]), (1, [12, 13, 14, 15, 16, 17, 18]), (2, [19, 20]), (3, [21]), (4, [23, 24]), (5, [25, 26, 27, 28, 29, 30]), (7, [10, 32, 33, 34, 35]), (8, [11, 36]), (10, [38]), (11, [7, 8, 9, 40, 41, 42, 43, 44, 45, 46, 47]), (12, [0, 1, 2, 7, 8, 48, 49, 50, 51, 52, 53, 54, 55, 56, 57])]
theorem drOk5 : drAll dr5 (Try.f5.body.getD .skip) = true := by kernel_rfl
def dr6 : List (Nat × (Nat × List (List Nat))) := [(33, (16, [])), (35, (8, []))]
def dd6 : List (Nat × List Nat) := [(0, [8]), (1, [23, 24, 25, 26, 27, 28, 29]), (2, [30, 31, 32, 33, 34, 35, 36]), (3, [37, 38]), (4, [39, 40, 41, 42, 43, 44, 45, 46, 47]), (6, [49]), (7, [9, 10, 11, 12, 13, 14, 51, 52, 53, 54, 55, 56, 57, 58, 59, 60, 61, 62, 63, 64, 65, 66, 67, 68, 69, 70, 71, 72]), (8, [73, 74, 75, 76, 77]), (9, [9, 10, 11, 79, 80, 81, 82, 83, 84, 85, 86, 87, 88]), (11, [1, 90, 91, 92, 93, 94, 95]), (12, [9, 10, 11, 15, 16, 96, 97, 98, 99, 100, 101, 102, 103, 104, 105, 106, 107]), (14, [109, 110]), (16, [112, 113]), (20, [119, 120, 121]), (21, [122, 123, 124, 125, 126, 127]), (23, [17, 18, 129, 130, 131, 132, 133, 134, 135, 136, 137, 138, 139, 140, 141, 142]), (25, [144]), (26, [145]), (27, [12, 13, 14, 147, 148, 149, 150, 151, 152, 153, 154]), (28, [155, 156, 157, 158]), (29, [0]), (31, [163, 164]), (33, [165, 166, 167, 168, 169, 170, 171, 172, 173, 174, 175, 176, 177, 178, 179]), (34, [181, 182]), (35, [21, 22, 183, 184, 185, 186, 187, 188, 189, 190]), (36, [191]), (37, [12, 13, 19, 192, 193, 194, 195, 196, 197, 198])]
theorem drOk6 : drAll dr6 (Try.f6.body.getD .skip) = true := by kernel_rfl
def dr7 : List (Nat × (Nat × List (List Nat))) := []
def dd7 : List (Nat × List Nat) := [(0, [0]), (1, [5, 6, 7, 8, 9, 10]), (2, [1, 11, 12, 13, 14, 15]), (3, [2, 3, 4, 16, 17, 18, 19, 20, 21, 22, 23, 24, 25])]
theorem drOk7 : drAll dr7 (Try.f7.body.getD .skip) = true := by kernel_rfl
def dr8 : List (Nat × (Nat × List (List Nat))) := []
def dd8 : List (Nat × List Nat) := [(0, [4]), (1, [0, 1, 5, 6, 7, 8, 9, 10])]
theorem drOk8 : drAll dr8 (Try.f8.body.getD .skip) = true := by kernel_rfl
def dr9 : List (Nat × (Nat × List (List Nat))) := []
def dd9 : List (Nat × List Nat) := [(0, [0, 1, 2, 6, 7]), (1, [9, 10, 11, 12]), (2, [13]), (3, [8, 15]), (4, [3, 4, 5, 16, 17, 18])]
theorem drOk9 : drAll dr9 (Try.f9.body.getD .skip) = true := by kernel_rfl
def dr10 : List (Nat × (Nat × List (List Nat))) := []
def dd10 : List (Nat × List Nat) := [(0, [0, 1, 2, 6, 7]), (1, [10, 11, 12, 13]), (2, [14]), (3, [8, 16]), (4, [17, 18, 19, 20, 21]), (5, [3, 4, 5, 9, 22, 23, 24])]
theorem drOk10 : drAll dr10 (Try.f10.body.getD .skip) = true := by kernel_rfl
def dr11 : List (Nat × (Nat × List (List Nat))) := []
def dd11 : List (Nat × List Nat) := [(0, [8, 9]), (1, [14, 15, 16, 17]), (2, [18]), (3, [10, 20]), (4, [21, 22, 23, 24, 25]), (6, [0, 27]), (8, [28]), (9, [30, 31]), (10, [32, 33, 34, 35, 36, 37, 38, 39, 40, 41]), (11, [42, 43, 44, 45, 46]), (12, [47, 48, 49, 50]), (13, [13, 51, 52, 53]), (14, [12, 54])]
theorem drOk11 : drAll dr11 (Try.f11.body.getD .skip) = true := by kernel_rfl
def dr12 : List (Nat × (Nat × List (List Nat))) := []
def dd12 : List (Nat × List Nat) := [(0, [8, 9]), (1, [17, 18, 19]), (2, [20]), (3, [10, 22]), (4, [23, 24, 25, 26, 27]), (6, [29, 30]), (10, [3]), (12, [36, 37]), (13, [38, 39, 40, 41, 42]), (15, [15, 44, 45, 46]), (16, [47, 48, 49, 50, 51, 52, 53, 54, 55]), (17, [12, 56, 57, 58, 59, 60, 61]), (18, [16, 62]), (19, [63]), (20, [13, 64])]
theorem drOk12 : drAll dr12 (Try.f12.body.getD .skip) = true := by kernel_rfl
def dr13 : List (Nat × (Nat × List (List Nat))) := [(9, (10, [[], [0], [0, 1], [0], [0, 1, 2, 3], [0, 1, 2, 3, 4], [0, 1, 2, 3], [0], [1, 2, 4, 5], []]))]
def dd13 : List (Nat × List Nat) := [(0, [4]), (1, [9]), (2, [11]), (3, [1, 12, 13, 14, 15, 16, 17, 18, 19, 20]), (4, [5, 21, 22, 23, 24, 25]), (5, [27]), (6, [6, 28, 29, 30]), (7, [0, 31, 32, 33]), (8, [34, 35, 36]), (9, [38, 39, 40, 41, 42, 43, 44, 45, 46]), (10, [7, 47])]
theorem drOk13 : drAll dr13 (Try.f13.body.getD .skip) = true := by kernel_rfl
def dr14 : List (Nat × (Nat × List (List Nat))) := []
def dd14 : List (Nat × List Nat) := [(0, [2]), (2, [0]), (4, [10, 11]), (5, [5, 12, 13, 14]), (6, [15]), (7, [3, 16])]
theorem drOk14 : drAll dr14 (Try.f14.body.getD .skip) = true := by kernel_rfl
def dr15 : List (Nat × (Nat × List (List Nat))) := []
def dd15 : List (Nat × List Nat) := [(1, [1, 2, 3, 4, 5, 6, 7, 8])]
theorem drOk15 : drAll dr15 (Try.f15.body.getD .skip) = true := by kernel_rfl
def dr16 : List (Nat × (Nat × List (List Nat))) := []
def dd16 : List (Nat × List Nat) := [(0, [6, 7, 8]), (1, [11, 12, 13, 14]), (2, [15]), (3, [9, 17]), (4, [1, 2, 18, 19, 20, 21, 22, 23]), (5, [0, 10, 24, 25, 26, 27])]
theorem drOk16 : drAll dr16 (Try.f16.body.getD .skip) = true := by kernel_rfl
def dr17 : List (Nat × (Nat × List (List Nat))) := [(10, (3, []))]
def dd17 : List (Nat × List Nat) := [(0, [0, 1, 4, 5]), (1, [17, 18, 19, 20, 21]), (2, [23, 24]), (3, [7, 25]), (4, [27, 28, 29]), (6, [31, 32]), (9, [33]), (10, [35, 36]), (11, [37, 38, 39]), (12, [40, 41, 42]), (13, [43]), (16, [48, 49, 50]), (17, [13, 51, 52, 53, 54, 55, 56, 57, 58, 59, 60, 61, 62]), (18, [12, 63, 64, 65, 66, 67, 68]), (19, [69]), (20, [2, 3, 6, 70, 71, 72]), (21, [10, 11, 73, 74]), (23, [79, 80]), (24, [15, 81, 82, 83, 84, 85, 86]), (25, [87]), (26, [88]), (28, [92]), (29, [16, 93, 94, 95, 96, 97, 98, 99]), (30, [100]), (31, [9, 101])]
theorem drOk17 : drAll dr17 (Try.f17.body.getD .skip) = true := by kernel_rfl
def dr18 : List (Nat × (Nat × List (List Nat))) := []
def dd18 : List (Nat × List Nat) := [(1, [0, 1, 2, 3, 4, 11, 12, 13, 14, 15, 16, 17, 18, 19, 20, 21, 22])]
theorem drOk18 : drAll dr18 (Try.f18.body.getD .skip) = true := by kernel_rfl
def dr19 : List (Nat × (Nat × List (List Nat))) := [(9, (7, []))]
def dd19 : List (Nat × List Nat) := [(0, [0, 1, 5]), (1, [12, 13]), (2, [14]), (3, [6, 16, 17]), (4, [18, 19]), (5, [20]), (6, [7, 22, 23]), (7, [24, 25, 26, 27]), (8, [28]), (9, [3, 8, 30, 31, 32, 33, 34, 35]), (10, [2, 37, 38]), (11, [39]), (12, [41, 42, 43, 44]), (13, [45]), (14, [47, 48, 49, 50, 51]), (15, [52]), (16, [54, 55, 56, 57]), (17, [58]), (18, [2, 59, 60]), (19, [61, 62, 63, 64]), (20, [11, 65, 66, 67, 68, 69, 70, 71]), (21, [3, 10, 72, 73, 74, 75, 76, 77, 78]), (22, [9, 79])]
theorem drOk19 : drAll dr19 (Try.f19.body.getD .skip) = true := by kernel_rfl
def dr20 : List (Nat × (Nat × List (List Nat))) := []
def dd20 : List (Nat × List Nat) := [(0, [0, 6, 7]), (1, [9, 10]), (2, [11]), (3, [8, 13]), (4, [14, 15, 16, 17]), (6, [19, 20]), (8, [1, 2, 3, 22, 23, 24, 25])]
theorem drOk20 : drAll dr20 (Try.f20.body.getD .skip) = true := by kernel_rfl
def dr21 : List (Nat × (Nat × List (List Nat))) := []
def dd21 : List (Nat × List Nat) := [(0, [0, 6, 7]), (1, [10, 11, 12]), (2, [13]), (3, [8, 15]), (4, [16, 17, 18, 19, 20, 21, 22]), (6, [1, 2, 3, 24, 25, 26, 27]), (7, [9, 28, 29, 30, 31, 32, 33])]
theorem drOk21 : drAll dr21 (Try.f21.body.getD .skip) = true := by kernel_rfl
def dr22 : List (Nat × (Nat × List (List Nat))) := [(18, (12, [])), (19, (29, []))]
def dd22 : List (Nat × List Nat) := [(0, [6, 7]), (1, [18, 19]), (2, [20]), (3, [8, 22]), (4, [23, 24]), (5, [25]), (6, [9, 27]), (7, [28, 29, 30, 31, 32]), (9, [34, 35, 36, 37]), (10, [38, 39, 40]), (11, [41, 42]), (12, [43]), (14, [48, 49]), (17, [54, 55]), (18, [56, 57, 58, 59, 60, 61, 62, 63, 64, 65, 66]), (19, [17, 67, 68, 69, 70, 71, 72, 73, 74, 75, 76, 77, 78, 79, 80, 81, 82, 83, 84, 85, 86, 87, 88, 89, 90, 91, 92, 93, 94]), (20, [14, 16, 96, 97, 98, 99, 100, 101, 102]), (21, [103]), (22, [104]), (23, [10, 105])]
theorem drOk22 : drAll dr22 (Try.f22.body.getD .skip) = true := by kernel_rfl
def dr23 : List (Nat × (Nat × List (List Nat))) := []
def dd23 : List (Nat × List Nat) := [(0, [2]), (1, [5, 6]), (3, [0]), (5, [12, 13]), (6, [4, 14, 15, 16, 17, 18, 19, 20, 21, 22]), (8, [24])]
theorem drOk23 : drAll dr23 (Try.f23.body.getD .skip) = true := by kernel_rfl
def dr24 : List (Nat × (Nat × List (List Nat))) := []
def dd24 : List (Nat × List Nat) := [(0, [2]), (1, [0, 3, 4])]
theorem drOk24 : drAll dr24 (Try.f24.body.getD .skip) = true := by kernel_rfl
def dr25 : List (Nat × (Nat × List (List Nat))) := [(6, (9, []))]
def dd25 : List (Nat × List Nat) := [(0, [4]), (1, [6, 7, 8, 9]), (3, [11]), (5, [15]), (6, [5, 16, 17, 18, 19, 20, 21, 22, 23]), (8, [25])]
theorem drOk25 : drAll dr25 (Try.f25.body.getD .skip) = true := by kernel_rfl
def dr26 : List (Nat × (Nat × List (List Nat))) := [(14, (27, []))]
def dd26 : List (Nat × List Nat) := [(0, [6]), (1, [14, 15, 16]), (2, [17]), (4, [21]), (5, [8, 22, 23, 24]), (6, [25]), (7, [26, 27]), (8, [28]), (10, [33, 34]), (13, [39, 40, 41]), (14, [42, 43, 44, 45, 46, 47, 48, 49, 50, 51, 52, 53, 54, 55, 56, 57, 58, 59, 60, 61, 62, 63, 64, 65, 66, 67]), (15, [11, 13, 69, 70, 71, 72]), (16, [12, 73, 74, 75, 76, 77]), (17, [78]), (18, [79]), (19, [7, 80])]
theorem drOk26 : drAll dr26 (Try.f26.body.getD .skip) = true := by kernel_rfl
def dr27 : List (Nat × (Nat × List (List Nat))) := []
def dd27 : List (Nat × List Nat) := [(0, [4, 5, 6]), (1, [11, 12]), (2, [13]), (3, [7, 15]), (4, [16, 17, 18, 19, 20]), (6, [0, 22, 23]), (7, [24, 25]), (8, [26]), (10, [30]), (11, [31, 32, 33, 34, 35, 36, 37]), (12, [9, 38, 39, 40, 41, 42, 43, 44, 45, 46]), (13, [10, 47, 48, 49]), (14, [50]), (15, [51, 52]), (16, [1, 8, 53, 54])]
theorem drOk27 : drAll dr27 (Try.f27.body.getD .skip) = true := by kernel_rfl
def dr28 : List (Nat × (Nat × List (List Nat))) := [(21, (8, []))]
def dd28 : List (Nat × List Nat) := [(0, [6, 7]), (1, [16, 17]), (2, [18]), (3, [8, 20]), (4, [21, 22]), (6, [24, 25]), (10, [31, 32, 33]), (11, [34, 35, 36, 37, 38]), (13, [9, 10, 40, 41, 42, 43, 44, 45, 46, 47, 48, 49]), (15, [51]), (16, [52, 53, 54, 55]), (17, [0]), (19, [60, 61]), (20, [15, 62, 63, 64, 65, 66, 67, 68, 69, 70, 71]), (21, [13, 14, 72, 73, 74, 75, 76, 77, 78, 79]), (22, [80]), (23, [11, 81])]
theorem drOk28 : drAll dr28 (Try.f28.body.getD .skip) = true := by kernel_rfl
def dr29 : List (Nat × (Nat × List (List Nat))) := []
def dd29 : List (Nat × List Nat) := [(0, [2]), (1, [5, 6]), (3, [0]), (5, [12, 13]), (6, [4, 14, 15, 16, 17, 18, 19, 20, 21, 22, 23, 24, 25, 26]), (8, [28])]
theorem drOk29 : drAll dr29 (Try.f29.body.getD .skip) = true := by kernel_rfl
def dr30 : List (Nat × (Nat × List (List Nat))) := []
def dd30 : List (Nat × List Nat) := [(0, [4, 5]), (3, [11]), (5, [16, 17]), (6, [9, 18, 19, 20, 21]), (7, [22, 23, 24, 25]), (8, [26, 27]), (9, [29, 30, 31, 32, 33, 34, 35]), (10, [10, 36, 37, 38, 39]), (11, [40]), (12, [1, 6, 7, 41, 42, 43, 44, 45])]
theorem drOk30 : drAll dr30 (Try.f30.body.getD .skip) = true := by kernel_rfl
def dr31 : List (Nat × (Nat × List (List Nat))) := [(6, (9, []))]
def dd31 : List (Nat × List Nat) := [(0, [4]), (1, [6, 7, 8, 9]), (3, [11]), (5, [15]), (6, [5, 16, 17, 18, 19, 20, 21, 22, 23]), (8, [25])]
theorem drOk31 : drAll dr31 (Try.f31.body.getD .skip) = true := by kernel_rfl
def dr32 : List (Nat × (Nat × List (List Nat))) := []
def dd32 : List (Nat × List Nat) := [(0, [6]), (1, [0, 1, 2, 7, 8, 9, 10, 11, 12, 13, 14, 15, 16, 17, 18, 19, 20, 21, 22, 23, 24, 25, 26, 27, 28])]
theorem drOk32 : drAll dr32 (Try.f32.body.getD .skip) = true := by kernel_rfl
def dr33 : List (Nat × (Nat × List (List Nat))) := []
def dd33 : List (Nat × List Nat) := [(0, [4]), (1, [0, 7, 8]), (2, [9]), (4, [13]), (5, [6, 14, 15, 16, 17, 18, 19, 20, 21, 22, 23, 24]), (6, [25]), (7, [5, 26])]
theorem drOk33 : drAll dr33 (Try.f33.body.getD .skip) = true := by kernel_rfl
def dr34 : List (Nat × (Nat × List (List Nat))) := []
def dd34 : List (Nat × List Nat) := [(0, [5]), (1, [0, 1, 2, 3, 6, 7, 8, 9, 10, 11, 12])]
theorem drOk34 : drAll dr34 (Try.f34.body.getD .skip) = true := by kernel_rfl
def dr35 : List (Nat × (Nat × List (List Nat))) := [(1, (8, []))]
def dd35 : List (Nat × List Nat) := [(0, [6]), (1, [10, 11, 12, 13, 14, 15]), (2, [16]), (3, [18, 19, 20, 21, 22]), (5, [2]), (6, [25]), (7, [8, 26, 27]), (8, [29]), (9, [0, 1, 8, 30, 31, 32, 33, 34, 35, 36, 37, 38, 39, 40, 41, 42, 43]), (10, [23, 45]), (11, [1, 8, 46, 47, 48, 49, 50, 51, 52, 53, 54, 55, 56, 57, 58, 59, 60]), (12, [9]), (13, [62, 63]), (14, [7, 64])]
theorem drOk35 : drAll dr35 (Try.f35.body.getD .skip) = true := by kernel_rfl
def dr36 : List (Nat × (Nat × List (List Nat))) := []
def dd36 : List (Nat × List Nat) := [(0, [6]), (1, [0, 1, 2, 3, 4, 7, 8, 9, 10, 11, 12, 13, 14, 15, 16, 17, 18, 19, 20, 21])]
theorem drOk36 : drAll dr36 (Try.f36.body.getD .skip) = true := by kernel_rfl
def dr37 : List (Nat × (Nat × List (List Nat))) := []
def dd37 : List (Nat × List Nat) := [(0, [4, 5]), (1, [0, 1, 10, 11, 12, 13, 14, 15, 16, 17]), (2, [6, 7, 18, 19, 20, 21]), (3, [0, 1, 22, 23, 24, 25, 26, 27]), (4, [8, 9, 28, 29])]
theorem drOk37 : drAll dr37 (Try.f37.body.getD .skip) = true := by kernel_rfl
def dr38 : List (Nat × (Nat × List (List Nat))) := []
def dd38 : List (Nat × List Nat) := [(0, [6]), (1, [0, 1, 2, 7, 8, 9, 10, 11, 12, 13, 14, 15, 16, 17, 18, 19, 20, 21, 22, 23, 24])]
theorem drOk38 : drAll dr38 (Try.f38.body.getD .skip) = true := by kernel_rfl
def dr39 : List (Nat × (Nat × List (List Nat))) := []
def dd39 : List (Nat × List Nat) := [(0, [2, 3]), (1, [7, 8]), (4, [0]), (6, [14, 15]), (7, [16, 17, 18, 19, 20]), (9, [6, 22, 23, 24]), (10, [25]), (11, [4, 26])]
theorem drOk39 : drAll dr39 (Try.f39.body.getD .skip) = true := by kernel_rfl
def dr40 : List (Nat × (Nat × List (List Nat))) := []
def dd40 : List (Nat × List Nat) := [(0, [2]), (1, [0, 3, 4, 5, 6, 7, 8])]
theorem drOk40 : drAll dr40 (Try.f40.body.getD .skip) = true := by kernel_rfl
def dr41 : List (Nat × (Nat × List (List Nat))) := []
def dd41 : List (Nat × List Nat) := [(0, [0, 1, 4, 5, 6, 7, 8])]
theorem drOk41 : drAll dr41 (Try.f41.body.getD .skip) = true := by kernel_rfl
def dr42 : List (Nat × (Nat × List (List Nat))) := [(1, (18, []))]
def dd42 : List (Nat × List Nat) := [(0, [7]), (1, [0, 1, 2, 3, 4, 8, 9, 10, 11, 12, 13, 14, 15, 16, 17, 18, 19, 20, 21, 22, 23, 24])]
theorem drOk42 : drAll dr42 (Try.f42.body.getD .skip) = true := by kernel_rfl
def dr43 : List (Nat × (Nat × List (List Nat))) := []
def dd43 : List (Nat × List Nat) := [(0, [2]), (1, [0, 3, 4, 5])]
theorem drOk43 : drAll dr43 (Try.f43.body.getD .skip) = true := by kernel_rfl
def dr44 : List (Nat × (Nat × List (List Nat))) := [(20, (13, []))]
def dd44 : List (Nat × List Nat) := [(0, [0, 2]), (1, [8, 9, 10]), (2, [11]), (3, [3, 13]), (4, [14, 15, 16, 17, 18, 19, 20]), (6, [22, 23, 24]), (8, [26]), (9, [27]), (11, [32, 33, 34]), (12, [35, 36]), (13, [37]), (14, [7, 39]), (15, [40, 41, 42]), (17, [44, 45, 46]), (19, [48, 49, 50]), (20, [5, 6, 51, 52, 53, 54, 55, 56, 57, 58, 59, 60, 61, 62]), (22, [64])]
theorem drOk44 : drAll dr44 (Try.f44.body.getD .skip) = true := by kernel_rfl
def dr45 : List (Nat × (Nat × List (List Nat))) := []
def dd45 : List (Nat × List Nat) := [(0, [0, 2]), (1, [3, 4, 5]), (3, [7, 8, 9]), (5, [1, 11, 12, 13])]
theorem drOk45 : drAll dr45 (Try.f45.body.getD .skip) = true := by kernel_rfl
def dr46 : List (Nat × (Nat × List (List Nat))) := []
def dd46 : List (Nat × List Nat) := [(0, [0, 1, 4]), (1, [2, 3, 5, 6, 7, 8])]
theorem drOk46 : drAll dr46 (Try.f46.body.getD .skip) = true := by kernel_rfl
def dr47 : List (Nat × (Nat × List (List Nat))) := []
def dd47 : List (Nat × List Nat) := [(0, [0, 1, 4]), (1, [2, 3, 5, 6, 7, 8, 9, 10, 11, 12, 13, 14, 15, 16, 17, 18, 19, 20, 21, 22, 23])]
theorem drOk47 : drAll dr47 (Try.f47.body.getD .skip) = true := by kernel_rfl
def dr48 : List (Nat × (Nat × List (List Nat))) := [(1, (7, []))]
def dd48 : List (Nat × List Nat) := [(0, [0]), (1, [6, 7, 8, 9, 10, 11]), (2, [1, 12]), (4, [17, 18]), (5, [19, 20, 21, 22]), (6, [5, 23, 24, 25, 26, 27, 28]), (7, [29]), (8, [3, 30])]
theorem drOk48 : drAll dr48 (Try.f48.body.getD .skip) = true := by kernel_rfl
def dr49 : List (Nat × (Nat × List (List Nat))) := []
def dd49 : List (Nat × List Nat) := [(0, [0, 1, 4]), (1, [2, 3, 5, 6, 7, 8, 9])]
theorem drOk49 : drAll dr49 (Try.f49.body.getD .skip) = true := by kernel_rfl
def dr50 : List (Nat × (Nat × List (List Nat))) := []
def dd50 : List (Nat × List Nat) := [(0, [2]), (1, [3]), (3, [0, 5, 6, 7])]
theorem drOk50 : drAll dr50 (Try.f50.body.getD .skip) = true := by kernel_rfl
def dr51 : List (Nat × (Nat × List (List Nat))) := [(5, (8, [])), (8, (16, []))]
def dd51 : List (Nat × List Nat) := [(0, [1, 6, 7]), (1, [12, 13]), (2, [14]), (3, [15, 16]), (4, [18, 19, 20, 21, 22, 23]), (5, [24, 25, 26, 27, 28, 29, 30]), (6, [11, 32, 33]), (7, [11, 34]), (8, [0, 2, 4, 8, 9, 35, 36, 37, 38, 39, 40, 41, 42, 43, 44, 45, 46, 47, 48])]
theorem drOk51 : drAll dr51 (Try.f51.body.getD .skip) = true := by kernel_rfl
def dr52 : List (Nat × (Nat × List (List Nat))) := []
def dd52 : List (Nat × List Nat) := [(0, [0, 1, 4]), (1, [5, 6, 7, 8]), (2, [2, 3, 10, 11, 12, 13, 14]), (3, [2, 3, 15, 16, 17, 18, 19])]
theorem drOk52 : drAll dr52 (Try.f52.body.getD .skip) = true := by kernel_rfl
def dr53 : List (Nat × (Nat × List (List Nat))) := [(11, (8, [])), (15, (8, []))]
def dd53 : List (Nat × List Nat) := [(0, [6]), (1, [10, 11, 12]), (2, [13, 14]), (3, [15]), (4, [0, 17]), (5, [18, 19]), (6, [20, 21]), (7, [0, 2, 23, 24, 25]), (8, [26, 27, 28, 29, 30]), (9, [8, 32, 33, 34, 35, 36, 37, 38, 39, 40]), (10, [2, 41, 42, 43, 44, 45]), (11, [0, 1, 7, 46, 47, 48, 49, 50, 51, 52, 53, 54]), (12, [9, 55]), (13, [56, 57, 58, 59, 60]), (14, [61, 62, 63, 64, 65, 66, 67]), (15, [7, 69, 70, 71, 72, 73, 74, 75, 76, 77]), (16, [1, 2, 78, 79, 80, 81, 82]), (17, [0, 83]), (18, [2, 8, 84, 85, 86, 87, 88]), (19, [1, 7, 89, 90, 91, 92, 93]), (20, [0, 94])]
theorem drOk53 : drAll dr53 (Try.f53.body.getD .skip) = true := by kernel_rfl
def dr54 : List (Nat × (Nat × List (List Nat))) := []
def dd54 : List (Nat × List Nat) := [(0, [1, 4]), (1, [0, 3, 5, 6, 7])]
theorem drOk54 : drAll dr54 (Try.f54.body.getD .skip) = true := by kernel_rfl
def dr55 : List (Nat × (Nat × List (List Nat))) := []
def dd55 : List (Nat × List Nat) := [(0, [2]), (1, [0, 3, 4, 5, 6, 7, 8])]
theorem drOk55 : drAll dr55 (Try.f55.body.getD .skip) = true := by kernel_rfl
def dr56 : List (Nat × (Nat × List (List Nat))) := []
def dd56 : List (Nat × List Nat) := [(0, [0, 8]), (2, [4, 14]), (4, [19, 20]), (5, [21, 22, 23, 24, 25, 26, 27, 28, 29]), (6, [11, 31]), (8, [36, 37]), (9, [38, 39, 40]), (10, [13, 42, 43, 44, 45]), (11, [46]), (12, [47]), (13, [9, 48])]
theorem drOk56 : drAll dr56 (Try.f56.body.getD .skip) = true := by kernel_rfl
def dr57 : List (Nat × (Nat × List (List Nat))) := []
def dd57 : List (Nat × List Nat) := [(0, [0, 4]), (1, [2, 6, 7]), (2, [8]), (3, [5, 10]), (4, [1, 11, 12])]
theorem drOk57 : drAll dr57 (Try.f57.body.getD .skip) = true := by kernel_rfl
def dr58 : List (Nat × (Nat × List (List Nat))) := [(5, (12, []))]
def dd58 : List (Nat × List Nat) := [(0, [0]), (2, [10]), (4, [15, 16]), (5, [9, 17, 18, 19, 20, 21, 22, 23, 24, 25, 26, 27, 28]), (6, [29]), (7, [7, 30])]
theorem drOk58 : drAll dr58 (Try.f58.body.getD .skip) = true := by kernel_rfl
def dr59 : List (Nat × (Nat × List (List Nat))) := []
def dd59 : List (Nat × List Nat) := [(0, [0, 2]), (1, [5, 6, 7]), (2, [8]), (4, [12]), (5, [4, 13, 14, 15, 16]), (6, [17]), (7, [1, 18, 19, 20]), (8, [3, 21])]
theorem drOk59 : drAll dr59 (Try.f59.body.getD .skip) = true := by kernel_rfl
def dr60 : List (Nat × (Nat × List (List Nat))) := []
def dd60 : List (Nat × List Nat) := [(0, [6]), (1, [0, 1, 2, 7, 8, 9, 10, 11, 12, 13, 14])]
theorem drOk60 : drAll dr60 (Try.f60.body.getD .skip) = true := by kernel_rfl
def dr61 : List (Nat × (Nat × List (List Nat))) := [(6, (19, []))]
def dd61 : List (Nat × List Nat) := [(0, [2]), (2, [6]), (4, [10]), (5, [11, 12]), (6, [13, 14, 15, 16, 17, 18, 19, 20, 21, 22, 23, 24, 25, 26, 27, 28, 29, 30]), (7, [32, 33]), (8, [4, 5, 34, 35, 36, 37, 38]), (9, [39]), (10, [3, 40])]
theorem drOk61 : drAll dr61 (Try.f61.body.getD .skip) = true := by kernel_rfl
def dr62 : List (Nat × (Nat × List (List Nat))) := []
def dd62 : List (Nat × List Nat) := [(0, [2]), (1, [0, 3, 4, 5, 6])]
theorem drOk62 : drAll dr62 (Try.f62.body.getD .skip) = true := by kernel_rfl
def dr63 : List (Nat × (Nat × List (List Nat))) := [(5, (6, []))]
def dd63 : List (Nat × List Nat) := [(0, [6]), (1, [8, 9, 10, 11, 12, 13]), (2, [14, 15]), (3, [0, 17]), (4, [18, 19]), (5, [1, 2, 20, 21, 22, 23, 24, 25, 26]), (6, [7, 27, 28, 29, 30, 31]), (7, [0, 32])]
theorem drOk63 : drAll dr63 (Try.f63.body.getD .skip) = true := by kernel_rfl
def dr64 : List (Nat × (Nat × List (List Nat))) := []
def dd64 : List (Nat × List Nat) := [(0, [2]), (1, [3]), (3, [0, 5, 6, 7])]
theorem drOk64 : drAll dr64 (Try.f64.body.getD .skip) = true := by kernel_rfl
def dr65 : List (Nat × (Nat × List (List Nat))) := []
def dd65 : List (Nat × List Nat) := [(0, [0, 1, 4, 5, 6, 7, 8])]
theorem drOk65 : drAll dr65 (Try.f65.body.getD .skip) = true := by kernel_rfl
def dr66 : List (Nat × (Nat × List (List Nat))) := []
def dd66 : List (Nat × List Nat) := [(0, [0, 1, 4]), (1, [2, 3, 5, 6, 7, 8, 9])]
theorem drOk66 : drAll dr66 (Try.f66.body.getD .skip) = true := by kernel_rfl
def dr67 : List (Nat × (Nat × List (List Nat))) := []
def dd67 : List (Nat × List Nat) := [(0, [4]), (1, [8, 9, 10]), (2, [11]), (3, [0, 13]), (4, [14, 15]), (5, [16, 17, 18]), (6, [20, 21]), (7, [22, 23, 24, 25]), (8, [26, 27, 28]), (9, [7, 30, 31, 32, 33]), (10, [34, 35]), (11, [36, 37, 38]), (12, [0, 5, 39, 40, 41])]
theorem drOk67 : drAll dr67 (Try.f67.body.getD .skip) = true := by kernel_rfl
def dr68 : List (Nat × (Nat × List (List Nat))) := []
def dd68 : List (Nat × List Nat) := [(0, [0, 2]), (1, [1, 3, 4, 5])]
theorem drOk68 : drAll dr68 (Try.f68.body.getD .skip) = true := by kernel_rfl
def dr69 : List (Nat × (Nat × List (List Nat))) := []
def dd69 : List (Nat × List Nat) := [(0, [4, 5]), (1, [10, 11]), (2, [12]), (3, [13, 14]), (4, [16, 17, 18, 19, 20, 21]), (5, [22, 23, 24, 25, 26]), (6, [9, 28, 29]), (7, [9, 30]), (8, [0, 1, 6, 7, 31, 32, 33, 34, 35, 36, 37, 38, 39, 40, 41, 42, 43, 44, 45, 46, 47, 48, 49, 50, 51, 52, 53])]
theorem drOk69 : drAll dr69 (Try.f69.body.getD .skip) = true := by kernel_rfl
def dr70 : List (Nat × (Nat × List (List Nat))) := []
def dd70 : List (Nat × List Nat) := [(0, [4, 5]), (1, [0, 1, 7, 8, 9, 10, 11]), (2, [6, 12, 13, 14, 15, 16])]
theorem drOk70 : drAll dr70 (Try.f70.body.getD .skip) = true := by kernel_rfl
def dr71 : List (Nat × (Nat × List (List Nat))) := []
def dd71 : List (Nat × List Nat) := [(0, [4, 5]), (1, [14, 15]), (2, [16, 17]), (3, [18, 19]), (4, [20, 21]), (5, [22, 23, 24]), (6, [8, 10, 25, 26, 27, 28, 29, 30]), (7, [31, 32]), (8, [11, 33, 34]), (9, [6, 35, 36, 37, 38, 39]), (10, [7, 9, 12, 13, 40, 41, 42, 43, 44, 45, 46, 47]), (11, [0, 1, 48, 49, 50])]
theorem drOk71 : drAll dr71 (Try.f71.body.getD .skip) = true := by kernel_rfl
def dr72 : List (Nat × (Nat × List (List Nat))) := []
def dd72 : List (Nat × List Nat) := [(1, [10]), (2, [11, 12]), (3, [7, 14, 15, 16, 17, 18]), (4, [19]), (5, [20, 21, 22]), (6, [7, 23, 24, 25, 26, 27]), (7, [28, 29]), (8, [31, 32]), (9, [33, 34]), (10, [7, 36, 37, 38, 39, 40, 41, 42, 43]), (11, [44]), (12, [45, 46, 47, 48]), (13, [49, 50, 51]), (14, [52, 53]), (15, [7, 9, 55, 56, 57, 58, 59, 60]), (16, [61, 62])]
theorem drOk72 : drAll dr72 (Try.f72.body.getD .skip) = true := by kernel_rfl
def dr73 : List (Nat × (Nat × List (List Nat))) := []
def dd73 : List (Nat × List Nat) := [(0, [2]), (1, [3]), (2, [0, 5, 6, 7, 8]), (3, [9]), (4, [0, 11, 12, 13, 14]), (5, [0, 15, 16, 17, 18, 19, 20, 21])]
theorem drOk73 : drAll dr73 (Try.f73.body.getD .skip) = true := by kernel_rfl
def dr74 : List (Nat × (Nat × List (List Nat))) := [(10, (13, []))]
def dd74 : List (Nat × List Nat) := [(0, [2]), (1, [5, 6]), (5, [12, 13, 14]), (6, [15, 16, 17]), (8, [19, 20, 21, 22, 23, 24, 25]), (10, [3, 4, 27, 28, 29, 30, 31, 32, 33, 34, 35, 36, 37, 38]), (12, [40])]
theorem drOk74 : drAll dr74 (Try.f74.body.getD .skip) = true := by kernel_rfl
def dr75 : List (Nat × (Nat × List (List Nat))) := []
def dd75 : List (Nat × List Nat) := [(0, [2]), (1, [5, 6, 7, 8, 9, 10]), (3, [12]), (5, [16]), (6, [3, 17, 18, 19]), (7, [4, 20, 21, 22, 23, 24, 25, 26, 27, 28, 29, 30, 31, 32, 33, 34, 35, 36, 37]), (9, [39])]
theorem drOk75 : drAll dr75 (Try.f75.body.getD .skip) = true := by kernel_rfl
def dr76 : List (Nat × (Nat × List (List Nat))) := []
def dd76 : List (Nat × List Nat) := [(0, [2]), (1, [6, 7]), (6, [13, 14, 15]), (7, [16, 17, 18]), (9, [20, 21, 22, 23, 24, 25, 26, 27]), (11, [4, 29, 30, 31, 32]), (13, [5, 34, 35, 36, 37]), (14, [38]), (15, [0, 3, 39, 40, 41, 42, 43, 44])]
theorem drOk76 : drAll dr76 (Try.f76.body.getD .skip) = true := by kernel_rfl
def dr77 : List (Nat × (Nat × List (List Nat))) := []
def dd77 : List (Nat × List Nat) := [(0, [4]), (1, [6]), (3, [10]), (4, [11, 12, 13, 14, 15]), (5, [5, 17]), (6, [18])]
theorem drOk77 : drAll dr77 (Try.f77.body.getD .skip) = true := by kernel_rfl
def dr78 : List (Nat × (Nat × List (List Nat))) := []
def dd78 : List (Nat × List Nat) := [(0, [0, 3]), (1, [1, 2, 4, 5, 6, 7])]
theorem drOk78 : drAll dr78 (Try.f78.body.getD .skip) = true := by kernel_rfl
def dr79 : List (Nat × (Nat × List (List Nat))) := [(6, (9, []))]
def dd79 : List (Nat × List Nat) := [(0, [4]), (1, [6, 7, 8, 9]), (3, [11]), (5, [15]), (6, [5, 16, 17, 18, 19, 20, 21, 22, 23]), (8, [25])]
theorem drOk79 : drAll dr79 (Try.f79.body.getD .skip) = true := by kernel_rfl
def dr80 : List (Nat × (Nat × List (List Nat))) := []
def dd80 : List (Nat × List Nat) := [(0, [2]), (1, [3]), (3, [0, 5, 6, 7])]
theorem drOk80 : drAll dr80 (Try.f80.body.getD .skip) = true := by kernel_rfl
def dr81 : List (Nat × (Nat × List (List Nat))) := []
def dd81 : List (Nat × List Nat) := [(0, [4]), (1, [0, 1, 5, 6, 7, 8])]
theorem drOk81 : drAll dr81 (Try.f81.body.getD .skip) = true := by kernel_rfl
def dr82 : List (Nat × (Nat × List (List Nat))) := []
def dd82 : List (Nat × List Nat) := [(0, [0, 3]), (1, [1, 2, 4, 5, 6, 7, 8, 9])]
theorem drOk82 : drAll dr82 (Try.f82.body.getD .skip) = true := by kernel_rfl
def dr83 : List (Nat × (Nat × List (List Nat))) := []
def dd83 : List (Nat × List Nat) := [(0, [4]), (1, [0, 1, 5, 6, 7])]
theorem drOk83 : drAll dr83 (Try.f83.body.getD .skip) = true := by kernel_rfl
def dr85 : List (Nat × (Nat × List (List Nat))) := []
def dd85 : List (Nat × List Nat) := [(0, [0, 1, 4, 5, 6, 7, 8, 9])]
theorem drOk85 : drAll dr85 (Try.f85.body.getD .skip) = true := by kernel_rfl
def dr86 : List (Nat × (Nat × List (List Nat))) := []
def dd86 : List (Nat × List Nat) := [(0, [4]), (1, [6]), (3, [10]), (4, [11, 12, 13, 14, 15]), (5, [5, 17]), (6, [18])]
theorem drOk86 : drAll dr86 (Try.f86.body.getD .skip) = true := by kernel_rfl
def dr87 : List (Nat × (Nat × List (List Nat))) := []
def dd87 : List (Nat × List Nat) := [(0, [0, 3]), (1, [1, 2, 4, 5, 6, 7])]
theorem drOk87 : drAll dr87 (Try.f87.body.getD .skip) = true := by kernel_rfl
def dr88 : List (Nat × (Nat × List (List Nat))) := [(1, (12, []))]
def dd88 : List (Nat × List Nat) := [(0, [5]), (1, [0, 1, 2, 6, 7, 8, 9, 10, 11, 12, 13, 14, 15, 16])]
theorem drOk88 : drAll dr88 (Try.f88.body.getD .skip) = true := by kernel_rfl
def dr89 : List (Nat × (Nat × List (List Nat))) := [(11, (8, [])), (15, (8, []))]
def dd89 : List (Nat × List Nat) := [(0, [6]), (1, [10, 11, 12]), (2, [13, 14]), (3, [15]), (4, [0, 17]), (5, [18, 19]), (6, [20, 21]), (7, [0, 2, 23, 24, 25]), (8, [26, 27, 28, 29, 30]), (9, [8, 32, 33, 34, 35, 36, 37, 38, 39, 40]), (10, [2, 41, 42, 43, 44, 45]), (11, [0, 1, 7, 46, 47, 48, 49, 50, 51, 52, 53, 54]), (12, [9, 55]), (13, [56, 57, 58, 59, 60]), (14, [61, 62, 63, 64, 65, 66, 67]), (15, [7, 69, 70, 71, 72, 73, 74, 75, 76, 77]), (16, [1, 2, 78, 79, 80, 81, 82]), (17, [0, 83]), (18, [2, 8, 84, 85, 86, 87, 88]), (19, [1, 7, 89, 90, 91, 92, 93]), (20, [0, 94])]
theorem drOk89 : drAll dr89 (Try.f89.body.getD .skip) = true := by kernel_rfl
def dr90 : List (Nat × (Nat × List (List Nat))) := []
def dd90 : List (Nat × List Nat) := [(1, [10]), (2, [11, 12]), (3, [7, 14, 15, 16, 17, 18]), (4, [19]), (5, [20, 21, 22]), (6, [7, 23, 24, 25, 26, 27]), (7, [28, 29]), (8, [31, 32]), (9, [33, 34]), (10, [7, 36, 37, 38, 39, 40, 41, 42, 43]), (11, [44]), (12, [45, 46, 47, 48]), (13, [49, 50, 51]), (14, [52, 53]), (15, [7, 9, 55, 56, 57, 58, 59, 60]), (16, [61, 62])]
theorem drOk90 : drAll dr90 (Try.f90.body.getD .skip) = true := by kernel_rfl
def dr91 : List (Nat × (Nat × List (List Nat))) := []
def dd91 : List (Nat × List Nat) := [(0, [4]), (1, [6]), (3, [10]), (4, [11, 12, 13, 14, 15]), (5, [5, 17]), (6, [18])]
theorem drOk91 : drAll dr91 (Try.f91.body.getD .skip) = true := by kernel_rfl
def dr92 : List (Nat × (Nat × List (List Nat))) := []
def dd92 : List (Nat × List Nat) := [(0, [4]), (1, [0, 1, 5, 6, 7, 8, 9, 10, 11, 12, 13, 14, 15, 16])]
theorem drOk92 : drAll dr92 (Try.f92.body.getD .skip) = true := by kernel_rfl
def dr93 : List (Nat × (Nat × List (List Nat))) := []
def dd93 : List (Nat × List Nat) := [(0, [2]), (1, [0, 3, 4, 5])]
theorem drOk93 : drAll dr93 (Try.f93.body.getD .skip) = true := by kernel_rfl
def dr94 : List (Nat × (Nat × List (List Nat))) := [(4, (17, [])), (6, (18, [[], [0], [0, 1], [0, 1, 2], [0, 1, 2], [0, 1, 2, 3, 4], [0, 1, 2, 3, 4, 5], [0, 1, 2, 3, 4, 5], [0, 1, 2, 3, 4], [0, 1, 2, 3, 4, 6], [0, 1, 2, 3, 4, 5, 6, 7, 8, 9], [0, 1, 2, 3, 4, 5, 6, 7, 8, 9, 10], [0, 1, 2, 3, 4, 5, 6, 7, 8, 9], [0, 1, 2, 3, 4, 5, 6, 7, 8, 9], [2, 3, 4, 10, 11], [2, 3, 4, 10, 11], [], []]))]
def dd94 : List (Nat × List Nat) := [(0, [10, 11]), (1, [12, 13]), (2, [15, 16]), (3, [17]), (4, [18, 19, 20, 21, 22, 23, 24, 25, 26, 27, 28, 29, 30, 31, 32, 33]), (5, [35, 36]), (6, [37, 38, 39, 40, 41, 42, 43, 44, 45, 46, 47, 48, 49, 50, 51, 52])]
theorem drOk94 : drAll dr94 (Try.f94.body.getD .skip) = true := by kernel_rfl
def dr95 : List (Nat × (Nat × List (List Nat))) := [(5, (11, [])), (11, (18, [[], [0], [0, 1], [0, 1, 2], [0, 1, 2], [0, 1, 2, 3, 4], [0, 1, 2, 3, 4, 5], [0, 1, 2, 3, 4, 5], [0, 1, 2, 3, 4], [0, 1, 2, 3, 4, 6], [0, 1, 2, 3, 4, 5, 6, 7, 8, 9], [0, 1, 2, 3, 4, 5, 6, 7, 8, 9, 10], [0, 1, 2, 3, 4, 5, 6, 7, 8, 9], [0, 1, 2, 3, 4, 5, 6, 7, 8, 9], [2, 3, 4, 10, 11], [2, 3, 4, 10, 11], [], []])), (17, (12, [])), (23, (18, [[], [0], [0, 1], [0, 1, 2], [0, 1, 2], [0, 1, 2, 3, 4], [0, 1, 2, 3, 4, 5], [0, 1, 2, 3, 4, 5], [0, 1, 2, 3, 4], [0, 1, 2, 3, 4, 6], [0, 1, 2, 3, 4, 5, 6, 7, 8, 9], [0, 1, 2, 3, 4, 5, 6, 7, 8, 9, 10], [0, 1, 2, 3, 4, 5, 6, 7, 8, 9], [0, 1, 2, 3, 4, 5, 6, 7, 8, 9], [2, 3, 4, 10, 11], [2, 3, 4, 10, 11], [], []])), (35, (14, []))]
def dd95 : List (Nat × List Nat) := [(0, [25, 26, 27]), (1, [2, 29]), (2, [3, 30]), (3, [31, 32]), (4, [34, 35, 36, 37, 38, 39]), (5, [40, 41, 42, 43, 44, 45, 46, 47, 48, 49]), (6, [12, 51, 52]), (7, [12, 53]), (8, [1, 54]), (9, [55, 56, 57]), (10, [59, 60]), (11, [61, 62, 63, 64, 65, 66, 67, 68, 69, 70, 71, 72, 73, 74, 75, 76]), (12, [77, 78, 79]), (13, [1, 81]), (14, [82]), (15, [83, 84]), (16, [86, 87, 88, 89, 90, 91]), (17, [92, 93, 94, 95, 96, 97, 98, 99, 100, 101, 102]), (18, [16, 104, 105]), (19, [16, 106]), (20, [2, 107]), (21, [108, 109]), (22, [111, 112]), (23, [113, 114, 115, 116, 117, 118, 119, 120, 121, 122, 123, 124, 125, 126, 127, 128]), (24, [129, 130, 131, 132, 133, 134]), (25, [135, 136, 137]), (26, [20, 21]), (27, [138, 139]), (28, [141, 142, 143]), (29, [144]), (30, [145]), (31, [146]), (32, [147, 148]), (33, [149, 150]), (34, [152, 153, 154, 155, 156, 157]), (35, [158, 159, 160, 161, 162, 163, 164, 165, 166, 167, 168, 169, 170]), (36, [23, 172, 173]), (37, [23, 174]), (38, [19, 175, 176, 177]), (39, [178, 179, 180, 181, 182, 183, 184]), (40, [2, 186, 187, 188, 189, 190, 191]), (41, [192, 193, 194, 195, 196, 197, 198]), (42, [1, 20, 200, 201, 202, 203, 204, 205]), (43, [206, 207, 208, 209, 210, 211, 212]), (44, [0, 3, 4, 18, 24, 214, 215, 216, 217, 218, 219])]
theorem drOk95 : drAll dr95 (Try.f95.body.getD .skip) = true := by kernel_rfl
def dr96 : List (Nat × (Nat × List (List Nat))) := []
def dd96 : List (Nat × List Nat) := [(0, [2]), (1, [4, 5, 6, 7, 8, 9]), (3, [11]), (5, [15]), (6, [3, 16, 17, 18, 19, 20, 21, 22, 23, 24]), (8, [26])]
theorem drOk96 : drAll dr96 (Try.f96.body.getD .skip) = true := by kernel_rfl
def dr97 : List (Nat × (Nat × List (List Nat))) := []
def dd97 : List (Nat × List Nat) := [(0, [0, 3]), (1, [1, 2, 4, 5, 6, 7, 8])]
theorem drOk97 : drAll dr97 (Try.f97.body.getD .skip) = true := by kernel_rfl
def dr98 : List (Nat × (Nat × List (List Nat))) := []
def dd98 : List (Nat × List Nat) := [(0, [4]), (1, [6]), (3, [10]), (4, [11, 12, 13, 14, 15]), (5, [5, 17]), (6, [18])]
theorem drOk98 : drAll dr98 (Try.f98.body.getD .skip) = true := by kernel_rfl
def dr99 : List (Nat × (Nat × List (List Nat))) := []
def dd99 : List (Nat × List Nat) := [(0, [4]), (1, [0, 1, 5, 6, 7])]
theorem drOk99 : drAll dr99 (Try.f99.body.getD .skip) = true := by kernel_rfl
def dr100 : List (Nat × (Nat × List (List Nat))) := []
def dd100 : List (Nat × List Nat) := [(0, [4, 5, 6, 7]), (1, [1, 8, 9, 10, 11]), (2, [0, 12, 13])]
theorem drOk100 : drAll dr100 (Try.f100.body.getD .skip) = true := by kernel_rfl
def dr102 : List (Nat × (Nat × List (List Nat))) := []
def dd102 : List (Nat × List Nat) := [(0, [0, 1, 4, 5, 6, 7, 8, 9])]
theorem drOk102 : drAll dr102 (Try.f102.body.getD .skip) = true := by kernel_rfl
def dr103 : List (Nat × (Nat × List (List Nat))) := [(4, (17, [])), (6, (18, [[], [0], [0, 1], [0, 1, 2], [0, 1, 2], [0, 1, 2, 3, 4], [0, 1, 2, 3, 4, 5], [0, 1, 2, 3, 4, 5], [0, 1, 2, 3, 4], [0, 1, 2, 3, 4, 6], [0, 1, 2, 3, 4, 5, 6, 7, 8, 9], [0, 1, 2, 3, 4, 5, 6, 7, 8, 9, 10], [0, 1, 2, 3, 4, 5, 6, 7, 8, 9], [0, 1, 2, 3, 4, 5, 6, 7, 8, 9], [2, 3, 4, 10, 11], [2, 3, 4, 10, 11], [], []]))]
def dd103 : List (Nat × List Nat) := [(0, [10, 11]), (1, [12, 13]), (2, [15, 16]), (3, [17]), (4, [18, 19, 20, 21, 22, 23, 24, 25, 26, 27, 28, 29, 30, 31, 32, 33]), (5, [35, 36]), (6, [37, 38, 39, 40, 41, 42, 43, 44, 45, 46, 47, 48, 49, 50, 51, 52])]
theorem drOk103 : drAll dr103 (Try.f103.body.getD .skip) = true := by kernel_rfl
def dr104 : List (Nat × (Nat × List (List Nat))) := [(5, (11, [])), (11, (18, [[], [0], [0, 1], [0, 1, 2], [0, 1, 2], [0, 1, 2, 3, 4], [0, 1, 2, 3, 4, 5], [0, 1, 2, 3, 4, 5], [0, 1, 2, 3, 4], [0, 1, 2, 3, 4, 6], [0, 1, 2, 3, 4, 5, 6, 7, 8, 9], [0, 1, 2, 3, 4, 5, 6, 7, 8, 9, 10], [0, 1, 2, 3, 4, 5, 6, 7, 8, 9], [0, 1, 2, 3, 4, 5, 6, 7, 8, 9], [2, 3, 4, 10, 11], [2, 3, 4, 10, 11], [], []])), (17, (12, [])), (23, (18, [[], [0], [0, 1], [0, 1, 2], [0, 1, 2], [0, 1, 2, 3, 4], [0, 1, 2, 3, 4, 5], [0, 1, 2, 3, 4, 5], [0, 1, 2, 3, 4], [0, 1, 2, 3, 4, 6], [0, 1, 2, 3, 4, 5, 6, 7, 8, 9], [0, 1, 2, 3, 4, 5, 6, 7, 8, 9, 10], [0, 1, 2, 3, 4, 5, 6, 7, 8, 9], [0, 1, 2, 3, 4, 5, 6, 7, 8, 9], [2, 3, 4, 10, 11], [2, 3, 4, 10, 11], [], []])), (35, (14, []))]
def dd104 : List (Nat × List Nat) := [(0, [25, 26, 27]), (1, [2, 29]), (2, [3, 30]), (3, [31, 32]), (4, [34, 35, 36, 37, 38, 39]), (5, [40, 41, 42, 43, 44, 45, 46, 47, 48, 49]), (6, [12, 51, 52]), (7, [12, 53]), (8, [1, 54]), (9, [55, 56, 57]), (10, [59, 60]), (11, [61, 62, 63, 64, 65, 66, 67, 68, 69, 70, 71, 72, 73, 74, 75, 76]), (12, [77, 78, 79]), (13, [1, 81]), (14, [82]), (15, [83, 84]), (16, [86, 87, 88, 89, 90, 91]), (17, [92, 93, 94, 95, 96, 97, 98, 99, 100, 101, 102]), (18, [16, 104, 105]), (19, [16, 106]), (20, [2, 107]), (21, [108, 109]), (22, [111, 112]), (23, [113, 114, 115, 116, 117, 118, 119, 120, 121, 122, 123, 124, 125, 126, 127, 128]), (24, [129, 130, 131, 132, 133, 134]), (25, [135, 136, 137]), (26, [20, 21]), (27, [138, 139]), (28, [141, 142, 143]), (29, [144]), (30, [145]), (31, [146]), (32, [147, 148]), (33, [149, 150]), (34, [152, 153, 154, 155, 156, 157]), (35, [158, 159, 160, 161, 162, 163, 164, 165, 166, 167, 168, 169, 170]), (36, [23, 172, 173]), (37, [23, 174]), (38, [19, 175, 176, 177]), (39, [178, 179, 180, 181, 182, 183, 184]), (40, [2, 186, 187, 188, 189, 190, 191]), (41, [192, 193, 194, 195, 196, 197, 198]), (42, [1, 20, 200, 201, 202, 203, 204, 205]), (43, [206, 207, 208, 209, 210, 211, 212]), (44, [0, 3, 4, 18, 24, 214, 215, 216, 217, 218, 219])]
theorem drOk104 : drAll dr104 (Try.f104.body.getD .skip) = true := by kernel_rfl
def dr105 : List (Nat × (Nat × List (List Nat))) := []
def dd105 : List (Nat × List Nat) := [(0, [2]), (1, [0, 3, 4, 5])]
theorem drOk105 : drAll dr105 (Try.f105.body.getD .skip) = true := by kernel_rfl
def dr106 : List (Nat × (Nat × List (List Nat))) := []
def dd106 : List (Nat × List Nat) := [(0, [1, 12, 13, 14]), (1, [3, 15, 16, 17]), (2, [18, 19]), (3, [21, 22]), (4, [24, 25, 26, 27, 28, 29, 30, 31]), (5, [32, 33, 34]), (6, [35, 36, 37, 38, 39, 40, 41, 42, 43, 44, 45, 46]), (7, [47, 48, 49]), (8, [0, 2, 4, 10, 50, 51, 52, 53, 54, 55, 56, 57])]
theorem drOk106 : drAll dr106 (Try.f106.body.getD .skip) = true := by kernel_rfl
def dr108 : List (Nat × (Nat × List (List Nat))) := [(3, (16, [[], [0], [0, 1], [0, 1, 2], [0, 1, 2, 3], [0, 1, 2, 3, 4], [0, 1, 2, 3], [0, 1, 2, 3], [0, 1, 2, 3, 4, 5, 6, 7], [0, 1, 2, 3, 4, 5, 6, 7, 8], [0, 1, 2, 3, 4, 5, 6, 7], [0, 1, 2, 3, 4, 5, 6, 7], [2, 3, 8, 9], [2, 3, 8, 9], [], []]))]
def dd108 : List (Nat × List Nat) := [(0, [4, 5, 6]), (1, [7, 8]), (2, [10, 11, 12, 13]), (3, [14, 15, 16, 17, 18, 19, 20, 21, 22, 23, 24, 25, 26, 27])]
theorem drOk108 : drAll dr108 (Try.f108.body.getD .skip) = true := by kernel_rfl
def dr109 : List (Nat × (Nat × List (List Nat))) := []
def dd109 : List (Nat × List Nat) := [(0, [4, 5, 6, 7]), (1, [1, 8, 9, 10, 11]), (2, [0, 12, 13])]
theorem drOk109 : drAll dr109 (Try.f109.body.getD .skip) = true := by kernel_rfl
def dr110 : List (Nat × (Nat × List (List Nat))) := []
def dd110 : List (Nat × List Nat) := [(0, [1, 12, 13, 14]), (1, [3, 15, 16, 17]), (2, [18, 19]), (3, [21, 22]), (4, [24, 25, 26, 27, 28, 29, 30, 31]), (5, [32, 33, 34]), (6, [35, 36, 37, 38, 39, 40, 41, 42, 43, 44, 45, 46]), (7, [47, 48, 49]), (8, [0, 2, 4, 10, 50, 51, 52, 53, 54, 55, 56, 57])]
theorem drOk110 : drAll dr110 (Try.f110.body.getD .skip) = true := by kernel_rfl
def dr111 : List (Nat × (Nat × List (List Nat))) := [(3, (24, [[], [0], [0, 1], [0], [0, 1, 2, 3], [0, 1, 2, 3, 4], [0, 1, 2, 3, 4, 5], [0, 1, 2, 3, 4], [0, 1, 2, 3, 4, 5, 6, 7], [0, 1, 2, 3, 4, 5, 6, 7, 8], [0, 1, 2, 3, 4, 5, 6, 7, 8, 9], [0, 1, 2, 3, 4, 5, 6, 7, 8], [0, 1, 2, 3, 4, 5, 6, 7], [0, 1, 2, 3, 4, 5, 6, 7, 9, 10], [0, 1, 2, 3, 4, 5, 6, 7, 8, 9, 10, 11, 12, 13], [0, 1, 2, 3, 4, 5, 6, 7, 8, 9, 10, 11, 12, 13, 14], [0, 1, 2, 3, 4, 5, 6, 7, 8, 9, 10, 11, 12, 13, 14, 15], [0, 1, 2, 3, 4, 5, 6, 7, 8, 9, 10, 11, 12, 13, 14], [0, 1, 2, 3, 4, 5, 6, 7, 8, 9, 10, 11, 12, 13], [0, 1, 2, 3, 4, 5, 6, 7, 8, 9, 10, 11, 12, 13, 15, 16], [4, 5, 6, 7, 14, 15, 16, 17], [4, 5, 6, 7, 14, 15, 16, 17], [], []]))]
def dd111 : List (Nat × List Nat) := [(1, [11, 12]), (2, [14, 15]), (3, [16, 17, 18, 19, 20, 21, 22, 23, 24, 25, 26, 27, 28, 29, 30, 31, 32, 33, 34, 35, 36, 37])]
theorem drOk111 : drAll dr111 (Try.f111.body.getD .skip) = true := by kernel_rfl
def dr112 : List (Nat × (Nat × List (List Nat))) := [(3, (16, [[], [0], [0, 1], [0, 1, 2], [0, 1, 2, 3], [0, 1, 2, 3, 4], [0, 1, 2, 3], [0, 1, 2, 3], [0, 1, 2, 3, 4, 5, 6, 7], [0, 1, 2, 3, 4, 5, 6, 7, 8], [0, 1, 2, 3, 4, 5, 6, 7], [0, 1, 2, 3, 4, 5, 6, 7], [2, 3, 8, 9], [2, 3, 8, 9], [], []]))]
def dd112 : List (Nat × List Nat) := [(0, [4, 5, 6]), (1, [7, 8]), (2, [10, 11, 12, 13]), (3, [14, 15, 16, 17, 18, 19, 20, 21, 22, 23, 24, 25, 26, 27])]
theorem drOk112 : drAll dr112 (Try.f112.body.getD .skip) = true := by kernel_rfl
def dr113 : List (Nat × (Nat × List (List Nat))) := [(3, (24, [[], [0], [0, 1], [0], [0, 1, 2, 3], [0, 1, 2, 3, 4], [0, 1, 2, 3, 4, 5], [0, 1, 2, 3, 4], [0, 1, 2, 3, 4, 5, 6, 7], [0, 1, 2, 3, 4, 5, 6, 7, 8], [0, 1, 2, 3, 4, 5, 6, 7, 8, 9], [0, 1, 2, 3, 4, 5, 6, 7, 8], [0, 1, 2, 3, 4, 5, 6, 7], [0, 1, 2, 3, 4, 5, 6, 7, 9, 10], [0, 1, 2, 3, 4, 5, 6, 7, 8, 9, 10, 11, 12, 13], [0, 1, 2, 3, 4, 5, 6, 7, 8, 9, 10, 11, 12, 13, 14], [0, 1, 2, 3, 4, 5, 6, 7, 8, 9, 10, 11, 12, 13, 14, 15], [0, 1, 2, 3, 4, 5, 6, 7, 8, 9, 10, 11, 12, 13, 14], [0, 1, 2, 3, 4, 5, 6, 7, 8, 9, 10, 11, 12, 13], [0, 1, 2, 3, 4, 5, 6, 7, 8, 9, 10, 11, 12, 13, 15, 16], [4, 5, 6, 7, 14, 15, 16, 17], [4, 5, 6, 7, 14, 15, 16, 17], [], []]))]
def dd113 : List (Nat × List Nat) := [(1, [11, 12]), (2, [14, 15]), (3, [16, 17, 18, 19, 20, 21, 22, 23, 24, 25, 26, 27, 28, 29, 30, 31, 32, 33, 34, 35, 36, 37])]
theorem drOk113 : drAll dr113 (Try.f113.body.getD .skip) = true := by kernel_rfl
/-- what the machine runs in: the callees' answers, the variables that begin as nil and are rows of one's own, what becomes data where -/
def mkX (Φ : FuncId → List V → Option (V × List Blk)) (nv : Nat → Option (TypeId × Nat)) (fz : Nat → List Nat) (dr : List (Nat × (Nat × List (List Nat)))) (dd : List (Nat × List Nat)) (lam : Lam) : Ctx := ⟨tyF, Φ, nv, fz, fun i => (Ev.look i dd).getD [], dr, eqsL, fun g => Ev.look g lam⟩
section
variable (Φ : FuncId → List V → Option (V × List Blk)) (nv : Nat → Option (TypeId × Nat)) (fz : Nat → List Nat) (dr : List (Nat × (Nat × List (List Nat)))) (dd : List (Nat × List Nat)) (lam : Lam)
theorem mkX_T : (mkX Φ nv fz dr dd lam).T = tyF := rfl
theorem mkX_Φ : (mkX Φ nv fz dr dd lam).Φ = Φ := rfl
theorem mkX_n : (mkX Φ nv fz dr dd lam).nilv = nv := rfl
theorem mkX_f : (mkX Φ nv fz dr dd lam).frz = fz := rfl
theorem mkX_d (i : Nat) : (mkX Φ nv fz dr dd lam).dead i = (Ev.look i dd).getD [] := rfl
theorem mkX_r : (mkX Φ nv fz dr dd lam).dr = dr := rfl
theorem mkX_L (g : FuncId) : (mkX Φ nv fz dr dd lam).Λ g = Ev.look g lam := rfl
theorem mkX_e : (mkX Φ nv fz dr dd lam).eqs = eqsL := rfl
theorem tyOk : TOkX Try.prog (mkX Φ nv fz dr dd lam) := ⟨TOk_of tabAll, fun t ht => List.all_eq_true.1 eqsOk t ht⟩
end
def nv0 : Nat → Option (TypeId × Nat) := fun _ => none
def fz0 : Nat → List Nat := fun _ => []
theorem mapO_nil {α β : Type} (f : α → Option β) : ([] : List α).mapM f = some [] := rfl
theorem mapO_cons {α β : Type} (f : α → Option β) (a : α) (l : List α) : (a :: l).mapM f = (f a).bind fun y => (l.mapM f).bind fun ys => some (y :: ys) := by rw [List.mapM_cons]; rfl
theorem beqT (b : Bool) : (b == true) = b := by cases b <;> rfl
theorem beqF (b : Bool) : (b == false) = !b := by cases b <;> rfl
def nvL (l : List (Nat × (TypeId × Nat))) : Nat → Option (TypeId × Nat) := fun i => Ev.look i l
theorem nvL_at (l : List (Nat × (TypeId × Nat))) (i : Nat) : nvL l i = Ev.look i l := rfl
def fzL (l : List (Nat × List Nat)) : Nat → List Nat := fun i => (Ev.look i l).getD []
theorem fzL_at (l : List (Nat × List Nat)) (i : Nat) : fzL l i = (Ev.look i l).getD [] := rfl
theorem maxLen_eq : maxLen = 9223372036854775807 := rfl
theorem leT {a b : Nat} (h : a ≤ b) : (a ≤ b) = True := by simp [h]
theorem plainI (k : IntKind) (l : List Int) : ((l.map (V.int k)).all fun v => V.plain v && V.data v) = true := by
  rw [List.all_eq_true]
  intro v hv
  obtain ⟨n, _, rfl⟩ := List.mem_map.1 hv
  rfl
theorem bin_eql_vz (b : Nat) : binV .eql (.vec b) .zero = none := rfl
theorem bin_eql_zv (b : Nat) : binV .eql .zero (.vec b) = none := rfl
theorem bin_eql_rz (z : Nat) (es : List V) : binV .eql (.row z es) .zero = none := rfl
theorem bin_eql_zr (z : Nat) (es : List V) : binV .eql .zero (.row z es) = none := rfl
theorem bin_eql_zz : binV .eql .zero .zero = none := rfl
theorem bin_neq_vz (b : Nat) : binV .neq (.vec b) .zero = none := rfl
theorem bin_neq_zv (b : Nat) : binV .neq .zero (.vec b) = none := rfl
theorem bin_neq_rz (z : Nat) (es : List V) : binV .neq (.row z es) .zero = none := rfl
theorem bin_neq_zr (z : Nat) (es : List V) : binV .neq .zero (.row z es) = none := rfl
theorem bin_neq_zz : binV .neq .zero .zero = none := rfl
theorem nv0_at (i : Nat) : nv0 i = none := rfl
theorem fz0_at (i : Nat) : fz0 i = [] := rfl
/-- a function of this seat, run by the machine -/
theorem evFn {J : World → Prop} {l : Phi} (hl : PhiOk Try.prog J l) (hJ : Stable J) {nv : Nat → Option (TypeId × Nat)} {fz : Nat → List Nat} {dr : List (Nat × (Nat × List (List Nat)))} {dd : List (Nat × List Nat)} {lam : Lam} (hlam : LamOk Try.prog J lam) {f : FuncId} {fn : Func} {args : List V} {r : V} {bs : List Blk}
    (hf : Try.prog.funcs[f]? = some fn) (hname : (fn.name == "runtime.NumGoroutine") = false) (hb : fn.body.isSome = true) (hn : args.length ≤ fn.ntmps) (hsm : fn.ntmps ≤ 100000) (hdr : drAll dr (fn.body.getD .skip) = true)
    (h : ev (mkX (phi l) nv fz dr dd lam) fn.ntmps (fn.body.getD .skip) (St.init args) (post (mkX (phi l) nv fz dr dd lam) fn.results.toList r bs)) : SoundAt Try.prog J f args r bs :=
  sound_fn (X := mkX (phi l) nv fz dr dd lam) mixOk (tyOk _ _ _ _ _ _) (lam_sound hlam) (phi_sound hl) hJ hf hname (by cases hc : fn.body <;> simp_all) hn hsm hdr h
/-- a function of this seat that is lent a row, run by the machine -/
theorem evLend {J : World → Prop} {l : Phi} (hl : PhiOk Try.prog J l) (hJ : Stable J) {nv : Nat → Option (TypeId × Nat)} {fz : Nat → List Nat} {dr : List (Nat × (Nat × List (List Nat)))} {dd : List (Nat × List Nat)} {lam : Lam} (hlam : LamOk Try.prog J lam) {f : FuncId} {fn : Func} {T : TypeId} {sz : Nat} {es xs es' : List V}
    (hf : Try.prog.funcs[f]? = some fn) (hname : (fn.name == "runtime.NumGoroutine") = false) (hb : fn.body.isSome = true) (hn : xs.length + 1 ≤ fn.ntmps) (hsm : fn.ntmps ≤ 100000) (hdr : drAll dr (fn.body.getD .skip) = true) (hres : fn.results = #[]) (hpl : ∀ e ∈ es', V.plain e = true)
    (h : ev (mkX (phi l) nv fz dr dd lam) fn.ntmps (fn.body.getD .skip) (St.lent T sz es xs) (postL T sz es')) : LendAt Try.prog J f T sz es xs es' :=
  sound_lend (X := mkX (phi l) nv fz dr dd lam) mixOk (tyOk _ _ _ _ _ _) (lam_sound hlam) (phi_sound hl) hJ hf hname (by cases hc : fn.body <;> simp_all) hn hsm hdr hres hpl h
/-- a function of this seat that takes a row and gives it back, run by the machine -/
theorem evTake {J : World → Prop} {l : Phi} (hl : PhiOk Try.prog J l) (hJ : Stable J) {nv : Nat → Option (TypeId × Nat)} {fz : Nat → List Nat} {dr : List (Nat × (Nat × List (List Nat)))} {dd : List (Nat × List Nat)} {lam : Lam} (hlam : LamOk Try.prog J lam) {f : FuncId} {fn : Func} {T : TypeId} {sz t : Nat} {es xs es' : List V}
    (hf : Try.prog.funcs[f]? = some fn) (hname : (fn.name == "runtime.NumGoroutine") = false) (hb : fn.body.isSome = true) (hn : xs.length + 1 ≤ fn.ntmps) (hsm : fn.ntmps ≤ 100000) (hdr : drAll dr (fn.body.getD .skip) = true) (hres : fn.results = #[.tmp t]) (hrow : xs.all (fun a => !(isRowV a)) = true) (hpl : ∀ e ∈ es', V.plain e = true)
    (h : ev (mkX (phi l) nv fz dr dd lam) fn.ntmps (fn.body.getD .skip) (St.lent T sz es xs) (postT t T sz es')) : TakeAt Try.prog J f T sz es xs es' :=
  sound_take (X := mkX (phi l) nv fz dr dd lam) mixOk (tyOk _ _ _ _ _ _) (lam_sound hlam) (phi_sound hl) hJ hf hname (by cases hc : fn.body <;> simp_all) hn hsm hdr hres hrow hpl h
/-- what has a body is called -/
theorem callOk {f : FuncId} {fn : Func} (hf : Try.prog.funcs[f]? = some fn) (hname : (fn.name == "runtime.NumGoroutine") = false) (hb : fn.body.isNone = false) : Callable Try.prog f := ⟨fn, hf, hname, hb⟩
def J0 : World → Prop := fun _ => True
theorem stable0 : Stable J0 := fun _ _ _ _ => trivial
end Go.Proofs.Ytdjdipehfnnhpaa
