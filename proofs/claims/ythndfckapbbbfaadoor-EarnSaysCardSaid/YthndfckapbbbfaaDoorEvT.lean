/-
  The seat's types as the machine reads them, and the regions that draw their order (written by a program).
-/
import Derived.Test.YthndfckapbbbfaaDoorEw
import Derived.Test.YthndfckapbbbfaaDoorProg
import Derived.KernelRfl
namespace Go.Proofs.YthndfckapbbbfaaDoor
open Go Go.Ev
def tab : List (TypeId × TI) := [
  (2, ⟨(.int .i64), 1, 8, (.int .i64 0)⟩),
  (3, ⟨(.int .i64), 1, 8, (.int .i64 0)⟩),
  (4, ⟨.bool, 1, 1, (.bool false)⟩),
  (5, ⟨(.int .u8), 1, 1, (.int .u8 0)⟩),
  (6, ⟨(.int .u8), 1, 1, (.int .u8 0)⟩),
  (7, ⟨(.struct [(0, 1, 2), (1, 1, 3), (2, 1, 4), (3, 1, 6)]), 4, 24, (.agg [(.int .i64 0), (.int .i64 0), (.bool false), (.int .u8 0)])⟩),
  (8, ⟨(.struct [(0, 1, 2), (1, 1, 3), (2, 1, 4), (3, 1, 6)]), 4, 24, (.agg [(.int .i64 0), (.int .i64 0), (.bool false), (.int .u8 0)])⟩),
  (9, ⟨.str, 1, 16, (.str ByteArray.empty)⟩),
  (10, ⟨.str, 1, 16, (.str ByteArray.empty)⟩),
  (11, ⟨.str, 1, 16, (.str ByteArray.empty)⟩),
  (12, ⟨(.int .u64), 1, 8, (.int .u64 0)⟩),
  (13, ⟨(.struct [(0, 1, 9), (1, 1, 12)]), 2, 24, (.agg [(.str ByteArray.empty), (.int .u64 0)])⟩),
  (14, ⟨(.struct [(0, 1, 9), (1, 1, 12)]), 2, 24, (.agg [(.str ByteArray.empty), (.int .u64 0)])⟩),
  (18, ⟨(.struct [(0, 1, 17)]), 1, 8, (.agg [.undef])⟩),
  (19, ⟨(.struct [(0, 1, 17)]), 1, 8, (.agg [.undef])⟩),
  (21, ⟨(.int .i32), 1, 4, (.int .i32 0)⟩),
  (22, ⟨(.struct [(0, 1, 3), (1, 1, 3)]), 2, 16, (.agg [(.int .i64 0), (.int .i64 0)])⟩),
  (23, ⟨(.struct [(0, 1, 3), (1, 1, 3)]), 2, 16, (.agg [(.int .i64 0), (.int .i64 0)])⟩),
  (24, ⟨(.int .i64), 1, 8, (.int .i64 0)⟩),
  (30, ⟨(.struct [(0, 1, 3), (1, 1, 3), (2, 1, 3)]), 3, 24, (.agg [(.int .i64 0), (.int .i64 0), (.int .i64 0)])⟩),
  (31, ⟨(.struct [(0, 1, 3), (1, 1, 3), (2, 1, 3)]), 3, 24, (.agg [(.int .i64 0), (.int .i64 0), (.int .i64 0)])⟩),
  (43, ⟨(.slice 3), 1, 24, .zero⟩),
  (52, ⟨(.array 13 3), 13, 104, (.agg [(.int .i64 0), (.int .i64 0), (.int .i64 0), (.int .i64 0), (.int .i64 0), (.int .i64 0), (.int .i64 0), (.int .i64 0), (.int .i64 0), (.int .i64 0), (.int .i64 0), (.int .i64 0), (.int .i64 0)])⟩),
  (54, ⟨(.struct [(0, 1, 17), (1, 1, 17), (2, 1, 17), (3, 1, 9)]), 4, 40, (.agg [.undef, .undef, .undef, (.str ByteArray.empty)])⟩),
  (55, ⟨(.struct [(0, 1, 17), (1, 1, 17), (2, 1, 17), (3, 1, 9)]), 4, 40, (.agg [.undef, .undef, .undef, (.str ByteArray.empty)])⟩),
  (60, ⟨(.int .u32), 1, 4, (.int .u32 0)⟩),
  (61, ⟨(.int .u8), 1, 1, (.int .u8 0)⟩),
  (62, ⟨(.int .u8), 1, 1, (.int .u8 0)⟩),
  (65, ⟨(.int .i32), 1, 4, (.int .i32 0)⟩),
  (66, ⟨(.int .i32), 1, 4, (.int .i32 0)⟩),
  (67, ⟨(.struct [(0, 1, 12), (1, 1, 12), (2, 1, 60), (3, 1, 61), (4, 1, 5), (5, 1, 5), (6, 1, 62), (7, 1, 63), (8, 1, 64), (9, 1, 65), (10, 1, 66)]), 11, 48, (.agg [(.int .u64 0), (.int .u64 0), (.int .u32 0), (.int .u8 0), (.int .u8 0), (.int .u8 0), (.int .u8 0), .undef, .undef, (.int .i32 0), (.int .i32 0)])⟩),
  (68, ⟨(.struct [(0, 1, 12), (1, 1, 12), (2, 1, 60), (3, 1, 61), (4, 1, 5), (5, 1, 5), (6, 1, 62), (7, 1, 63), (8, 1, 64), (9, 1, 65), (10, 1, 66)]), 11, 48, (.agg [(.int .u64 0), (.int .u64 0), (.int .u32 0), (.int .u8 0), (.int .u8 0), (.int .u8 0), (.int .u8 0), .undef, .undef, (.int .i32 0), (.int .i32 0)])⟩)]
def tyF : TypeId → Option TI := fun t => tab.lookup t
theorem tabAll : (tab.all fun (t, i) => tiOk Tryd.prog t i) = true := by kernel_rfl
def eqsL : List TypeId := [23, 31]
theorem eqsOk : (eqsL.all fun t => eqOkB Tryd.prog t) = true := by kernel_rfl
theorem mixOk : Tryd.prog.follows .mixedOrders = true := by kernel_rfl
theorem ty2 : tyF 2 = some ⟨(.int .i64), 1, 8, (.int .i64 0)⟩ := rfl
theorem ty3 : tyF 3 = some ⟨(.int .i64), 1, 8, (.int .i64 0)⟩ := rfl
theorem ty4 : tyF 4 = some ⟨.bool, 1, 1, (.bool false)⟩ := rfl
theorem ty5 : tyF 5 = some ⟨(.int .u8), 1, 1, (.int .u8 0)⟩ := rfl
theorem ty6 : tyF 6 = some ⟨(.int .u8), 1, 1, (.int .u8 0)⟩ := rfl
theorem ty7 : tyF 7 = some ⟨(.struct [(0, 1, 2), (1, 1, 3), (2, 1, 4), (3, 1, 6)]), 4, 24, (.agg [(.int .i64 0), (.int .i64 0), (.bool false), (.int .u8 0)])⟩ := rfl
theorem ty8 : tyF 8 = some ⟨(.struct [(0, 1, 2), (1, 1, 3), (2, 1, 4), (3, 1, 6)]), 4, 24, (.agg [(.int .i64 0), (.int .i64 0), (.bool false), (.int .u8 0)])⟩ := rfl
theorem ty9 : tyF 9 = some ⟨.str, 1, 16, (.str ByteArray.empty)⟩ := rfl
theorem ty10 : tyF 10 = some ⟨.str, 1, 16, (.str ByteArray.empty)⟩ := rfl
theorem ty11 : tyF 11 = some ⟨.str, 1, 16, (.str ByteArray.empty)⟩ := rfl
theorem ty12 : tyF 12 = some ⟨(.int .u64), 1, 8, (.int .u64 0)⟩ := rfl
theorem ty13 : tyF 13 = some ⟨(.struct [(0, 1, 9), (1, 1, 12)]), 2, 24, (.agg [(.str ByteArray.empty), (.int .u64 0)])⟩ := rfl
theorem ty14 : tyF 14 = some ⟨(.struct [(0, 1, 9), (1, 1, 12)]), 2, 24, (.agg [(.str ByteArray.empty), (.int .u64 0)])⟩ := rfl
theorem ty18 : tyF 18 = some ⟨(.struct [(0, 1, 17)]), 1, 8, (.agg [.undef])⟩ := rfl
theorem ty19 : tyF 19 = some ⟨(.struct [(0, 1, 17)]), 1, 8, (.agg [.undef])⟩ := rfl
theorem ty21 : tyF 21 = some ⟨(.int .i32), 1, 4, (.int .i32 0)⟩ := rfl
theorem ty22 : tyF 22 = some ⟨(.struct [(0, 1, 3), (1, 1, 3)]), 2, 16, (.agg [(.int .i64 0), (.int .i64 0)])⟩ := rfl
theorem ty23 : tyF 23 = some ⟨(.struct [(0, 1, 3), (1, 1, 3)]), 2, 16, (.agg [(.int .i64 0), (.int .i64 0)])⟩ := rfl
theorem ty24 : tyF 24 = some ⟨(.int .i64), 1, 8, (.int .i64 0)⟩ := rfl
theorem ty30 : tyF 30 = some ⟨(.struct [(0, 1, 3), (1, 1, 3), (2, 1, 3)]), 3, 24, (.agg [(.int .i64 0), (.int .i64 0), (.int .i64 0)])⟩ := rfl
theorem ty31 : tyF 31 = some ⟨(.struct [(0, 1, 3), (1, 1, 3), (2, 1, 3)]), 3, 24, (.agg [(.int .i64 0), (.int .i64 0), (.int .i64 0)])⟩ := rfl
theorem ty43 : tyF 43 = some ⟨(.slice 3), 1, 24, .zero⟩ := rfl
theorem ty52 : tyF 52 = some ⟨(.array 13 3), 13, 104, (.agg [(.int .i64 0), (.int .i64 0), (.int .i64 0), (.int .i64 0), (.int .i64 0), (.int .i64 0), (.int .i64 0), (.int .i64 0), (.int .i64 0), (.int .i64 0), (.int .i64 0), (.int .i64 0), (.int .i64 0)])⟩ := rfl
theorem ty54 : tyF 54 = some ⟨(.struct [(0, 1, 17), (1, 1, 17), (2, 1, 17), (3, 1, 9)]), 4, 40, (.agg [.undef, .undef, .undef, (.str ByteArray.empty)])⟩ := rfl
theorem ty55 : tyF 55 = some ⟨(.struct [(0, 1, 17), (1, 1, 17), (2, 1, 17), (3, 1, 9)]), 4, 40, (.agg [.undef, .undef, .undef, (.str ByteArray.empty)])⟩ := rfl
theorem ty60 : tyF 60 = some ⟨(.int .u32), 1, 4, (.int .u32 0)⟩ := rfl
theorem ty61 : tyF 61 = some ⟨(.int .u8), 1, 1, (.int .u8 0)⟩ := rfl
theorem ty62 : tyF 62 = some ⟨(.int .u8), 1, 1, (.int .u8 0)⟩ := rfl
theorem ty65 : tyF 65 = some ⟨(.int .i32), 1, 4, (.int .i32 0)⟩ := rfl
theorem ty66 : tyF 66 = some ⟨(.int .i32), 1, 4, (.int .i32 0)⟩ := rfl
theorem ty67 : tyF 67 = some ⟨(.struct [(0, 1, 12), (1, 1, 12), (2, 1, 60), (3, 1, 61), (4, 1, 5), (5, 1, 5), (6, 1, 62), (7, 1, 63), (8, 1, 64), (9, 1, 65), (10, 1, 66)]), 11, 48, (.agg [(.int .u64 0), (.int .u64 0), (.int .u32 0), (.int .u8 0), (.int .u8 0), (.int .u8 0), (.int .u8 0), .undef, .undef, (.int .i32 0), (.int .i32 0)])⟩ := rfl
theorem ty68 : tyF 68 = some ⟨(.struct [(0, 1, 12), (1, 1, 12), (2, 1, 60), (3, 1, 61), (4, 1, 5), (5, 1, 5), (6, 1, 62), (7, 1, 63), (8, 1, 64), (9, 1, 65), (10, 1, 66)]), 11, 48, (.agg [(.int .u64 0), (.int .u64 0), (.int .u32 0), (.int .u8 0), (.int .u8 0), (.int .u8 0), (.int .u8 0), .undef, .undef, (.int .i32 0), (.int .i32 0)])⟩ := rfl
theorem eqs23 : eqsL.contains 23 = true := rfl
theorem eqs31 : eqsL.contains 31 = true := rfl
def dr2 : List (Nat × Nat) := []
def dd2 : List (Nat × List Nat) := [(0, [0])]
theorem drOk2 : drAll dr2 (Tryd.f2.body.getD .skip) = true := by kernel_rfl
def dr3 : List (Nat × Nat) := []
def dd3 : List (Nat × List Nat) := [(0, [6]), (1, [10, 11, 12, 13, 14, 15, 16]), (2, [17, 18, 19, 20, 21, 22, 23, 24, 25, 26, 27, 28, 29, 30, 31, 32, 33, 34, 35, 36]), (3, [7, 8, 38, 39, 40, 41, 42, 43, 44]), (4, [45, 46, 47, 48]), (5, [49]), (6, [51]), (7, [0, 52]), (8, [1, 2, 54, 55, 56, 57]), (9, [7, 8, 9, 58, 59, 60, 61, 62, 63, 64])]
theorem drOk3 : drAll dr3 (Tryd.f3.body.getD .skip) = true := by kernel_rfl
def dr4 : List (Nat × Nat) := [(15, 21)]
def dd4 : List (Nat × List Nat) := [(0, [0, 4]), (1, [14, 15, 16, 17, 18]), (2, [19, 20, 21, 22, 23]), (3, [24, 25, 26, 27, 28]), (4, [2, 29, 30]), (5, [31]), (6, [5, 6, 33, 34, 35, 36, 37]), (8, [5, 6, 11, 39, 40, 41, 42, 43, 44]), (10, [46, 47]), (11, [7, 8, 9, 10, 49, 50, 51, 52, 53, 54, 55, 56, 57, 58, 59, 60, 61, 62, 63]), (12, [64, 65, 66, 67]), (13, [12, 13, 68, 69, 70, 71, 72]), (15, [1, 7, 8, 9, 10, 74, 75, 76, 77, 78, 79, 80, 81, 82, 83, 84, 85, 86, 87, 88, 89, 90, 91, 92, 93])]
theorem drOk4 : drAll dr4 (Tryd.f4.body.getD .skip) = true := by kernel_rfl
def dr5 : List (Nat × Nat) := []
def dd5 : List (Nat × List Nat) := [(0, [6]), (1, [16, 17, 18, 19, 20, 21]), (2, [22, 23, 24, 25, 26]), (3, [27, 28, 29, 30, 31, 32]), (4, [33, 34, 35, 36]), (5, [13, 14, 37, 38, 39, 40, 41]), (7, [43, 44]), (8, [7, 8, 9, 10, 11, 12, 46, 47, 48, 49, 50, 51, 52, 53, 54, 55, 56, 57, 58, 59, 60, 61, 62, 63, 64, 65, 66, 67]), (9, [9, 10, 68, 69, 70, 71, 72, 73, 74]), (11, [76, 77, 78, 79, 80, 81, 82]), (12, [11, 12, 84, 85, 86, 87, 88]), (14, [2, 11, 12, 90, 91, 92, 93, 94, 95, 96, 97]), (16, [99, 100, 101, 102, 103]), (17, [7, 8, 105, 106, 107, 108, 109, 110]), (18, [0, 1, 111, 112, 113]), (19, [114]), (20, [7, 8, 15, 116, 117, 118, 119, 120, 121, 122]), (21, [7, 8, 123, 124, 125, 126, 127, 128])]
theorem drOk5 : drAll dr5 (Tryd.f5.body.getD .skip) = true := by kernel_rfl
def dr6 : List (Nat × Nat) := [(13, 6)]
def dd6 : List (Nat × List Nat) := [(0, [0, 1, 2, 8]), (1, [18, 19, 20, 21, 22, 23, 24, 25]), (2, [26, 27, 28, 29, 30, 31, 32]), (4, [33, 34, 35, 36, 37, 38, 39, 40, 41, 42, 43, 44, 45, 46, 47, 48, 49]), (6, [51]), (7, [9, 10, 11, 12, 13, 53, 54, 55, 56, 57, 58, 59, 60, 61, 62, 63, 64, 65, 66, 67, 68, 69]), (8, [70, 71]), (9, [9, 10, 73, 74, 75, 76, 77]), (11, [3, 9, 10, 79, 80, 81, 82, 83, 84, 85, 86, 87, 88]), (13, [90, 91, 92, 93]), (14, [15, 94, 95, 96, 97, 98, 99, 100, 101, 102, 103, 104, 105, 106]), (15, [107]), (16, [11, 12, 109, 110, 111, 112, 113, 114, 115]), (17, [14, 116, 117, 118, 119, 120]), (18, [4, 5, 6, 11, 12, 16, 17, 121, 122, 123, 124, 125, 126, 127, 128, 129])]
theorem drOk6 : drAll dr6 (Tryd.f6.body.getD .skip) = true := by kernel_rfl
def dr7 : List (Nat × Nat) := []
def dd7 : List (Nat × List Nat) := [(0, [7]), (1, [10, 11, 12, 13, 14, 15, 16, 17, 18, 19, 20, 21, 22, 23, 24, 25, 26, 27, 28, 29]), (2, [31]), (3, [0]), (4, [34]), (5, [1, 2, 35, 36, 37, 38]), (6, [32, 40]), (7, [1, 2, 41, 42, 43, 44]), (8, [1, 2, 45, 46, 47, 48]), (9, [8, 9, 49, 50, 51, 52, 53, 54, 55, 56, 57, 58, 59, 60, 61, 62, 63, 64, 65, 66, 67, 68, 69, 70])]
theorem drOk7 : drAll dr7 (Tryd.f7.body.getD .skip) = true := by kernel_rfl
def dr8 : List (Nat × Nat) := []
def dd8 : List (Nat × List Nat) := [(0, [2]), (1, [0, 3, 4])]
theorem drOk8 : drAll dr8 (Tryd.f8.body.getD .skip) = true := by kernel_rfl
def dr9 : List (Nat × Nat) := []
def dd9 : List (Nat × List Nat) := [(0, [4]), (2, [0, 1, 5, 6, 7, 8, 9, 10, 11, 12])]
theorem drOk9 : drAll dr9 (Tryd.f9.body.getD .skip) = true := by kernel_rfl
def dr10 : List (Nat × Nat) := [(1, 33)]
def dd10 : List (Nat × List Nat) := [(0, [0, 2, 3]), (1, [4, 5, 6, 7, 8, 9, 10, 11, 12, 13, 14, 15, 16, 17, 18, 19, 20, 21, 22, 23, 24, 25, 26, 27, 28, 29, 30, 31, 32, 33, 34, 35]), (3, [1, 37, 38])]
theorem drOk10 : drAll dr10 (Tryd.f10.body.getD .skip) = true := by kernel_rfl
def dr11 : List (Nat × Nat) := []
def dd11 : List (Nat × List Nat) := [(0, [3]), (1, [4, 5]), (2, [7]), (3, [0, 8, 9])]
theorem drOk11 : drAll dr11 (Tryd.f11.body.getD .skip) = true := by kernel_rfl
def dr12 : List (Nat × Nat) := []
def dd12 : List (Nat × List Nat) := [(0, [2, 3]), (1, [4, 5]), (3, [0, 7, 8, 9])]
theorem drOk12 : drAll dr12 (Tryd.f12.body.getD .skip) = true := by kernel_rfl
def dr13 : List (Nat × Nat) := [(1, 21)]
def dd13 : List (Nat × List Nat) := [(0, [0, 2]), (1, [3, 4, 5, 6, 7, 8, 9, 10, 11, 12, 13, 14, 15, 16, 17, 18, 19, 20, 21, 22]), (3, [1, 24, 25, 26, 27, 28, 29, 30])]
theorem drOk13 : drAll dr13 (Tryd.f13.body.getD .skip) = true := by kernel_rfl
def dr14 : List (Nat × Nat) := []
def dd14 : List (Nat × List Nat) := [(1, [0, 9, 10, 11]), (2, [12, 13, 14, 15]), (3, [3, 16, 17, 18, 19, 20]), (4, [21, 22, 23, 24]), (5, [5, 25, 26, 27, 28, 29]), (6, [30, 31, 32, 33]), (7, [4, 6, 7, 8, 34, 35, 36, 37, 38, 39, 40, 41, 42, 43, 44, 45, 46, 47, 48, 49, 50, 51, 52, 53, 54, 55])]
theorem drOk14 : drAll dr14 (Tryd.f14.body.getD .skip) = true := by kernel_rfl
def dr15 : List (Nat × Nat) := [(8, 9)]
def dd15 : List (Nat × List Nat) := [(0, [4, 5]), (1, [8, 9, 10, 11, 12, 13, 14, 15, 16, 17]), (3, [0, 19, 20]), (4, [1, 21, 22, 23, 24, 25, 26, 27, 28, 29, 30]), (5, [31, 32, 33, 34, 35]), (7, [7, 37, 38, 39, 40, 41, 42, 43, 44]), (8, [45, 46, 47, 48, 49, 50, 51, 52, 53]), (9, [6, 54, 55])]
theorem drOk15 : drAll dr15 (Tryd.f15.body.getD .skip) = true := by kernel_rfl
def dr16 : List (Nat × Nat) := []
def dd16 : List (Nat × List Nat) := [(0, [2, 3]), (1, [5, 6]), (3, [0, 8, 9]), (4, [10, 11, 12, 13, 14, 15]), (5, [4, 16, 17])]
theorem drOk16 : drAll dr16 (Tryd.f16.body.getD .skip) = true := by kernel_rfl
def dr17 : List (Nat × Nat) := []
def dd17 : List (Nat × List Nat) := [(0, [4, 5]), (1, [11, 12, 13, 14, 15, 16, 17, 18, 19, 20, 21, 22]), (3, [24, 25, 26, 27]), (4, [6, 7, 28, 29, 30, 31, 32, 33, 34, 35, 36, 37, 38, 39]), (5, [0, 10, 40, 41, 42, 43, 44, 45]), (6, [1, 9, 46, 47]), (7, [49, 50]), (8, [8, 51])]
theorem drOk17 : drAll dr17 (Tryd.f17.body.getD .skip) = true := by kernel_rfl
def dr18 : List (Nat × Nat) := [(2, 11)]
def dd18 : List (Nat × List Nat) := [(0, [2]), (1, [4, 5]), (2, [0, 3, 6, 7, 8, 9, 10, 11, 12, 13, 14, 15])]
theorem drOk18 : drAll dr18 (Tryd.f18.body.getD .skip) = true := by kernel_rfl
def dr19 : List (Nat × Nat) := []
def dd19 : List (Nat × List Nat) := [(0, [4]), (1, [7, 8, 9, 10, 11, 12]), (2, [13, 14, 15, 16]), (3, [6, 17, 18, 19, 20, 21, 22]), (4, [5, 24]), (5, [25, 26])]
theorem drOk19 : drAll dr19 (Tryd.f19.body.getD .skip) = true := by kernel_rfl
def dr20 : List (Nat × Nat) := [(14, 14)]
def dd20 : List (Nat × List Nat) := [(0, [4]), (1, [0, 6, 7]), (2, [8]), (3, [10, 11]), (4, [12, 13, 14, 15]), (5, [16, 17]), (6, [19, 20, 21, 22, 23]), (7, [24]), (8, [26, 27]), (9, [28, 29, 30, 31]), (10, [32, 33]), (11, [35, 36, 37, 38, 39]), (12, [40, 41, 42]), (14, [5, 44, 45, 46, 47, 48, 49, 50, 51, 52, 53, 54, 55, 56])]
theorem drOk20 : drAll dr20 (Tryd.f20.body.getD .skip) = true := by kernel_rfl
def dr21 : List (Nat × Nat) := []
def dd21 : List (Nat × List Nat) := [(0, [8, 9]), (1, [11, 12, 13, 14]), (2, [15]), (3, [10, 17]), (4, [18, 19]), (6, [0, 1, 2, 3, 21, 22, 23, 24, 25])]
theorem drOk21 : drAll dr21 (Tryd.f21.body.getD .skip) = true := by kernel_rfl
def dr22 : List (Nat × Nat) := []
def dd22 : List (Nat × List Nat) := [(0, [6, 7]), (1, [15, 16, 17, 18]), (2, [19]), (3, [8, 21]), (6, [22]), (7, [23, 24]), (8, [11, 13, 26, 27, 28, 29, 30]), (9, [31, 32]), (11, [34, 35, 36, 37, 38]), (12, [10, 39, 40, 41, 42, 43, 44]), (13, [12, 14, 45, 46, 47]), (14, [9, 48])]
theorem drOk22 : drAll dr22 (Tryd.f22.body.getD .skip) = true := by kernel_rfl
def dr23 : List (Nat × Nat) := []
def dd23 : List (Nat × List Nat) := [(0, [2]), (1, [0, 3, 4])]
theorem drOk23 : drAll dr23 (Tryd.f23.body.getD .skip) = true := by kernel_rfl
def dr24 : List (Nat × Nat) := []
def dd24 : List (Nat × List Nat) := [(0, [8]), (2, [10, 11]), (3, [13, 14, 15, 16]), (4, [3, 17, 18]), (5, [20, 21, 22, 23]), (6, [0, 1, 2, 9, 24, 25, 26, 27, 28, 29, 30, 31])]
theorem drOk24 : drAll dr24 (Tryd.f24.body.getD .skip) = true := by kernel_rfl
def dr25 : List (Nat × Nat) := []
def dd25 : List (Nat × List Nat) := [(0, [6]), (1, [8, 9, 10]), (2, [7, 11, 12, 13, 14, 15, 16, 17, 18, 19]), (3, [0, 1, 2, 20, 21, 22, 23, 24, 25, 26, 27, 28, 29, 30, 31, 32, 33, 34, 35, 36, 37, 38, 39])]
theorem drOk25 : drAll dr25 (Tryd.f25.body.getD .skip) = true := by kernel_rfl
def dr26 : List (Nat × Nat) := [(6, 9)]
def dd26 : List (Nat × List Nat) := [(0, [4]), (1, [6, 7, 8, 9]), (3, [11]), (5, [15]), (6, [5, 16, 17, 18, 19, 20, 21, 22, 23]), (8, [25])]
theorem drOk26 : drAll dr26 (Tryd.f26.body.getD .skip) = true := by kernel_rfl
def dr27 : List (Nat × Nat) := []
def dd27 : List (Nat × List Nat) := [(0, [4]), (2, [8, 9]), (4, [10, 11]), (5, [13, 14]), (6, [6, 15, 16, 17, 18, 19, 20, 21, 22]), (7, [23, 24, 25]), (8, [5, 26])]
theorem drOk27 : drAll dr27 (Tryd.f27.body.getD .skip) = true := by kernel_rfl
def dr28 : List (Nat × Nat) := [(3, 10)]
def dd28 : List (Nat × List Nat) := [(0, [6]), (1, [7]), (3, [0, 1, 2, 3, 4, 9, 10, 11, 12, 13, 14, 15, 16, 17])]
theorem drOk28 : drAll dr28 (Tryd.f28.body.getD .skip) = true := by kernel_rfl
def dr29 : List (Nat × Nat) := []
def dd29 : List (Nat × List Nat) := [(0, [2]), (1, [0, 3, 4, 5, 6, 7, 8])]
theorem drOk29 : drAll dr29 (Tryd.f29.body.getD .skip) = true := by kernel_rfl
def dr30 : List (Nat × Nat) := []
def dd30 : List (Nat × List Nat) := [(0, [2]), (1, [5, 6, 7]), (2, [8, 9, 10, 11]), (3, [13, 14]), (4, [15, 16, 17, 18]), (6, [19, 20, 21, 22]), (7, [24, 25, 26, 27, 28]), (8, [29, 30]), (9, [0, 3, 4, 31, 32, 33, 34, 35])]
theorem drOk30 : drAll dr30 (Tryd.f30.body.getD .skip) = true := by kernel_rfl
def dr31 : List (Nat × Nat) := []
def dd31 : List (Nat × List Nat) := [(0, [6]), (1, [0, 1, 2, 7, 8, 9, 10, 11, 12, 13, 14])]
theorem drOk31 : drAll dr31 (Tryd.f31.body.getD .skip) = true := by kernel_rfl
def dr32 : List (Nat × Nat) := []
def dd32 : List (Nat × List Nat) := [(0, [2]), (1, [0, 4, 5]), (2, [6, 7]), (3, [9]), (4, [3, 10, 11, 12, 13, 14, 15, 16, 17, 18, 19])]
theorem drOk32 : drAll dr32 (Tryd.f32.body.getD .skip) = true := by kernel_rfl
def dr33 : List (Nat × Nat) := []
def dd33 : List (Nat × List Nat) := [(0, [4]), (1, [0, 5, 6, 7, 8, 9]), (3, [1, 11, 12, 13])]
theorem drOk33 : drAll dr33 (Tryd.f33.body.getD .skip) = true := by kernel_rfl
def dr34 : List (Nat × Nat) := []
def dd34 : List (Nat × List Nat) := [(0, [0, 2]), (1, [5, 6, 7]), (3, [8, 9, 10]), (4, [12, 13]), (5, [14, 15, 16, 17, 18, 19]), (6, [1, 3, 20, 21, 22, 23, 24])]
theorem drOk34 : drAll dr34 (Tryd.f34.body.getD .skip) = true := by kernel_rfl
def dr35 : List (Nat × Nat) := []
def dd35 : List (Nat × List Nat) := [(0, [4]), (1, [1]), (2, [7]), (3, [8]), (4, [9]), (5, [10]), (7, [5, 12]), (8, [0, 13, 14, 15, 16, 17, 18, 19, 20, 21, 22, 23, 24])]
theorem drOk35 : drAll dr35 (Tryd.f35.body.getD .skip) = true := by kernel_rfl
def dr36 : List (Nat × Nat) := []
def dd36 : List (Nat × List Nat) := [(0, [6]), (1, [0, 1, 2, 7, 8, 9, 10, 11, 12, 13, 14, 15, 16, 17, 18, 19, 20, 21, 22, 23])]
theorem drOk36 : drAll dr36 (Tryd.f36.body.getD .skip) = true := by kernel_rfl
def dr37 : List (Nat × Nat) := []
def dd37 : List (Nat × List Nat) := [(0, [8]), (1, [3, 10, 11, 12, 13, 14, 15, 16]), (2, [0, 1, 2, 9, 17, 18, 19, 20, 21, 22, 23, 24])]
theorem drOk37 : drAll dr37 (Tryd.f37.body.getD .skip) = true := by kernel_rfl
def dr38 : List (Nat × Nat) := []
def dd38 : List (Nat × List Nat) := [(0, [6]), (1, [9, 10, 11]), (2, [12, 13, 14, 15]), (3, [17, 18]), (4, [19, 20, 21, 22, 23]), (5, [25, 26]), (6, [27, 28, 29, 30, 31]), (7, [33, 34, 35, 36, 37, 38]), (8, [7, 39]), (9, [41, 42]), (10, [7, 43, 44]), (11, [46, 47, 48, 49, 50]), (12, [7, 51]), (13, [1, 8, 53, 54, 55, 56, 57]), (14, [7, 58, 59]), (15, [2, 61, 62]), (16, [7, 63, 64, 65, 66]), (17, [0, 68, 69]), (18, [7, 70, 71]), (19, [7, 72])]
theorem drOk38 : drAll dr38 (Tryd.f38.body.getD .skip) = true := by kernel_rfl
def dr39 : List (Nat × Nat) := []
def dd39 : List (Nat × List Nat) := [(0, [2]), (1, [0, 4, 5]), (2, [3, 6, 7, 8, 9, 10, 11, 12, 13, 14, 15, 16, 17, 18, 19])]
theorem drOk39 : drAll dr39 (Tryd.f39.body.getD .skip) = true := by kernel_rfl
def dr40 : List (Nat × Nat) := []
def dd40 : List (Nat × List Nat) := [(0, [2]), (1, [0, 3, 4, 5, 6, 7, 8, 9, 10, 11, 12, 13, 14, 15])]
theorem drOk40 : drAll dr40 (Tryd.f40.body.getD .skip) = true := by kernel_rfl
def dr41 : List (Nat × Nat) := []
def dd41 : List (Nat × List Nat) := [(0, [2]), (1, [0, 3, 4, 5, 6, 7, 8])]
theorem drOk41 : drAll dr41 (Tryd.f41.body.getD .skip) = true := by kernel_rfl
def dr42 : List (Nat × Nat) := [(1, 8)]
def dd42 : List (Nat × List Nat) := [(0, [6]), (1, [10, 11, 12, 13, 14, 15]), (2, [16]), (3, [18, 19, 20, 21, 22]), (5, [2]), (6, [25]), (7, [8, 26, 27]), (8, [29]), (9, [0, 1, 8, 30, 31, 32, 33, 34, 35, 36, 37, 38, 39, 40, 41, 42, 43]), (10, [23, 45]), (11, [1, 8, 46, 47, 48, 49, 50, 51, 52, 53, 54, 55, 56, 57, 58, 59, 60]), (12, [9]), (13, [62, 63]), (14, [7, 64])]
theorem drOk42 : drAll dr42 (Tryd.f42.body.getD .skip) = true := by kernel_rfl
def dr62 : List (Nat × Nat) := []
def dd62 : List (Nat × List Nat) := [(0, [0])]
theorem drOk62 : drAll dr62 (Tryd.f62.body.getD .skip) = true := by kernel_rfl
/-- what the machine runs in: the callees' answers, the variables that begin as nil and are rows of one's own, what becomes data where -/
def mkX (Φ : FuncId → List V → Option (V × List Blk)) (nv : Nat → Option (TypeId × Nat)) (fz : Nat → List Nat) (dr : List (Nat × Nat)) (dd : List (Nat × List Nat)) : Ctx := ⟨tyF, Φ, nv, fz, fun i => (Ev.look i dd).getD [], dr, eqsL⟩
section
variable (Φ : FuncId → List V → Option (V × List Blk)) (nv : Nat → Option (TypeId × Nat)) (fz : Nat → List Nat) (dr : List (Nat × Nat)) (dd : List (Nat × List Nat))
theorem mkX_T : (mkX Φ nv fz dr dd).T = tyF := rfl
theorem mkX_Φ : (mkX Φ nv fz dr dd).Φ = Φ := rfl
theorem mkX_n : (mkX Φ nv fz dr dd).nilv = nv := rfl
theorem mkX_f : (mkX Φ nv fz dr dd).frz = fz := rfl
theorem mkX_d (i : Nat) : (mkX Φ nv fz dr dd).dead i = (Ev.look i dd).getD [] := rfl
theorem mkX_r : (mkX Φ nv fz dr dd).dr = dr := rfl
theorem mkX_e : (mkX Φ nv fz dr dd).eqs = eqsL := rfl
theorem tyOk : TOkX Tryd.prog (mkX Φ nv fz dr dd) := ⟨TOk_of tabAll, fun t ht => List.all_eq_true.1 eqsOk t ht⟩
end
def nv0 : Nat → Option (TypeId × Nat) := fun _ => none
def fz0 : Nat → List Nat := fun _ => []
theorem mapO_nil {α β : Type} (f : α → Option β) : ([] : List α).mapM f = some [] := rfl
theorem mapO_cons {α β : Type} (f : α → Option β) (a : α) (l : List α) : (a :: l).mapM f = (f a).bind fun y => (l.mapM f).bind fun ys => some (y :: ys) := by rw [List.mapM_cons]; rfl
theorem beqT (b : Bool) : (b == true) = b := by cases b <;> rfl
theorem beqF (b : Bool) : (b == false) = !b := by cases b <;> rfl
def nvL (l : List (Nat × (TypeId × Nat))) : Nat → Option (TypeId × Nat) := fun i => Ev.look i l
theorem nvL_at (l : List (Nat × (TypeId × Nat))) (i : Nat) : nvL l i = Ev.look i l := rfl
def fzL (l : List (Nat × List Nat)) : Nat → List Nat := fun i => (Ev.look i l).getD []
theorem fzL_at (l : List (Nat × List Nat)) (i : Nat) : fzL l i = (Ev.look i l).getD [] := rfl
theorem maxLen_eq : maxLen = 9223372036854775807 := rfl
theorem leT {a b : Nat} (h : a ≤ b) : (a ≤ b) = True := by simp [h]
theorem plainI (k : IntKind) (l : List Int) : ((l.map (V.int k)).all fun v => V.plain v && V.data v) = true := by
  rw [List.all_eq_true]
  intro v hv
  obtain ⟨n, _, rfl⟩ := List.mem_map.1 hv
  rfl
theorem bin_eql_vz (b : Nat) : binV .eql (.vec b) .zero = none := rfl
theorem bin_eql_zv (b : Nat) : binV .eql .zero (.vec b) = none := rfl
theorem bin_eql_rz (z : Nat) (es : List V) : binV .eql (.row z es) .zero = none := rfl
theorem bin_eql_zr (z : Nat) (es : List V) : binV .eql .zero (.row z es) = none := rfl
theorem bin_eql_zz : binV .eql .zero .zero = none := rfl
theorem bin_neq_vz (b : Nat) : binV .neq (.vec b) .zero = none := rfl
theorem bin_neq_zv (b : Nat) : binV .neq .zero (.vec b) = none := rfl
theorem bin_neq_rz (z : Nat) (es : List V) : binV .neq (.row z es) .zero = none := rfl
theorem bin_neq_zr (z : Nat) (es : List V) : binV .neq .zero (.row z es) = none := rfl
theorem bin_neq_zz : binV .neq .zero .zero = none := rfl
theorem nv0_at (i : Nat) : nv0 i = none := rfl
theorem fz0_at (i : Nat) : fz0 i = [] := rfl
/-- a function of this seat, run by the machine -/
theorem evFn {J : World → Prop} {l : Phi} (hl : PhiOk Tryd.prog J l) (hJ : Stable J) {nv : Nat → Option (TypeId × Nat)} {fz : Nat → List Nat} {dr : List (Nat × Nat)} {dd : List (Nat × List Nat)} {f : FuncId} {fn : Func} {args : List V} {r : V} {bs : List Blk}
    (hf : Tryd.prog.funcs[f]? = some fn) (hname : (fn.name == "runtime.NumGoroutine") = false) (hb : fn.body.isSome = true) (hn : args.length ≤ fn.ntmps) (hdr : drAll dr (fn.body.getD .skip) = true)
    (h : ev (mkX (phi l) nv fz dr dd) fn.ntmps (fn.body.getD .skip) (St.init args) (post (mkX (phi l) nv fz dr dd) fn.results.toList r bs)) : SoundAt Tryd.prog J f args r bs :=
  sound_fn (X := mkX (phi l) nv fz dr dd) mixOk (tyOk _ _ _ _ _) (phi_sound hl) hJ hf hname (by cases hc : fn.body <;> simp_all) hn hdr h
/-- what has a body is called -/
theorem callOk {f : FuncId} {fn : Func} (hf : Tryd.prog.funcs[f]? = some fn) (hname : (fn.name == "runtime.NumGoroutine") = false) (hb : fn.body.isNone = false) : Callable Tryd.prog f := ⟨fn, hf, hname, hb⟩
def J0 : World → Prop := fun _ => True
theorem stable0 : Stable J0 := fun _ _ _ _ => trivial
end Go.Proofs.YthndfckapbbbfaaDoor
