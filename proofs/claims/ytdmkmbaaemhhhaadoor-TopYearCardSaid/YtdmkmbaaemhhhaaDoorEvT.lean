/-
  The seat's types as the machine reads them, and the regions that draw their order (written by a program).
-/
import Derived.Test.YtdmkmbaaemhhhaaDoorEw
import Derived.Test.YtdmkmbaaemhhhaaDoorProg
import Derived.KernelRfl
namespace Go.Proofs.YtdmkmbaaemhhhaaDoor
open Go Go.Ev
def tab : List (TypeId × TI) := [
  (1, ⟨.other, 1, 8, .undef⟩),
  (2, ⟨(.int .i64), 1, 8, (.int .i64 0)⟩),
  (3, ⟨(.int .i64), 1, 8, (.int .i64 0)⟩),
  (4, ⟨.bool, 1, 1, (.bool false)⟩),
  (5, ⟨(.int .u8), 1, 1, (.int .u8 0)⟩),
  (6, ⟨(.int .u8), 1, 1, (.int .u8 0)⟩),
  (7, ⟨(.struct [(0, 1, 2), (1, 1, 3), (2, 1, 4), (3, 1, 6)]), 4, 24, (.agg [(.int .i64 0), (.int .i64 0), (.bool false), (.int .u8 0)])⟩),
  (8, ⟨(.struct [(0, 1, 2), (1, 1, 3), (2, 1, 4), (3, 1, 6)]), 4, 24, (.agg [(.int .i64 0), (.int .i64 0), (.bool false), (.int .u8 0)])⟩),
  (9, ⟨.str, 1, 16, (.str ByteArray.empty)⟩),
  (10, ⟨.str, 1, 16, (.str ByteArray.empty)⟩),
  (11, ⟨.str, 1, 16, (.str ByteArray.empty)⟩),
  (12, ⟨(.int .u64), 1, 8, (.int .u64 0)⟩),
  (13, ⟨(.struct [(0, 1, 9), (1, 1, 12)]), 2, 24, (.agg [(.str ByteArray.empty), (.int .u64 0)])⟩),
  (14, ⟨(.struct [(0, 1, 9), (1, 1, 12)]), 2, 24, (.agg [(.str ByteArray.empty), (.int .u64 0)])⟩),
  (15, ⟨.other, 1, 8, .undef⟩),
  (16, ⟨.other, 1, 8, .undef⟩),
  (17, ⟨.other, 1, 8, .undef⟩),
  (18, ⟨(.struct [(0, 1, 17)]), 1, 8, (.agg [.undef])⟩),
  (19, ⟨(.struct [(0, 1, 17)]), 1, 8, (.agg [.undef])⟩),
  (21, ⟨(.int .i32), 1, 4, (.int .i32 0)⟩),
  (22, ⟨(.slice 29), 1, 24, .zero⟩),
  (23, ⟨(.slice 34), 1, 24, .zero⟩),
  (24, ⟨(.int .i64), 1, 8, (.int .i64 0)⟩),
  (26, ⟨.other, 1, 8, .undef⟩),
  (27, ⟨.other, 1, 8, .undef⟩),
  (28, ⟨(.struct [(0, 1, 9), (1, 1, 3), (2, 1, 3), (3, 1, 3), (4, 1, 3), (5, 1, 9), (6, 1, 9)]), 7, 80, (.agg [(.str ByteArray.empty), (.int .i64 0), (.int .i64 0), (.int .i64 0), (.int .i64 0), (.str ByteArray.empty), (.str ByteArray.empty)])⟩),
  (29, ⟨(.struct [(0, 1, 9), (1, 1, 3), (2, 1, 3), (3, 1, 3), (4, 1, 3), (5, 1, 9), (6, 1, 9)]), 7, 80, (.agg [(.str ByteArray.empty), (.int .i64 0), (.int .i64 0), (.int .i64 0), (.int .i64 0), (.str ByteArray.empty), (.str ByteArray.empty)])⟩),
  (30, ⟨.other, 1, 8, .undef⟩),
  (31, ⟨.other, 1, 8, .undef⟩),
  (32, ⟨(.slice 61), 1, 24, .zero⟩),
  (33, ⟨(.struct [(0, 1, 9), (1, 1, 3), (2, 1, 32)]), 3, 48, (.agg [(.str ByteArray.empty), (.int .i64 0), .zero])⟩),
  (34, ⟨(.struct [(0, 1, 9), (1, 1, 3), (2, 1, 32)]), 3, 48, (.agg [(.str ByteArray.empty), (.int .i64 0), .zero])⟩),
  (35, ⟨.other, 1, 8, .undef⟩),
  (36, ⟨.other, 1, 8, .undef⟩),
  (37, ⟨.other, 1, 8, .undef⟩),
  (38, ⟨(.slice 79), 1, 24, .zero⟩),
  (39, ⟨(.struct [(0, 1, 38), (1, 1, 23), (2, 1, 3)]), 3, 56, (.agg [.zero, .zero, (.int .i64 0)])⟩),
  (40, ⟨(.struct [(0, 1, 38), (1, 1, 23), (2, 1, 3)]), 3, 56, (.agg [.zero, .zero, (.int .i64 0)])⟩),
  (41, ⟨.other, 1, 8, .undef⟩),
  (42, ⟨.other, 1, 8, .undef⟩),
  (44, ⟨.other, 1, 8, .undef⟩),
  (45, ⟨.other, 1, 8, .undef⟩),
  (47, ⟨.other, 1, 8, .undef⟩),
  (49, ⟨.other, 1, 8, .undef⟩),
  (51, ⟨.other, 1, 8, .undef⟩),
  (53, ⟨.other, 1, 8, .undef⟩),
  (54, ⟨.other, 1, 8, .undef⟩),
  (55, ⟨.other, 1, 8, .undef⟩),
  (56, ⟨(.slice 3), 1, 24, .zero⟩),
  (57, ⟨.other, 1, 8, .undef⟩),
  (58, ⟨.other, 1, 8, .undef⟩),
  (59, ⟨.other, 1, 8, .undef⟩),
  (60, ⟨(.struct [(0, 1, 9), (1, 1, 3)]), 2, 24, (.agg [(.str ByteArray.empty), (.int .i64 0)])⟩),
  (61, ⟨(.struct [(0, 1, 9), (1, 1, 3)]), 2, 24, (.agg [(.str ByteArray.empty), (.int .i64 0)])⟩),
  (62, ⟨(.map 9 4), 1, 8, .undef⟩),
  (63, ⟨.other, 1, 8, .undef⟩),
  (64, ⟨.other, 1, 8, .undef⟩),
  (65, ⟨.other, 1, 8, .undef⟩),
  (66, ⟨.other, 1, 8, .undef⟩),
  (67, ⟨.other, 1, 8, .undef⟩),
  (68, ⟨.other, 1, 8, .undef⟩),
  (69, ⟨.other, 1, 8, .undef⟩),
  (70, ⟨.other, 1, 8, .undef⟩),
  (71, ⟨.other, 1, 8, .undef⟩),
  (72, ⟨.other, 1, 8, .undef⟩),
  (73, ⟨.other, 1, 8, .undef⟩),
  (74, ⟨.other, 1, 8, .undef⟩),
  (75, ⟨(.int .u64), 1, 8, (.int .u64 0)⟩),
  (76, ⟨.other, 1, 8, .undef⟩),
  (77, ⟨.other, 1, 8, .undef⟩),
  (78, ⟨(.struct [(0, 1, 9), (1, 1, 3)]), 2, 24, (.agg [(.str ByteArray.empty), (.int .i64 0)])⟩),
  (79, ⟨(.struct [(0, 1, 9), (1, 1, 3)]), 2, 24, (.agg [(.str ByteArray.empty), (.int .i64 0)])⟩),
  (80, ⟨.other, 1, 8, .undef⟩),
  (81, ⟨.other, 1, 8, .undef⟩),
  (82, ⟨.other, 1, 8, .undef⟩),
  (83, ⟨.other, 1, 8, .undef⟩),
  (84, ⟨.other, 1, 8, .undef⟩),
  (85, ⟨(.array 5 3), 5, 40, (.agg [(.int .i64 0), (.int .i64 0), (.int .i64 0), (.int .i64 0), (.int .i64 0)])⟩),
  (86, ⟨.other, 1, 8, .undef⟩),
  (87, ⟨.other, 1, 8, .undef⟩),
  (88, ⟨.other, 1, 8, .undef⟩),
  (89, ⟨.other, 1, 8, .undef⟩),
  (90, ⟨.other, 1, 8, .undef⟩),
  (92, ⟨.other, 1, 8, .undef⟩),
  (93, ⟨(.struct [(0, 1, 3), (1, 1, 3), (2, 1, 3)]), 3, 24, (.agg [(.int .i64 0), (.int .i64 0), (.int .i64 0)])⟩),
  (94, ⟨(.struct [(0, 1, 3), (1, 1, 3), (2, 1, 3)]), 3, 24, (.agg [(.int .i64 0), (.int .i64 0), (.int .i64 0)])⟩),
  (95, ⟨.other, 1, 8, .undef⟩),
  (96, ⟨.other, 1, 8, .undef⟩),
  (97, ⟨(.slice 5), 1, 24, .zero⟩),
  (98, ⟨.other, 1, 8, .undef⟩),
  (99, ⟨.other, 1, 8, .undef⟩),
  (100, ⟨.other, 1, 8, .undef⟩),
  (101, ⟨.other, 1, 8, .undef⟩),
  (102, ⟨.other, 1, 8, .undef⟩),
  (103, ⟨.other, 1, 8, .undef⟩),
  (104, ⟨.other, 1, 8, .undef⟩),
  (105, ⟨.other, 1, 8, .undef⟩),
  (107, ⟨.other, 1, 8, .undef⟩),
  (108, ⟨.other, 1, 8, .undef⟩),
  (109, ⟨.other, 1, 8, .undef⟩),
  (110, ⟨.other, 1, 8, .undef⟩),
  (111, ⟨.other, 1, 8, .undef⟩),
  (112, ⟨.other, 1, 8, .undef⟩),
  (113, ⟨.other, 1, 8, .undef⟩),
  (114, ⟨.other, 1, 8, .undef⟩),
  (115, ⟨.other, 1, 8, .undef⟩),
  (116, ⟨.other, 1, 8, .undef⟩),
  (117, ⟨.other, 1, 8, .undef⟩),
  (118, ⟨(.array 13 3), 13, 104, (.agg [(.int .i64 0), (.int .i64 0), (.int .i64 0), (.int .i64 0), (.int .i64 0), (.int .i64 0), (.int .i64 0), (.int .i64 0), (.int .i64 0), (.int .i64 0), (.int .i64 0), (.int .i64 0), (.int .i64 0)])⟩),
  (119, ⟨.other, 1, 8, .undef⟩),
  (123, ⟨.other, 1, 8, .undef⟩),
  (124, ⟨.other, 1, 8, .undef⟩),
  (125, ⟨.other, 1, 8, .undef⟩),
  (126, ⟨.other, 1, 8, .undef⟩),
  (127, ⟨(.int .u64), 1, 8, (.int .u64 0)⟩),
  (128, ⟨.other, 1, 8, .undef⟩),
  (129, ⟨.other, 1, 8, .undef⟩),
  (130, ⟨.other, 1, 8, .undef⟩),
  (131, ⟨.other, 1, 8, .undef⟩),
  (132, ⟨.other, 1, 8, .undef⟩),
  (133, ⟨.other, 1, 8, .undef⟩),
  (135, ⟨.other, 1, 8, .undef⟩),
  (136, ⟨.other, 1, 8, .undef⟩),
  (137, ⟨.other, 1, 8, .undef⟩),
  (138, ⟨.other, 1, 8, .undef⟩),
  (139, ⟨.other, 1, 8, .undef⟩),
  (141, ⟨(.struct [(0, 1, 5), (1, 1, 5)]), 2, 2, (.agg [(.int .u8 0), (.int .u8 0)])⟩),
  (142, ⟨(.struct [(0, 1, 5), (1, 1, 5)]), 2, 2, (.agg [(.int .u8 0), (.int .u8 0)])⟩),
  (143, ⟨(.array 16 142), 32, 32, (.agg [(.int .u8 0), (.int .u8 0), (.int .u8 0), (.int .u8 0), (.int .u8 0), (.int .u8 0), (.int .u8 0), (.int .u8 0), (.int .u8 0), (.int .u8 0), (.int .u8 0), (.int .u8 0), (.int .u8 0), (.int .u8 0), (.int .u8 0), (.int .u8 0), (.int .u8 0), (.int .u8 0), (.int .u8 0), (.int .u8 0), (.int .u8 0), (.int .u8 0), (.int .u8 0), (.int .u8 0), (.int .u8 0), (.int .u8 0), (.int .u8 0), (.int .u8 0), (.int .u8 0), (.int .u8 0), (.int .u8 0), (.int .u8 0)])⟩),
  (144, ⟨(.int .u32), 1, 4, (.int .u32 0)⟩),
  (146, ⟨.other, 1, 8, .undef⟩),
  (147, ⟨.other, 1, 8, .undef⟩),
  (148, ⟨(.struct [(0, 1, 17), (1, 1, 17), (2, 1, 17), (3, 1, 9)]), 4, 40, (.agg [.undef, .undef, .undef, (.str ByteArray.empty)])⟩),
  (149, ⟨(.struct [(0, 1, 17), (1, 1, 17), (2, 1, 17), (3, 1, 9)]), 4, 40, (.agg [.undef, .undef, .undef, (.str ByteArray.empty)])⟩),
  (153, ⟨.other, 1, 8, .undef⟩),
  (154, ⟨(.int .u8), 1, 1, (.int .u8 0)⟩),
  (155, ⟨(.int .u8), 1, 1, (.int .u8 0)⟩),
  (156, ⟨.other, 1, 8, .undef⟩),
  (157, ⟨.other, 1, 8, .undef⟩),
  (158, ⟨(.int .i32), 1, 4, (.int .i32 0)⟩),
  (159, ⟨(.int .i32), 1, 4, (.int .i32 0)⟩),
  (160, ⟨(.struct [(0, 1, 12), (1, 1, 12), (2, 1, 144), (3, 1, 154), (4, 1, 5), (5, 1, 5), (6, 1, 155), (7, 1, 156), (8, 1, 157), (9, 1, 158), (10, 1, 159)]), 11, 48, (.agg [(.int .u64 0), (.int .u64 0), (.int .u32 0), (.int .u8 0), (.int .u8 0), (.int .u8 0), (.int .u8 0), .undef, .undef, (.int .i32 0), (.int .i32 0)])⟩),
  (161, ⟨(.struct [(0, 1, 12), (1, 1, 12), (2, 1, 144), (3, 1, 154), (4, 1, 5), (5, 1, 5), (6, 1, 155), (7, 1, 156), (8, 1, 157), (9, 1, 158), (10, 1, 159)]), 11, 48, (.agg [(.int .u64 0), (.int .u64 0), (.int .u32 0), (.int .u8 0), (.int .u8 0), (.int .u8 0), (.int .u8 0), .undef, .undef, (.int .i32 0), (.int .i32 0)])⟩)]
def tyF : TypeId → Option TI := fun t => tab.lookup t
theorem tabAll : (tab.all fun (t, i) => tiOk Tryd.prog t i) = true := by kernel_rfl
def eqsL : List TypeId := [29, 61, 79, 94]
theorem eqsOk : (eqsL.all fun t => eqOkB Tryd.prog t) = true := by kernel_rfl
theorem mixOk : Tryd.prog.follows .mixedOrders = true := by kernel_rfl
theorem ty1 : tyF 1 = some ⟨.other, 1, 8, .undef⟩ := rfl
theorem ty2 : tyF 2 = some ⟨(.int .i64), 1, 8, (.int .i64 0)⟩ := rfl
theorem ty3 : tyF 3 = some ⟨(.int .i64), 1, 8, (.int .i64 0)⟩ := rfl
theorem ty4 : tyF 4 = some ⟨.bool, 1, 1, (.bool false)⟩ := rfl
theorem ty5 : tyF 5 = some ⟨(.int .u8), 1, 1, (.int .u8 0)⟩ := rfl
theorem ty6 : tyF 6 = some ⟨(.int .u8), 1, 1, (.int .u8 0)⟩ := rfl
theorem ty7 : tyF 7 = some ⟨(.struct [(0, 1, 2), (1, 1, 3), (2, 1, 4), (3, 1, 6)]), 4, 24, (.agg [(.int .i64 0), (.int .i64 0), (.bool false), (.int .u8 0)])⟩ := rfl
theorem ty8 : tyF 8 = some ⟨(.struct [(0, 1, 2), (1, 1, 3), (2, 1, 4), (3, 1, 6)]), 4, 24, (.agg [(.int .i64 0), (.int .i64 0), (.bool false), (.int .u8 0)])⟩ := rfl
theorem ty9 : tyF 9 = some ⟨.str, 1, 16, (.str ByteArray.empty)⟩ := rfl
theorem ty10 : tyF 10 = some ⟨.str, 1, 16, (.str ByteArray.empty)⟩ := rfl
theorem ty11 : tyF 11 = some ⟨.str, 1, 16, (.str ByteArray.empty)⟩ := rfl
theorem ty12 : tyF 12 = some ⟨(.int .u64), 1, 8, (.int .u64 0)⟩ := rfl
theorem ty13 : tyF 13 = some ⟨(.struct [(0, 1, 9), (1, 1, 12)]), 2, 24, (.agg [(.str ByteArray.empty), (.int .u64 0)])⟩ := rfl
theorem ty14 : tyF 14 = some ⟨(.struct [(0, 1, 9), (1, 1, 12)]), 2, 24, (.agg [(.str ByteArray.empty), (.int .u64 0)])⟩ := rfl
theorem ty15 : tyF 15 = some ⟨.other, 1, 8, .undef⟩ := rfl
theorem ty16 : tyF 16 = some ⟨.other, 1, 8, .undef⟩ := rfl
theorem ty17 : tyF 17 = some ⟨.other, 1, 8, .undef⟩ := rfl
theorem ty18 : tyF 18 = some ⟨(.struct [(0, 1, 17)]), 1, 8, (.agg [.undef])⟩ := rfl
theorem ty19 : tyF 19 = some ⟨(.struct [(0, 1, 17)]), 1, 8, (.agg [.undef])⟩ := rfl
theorem ty21 : tyF 21 = some ⟨(.int .i32), 1, 4, (.int .i32 0)⟩ := rfl
theorem ty22 : tyF 22 = some ⟨(.slice 29), 1, 24, .zero⟩ := rfl
theorem ty23 : tyF 23 = some ⟨(.slice 34), 1, 24, .zero⟩ := rfl
theorem ty24 : tyF 24 = some ⟨(.int .i64), 1, 8, (.int .i64 0)⟩ := rfl
theorem ty26 : tyF 26 = some ⟨.other, 1, 8, .undef⟩ := rfl
theorem ty27 : tyF 27 = some ⟨.other, 1, 8, .undef⟩ := rfl
theorem ty28 : tyF 28 = some ⟨(.struct [(0, 1, 9), (1, 1, 3), (2, 1, 3), (3, 1, 3), (4, 1, 3), (5, 1, 9), (6, 1, 9)]), 7, 80, (.agg [(.str ByteArray.empty), (.int .i64 0), (.int .i64 0), (.int .i64 0), (.int .i64 0), (.str ByteArray.empty), (.str ByteArray.empty)])⟩ := rfl
theorem ty29 : tyF 29 = some ⟨(.struct [(0, 1, 9), (1, 1, 3), (2, 1, 3), (3, 1, 3), (4, 1, 3), (5, 1, 9), (6, 1, 9)]), 7, 80, (.agg [(.str ByteArray.empty), (.int .i64 0), (.int .i64 0), (.int .i64 0), (.int .i64 0), (.str ByteArray.empty), (.str ByteArray.empty)])⟩ := rfl
theorem ty30 : tyF 30 = some ⟨.other, 1, 8, .undef⟩ := rfl
theorem ty31 : tyF 31 = some ⟨.other, 1, 8, .undef⟩ := rfl
theorem ty32 : tyF 32 = some ⟨(.slice 61), 1, 24, .zero⟩ := rfl
theorem ty33 : tyF 33 = some ⟨(.struct [(0, 1, 9), (1, 1, 3), (2, 1, 32)]), 3, 48, (.agg [(.str ByteArray.empty), (.int .i64 0), .zero])⟩ := rfl
theorem ty34 : tyF 34 = some ⟨(.struct [(0, 1, 9), (1, 1, 3), (2, 1, 32)]), 3, 48, (.agg [(.str ByteArray.empty), (.int .i64 0), .zero])⟩ := rfl
theorem ty35 : tyF 35 = some ⟨.other, 1, 8, .undef⟩ := rfl
theorem ty36 : tyF 36 = some ⟨.other, 1, 8, .undef⟩ := rfl
theorem ty37 : tyF 37 = some ⟨.other, 1, 8, .undef⟩ := rfl
theorem ty38 : tyF 38 = some ⟨(.slice 79), 1, 24, .zero⟩ := rfl
theorem ty39 : tyF 39 = some ⟨(.struct [(0, 1, 38), (1, 1, 23), (2, 1, 3)]), 3, 56, (.agg [.zero, .zero, (.int .i64 0)])⟩ := rfl
theorem ty40 : tyF 40 = some ⟨(.struct [(0, 1, 38), (1, 1, 23), (2, 1, 3)]), 3, 56, (.agg [.zero, .zero, (.int .i64 0)])⟩ := rfl
theorem ty41 : tyF 41 = some ⟨.other, 1, 8, .undef⟩ := rfl
theorem ty42 : tyF 42 = some ⟨.other, 1, 8, .undef⟩ := rfl
theorem ty44 : tyF 44 = some ⟨.other, 1, 8, .undef⟩ := rfl
theorem ty45 : tyF 45 = some ⟨.other, 1, 8, .undef⟩ := rfl
theorem ty47 : tyF 47 = some ⟨.other, 1, 8, .undef⟩ := rfl
theorem ty49 : tyF 49 = some ⟨.other, 1, 8, .undef⟩ := rfl
theorem ty51 : tyF 51 = some ⟨.other, 1, 8, .undef⟩ := rfl
theorem ty53 : tyF 53 = some ⟨.other, 1, 8, .undef⟩ := rfl
theorem ty54 : tyF 54 = some ⟨.other, 1, 8, .undef⟩ := rfl
theorem ty55 : tyF 55 = some ⟨.other, 1, 8, .undef⟩ := rfl
theorem ty56 : tyF 56 = some ⟨(.slice 3), 1, 24, .zero⟩ := rfl
theorem ty57 : tyF 57 = some ⟨.other, 1, 8, .undef⟩ := rfl
theorem ty58 : tyF 58 = some ⟨.other, 1, 8, .undef⟩ := rfl
theorem ty59 : tyF 59 = some ⟨.other, 1, 8, .undef⟩ := rfl
theorem ty60 : tyF 60 = some ⟨(.struct [(0, 1, 9), (1, 1, 3)]), 2, 24, (.agg [(.str ByteArray.empty), (.int .i64 0)])⟩ := rfl
theorem ty61 : tyF 61 = some ⟨(.struct [(0, 1, 9), (1, 1, 3)]), 2, 24, (.agg [(.str ByteArray.empty), (.int .i64 0)])⟩ := rfl
theorem ty62 : tyF 62 = some ⟨(.map 9 4), 1, 8, .undef⟩ := rfl
theorem ty63 : tyF 63 = some ⟨.other, 1, 8, .undef⟩ := rfl
theorem ty64 : tyF 64 = some ⟨.other, 1, 8, .undef⟩ := rfl
theorem ty65 : tyF 65 = some ⟨.other, 1, 8, .undef⟩ := rfl
theorem ty66 : tyF 66 = some ⟨.other, 1, 8, .undef⟩ := rfl
theorem ty67 : tyF 67 = some ⟨.other, 1, 8, .undef⟩ := rfl
theorem ty68 : tyF 68 = some ⟨.other, 1, 8, .undef⟩ := rfl
theorem ty69 : tyF 69 = some ⟨.other, 1, 8, .undef⟩ := rfl
theorem ty70 : tyF 70 = some ⟨.other, 1, 8, .undef⟩ := rfl
theorem ty71 : tyF 71 = some ⟨.other, 1, 8, .undef⟩ := rfl
theorem ty72 : tyF 72 = some ⟨.other, 1, 8, .undef⟩ := rfl
theorem ty73 : tyF 73 = some ⟨.other, 1, 8, .undef⟩ := rfl
theorem ty74 : tyF 74 = some ⟨.other, 1, 8, .undef⟩ := rfl
theorem ty75 : tyF 75 = some ⟨(.int .u64), 1, 8, (.int .u64 0)⟩ := rfl
theorem ty76 : tyF 76 = some ⟨.other, 1, 8, .undef⟩ := rfl
theorem ty77 : tyF 77 = some ⟨.other, 1, 8, .undef⟩ := rfl
theorem ty78 : tyF 78 = some ⟨(.struct [(0, 1, 9), (1, 1, 3)]), 2, 24, (.agg [(.str ByteArray.empty), (.int .i64 0)])⟩ := rfl
theorem ty79 : tyF 79 = some ⟨(.struct [(0, 1, 9), (1, 1, 3)]), 2, 24, (.agg [(.str ByteArray.empty), (.int .i64 0)])⟩ := rfl
theorem ty80 : tyF 80 = some ⟨.other, 1, 8, .undef⟩ := rfl
theorem ty81 : tyF 81 = some ⟨.other, 1, 8, .undef⟩ := rfl
theorem ty82 : tyF 82 = some ⟨.other, 1, 8, .undef⟩ := rfl
theorem ty83 : tyF 83 = some ⟨.other, 1, 8, .undef⟩ := rfl
theorem ty84 : tyF 84 = some ⟨.other, 1, 8, .undef⟩ := rfl
theorem ty85 : tyF 85 = some ⟨(.array 5 3), 5, 40, (.agg [(.int .i64 0), (.int .i64 0), (.int .i64 0), (.int .i64 0), (.int .i64 0)])⟩ := rfl
theorem ty86 : tyF 86 = some ⟨.other, 1, 8, .undef⟩ := rfl
theorem ty87 : tyF 87 = some ⟨.other, 1, 8, .undef⟩ := rfl
theorem ty88 : tyF 88 = some ⟨.other, 1, 8, .undef⟩ := rfl
theorem ty89 : tyF 89 = some ⟨.other, 1, 8, .undef⟩ := rfl
theorem ty90 : tyF 90 = some ⟨.other, 1, 8, .undef⟩ := rfl
theorem ty92 : tyF 92 = some ⟨.other, 1, 8, .undef⟩ := rfl
theorem ty93 : tyF 93 = some ⟨(.struct [(0, 1, 3), (1, 1, 3), (2, 1, 3)]), 3, 24, (.agg [(.int .i64 0), (.int .i64 0), (.int .i64 0)])⟩ := rfl
theorem ty94 : tyF 94 = some ⟨(.struct [(0, 1, 3), (1, 1, 3), (2, 1, 3)]), 3, 24, (.agg [(.int .i64 0), (.int .i64 0), (.int .i64 0)])⟩ := rfl
theorem ty95 : tyF 95 = some ⟨.other, 1, 8, .undef⟩ := rfl
theorem ty96 : tyF 96 = some ⟨.other, 1, 8, .undef⟩ := rfl
theorem ty97 : tyF 97 = some ⟨(.slice 5), 1, 24, .zero⟩ := rfl
theorem ty98 : tyF 98 = some ⟨.other, 1, 8, .undef⟩ := rfl
theorem ty99 : tyF 99 = some ⟨.other, 1, 8, .undef⟩ := rfl
theorem ty100 : tyF 100 = some ⟨.other, 1, 8, .undef⟩ := rfl
theorem ty101 : tyF 101 = some ⟨.other, 1, 8, .undef⟩ := rfl
theorem ty102 : tyF 102 = some ⟨.other, 1, 8, .undef⟩ := rfl
theorem ty103 : tyF 103 = some ⟨.other, 1, 8, .undef⟩ := rfl
theorem ty104 : tyF 104 = some ⟨.other, 1, 8, .undef⟩ := rfl
theorem ty105 : tyF 105 = some ⟨.other, 1, 8, .undef⟩ := rfl
theorem ty107 : tyF 107 = some ⟨.other, 1, 8, .undef⟩ := rfl
theorem ty108 : tyF 108 = some ⟨.other, 1, 8, .undef⟩ := rfl
theorem ty109 : tyF 109 = some ⟨.other, 1, 8, .undef⟩ := rfl
theorem ty110 : tyF 110 = some ⟨.other, 1, 8, .undef⟩ := rfl
theorem ty111 : tyF 111 = some ⟨.other, 1, 8, .undef⟩ := rfl
theorem ty112 : tyF 112 = some ⟨.other, 1, 8, .undef⟩ := rfl
theorem ty113 : tyF 113 = some ⟨.other, 1, 8, .undef⟩ := rfl
theorem ty114 : tyF 114 = some ⟨.other, 1, 8, .undef⟩ := rfl
theorem ty115 : tyF 115 = some ⟨.other, 1, 8, .undef⟩ := rfl
theorem ty116 : tyF 116 = some ⟨.other, 1, 8, .undef⟩ := rfl
theorem ty117 : tyF 117 = some ⟨.other, 1, 8, .undef⟩ := rfl
theorem ty118 : tyF 118 = some ⟨(.array 13 3), 13, 104, (.agg [(.int .i64 0), (.int .i64 0), (.int .i64 0), (.int .i64 0), (.int .i64 0), (.int .i64 0), (.int .i64 0), (.int .i64 0), (.int .i64 0), (.int .i64 0), (.int .i64 0), (.int .i64 0), (.int .i64 0)])⟩ := rfl
theorem ty119 : tyF 119 = some ⟨.other, 1, 8, .undef⟩ := rfl
theorem ty123 : tyF 123 = some ⟨.other, 1, 8, .undef⟩ := rfl
theorem ty124 : tyF 124 = some ⟨.other, 1, 8, .undef⟩ := rfl
theorem ty125 : tyF 125 = some ⟨.other, 1, 8, .undef⟩ := rfl
theorem ty126 : tyF 126 = some ⟨.other, 1, 8, .undef⟩ := rfl
theorem ty127 : tyF 127 = some ⟨(.int .u64), 1, 8, (.int .u64 0)⟩ := rfl
theorem ty128 : tyF 128 = some ⟨.other, 1, 8, .undef⟩ := rfl
theorem ty129 : tyF 129 = some ⟨.other, 1, 8, .undef⟩ := rfl
theorem ty130 : tyF 130 = some ⟨.other, 1, 8, .undef⟩ := rfl
theorem ty131 : tyF 131 = some ⟨.other, 1, 8, .undef⟩ := rfl
theorem ty132 : tyF 132 = some ⟨.other, 1, 8, .undef⟩ := rfl
theorem ty133 : tyF 133 = some ⟨.other, 1, 8, .undef⟩ := rfl
theorem ty135 : tyF 135 = some ⟨.other, 1, 8, .undef⟩ := rfl
theorem ty136 : tyF 136 = some ⟨.other, 1, 8, .undef⟩ := rfl
theorem ty137 : tyF 137 = some ⟨.other, 1, 8, .undef⟩ := rfl
theorem ty138 : tyF 138 = some ⟨.other, 1, 8, .undef⟩ := rfl
theorem ty139 : tyF 139 = some ⟨.other, 1, 8, .undef⟩ := rfl
theorem ty141 : tyF 141 = some ⟨(.struct [(0, 1, 5), (1, 1, 5)]), 2, 2, (.agg [(.int .u8 0), (.int .u8 0)])⟩ := rfl
theorem ty142 : tyF 142 = some ⟨(.struct [(0, 1, 5), (1, 1, 5)]), 2, 2, (.agg [(.int .u8 0), (.int .u8 0)])⟩ := rfl
theorem ty143 : tyF 143 = some ⟨(.array 16 142), 32, 32, (.agg [(.int .u8 0), (.int .u8 0), (.int .u8 0), (.int .u8 0), (.int .u8 0), (.int .u8 0), (.int .u8 0), (.int .u8 0), (.int .u8 0), (.int .u8 0), (.int .u8 0), (.int .u8 0), (.int .u8 0), (.int .u8 0), (.int .u8 0), (.int .u8 0), (.int .u8 0), (.int .u8 0), (.int .u8 0), (.int .u8 0), (.int .u8 0), (.int .u8 0), (.int .u8 0), (.int .u8 0), (.int .u8 0), (.int .u8 0), (.int .u8 0), (.int .u8 0), (.int .u8 0), (.int .u8 0), (.int .u8 0), (.int .u8 0)])⟩ := rfl
theorem ty144 : tyF 144 = some ⟨(.int .u32), 1, 4, (.int .u32 0)⟩ := rfl
theorem ty146 : tyF 146 = some ⟨.other, 1, 8, .undef⟩ := rfl
theorem ty147 : tyF 147 = some ⟨.other, 1, 8, .undef⟩ := rfl
theorem ty148 : tyF 148 = some ⟨(.struct [(0, 1, 17), (1, 1, 17), (2, 1, 17), (3, 1, 9)]), 4, 40, (.agg [.undef, .undef, .undef, (.str ByteArray.empty)])⟩ := rfl
theorem ty149 : tyF 149 = some ⟨(.struct [(0, 1, 17), (1, 1, 17), (2, 1, 17), (3, 1, 9)]), 4, 40, (.agg [.undef, .undef, .undef, (.str ByteArray.empty)])⟩ := rfl
theorem ty153 : tyF 153 = some ⟨.other, 1, 8, .undef⟩ := rfl
theorem ty154 : tyF 154 = some ⟨(.int .u8), 1, 1, (.int .u8 0)⟩ := rfl
theorem ty155 : tyF 155 = some ⟨(.int .u8), 1, 1, (.int .u8 0)⟩ := rfl
theorem ty156 : tyF 156 = some ⟨.other, 1, 8, .undef⟩ := rfl
theorem ty157 : tyF 157 = some ⟨.other, 1, 8, .undef⟩ := rfl
theorem ty158 : tyF 158 = some ⟨(.int .i32), 1, 4, (.int .i32 0)⟩ := rfl
theorem ty159 : tyF 159 = some ⟨(.int .i32), 1, 4, (.int .i32 0)⟩ := rfl
theorem ty160 : tyF 160 = some ⟨(.struct [(0, 1, 12), (1, 1, 12), (2, 1, 144), (3, 1, 154), (4, 1, 5), (5, 1, 5), (6, 1, 155), (7, 1, 156), (8, 1, 157), (9, 1, 158), (10, 1, 159)]), 11, 48, (.agg [(.int .u64 0), (.int .u64 0), (.int .u32 0), (.int .u8 0), (.int .u8 0), (.int .u8 0), (.int .u8 0), .undef, .undef, (.int .i32 0), (.int .i32 0)])⟩ := rfl
theorem ty161 : tyF 161 = some ⟨(.struct [(0, 1, 12), (1, 1, 12), (2, 1, 144), (3, 1, 154), (4, 1, 5), (5, 1, 5), (6, 1, 155), (7, 1, 156), (8, 1, 157), (9, 1, 158), (10, 1, 159)]), 11, 48, (.agg [(.int .u64 0), (.int .u64 0), (.int .u32 0), (.int .u8 0), (.int .u8 0), (.int .u8 0), (.int .u8 0), .undef, .undef, (.int .i32 0), (.int .i32 0)])⟩ := rfl
theorem eqs29 : eqsL.contains 29 = true := rfl
theorem eqs61 : eqsL.contains 61 = true := rfl
theorem eqs79 : eqsL.contains 79 = true := rfl
theorem eqs94 : eqsL.contains 94 = true := rfl
def dr2 : List (Nat × (Nat × List (List Nat))) := []
def dd2 : List (Nat × List Nat) := [(0, [0])]
theorem drOk2 : drAll dr2 (Tryd.f2.body.getD .skip) = true := by kernel_rfl
def dr3 : List (Nat × (Nat × List (List Nat))) := []
def dd3 : List (Nat × List Nat) := [(0, [4]), (1, [8, 9, 10, 11, 12, 13]), (2, [14, 15]), (3, [16, 17, 18, 19, 20, 21, 22, 23, 24]), (5, [26, 27, 28, 29, 30, 31]), (7, [33]), (8, [5, 6, 7, 35, 36, 37, 38, 39, 40, 41, 42]), (9, [0, 1, 5, 6, 43, 44, 45, 46, 47, 48, 49, 50, 51])]
theorem drOk3 : drAll dr3 (Tryd.f3.body.getD .skip) = true := by kernel_rfl
def dr4 : List (Nat × (Nat × List (List Nat))) := []
def dd4 : List (Nat × List Nat) := [(0, [0, 8]), (1, [29]), (3, [31, 32]), (4, [1, 4, 33, 34, 35, 36, 37, 38, 39]), (5, [10, 40]), (6, [9, 42, 43, 44, 45]), (7, [3, 46, 47, 48, 49, 50, 51, 52]), (8, [10, 53]), (9, [11, 55, 56, 57, 58]), (10, [12, 59, 60, 61, 62, 63]), (11, [13, 64]), (13, [66, 67, 68, 69, 70, 71, 72]), (14, [73, 74, 75, 76, 77, 78, 79, 80]), (15, [81, 82, 83, 84, 85, 86]), (16, [87, 88, 89, 90, 91, 92]), (17, [2, 9, 25, 26, 93, 94, 95, 96, 97, 98, 99, 100]), (18, [11, 14, 15, 16, 17, 18, 19, 20, 21, 22, 23, 24, 27, 28, 101, 102, 103, 104, 105, 106, 107, 108, 109, 110, 111, 112, 113, 114, 115, 116, 117, 118, 119, 120, 121, 122, 123, 124, 125, 126, 127, 128, 129, 130, 131, 132, 133, 134, 135, 136, 137, 138, 139, 140, 141, 142, 143, 144, 145, 146])]
theorem drOk4 : drAll dr4 (Tryd.f4.body.getD .skip) = true := by kernel_rfl
def dr5 : List (Nat × (Nat × List (List Nat))) := [(16, (17, []))]
def dd5 : List (Nat × List Nat) := [(0, [4, 5]), (1, [14, 15]), (2, [16]), (3, [6, 18]), (4, [19, 20]), (7, [0]), (9, [26, 27]), (10, [28]), (12, [33, 34, 35]), (13, [13, 36, 37, 38, 39, 40, 41, 42]), (14, [43, 44]), (15, [46]), (16, [10, 11, 12, 48, 49, 50, 51, 52, 53, 54, 55, 56, 57, 58, 59, 60, 61, 62, 63, 64, 65]), (17, [66]), (18, [67]), (19, [7, 68])]
theorem drOk5 : drAll dr5 (Tryd.f5.body.getD .skip) = true := by kernel_rfl
def dr6 : List (Nat × (Nat × List (List Nat))) := []
def dd6 : List (Nat × List Nat) := [(0, [2]), (1, [6, 7]), (3, [9]), (4, [0]), (6, [14, 15]), (7, [16, 17, 18, 19, 20, 21, 22, 23, 24, 25, 26, 27, 28, 29, 30]), (9, [32, 33, 34, 35, 36, 37, 38, 39, 40, 41, 42, 43, 44, 45, 46, 47, 48, 49, 50, 51, 52]), (11, [54, 55, 56, 57, 58, 59, 60, 61, 62, 63, 64, 65, 66, 67, 68, 69]), (13, [71, 72, 73, 74, 75, 76]), (15, [78, 79, 80]), (17, [5, 82, 83, 84]), (18, [85])]
theorem drOk6 : drAll dr6 (Tryd.f6.body.getD .skip) = true := by kernel_rfl
def dr7 : List (Nat × (Nat × List (List Nat))) := []
def dd7 : List (Nat × List Nat) := [(0, [2]), (1, [6, 7]), (5, [13, 14, 15]), (6, [16, 17]), (7, [18]), (8, [5, 20]), (9, [3, 4, 21, 22, 23, 24]), (11, [26])]
theorem drOk7 : drAll dr7 (Tryd.f7.body.getD .skip) = true := by kernel_rfl
def dr8 : List (Nat × (Nat × List (List Nat))) := []
def dd8 : List (Nat × List Nat) := [(0, [2]), (1, [0, 3, 4])]
theorem drOk8 : drAll dr8 (Tryd.f8.body.getD .skip) = true := by kernel_rfl
def dr9 : List (Nat × (Nat × List (List Nat))) := []
def dd9 : List (Nat × List Nat) := [(0, [6]), (1, [10, 11, 12, 13]), (3, [0]), (5, [19, 20, 21]), (6, [7, 22, 23, 24, 25]), (7, [8, 9, 26, 27, 28, 29]), (9, [31])]
theorem drOk9 : drAll dr9 (Tryd.f9.body.getD .skip) = true := by kernel_rfl
def dr10 : List (Nat × (Nat × List (List Nat))) := [(10, (12, []))]
def dd10 : List (Nat × List Nat) := [(0, [4]), (2, [0]), (4, [16, 17]), (5, [18]), (7, [23, 24, 25]), (8, [26, 27, 28, 29]), (9, [30, 31, 32, 33, 34, 35]), (10, [8, 37, 38, 39, 40, 41, 42, 43, 44, 45, 46, 47]), (11, [9, 10, 11, 48, 49, 50, 51, 52, 53, 54, 55, 56, 57, 58, 59, 60, 61, 62, 63]), (12, [64]), (13, [65]), (14, [5, 66])]
theorem drOk10 : drAll dr10 (Tryd.f10.body.getD .skip) = true := by kernel_rfl
def dr11 : List (Nat × (Nat × List (List Nat))) := []
def dd11 : List (Nat × List Nat) := [(0, [0, 1, 4]), (1, [2, 3, 5, 6, 7, 8, 9, 10, 11, 12, 13, 14, 15, 16, 17, 18, 19, 20, 21, 22, 23])]
theorem drOk11 : drAll dr11 (Tryd.f11.body.getD .skip) = true := by kernel_rfl
def dr12 : List (Nat × (Nat × List (List Nat))) := []
def dd12 : List (Nat × List Nat) := [(0, [0]), (1, [5, 6, 7, 8, 9, 10]), (2, [1, 11, 12, 13, 14, 15]), (3, [2, 3, 4, 16, 17, 18, 19, 20, 21, 22, 23, 24, 25])]
theorem drOk12 : drAll dr12 (Tryd.f12.body.getD .skip) = true := by kernel_rfl
def dr13 : List (Nat × (Nat × List (List Nat))) := []
def dd13 : List (Nat × List Nat) := [(0, [4]), (1, [0, 1, 5, 6, 7, 8, 9, 10])]
theorem drOk13 : drAll dr13 (Tryd.f13.body.getD .skip) = true := by kernel_rfl
def dr14 : List (Nat × (Nat × List (List Nat))) := []
def dd14 : List (Nat × List Nat) := [(0, [0, 7]), (1, [14, 15]), (2, [16]), (3, [8, 18, 19]), (4, [1, 2, 20, 21, 22, 23, 24, 25]), (5, [26]), (6, [10, 28, 29]), (7, [3, 30, 31]), (8, [9]), (10, [36, 37]), (11, [13, 38, 39, 40, 41, 42, 43]), (12, [44]), (13, [10, 46, 47]), (14, [48]), (15, [11, 49])]
theorem drOk14 : drAll dr14 (Tryd.f14.body.getD .skip) = true := by kernel_rfl
def dr15 : List (Nat × (Nat × List (List Nat))) := []
def dd15 : List (Nat × List Nat) := [(0, [0, 9]), (1, [19, 20]), (2, [21]), (3, [10, 23, 24]), (4, [25, 26]), (5, [28]), (6, [29, 30, 31, 32, 33, 34, 35]), (7, [36]), (8, [12, 38, 39]), (9, [11, 40]), (10, [42]), (11, [1, 43, 44, 45]), (13, [46]), (15, [51, 52]), (16, [53, 54, 55, 56, 57]), (17, [58, 59, 60, 61, 62, 63, 64, 65, 66, 67, 68]), (18, [16, 70, 71, 72, 73, 74, 75, 76, 77, 78, 79]), (19, [17, 80, 81, 82]), (20, [83]), (21, [84, 85, 86]), (22, [88]), (23, [89]), (24, [3, 14, 91, 92, 93, 94, 95, 96, 97, 98]), (25, [4, 13, 99, 100, 101, 102, 103, 104]), (26, [105]), (27, [12, 107, 108]), (28, [2, 18, 109, 110, 111, 112, 113])]
theorem drOk15 : drAll dr15 (Tryd.f15.body.getD .skip) = true := by kernel_rfl
def dr16 : List (Nat × (Nat × List (List Nat))) := []
def dd16 : List (Nat × List Nat) := [(0, [0, 5]), (1, [9, 10]), (2, [11]), (3, [6, 13, 14]), (4, [1, 15, 16, 17]), (5, [18]), (6, [20]), (7, [2, 7, 21, 22, 23, 24, 25]), (8, [26, 27, 28, 29]), (9, [8, 30])]
theorem drOk16 : drAll dr16 (Tryd.f16.body.getD .skip) = true := by kernel_rfl
def dr17 : List (Nat × (Nat × List (List Nat))) := []
def dd17 : List (Nat × List Nat) := [(0, [0, 4, 5, 6]), (1, [13, 14, 15]), (2, [16]), (3, [7, 18]), (5, [19]), (7, [24, 25]), (8, [11, 26, 27, 28, 29, 30]), (9, [31]), (10, [12, 33, 34, 35]), (11, [12, 36, 37, 38]), (12, [39]), (13, [8, 9, 40, 41])]
theorem drOk17 : drAll dr17 (Tryd.f17.body.getD .skip) = true := by kernel_rfl
def dr18 : List (Nat × (Nat × List (List Nat))) := [(5, (12, []))]
def dd18 : List (Nat × List Nat) := [(0, [0, 4, 5, 6, 7]), (1, [10, 11, 12]), (2, [13]), (3, [8, 15]), (4, [1, 2, 16, 17, 18]), (5, [9, 19, 20, 21, 22, 23, 24, 25, 26])]
theorem drOk18 : drAll dr18 (Tryd.f18.body.getD .skip) = true := by kernel_rfl
def dr19 : List (Nat × (Nat × List (List Nat))) := []
def dd19 : List (Nat × List Nat) := [(0, [0, 6, 7]), (1, [10, 11, 12]), (2, [13]), (3, [8, 15]), (4, [16, 17, 18, 19, 20, 21, 22]), (6, [1, 2, 3, 24, 25, 26, 27]), (7, [9, 28, 29, 30, 31, 32, 33])]
theorem drOk19 : drAll dr19 (Tryd.f19.body.getD .skip) = true := by kernel_rfl
def dr20 : List (Nat × (Nat × List (List Nat))) := [(20, (13, []))]
def dd20 : List (Nat × List Nat) := [(0, [0, 2]), (1, [8, 9, 10]), (2, [11]), (3, [3, 13]), (4, [14, 15, 16, 17, 18, 19, 20]), (6, [22, 23, 24]), (8, [26]), (9, [27]), (11, [32, 33, 34]), (12, [35, 36]), (13, [37]), (14, [7, 39]), (15, [40, 41, 42]), (17, [44, 45, 46]), (19, [48, 49, 50]), (20, [5, 6, 51, 52, 53, 54, 55, 56, 57, 58, 59, 60, 61, 62]), (22, [64])]
theorem drOk20 : drAll dr20 (Tryd.f20.body.getD .skip) = true := by kernel_rfl
def dr21 : List (Nat × (Nat × List (List Nat))) := []
def dd21 : List (Nat × List Nat) := [(0, [2]), (1, [0, 3, 4, 5, 6, 7, 8])]
theorem drOk21 : drAll dr21 (Tryd.f21.body.getD .skip) = true := by kernel_rfl
def dr22 : List (Nat × (Nat × List (List Nat))) := []
def dd22 : List (Nat × List Nat) := [(0, [0, 2]), (1, [7, 8]), (2, [1, 4, 10, 11, 12, 13, 14, 15, 16, 17]), (3, [3, 18]), (4, [1, 6, 19, 20, 21, 22, 23, 24, 25, 26]), (5, [5, 27])]
theorem drOk22 : drAll dr22 (Tryd.f22.body.getD .skip) = true := by kernel_rfl
def dr23 : List (Nat × (Nat × List (List Nat))) := [(8, (9, []))]
def dd23 : List (Nat × List Nat) := [(0, [4, 5]), (1, [8, 9, 10, 11, 12, 13, 14, 15, 16, 17]), (3, [0, 19, 20]), (4, [1, 21, 22, 23, 24, 25, 26, 27, 28, 29, 30]), (5, [31, 32, 33, 34, 35]), (7, [7, 37, 38, 39, 40, 41, 42, 43, 44]), (8, [45, 46, 47, 48, 49, 50, 51, 52, 53]), (9, [6, 54, 55])]
theorem drOk23 : drAll dr23 (Tryd.f23.body.getD .skip) = true := by kernel_rfl
def dr24 : List (Nat × (Nat × List (List Nat))) := []
def dd24 : List (Nat × List Nat) := [(0, [0, 4]), (1, [1, 2, 5, 6, 7, 8, 9, 10, 11, 12, 13, 14, 15, 16, 17, 18])]
theorem drOk24 : drAll dr24 (Tryd.f24.body.getD .skip) = true := by kernel_rfl
def dr25 : List (Nat × (Nat × List (List Nat))) := []
def dd25 : List (Nat × List Nat) := [(0, [2]), (1, [4]), (3, [8]), (4, [3, 9, 10, 11, 12]), (6, [14]), (7, [0, 15, 16, 17, 18, 19, 20, 21, 22])]
theorem drOk25 : drAll dr25 (Tryd.f25.body.getD .skip) = true := by kernel_rfl
def dr26 : List (Nat × (Nat × List (List Nat))) := []
def dd26 : List (Nat × List Nat) := [(0, [4]), (1, [0, 1, 5, 6, 7])]
theorem drOk26 : drAll dr26 (Tryd.f26.body.getD .skip) = true := by kernel_rfl
def dr27 : List (Nat × (Nat × List (List Nat))) := []
def dd27 : List (Nat × List Nat) := [(0, [6]), (1, [0, 1, 2, 7, 8, 9, 10, 11, 12, 13, 14])]
theorem drOk27 : drAll dr27 (Tryd.f27.body.getD .skip) = true := by kernel_rfl
def dr28 : List (Nat × (Nat × List (List Nat))) := []
def dd28 : List (Nat × List Nat) := [(0, [2]), (1, [0, 3, 4, 5, 6, 7, 8, 9, 10, 11, 12, 13, 14, 15, 16, 17, 18, 19, 20])]
theorem drOk28 : drAll dr28 (Tryd.f28.body.getD .skip) = true := by kernel_rfl
def dr29 : List (Nat × (Nat × List (List Nat))) := [(14, (14, []))]
def dd29 : List (Nat × List Nat) := [(0, [4]), (1, [0, 6, 7]), (2, [8]), (3, [10, 11]), (4, [12, 13, 14, 15]), (5, [16, 17]), (6, [19, 20, 21, 22, 23]), (7, [24]), (8, [26, 27]), (9, [28, 29, 30, 31]), (10, [32, 33]), (11, [35, 36, 37, 38, 39]), (12, [40, 41, 42]), (14, [5, 44, 45, 46, 47, 48, 49, 50, 51, 52, 53, 54, 55, 56])]
theorem drOk29 : drAll dr29 (Tryd.f29.body.getD .skip) = true := by kernel_rfl
def dr30 : List (Nat × (Nat × List (List Nat))) := []
def dd30 : List (Nat × List Nat) := [(0, [0, 2]), (1, [6, 7, 8, 9, 10, 11, 12, 13, 14, 15, 16, 17, 18, 19, 20]), (3, [22, 23, 24, 25, 26, 27, 28, 29, 30, 31, 32, 33, 34, 35, 36, 37, 38, 39, 40, 41, 42, 43, 44, 45, 46, 47, 48, 49, 50, 51, 52, 53, 54, 55]), (5, [57, 58, 59, 60, 61, 62, 63, 64, 65, 66, 67, 68, 69, 70, 71, 72, 73]), (7, [1, 3, 74, 75, 76, 77, 78, 79, 80, 81, 82]), (8, [4, 83])]
theorem drOk30 : drAll dr30 (Tryd.f30.body.getD .skip) = true := by kernel_rfl
def dr31 : List (Nat × (Nat × List (List Nat))) := []
def dd31 : List (Nat × List Nat) := [(0, [4]), (1, [0, 1, 5, 6, 7, 8])]
theorem drOk31 : drAll dr31 (Tryd.f31.body.getD .skip) = true := by kernel_rfl
def dr32 : List (Nat × (Nat × List (List Nat))) := []
def dd32 : List (Nat × List Nat) := [(0, [0, 3]), (1, [1, 2, 4, 5, 6, 7, 8])]
theorem drOk32 : drAll dr32 (Tryd.f32.body.getD .skip) = true := by kernel_rfl
def dr33 : List (Nat × (Nat × List (List Nat))) := []
def dd33 : List (Nat × List Nat) := [(0, [0, 2]), (1, [1, 3, 4, 5, 6])]
theorem drOk33 : drAll dr33 (Tryd.f33.body.getD .skip) = true := by kernel_rfl
def dr34 : List (Nat × (Nat × List (List Nat))) := []
def dd34 : List (Nat × List Nat) := [(0, [2]), (1, [3]), (2, [0, 5, 6, 7, 8]), (3, [9]), (4, [0, 11, 12, 13, 14]), (5, [0, 15, 16, 17, 18, 19, 20, 21])]
theorem drOk34 : drAll dr34 (Tryd.f34.body.getD .skip) = true := by kernel_rfl
def dr35 : List (Nat × (Nat × List (List Nat))) := [(6, (9, []))]
def dd35 : List (Nat × List Nat) := [(0, [4]), (1, [6, 7, 8, 9]), (3, [11]), (5, [15]), (6, [5, 16, 17, 18, 19, 20, 21, 22, 23]), (8, [25])]
theorem drOk35 : drAll dr35 (Tryd.f35.body.getD .skip) = true := by kernel_rfl
def dr36 : List (Nat × (Nat × List (List Nat))) := [(9, (7, []))]
def dd36 : List (Nat × List Nat) := [(0, [0, 1, 5]), (1, [12, 13]), (2, [14]), (3, [6, 16, 17]), (4, [18, 19]), (5, [20]), (6, [7, 22, 23]), (7, [24, 25, 26, 27]), (8, [28]), (9, [3, 8, 30, 31, 32, 33, 34, 35]), (10, [2, 37, 38]), (11, [39]), (12, [41, 42, 43, 44]), (13, [45]), (14, [47, 48, 49, 50, 51]), (15, [52]), (16, [54, 55, 56, 57]), (17, [58]), (18, [2, 59, 60]), (19, [61, 62, 63, 64]), (20, [11, 65, 66, 67, 68, 69, 70, 71]), (21, [3, 10, 72, 73, 74, 75, 76, 77, 78]), (22, [9, 79])]
theorem drOk36 : drAll dr36 (Tryd.f36.body.getD .skip) = true := by kernel_rfl
def dr37 : List (Nat × (Nat × List (List Nat))) := []
def dd37 : List (Nat × List Nat) := [(1, [1, 2, 3, 4, 5, 6, 7, 8])]
theorem drOk37 : drAll dr37 (Tryd.f37.body.getD .skip) = true := by kernel_rfl
def dr38 : List (Nat × (Nat × List (List Nat))) := []
def dd38 : List (Nat × List Nat) := [(1, [0, 1, 2, 3, 4, 11, 12, 13, 14, 15, 16, 17, 18, 19, 20, 21, 22])]
theorem drOk38 : drAll dr38 (Tryd.f38.body.getD .skip) = true := by kernel_rfl
def dr39 : List (Nat × (Nat × List (List Nat))) := []
def dd39 : List (Nat × List Nat) := [(0, [0, 6, 7]), (1, [9, 10]), (2, [11]), (3, [8, 13]), (4, [14, 15, 16, 17]), (6, [19, 20]), (8, [1, 2, 3, 22, 23, 24, 25])]
theorem drOk39 : drAll dr39 (Tryd.f39.body.getD .skip) = true := by kernel_rfl
def dr40 : List (Nat × (Nat × List (List Nat))) := [(1, (7, []))]
def dd40 : List (Nat × List Nat) := [(0, [0]), (1, [6, 7, 8, 9, 10, 11]), (2, [1, 12]), (4, [17, 18]), (5, [19, 20, 21, 22]), (6, [5, 23, 24, 25, 26, 27, 28]), (7, [29]), (8, [3, 30])]
theorem drOk40 : drAll dr40 (Tryd.f40.body.getD .skip) = true := by kernel_rfl
def dr41 : List (Nat × (Nat × List (List Nat))) := []
def dd41 : List (Nat × List Nat) := [(0, [4, 5]), (1, [8, 9]), (2, [10]), (3, [6, 12]), (4, [1, 13, 14, 15]), (5, [16]), (7, [0, 7, 18, 19, 20, 21, 22])]
theorem drOk41 : drAll dr41 (Tryd.f41.body.getD .skip) = true := by kernel_rfl
def dr42 : List (Nat × (Nat × List (List Nat))) := []
def dd42 : List (Nat × List Nat) := [(0, [0, 8]), (2, [4, 14]), (4, [19, 20]), (5, [21, 22, 23, 24, 25, 26, 27, 28, 29]), (6, [11, 31]), (8, [36, 37]), (9, [38, 39, 40]), (10, [13, 42, 43, 44, 45]), (11, [46]), (12, [47]), (13, [9, 48])]
theorem drOk42 : drAll dr42 (Tryd.f42.body.getD .skip) = true := by kernel_rfl
def dr43 : List (Nat × (Nat × List (List Nat))) := []
def dd43 : List (Nat × List Nat) := [(0, [0, 5]), (1, [8, 9]), (2, [10]), (3, [6, 12, 13]), (4, [14, 15]), (5, [17]), (6, [18, 19, 20]), (7, [22]), (8, [2, 23, 24]), (9, [1, 25, 26]), (10, [7, 27])]
theorem drOk43 : drAll dr43 (Tryd.f43.body.getD .skip) = true := by kernel_rfl
def dr44 : List (Nat × (Nat × List (List Nat))) := []
def dd44 : List (Nat × List Nat) := [(0, [0, 1, 4]), (1, [2, 3, 5, 6, 7, 8])]
theorem drOk44 : drAll dr44 (Tryd.f44.body.getD .skip) = true := by kernel_rfl
def dr45 : List (Nat × (Nat × List (List Nat))) := []
def dd45 : List (Nat × List Nat) := [(0, [2]), (1, [3]), (3, [0, 5, 6, 7])]
theorem drOk45 : drAll dr45 (Tryd.f45.body.getD .skip) = true := by kernel_rfl
def dr46 : List (Nat × (Nat × List (List Nat))) := []
def dd46 : List (Nat × List Nat) := [(0, [0, 4]), (1, [2, 6, 7]), (2, [8]), (3, [5, 10]), (4, [1, 11, 12])]
theorem drOk46 : drAll dr46 (Tryd.f46.body.getD .skip) = true := by kernel_rfl
def dr47 : List (Nat × (Nat × List (List Nat))) := [(5, (12, []))]
def dd47 : List (Nat × List Nat) := [(0, [0]), (2, [10]), (4, [15, 16]), (5, [9, 17, 18, 19, 20, 21, 22, 23, 24, 25, 26, 27, 28]), (6, [29]), (7, [7, 30])]
theorem drOk47 : drAll dr47 (Tryd.f47.body.getD .skip) = true := by kernel_rfl
def dr48 : List (Nat × (Nat × List (List Nat))) := [(10, (13, []))]
def dd48 : List (Nat × List Nat) := [(0, [2]), (1, [5, 6]), (5, [12, 13, 14]), (6, [15, 16, 17]), (8, [19, 20, 21, 22, 23, 24, 25]), (10, [3, 4, 27, 28, 29, 30, 31, 32, 33, 34, 35, 36, 37, 38]), (12, [40])]
theorem drOk48 : drAll dr48 (Tryd.f48.body.getD .skip) = true := by kernel_rfl
def dr49 : List (Nat × (Nat × List (List Nat))) := []
def dd49 : List (Nat × List Nat) := [(0, [0, 2]), (1, [3, 4, 5]), (3, [7, 8, 9]), (5, [1, 11, 12, 13])]
theorem drOk49 : drAll dr49 (Tryd.f49.body.getD .skip) = true := by kernel_rfl
def dr50 : List (Nat × (Nat × List (List Nat))) := []
def dd50 : List (Nat × List Nat) := [(0, [0, 1, 4]), (1, [2, 3, 5, 6, 7, 8, 9])]
theorem drOk50 : drAll dr50 (Tryd.f50.body.getD .skip) = true := by kernel_rfl
def dr51 : List (Nat × (Nat × List (List Nat))) := []
def dd51 : List (Nat × List Nat) := [(0, [0, 1, 4]), (1, [5, 6, 7, 8]), (2, [2, 3, 10, 11, 12, 13, 14]), (3, [2, 3, 15, 16, 17, 18, 19])]
theorem drOk51 : drAll dr51 (Tryd.f51.body.getD .skip) = true := by kernel_rfl
def dr52 : List (Nat × (Nat × List (List Nat))) := []
def dd52 : List (Nat × List Nat) := [(0, [0, 1, 2, 6, 7]), (1, [10, 11, 12, 13]), (2, [14]), (3, [8, 16]), (4, [17, 18, 19, 20, 21]), (5, [3, 4, 5, 9, 22, 23, 24])]
theorem drOk52 : drAll dr52 (Tryd.f52.body.getD .skip) = true := by kernel_rfl
def dr53 : List (Nat × (Nat × List (List Nat))) := []
def dd53 : List (Nat × List Nat) := [(0, [0, 1, 2, 6, 7]), (1, [9, 10, 11, 12]), (2, [13]), (3, [8, 15]), (4, [3, 4, 5, 16, 17, 18])]
theorem drOk53 : drAll dr53 (Tryd.f53.body.getD .skip) = true := by kernel_rfl
def dr54 : List (Nat × (Nat × List (List Nat))) := []
def dd54 : List (Nat × List Nat) := [(1, [5, 6, 7]), (2, [8, 9, 10, 11]), (3, [13, 14]), (4, [15, 16, 17, 18]), (6, [19, 20, 21, 22]), (7, [24, 25, 26, 27, 28]), (8, [29, 30]), (9, [0, 3, 4, 31, 32, 33, 34, 35])]
theorem drOk54 : drAll dr54 (Tryd.f54.body.getD .skip) = true := by kernel_rfl
def dr55 : List (Nat × (Nat × List (List Nat))) := []
def dd55 : List (Nat × List Nat) := [(0, [4]), (1, [0, 5, 6, 7, 8, 9]), (3, [1, 11, 12, 13])]
theorem drOk55 : drAll dr55 (Tryd.f55.body.getD .skip) = true := by kernel_rfl
def dr56 : List (Nat × (Nat × List (List Nat))) := []
def dd56 : List (Nat × List Nat) := [(0, [0, 2]), (1, [5, 6, 7]), (3, [8, 9, 10]), (4, [12, 13]), (5, [14, 15, 16, 17, 18, 19]), (6, [1, 3, 20, 21, 22, 23, 24])]
theorem drOk56 : drAll dr56 (Tryd.f56.body.getD .skip) = true := by kernel_rfl
def dr57 : List (Nat × (Nat × List (List Nat))) := []
def dd57 : List (Nat × List Nat) := [(0, [4]), (1, [0, 1, 5, 6, 7])]
theorem drOk57 : drAll dr57 (Tryd.f57.body.getD .skip) = true := by kernel_rfl
def dr58 : List (Nat × (Nat × List (List Nat))) := [(4, (8, []))]
def dd58 : List (Nat × List Nat) := [(0, [4]), (1, [7, 8, 9, 10, 11]), (2, [0, 13]), (3, [14, 15, 16, 17, 18, 19, 20]), (4, [0, 1, 22, 23, 24, 25, 26, 27, 28]), (5, [29, 30, 31, 32, 33]), (6, [6]), (7, [0, 5, 35, 36, 37]), (8, [0, 1, 38, 39, 40, 41, 42])]
theorem drOk58 : drAll dr58 (Tryd.f58.body.getD .skip) = true := by kernel_rfl
def dr59 : List (Nat × (Nat × List (List Nat))) := []
def dd59 : List (Nat × List Nat) := [(0, [4]), (1, [0, 1, 5, 6, 7, 8])]
theorem drOk59 : drAll dr59 (Tryd.f59.body.getD .skip) = true := by kernel_rfl
def dr60 : List (Nat × (Nat × List (List Nat))) := []
def dd60 : List (Nat × List Nat) := [(0, [2]), (1, [0, 3, 4, 5, 6, 7, 8])]
theorem drOk60 : drAll dr60 (Tryd.f60.body.getD .skip) = true := by kernel_rfl
def dr61 : List (Nat × (Nat × List (List Nat))) := []
def dd61 : List (Nat × List Nat) := [(1, [0, 9, 10, 11]), (2, [12, 13, 14, 15]), (3, [3, 16, 17, 18, 19, 20]), (4, [21, 22, 23, 24]), (5, [5, 25, 26, 27, 28, 29]), (6, [30, 31, 32, 33]), (7, [4, 6, 7, 8, 34, 35, 36, 37, 38, 39, 40, 41, 42, 43, 44, 45, 46, 47, 48, 49, 50, 51, 52, 53, 54, 55])]
theorem drOk61 : drAll dr61 (Tryd.f61.body.getD .skip) = true := by kernel_rfl
def dr62 : List (Nat × (Nat × List (List Nat))) := []
def dd62 : List (Nat × List Nat) := [(0, [6]), (1, [8, 9, 10]), (2, [7, 11, 12, 13, 14, 15, 16, 17, 18, 19]), (3, [0, 1, 2, 20, 21, 22, 23, 24, 25, 26, 27, 28, 29, 30, 31, 32, 33, 34, 35, 36, 37, 38, 39])]
theorem drOk62 : drAll dr62 (Tryd.f62.body.getD .skip) = true := by kernel_rfl
def dr63 : List (Nat × (Nat × List (List Nat))) := []
def dd63 : List (Nat × List Nat) := [(0, [4]), (1, [1]), (2, [7]), (3, [8]), (4, [9]), (5, [10]), (7, [5, 12]), (8, [0, 13, 14, 15, 16, 17, 18, 19, 20, 21, 22, 23, 24])]
theorem drOk63 : drAll dr63 (Tryd.f63.body.getD .skip) = true := by kernel_rfl
def dr64 : List (Nat × (Nat × List (List Nat))) := []
def dd64 : List (Nat × List Nat) := [(0, [2]), (1, [5, 6, 7, 8, 9, 10]), (3, [12]), (5, [16]), (6, [3, 17, 18, 19]), (7, [4, 20, 21, 22, 23, 24, 25, 26, 27, 28, 29, 30, 31, 32, 33, 34, 35, 36, 37]), (9, [39])]
theorem drOk64 : drAll dr64 (Tryd.f64.body.getD .skip) = true := by kernel_rfl
def dr65 : List (Nat × (Nat × List (List Nat))) := []
def dd65 : List (Nat × List Nat) := [(0, [4]), (1, [0, 1, 5, 6, 7, 8])]
theorem drOk65 : drAll dr65 (Tryd.f65.body.getD .skip) = true := by kernel_rfl
def dr66 : List (Nat × (Nat × List (List Nat))) := []
def dd66 : List (Nat × List Nat) := [(0, [2]), (1, [4, 5, 6, 7, 8, 9]), (3, [11]), (5, [15]), (6, [3, 16, 17, 18, 19, 20, 21, 22, 23, 24]), (8, [26])]
theorem drOk66 : drAll dr66 (Tryd.f66.body.getD .skip) = true := by kernel_rfl
def dr67 : List (Nat × (Nat × List (List Nat))) := []
def dd67 : List (Nat × List Nat) := [(0, [4]), (1, [6]), (3, [10]), (4, [11, 12, 13, 14, 15]), (5, [5, 17]), (6, [18])]
theorem drOk67 : drAll dr67 (Tryd.f67.body.getD .skip) = true := by kernel_rfl
def dr68 : List (Nat × (Nat × List (List Nat))) := []
def dd68 : List (Nat × List Nat) := [(0, [4]), (2, [8, 9]), (4, [10, 11]), (5, [13, 14]), (6, [6, 15, 16, 17, 18, 19, 20, 21, 22]), (7, [23, 24, 25]), (8, [5, 26])]
theorem drOk68 : drAll dr68 (Tryd.f68.body.getD .skip) = true := by kernel_rfl
def dr69 : List (Nat × (Nat × List (List Nat))) := [(2, (14, []))]
def dd69 : List (Nat × List Nat) := [(0, [3]), (1, [4, 5]), (2, [0, 1, 7, 8, 9, 10, 11, 12, 13, 14, 15, 16, 17, 18, 19]), (3, [0, 1, 20, 21, 22, 23, 24, 25, 26])]
theorem drOk69 : drAll dr69 (Tryd.f69.body.getD .skip) = true := by kernel_rfl
def dr70 : List (Nat × (Nat × List (List Nat))) := []
def dd70 : List (Nat × List Nat) := [(0, [6]), (1, [9, 10, 11]), (2, [12, 13, 14, 15]), (3, [17, 18]), (4, [19, 20, 21, 22, 23]), (5, [25, 26]), (6, [27, 28, 29, 30, 31]), (7, [33, 34, 35, 36, 37, 38]), (8, [7, 39]), (9, [41, 42]), (10, [7, 43, 44]), (11, [46, 47, 48, 49, 50]), (12, [7, 51]), (13, [1, 8, 53, 54, 55, 56, 57]), (14, [7, 58, 59]), (15, [2, 61, 62]), (16, [7, 63, 64, 65, 66]), (17, [0, 68, 69]), (18, [7, 70, 71]), (19, [7, 72])]
theorem drOk70 : drAll dr70 (Tryd.f70.body.getD .skip) = true := by kernel_rfl
def dr71 : List (Nat × (Nat × List (List Nat))) := []
def dd71 : List (Nat × List Nat) := [(0, [4]), (2, [7]), (3, [8, 9, 10, 11]), (4, [13, 14]), (5, [15, 16, 17]), (6, [5, 18])]
theorem drOk71 : drAll dr71 (Tryd.f71.body.getD .skip) = true := by kernel_rfl
def dr72 : List (Nat × (Nat × List (List Nat))) := []
def dd72 : List (Nat × List Nat) := [(0, [0, 1, 4]), (1, [2, 3, 5, 6, 7, 8, 9, 10, 11, 12, 13, 14, 15, 16, 17, 18, 19, 20, 21, 22, 23])]
theorem drOk72 : drAll dr72 (Tryd.f72.body.getD .skip) = true := by kernel_rfl
def dr73 : List (Nat × (Nat × List (List Nat))) := [(5, (8, [])), (8, (16, []))]
def dd73 : List (Nat × List Nat) := [(0, [1, 6, 7]), (1, [12, 13]), (2, [14]), (3, [15, 16]), (4, [18, 19, 20, 21, 22, 23]), (5, [24, 25, 26, 27, 28, 29, 30]), (6, [11, 32, 33]), (7, [11, 34]), (8, [0, 2, 4, 8, 9, 35, 36, 37, 38, 39, 40, 41, 42, 43, 44, 45, 46, 47, 48])]
theorem drOk73 : drAll dr73 (Tryd.f73.body.getD .skip) = true := by kernel_rfl
def dr74 : List (Nat × (Nat × List (List Nat))) := [(11, (8, [])), (15, (8, []))]
def dd74 : List (Nat × List Nat) := [(0, [6]), (1, [10, 11, 12]), (2, [13, 14]), (3, [15]), (4, [0, 17]), (5, [18, 19]), (6, [20, 21]), (7, [0, 2, 23, 24, 25]), (8, [26, 27, 28, 29, 30]), (9, [8, 32, 33, 34, 35, 36, 37, 38, 39, 40]), (10, [2, 41, 42, 43, 44, 45]), (11, [0, 1, 7, 46, 47, 48, 49, 50, 51, 52, 53, 54]), (12, [9, 55]), (13, [56, 57, 58, 59, 60]), (14, [61, 62, 63, 64, 65, 66, 67]), (15, [7, 69, 70, 71, 72, 73, 74, 75, 76, 77]), (16, [1, 2, 78, 79, 80, 81, 82]), (17, [0, 83]), (18, [2, 8, 84, 85, 86, 87, 88]), (19, [1, 7, 89, 90, 91, 92, 93]), (20, [0, 94])]
theorem drOk74 : drAll dr74 (Tryd.f74.body.getD .skip) = true := by kernel_rfl
def dr75 : List (Nat × (Nat × List (List Nat))) := []
def dd75 : List (Nat × List Nat) := [(0, [2]), (1, [0, 3, 4, 5])]
theorem drOk75 : drAll dr75 (Tryd.f75.body.getD .skip) = true := by kernel_rfl
def dr76 : List (Nat × (Nat × List (List Nat))) := []
def dd76 : List (Nat × List Nat) := [(0, [1, 4]), (1, [0, 3, 5, 6, 7])]
theorem drOk76 : drAll dr76 (Tryd.f76.body.getD .skip) = true := by kernel_rfl
def dr77 : List (Nat × (Nat × List (List Nat))) := []
def dd77 : List (Nat × List Nat) := [(0, [2]), (1, [3]), (3, [0, 5, 6, 7])]
theorem drOk77 : drAll dr77 (Tryd.f77.body.getD .skip) = true := by kernel_rfl
def dr78 : List (Nat × (Nat × List (List Nat))) := []
def dd78 : List (Nat × List Nat) := [(0, [4]), (1, [6]), (3, [10]), (4, [11, 12, 13, 14, 15]), (5, [5, 17]), (6, [18])]
theorem drOk78 : drAll dr78 (Tryd.f78.body.getD .skip) = true := by kernel_rfl
def dr79 : List (Nat × (Nat × List (List Nat))) := []
def dd79 : List (Nat × List Nat) := [(0, [0, 3]), (1, [1, 2, 4, 5, 6, 7])]
theorem drOk79 : drAll dr79 (Tryd.f79.body.getD .skip) = true := by kernel_rfl
def dr80 : List (Nat × (Nat × List (List Nat))) := []
def dd80 : List (Nat × List Nat) := [(0, [2]), (1, [6, 7]), (6, [13, 14, 15]), (7, [16, 17, 18]), (9, [20, 21, 22, 23, 24, 25, 26, 27]), (11, [4, 29, 30, 31, 32]), (13, [5, 34, 35, 36, 37]), (14, [38]), (15, [0, 3, 39, 40, 41, 42, 43, 44])]
theorem drOk80 : drAll dr80 (Tryd.f80.body.getD .skip) = true := by kernel_rfl
def dr81 : List (Nat × (Nat × List (List Nat))) := []
def dd81 : List (Nat × List Nat) := [(0, [4]), (1, [0, 1, 5, 6, 7, 8])]
theorem drOk81 : drAll dr81 (Tryd.f81.body.getD .skip) = true := by kernel_rfl
def dr82 : List (Nat × (Nat × List (List Nat))) := []
def dd82 : List (Nat × List Nat) := [(0, [0, 3]), (1, [1, 2, 4, 5, 6, 7, 8, 9])]
theorem drOk82 : drAll dr82 (Tryd.f82.body.getD .skip) = true := by kernel_rfl
def dr83 : List (Nat × (Nat × List (List Nat))) := []
def dd83 : List (Nat × List Nat) := [(0, [4]), (1, [0, 1, 5, 6, 7])]
theorem drOk83 : drAll dr83 (Tryd.f83.body.getD .skip) = true := by kernel_rfl
def dr84 : List (Nat × (Nat × List (List Nat))) := []
def dd84 : List (Nat × List Nat) := [(0, [6]), (1, [0, 1, 2, 7, 8, 9, 10, 11, 12, 13, 14, 15, 16, 17, 18, 19, 20, 21, 22, 23, 24, 25, 26, 27, 28])]
theorem drOk84 : drAll dr84 (Tryd.f84.body.getD .skip) = true := by kernel_rfl
def dr85 : List (Nat × (Nat × List (List Nat))) := []
def dd85 : List (Nat × List Nat) := [(0, [4]), (1, [0, 7, 8]), (2, [9]), (4, [13]), (5, [6, 14, 15, 16, 17, 18, 19, 20, 21, 22, 23, 24]), (6, [25]), (7, [5, 26])]
theorem drOk85 : drAll dr85 (Tryd.f85.body.getD .skip) = true := by kernel_rfl
def dr86 : List (Nat × (Nat × List (List Nat))) := []
def dd86 : List (Nat × List Nat) := [(0, [6]), (1, [0, 1, 2, 3, 4, 7, 8, 9, 10, 11, 12, 13, 14, 15, 16, 17, 18, 19, 20, 21])]
theorem drOk86 : drAll dr86 (Tryd.f86.body.getD .skip) = true := by kernel_rfl
def dr87 : List (Nat × (Nat × List (List Nat))) := [(1, (8, []))]
def dd87 : List (Nat × List Nat) := [(0, [6]), (1, [10, 11, 12, 13, 14, 15]), (2, [16]), (3, [18, 19, 20, 21, 22]), (5, [2]), (6, [25]), (7, [8, 26, 27]), (8, [29]), (9, [0, 1, 8, 30, 31, 32, 33, 34, 35, 36, 37, 38, 39, 40, 41, 42, 43]), (10, [23, 45]), (11, [1, 8, 46, 47, 48, 49, 50, 51, 52, 53, 54, 55, 56, 57, 58, 59, 60]), (12, [9]), (13, [62, 63]), (14, [7, 64])]
theorem drOk87 : drAll dr87 (Tryd.f87.body.getD .skip) = true := by kernel_rfl
def dr88 : List (Nat × (Nat × List (List Nat))) := []
def dd88 : List (Nat × List Nat) := [(0, [5]), (1, [0, 1, 2, 3, 6, 7, 8, 9, 10, 11, 12])]
theorem drOk88 : drAll dr88 (Tryd.f88.body.getD .skip) = true := by kernel_rfl
def dr89 : List (Nat × (Nat × List (List Nat))) := []
def dd89 : List (Nat × List Nat) := [(0, [2]), (1, [0, 4, 5]), (2, [3, 6, 7, 8, 9, 10, 11, 12, 13, 14, 15, 16, 17, 18, 19])]
theorem drOk89 : drAll dr89 (Tryd.f89.body.getD .skip) = true := by kernel_rfl
def dr90 : List (Nat × (Nat × List (List Nat))) := []
def dd90 : List (Nat × List Nat) := [(0, [2]), (1, [0, 3, 4, 5, 6, 7, 8, 9, 10, 11, 12, 13, 14, 15])]
theorem drOk90 : drAll dr90 (Tryd.f90.body.getD .skip) = true := by kernel_rfl
def dr92 : List (Nat × (Nat × List (List Nat))) := []
def dd92 : List (Nat × List Nat) := [(0, [4]), (1, [5, 6, 7, 8, 9, 10, 11, 12]), (2, [14, 15]), (3, [0, 16])]
theorem drOk92 : drAll dr92 (Tryd.f92.body.getD .skip) = true := by kernel_rfl
def dr93 : List (Nat × (Nat × List (List Nat))) := []
def dd93 : List (Nat × List Nat) := [(0, [4]), (1, [5, 6, 7, 8, 9, 10, 11, 12, 13, 14, 15]), (2, [17, 18, 19, 20, 21]), (3, [0, 22])]
theorem drOk93 : drAll dr93 (Tryd.f93.body.getD .skip) = true := by kernel_rfl
def dr94 : List (Nat × (Nat × List (List Nat))) := []
def dd94 : List (Nat × List Nat) := [(0, [3]), (2, [6, 7, 8]), (3, [10, 11]), (4, [12, 13, 14]), (5, [15]), (6, [17]), (7, [5, 18, 19]), (8, [20])]
theorem drOk94 : drAll dr94 (Tryd.f94.body.getD .skip) = true := by kernel_rfl
def dr95 : List (Nat × (Nat × List (List Nat))) := []
def dd95 : List (Nat × List Nat) := [(0, [4]), (1, [5, 6]), (2, [8, 9, 10, 11]), (3, [13, 14]), (4, [0, 15])]
theorem drOk95 : drAll dr95 (Tryd.f95.body.getD .skip) = true := by kernel_rfl
def dr96 : List (Nat × (Nat × List (List Nat))) := []
def dd96 : List (Nat × List Nat) := [(0, [4]), (1, [5, 6]), (2, [8, 9, 10, 11, 12, 13, 14]), (3, [16, 17, 18, 19, 20]), (4, [0, 21])]
theorem drOk96 : drAll dr96 (Tryd.f96.body.getD .skip) = true := by kernel_rfl
def dr97 : List (Nat × (Nat × List (List Nat))) := []
def dd97 : List (Nat × List Nat) := [(0, [4]), (1, [7, 8]), (2, [10, 11, 12, 13, 14]), (3, [5, 15, 16, 17]), (4, [6, 19, 20, 21]), (5, [0, 22])]
theorem drOk97 : drAll dr97 (Tryd.f97.body.getD .skip) = true := by kernel_rfl
def dr98 : List (Nat × (Nat × List (List Nat))) := []
def dd98 : List (Nat × List Nat) := [(0, [4]), (1, [7, 8]), (2, [10, 11, 12, 13, 14, 15]), (3, [16]), (4, [18, 19, 20, 21, 22]), (5, [5, 23, 24, 25]), (6, [6, 27, 28, 29, 30, 31, 32]), (7, [0, 33])]
theorem drOk98 : drAll dr98 (Tryd.f98.body.getD .skip) = true := by kernel_rfl
def dr99 : List (Nat × (Nat × List (List Nat))) := []
def dd99 : List (Nat × List Nat) := [(0, [4]), (1, [0, 1, 5, 6, 7])]
theorem drOk99 : drAll dr99 (Tryd.f99.body.getD .skip) = true := by kernel_rfl
def dr100 : List (Nat × (Nat × List (List Nat))) := []
def dd100 : List (Nat × List Nat) := [(0, [4]), (1, [0, 1, 5, 6, 7])]
theorem drOk100 : drAll dr100 (Tryd.f100.body.getD .skip) = true := by kernel_rfl
def dr102 : List (Nat × (Nat × List (List Nat))) := []
def dd102 : List (Nat × List Nat) := [(0, [0, 1, 4, 5, 6, 7, 8, 9])]
theorem drOk102 : drAll dr102 (Tryd.f102.body.getD .skip) = true := by kernel_rfl
def dr103 : List (Nat × (Nat × List (List Nat))) := []
def dd103 : List (Nat × List Nat) := [(0, [4]), (1, [6]), (3, [10]), (4, [11, 12, 13, 14, 15]), (5, [5, 17]), (6, [18])]
theorem drOk103 : drAll dr103 (Tryd.f103.body.getD .skip) = true := by kernel_rfl
def dr104 : List (Nat × (Nat × List (List Nat))) := []
def dd104 : List (Nat × List Nat) := [(0, [0, 3]), (1, [1, 2, 4, 5, 6, 7])]
theorem drOk104 : drAll dr104 (Tryd.f104.body.getD .skip) = true := by kernel_rfl
def dr105 : List (Nat × (Nat × List (List Nat))) := []
def dd105 : List (Nat × List Nat) := [(0, [2]), (1, [0, 3, 4, 5, 6, 7, 8])]
theorem drOk105 : drAll dr105 (Tryd.f105.body.getD .skip) = true := by kernel_rfl
def dr106 : List (Nat × (Nat × List (List Nat))) := []
def dd106 : List (Nat × List Nat) := [(0, [0, 3]), (1, [1, 2, 4, 5, 6, 7, 8])]
theorem drOk106 : drAll dr106 (Tryd.f106.body.getD .skip) = true := by kernel_rfl
def dr107 : List (Nat × (Nat × List (List Nat))) := []
def dd107 : List (Nat × List Nat) := [(0, [4]), (1, [6]), (3, [10]), (4, [11, 12, 13, 14, 15]), (5, [5, 17]), (6, [18])]
theorem drOk107 : drAll dr107 (Tryd.f107.body.getD .skip) = true := by kernel_rfl
def dr108 : List (Nat × (Nat × List (List Nat))) := []
def dd108 : List (Nat × List Nat) := [(0, [4]), (1, [0, 1, 5, 6, 7])]
theorem drOk108 : drAll dr108 (Tryd.f108.body.getD .skip) = true := by kernel_rfl
def dr109 : List (Nat × (Nat × List (List Nat))) := []
def dd109 : List (Nat × List Nat) := [(0, [4]), (1, [0, 1, 5, 6, 7, 8, 9])]
theorem drOk109 : drAll dr109 (Tryd.f109.body.getD .skip) = true := by kernel_rfl
def dr110 : List (Nat × (Nat × List (List Nat))) := []
def dd110 : List (Nat × List Nat) := [(0, [2, 3]), (1, [4, 5, 6, 7, 8, 9]), (2, [0, 11, 12, 13]), (3, [0, 14, 15, 16, 17, 18])]
theorem drOk110 : drAll dr110 (Tryd.f110.body.getD .skip) = true := by kernel_rfl
def dr111 : List (Nat × (Nat × List (List Nat))) := []
def dd111 : List (Nat × List Nat) := [(0, [4]), (1, [0, 1, 5, 6, 7, 8])]
theorem drOk111 : drAll dr111 (Tryd.f111.body.getD .skip) = true := by kernel_rfl
def dr112 : List (Nat × (Nat × List (List Nat))) := []
def dd112 : List (Nat × List Nat) := [(0, [2, 3]), (1, [7, 8]), (2, [9]), (4, [11, 12]), (5, [13, 14, 15, 16]), (6, [17]), (7, [19]), (8, [20, 21, 22]), (9, [23, 24]), (10, [25, 26]), (11, [28, 29]), (12, [30, 31, 32]), (13, [34]), (15, [0, 36, 37, 38, 39, 40, 41, 42, 43]), (16, [4, 5, 44, 45, 46, 47]), (18, [49, 50])]
theorem drOk112 : drAll dr112 (Tryd.f112.body.getD .skip) = true := by kernel_rfl
def dr113 : List (Nat × (Nat × List (List Nat))) := []
def dd113 : List (Nat × List Nat) := [(0, [6]), (1, [0, 9]), (3, [11, 13, 14]), (4, [8, 15, 16, 17, 18]), (5, [7, 20])]
theorem drOk113 : drAll dr113 (Tryd.f113.body.getD .skip) = true := by kernel_rfl
def dr114 : List (Nat × (Nat × List (List Nat))) := []
def dd114 : List (Nat × List Nat) := [(0, [4]), (1, [14, 15]), (2, [17, 18, 19, 20, 21, 22, 23]), (4, [25, 26]), (5, [0, 1, 27, 28, 29, 30]), (6, [32, 33, 34, 35]), (8, [37, 38, 39, 40, 41, 42, 43, 44]), (9, [0, 1, 45, 46, 47]), (10, [48, 49]), (11, [50, 51]), (13, [52, 53, 54, 55, 56]), (15, [57, 58]), (16, [60, 61, 62, 63]), (17, [65, 66, 67, 68, 69, 70, 71]), (18, [72]), (20, [11, 74, 75, 76, 77]), (21, [78, 79, 80, 81, 82, 83, 84, 85, 86, 87, 88, 89, 90, 91, 92]), (22, [8, 94]), (23, [95, 96]), (24, [97, 98]), (25, [99, 100, 101, 102, 103, 104, 105, 106]), (26, [0, 1, 108, 109, 110, 111, 112]), (27, [113]), (28, [8, 12, 115, 116, 117]), (30, [118, 119, 120, 121, 122, 123, 124, 125, 126, 127, 128, 129, 130, 131]), (31, [0, 1, 133, 134, 135, 136, 137]), (32, [138]), (34, [8, 13, 140, 141, 142])]
theorem drOk114 : drAll dr114 (Tryd.f114.body.getD .skip) = true := by kernel_rfl
def dr115 : List (Nat × (Nat × List (List Nat))) := []
def dd115 : List (Nat × List Nat) := [(0, [4, 5, 6, 7]), (1, [1, 8, 9, 10, 11]), (2, [0, 12, 13])]
theorem drOk115 : drAll dr115 (Tryd.f115.body.getD .skip) = true := by kernel_rfl
def dr117 : List (Nat × (Nat × List (List Nat))) := []
def dd117 : List (Nat × List Nat) := [(0, [2, 3]), (1, [13, 14]), (2, [15]), (4, [17, 18]), (5, [19, 20, 21]), (6, [22]), (7, [6, 24, 25, 26, 27]), (8, [0, 7, 28, 29, 30, 31, 32, 33, 34, 35]), (9, [36, 37, 38]), (10, [6, 39, 40, 41, 42]), (11, [4, 43, 44]), (13, [46, 47]), (14, [9, 48, 49, 50, 51, 52, 53, 54, 55, 56]), (16, [58]), (17, [5, 10, 60, 61, 62, 63, 64, 65, 66, 67]), (18, [68, 69]), (19, [70, 71, 72, 73, 74]), (21, [8, 76]), (22, [5, 10, 11, 78, 79, 80, 81, 82, 83, 84, 85, 86, 87, 88, 89, 90]), (23, [0, 91, 92]), (24, [93, 94, 95, 96, 97]), (26, [5, 10, 11, 12, 99, 100, 101, 102, 103, 104, 105, 106, 107, 108, 109, 110, 111, 112, 113, 114, 115, 116])]
theorem drOk117 : drAll dr117 (Tryd.f117.body.getD .skip) = true := by kernel_rfl
def dr118 : List (Nat × (Nat × List (List Nat))) := [(6, (7, [])), (7, (9, [])), (14, (11, []))]
def dd118 : List (Nat × List Nat) := []
def dr119 : List (Nat × (Nat × List (List Nat))) := []
def dd119 : List (Nat × List Nat) := [(0, [2]), (1, [0, 3, 4, 5])]
theorem drOk119 : drAll dr119 (Tryd.f119.body.getD .skip) = true := by kernel_rfl
def dr121 : List (Nat × (Nat × List (List Nat))) := []
def dd121 : List (Nat × List Nat) := [(0, [2]), (1, [0, 3, 4, 5])]
theorem drOk121 : drAll dr121 (Tryd.f121.body.getD .skip) = true := by kernel_rfl
def dr122 : List (Nat × (Nat × List (List Nat))) := []
def dd122 : List (Nat × List Nat) := [(0, [4]), (1, [11, 12, 13, 14, 15]), (2, [16, 17]), (5, [18, 19]), (6, [21, 22]), (7, [23, 24, 25, 26, 27, 28, 29]), (8, [30, 31, 32, 33, 34, 35, 36, 37, 38]), (10, [40]), (11, [41, 42, 43]), (12, [45, 46]), (13, [47, 48, 49, 50, 51, 52]), (14, [53, 54, 55, 56, 57, 58, 59, 60, 61, 62]), (15, [63, 64]), (16, [65, 66, 67, 68, 69, 70, 71, 72, 73, 74, 75, 76]), (17, [7, 10, 78, 79, 80])]
theorem drOk122 : drAll dr122 (Tryd.f122.body.getD .skip) = true := by kernel_rfl
def dr123 : List (Nat × (Nat × List (List Nat))) := [(3, (16, [[], [0], [0, 1], [0, 1, 2], [0, 1, 2, 3], [0, 1, 2, 3, 4], [0, 1, 2, 3], [0, 1, 2, 3], [0, 1, 2, 3, 4, 5, 6, 7], [0, 1, 2, 3, 4, 5, 6, 7, 8], [0, 1, 2, 3, 4, 5, 6, 7], [0, 1, 2, 3, 4, 5, 6, 7], [2, 3, 8, 9], [2, 3, 8, 9], [], []]))]
def dd123 : List (Nat × List Nat) := [(0, [4, 5, 6]), (1, [7, 8]), (2, [10, 11, 12, 13]), (3, [14, 15, 16, 17, 18, 19, 20, 21, 22, 23, 24, 25, 26, 27])]
theorem drOk123 : drAll dr123 (Tryd.f123.body.getD .skip) = true := by kernel_rfl
def dr124 : List (Nat × (Nat × List (List Nat))) := []
def dd124 : List (Nat × List Nat) := [(0, [2]), (1, [4, 5, 6, 7, 8, 9]), (3, [0, 11, 12, 13, 14, 15, 16])]
theorem drOk124 : drAll dr124 (Tryd.f124.body.getD .skip) = true := by kernel_rfl
def dr125 : List (Nat × (Nat × List (List Nat))) := []
def dd125 : List (Nat × List Nat) := [(0, [2, 3]), (3, [9, 10, 11]), (4, [13, 14]), (5, [15, 16, 17, 18, 19, 20, 21]), (7, [0, 22, 23]), (8, [24]), (9, [26, 27]), (10, [28, 29]), (11, [31, 32, 33]), (12, [34, 35, 36]), (13, [4, 6, 37, 38])]
theorem drOk125 : drAll dr125 (Tryd.f125.body.getD .skip) = true := by kernel_rfl
def dr147 : List (Nat × (Nat × List (List Nat))) := []
def dd147 : List (Nat × List Nat) := [(0, [0]), (1, [1, 2, 3, 4, 5, 6])]
theorem drOk147 : drAll dr147 (Tryd.f147.body.getD .skip) = true := by kernel_rfl
/-- what the machine runs in: the callees' answers, the variables that begin as nil and are rows of one's own, what becomes data where -/
def mkX (Φ : FuncId → List V → Option (V × List Blk)) (nv : Nat → Option (TypeId × Nat)) (fz : Nat → List Nat) (dr : List (Nat × (Nat × List (List Nat)))) (dd : List (Nat × List Nat)) (lam : Lam) (ms : Mts) : Ctx := ⟨tyF, Φ, nv, fz, fun i => (Ev.look i dd).getD [], dr, eqsL, fun g => Ev.look g lam, fun g => Ev.look g ms.mt, ms.ln, fun g => Ev.look g ms.st⟩
section
variable (Φ : FuncId → List V → Option (V × List Blk)) (nv : Nat → Option (TypeId × Nat)) (fz : Nat → List Nat) (dr : List (Nat × (Nat × List (List Nat)))) (dd : List (Nat × List Nat)) (lam : Lam) (ms : Mts)
theorem mkX_T : (mkX Φ nv fz dr dd lam ms).T = tyF := rfl
theorem mkX_Φ : (mkX Φ nv fz dr dd lam ms).Φ = Φ := rfl
theorem mkX_n : (mkX Φ nv fz dr dd lam ms).nilv = nv := rfl
theorem mkX_f : (mkX Φ nv fz dr dd lam ms).frz = fz := rfl
theorem mkX_d (i : Nat) : (mkX Φ nv fz dr dd lam ms).dead i = (Ev.look i dd).getD [] := rfl
theorem mkX_r : (mkX Φ nv fz dr dd lam ms).dr = dr := rfl
theorem mkX_L (g : FuncId) : (mkX Φ nv fz dr dd lam ms).Λ g = Ev.look g lam := rfl
theorem mkX_M (g : FuncId) : (mkX Φ nv fz dr dd lam ms).M g = Ev.look g ms.mt := rfl
theorem mkX_S (g : FuncId) : (mkX Φ nv fz dr dd lam ms).S g = Ev.look g ms.st := rfl
theorem mkX_ln (i : Nat) : (mkX Φ nv fz dr dd lam ms).lnd i = ms.ln i := rfl
theorem mkX_e : (mkX Φ nv fz dr dd lam ms).eqs = eqsL := rfl
theorem tyOk : TOkX Tryd.prog (mkX Φ nv fz dr dd lam ms) := ⟨TOk_of tabAll, fun t ht => List.all_eq_true.1 eqsOk t ht⟩
end
def nv0 : Nat → Option (TypeId × Nat) := fun _ => none
def fz0 : Nat → List Nat := fun _ => []
theorem mapO_nil {α β : Type} (f : α → Option β) : ([] : List α).mapM f = some [] := rfl
theorem mapO_cons {α β : Type} (f : α → Option β) (a : α) (l : List α) : (a :: l).mapM f = (f a).bind fun y => (l.mapM f).bind fun ys => some (y :: ys) := by rw [List.mapM_cons]; rfl
theorem beqT (b : Bool) : (b == true) = b := by cases b <;> rfl
theorem beqF (b : Bool) : (b == false) = !b := by cases b <;> rfl
def nvL (l : List (Nat × (TypeId × Nat))) : Nat → Option (TypeId × Nat) := fun i => Ev.look i l
theorem nvL_at (l : List (Nat × (TypeId × Nat))) (i : Nat) : nvL l i = Ev.look i l := rfl
def fzL (l : List (Nat × List Nat)) : Nat → List Nat := fun i => (Ev.look i l).getD []
theorem fzL_at (l : List (Nat × List Nat)) (i : Nat) : fzL l i = (Ev.look i l).getD [] := rfl
def lnL (l : List (Nat × List Nat)) : Nat → List Nat := fun i => (Ev.look i l).getD []
theorem lnL_at (l : List (Nat × List Nat)) (i : Nat) : lnL l i = (Ev.look i l).getD [] := rfl
theorem maxLen_eq : maxLen = 9223372036854775807 := rfl
theorem leT {a b : Nat} (h : a ≤ b) : (a ≤ b) = True := by simp [h]
theorem plainI (k : IntKind) (l : List Int) : ((l.map (V.int k)).all fun v => V.plain v && V.data v) = true := by
  rw [List.all_eq_true]
  intro v hv
  obtain ⟨n, _, rfl⟩ := List.mem_map.1 hv
  rfl
theorem bin_eql_vz (b : Nat) : binV .eql (.vec b) .zero = none := rfl
theorem bin_eql_zv (b : Nat) : binV .eql .zero (.vec b) = none := rfl
theorem bin_eql_rz (z : Nat) (es : List V) : binV .eql (.row z es) .zero = none := rfl
theorem bin_eql_zr (z : Nat) (es : List V) : binV .eql .zero (.row z es) = none := rfl
theorem bin_eql_zz : binV .eql .zero .zero = none := rfl
theorem bin_neq_vz (b : Nat) : binV .neq (.vec b) .zero = none := rfl
theorem bin_neq_zv (b : Nat) : binV .neq .zero (.vec b) = none := rfl
theorem bin_neq_rz (z : Nat) (es : List V) : binV .neq (.row z es) .zero = none := rfl
theorem bin_neq_zr (z : Nat) (es : List V) : binV .neq .zero (.row z es) = none := rfl
theorem bin_neq_zz : binV .neq .zero .zero = none := rfl
theorem nv0_at (i : Nat) : nv0 i = none := rfl
theorem fz0_at (i : Nat) : fz0 i = [] := rfl
/-- a function of this seat, run by the machine -/
theorem evFn {J : World → Prop} {l : Phi} (hl : PhiOk Tryd.prog J l) (hJ : Stable J) {nv : Nat → Option (TypeId × Nat)} {fz : Nat → List Nat} {dr : List (Nat × (Nat × List (List Nat)))} {dd : List (Nat × List Nat)} {lam : Lam} (hlam : LamOk Tryd.prog J lam) {ms : Mts} (hms : MtsOk Tryd.prog J ms) {f : FuncId} {fn : Func} {args : List V} {r : V} {bs : List Blk}
    (hf : Tryd.prog.funcs[f]? = some fn) (hname : (fn.name == "runtime.NumGoroutine") = false) (hb : fn.body.isSome = true) (hn : args.length ≤ fn.ntmps) (hsm : fn.ntmps ≤ 100000) (hdr : drAll dr (fn.body.getD .skip) = true)
    (h : ev (mkX (phi l) nv fz dr dd lam ms) fn.ntmps (fn.body.getD .skip) (St.init args) (post (mkX (phi l) nv fz dr dd lam ms) fn.results.toList r bs)) : SoundAt Tryd.prog J f args r bs :=
  sound_fn (X := mkX (phi l) nv fz dr dd lam ms) mixOk (tyOk _ _ _ _ _ _ _) (lamAll_of hlam hms rfl rfl rfl) (phi_sound hl) hJ hf hname (by cases hc : fn.body <;> simp_all) hn hsm hdr h
/-- a function of this seat that is lent a row, run by the machine -/
theorem evLend {J : World → Prop} {l : Phi} (hl : PhiOk Tryd.prog J l) (hJ : Stable J) {nv : Nat → Option (TypeId × Nat)} {fz : Nat → List Nat} {dr : List (Nat × (Nat × List (List Nat)))} {dd : List (Nat × List Nat)} {lam : Lam} (hlam : LamOk Tryd.prog J lam) {ms : Mts} (hms : MtsOk Tryd.prog J ms) {f : FuncId} {fn : Func} {T : TypeId} {sz : Nat} {es xs es' : List V}
    (hf : Tryd.prog.funcs[f]? = some fn) (hname : (fn.name == "runtime.NumGoroutine") = false) (hb : fn.body.isSome = true) (hn : xs.length + 1 ≤ fn.ntmps) (hsm : fn.ntmps ≤ 100000) (hdr : drAll dr (fn.body.getD .skip) = true) (hres : fn.results = #[]) (hpl : ∀ e ∈ es', V.plain e = true)
    (h : ev (mkX (phi l) nv fz dr dd lam ms) fn.ntmps (fn.body.getD .skip) (St.lent T sz es xs) (postL T sz es')) : LendAt Tryd.prog J f T sz es xs es' :=
  sound_lend (X := mkX (phi l) nv fz dr dd lam ms) mixOk (tyOk _ _ _ _ _ _ _) (lamAll_of hlam hms rfl rfl rfl) (phi_sound hl) hJ hf hname (by cases hc : fn.body <;> simp_all) hn hsm hdr hres hpl h
/-- a function of this seat that takes a row and gives it back, run by the machine -/
theorem evTake {J : World → Prop} {l : Phi} (hl : PhiOk Tryd.prog J l) (hJ : Stable J) {nv : Nat → Option (TypeId × Nat)} {fz : Nat → List Nat} {dr : List (Nat × (Nat × List (List Nat)))} {dd : List (Nat × List Nat)} {lam : Lam} (hlam : LamOk Tryd.prog J lam) {ms : Mts} (hms : MtsOk Tryd.prog J ms) {f : FuncId} {fn : Func} {T : TypeId} {sz t : Nat} {es xs es' : List V}
    (hf : Tryd.prog.funcs[f]? = some fn) (hname : (fn.name == "runtime.NumGoroutine") = false) (hb : fn.body.isSome = true) (hn : xs.length + 1 ≤ fn.ntmps) (hsm : fn.ntmps ≤ 100000) (hdr : drAll dr (fn.body.getD .skip) = true) (hres : fn.results = #[.tmp t]) (hrow : xs.all (fun a => !(isRowV a)) = true) (hpl : ∀ e ∈ es', V.plain e = true)
    (h : ev (mkX (phi l) nv fz dr dd lam ms) fn.ntmps (fn.body.getD .skip) (St.lent T sz es xs) (postT t T sz es')) : TakeAt Tryd.prog J f T sz es xs es' :=
  sound_take (X := mkX (phi l) nv fz dr dd lam ms) mixOk (tyOk _ _ _ _ _ _ _) (lamAll_of hlam hms rfl rfl rfl) (phi_sound hl) hJ hf hname (by cases hc : fn.body <;> simp_all) hn hsm hdr hres hrow hpl h
/-- a function of this seat that is lent blocks, run by the machine -/
theorem evMut {J : World → Prop} {l : Phi} (hl : PhiOk Tryd.prog J l) (hJ : Stable J) {nv : Nat → Option (TypeId × Nat)} {fz : Nat → List Nat} {dr : List (Nat × (Nat × List (List Nat)))} {dd : List (Nat × List Nat)} {lam : Lam} (hlam : LamOk Tryd.prog J lam) {ms : Mts} (hms : MtsOk Tryd.prog J ms) {f : FuncId} {fn : Func} {ks ks' : List Blk} {args : List V} {r : V}
    (hf : Tryd.prog.funcs[f]? = some fn) (hname : (fn.name == "runtime.NumGoroutine") = false) (hb : fn.body.isSome = true) (hn : args.length ≤ fn.ntmps) (hsm : fn.ntmps ≤ 100000) (hdr : drAll dr (fn.body.getD .skip) = true) (hlen : ks'.length = ks.length) (hr : V.lone r = true) (hks : ∀ k ∈ ks', Blk.lone k = true)
    (h : ev (mkX (phi l) nv fz dr dd lam ms) fn.ntmps (fn.body.getD .skip) (St.mut ks args) (postM (mkX (phi l) nv fz dr dd lam ms) fn.results.toList r ks')) : MutAt Tryd.prog J f ks args r ks' :=
  sound_mut (X := mkX (phi l) nv fz dr dd lam ms) mixOk (tyOk _ _ _ _ _ _ _) (lamAll_of hlam hms rfl rfl rfl) (phi_sound hl) hJ hf hname (by cases hc : fn.body <;> simp_all) hn hsm hdr hlen hr hks h
/-- what has a body is called -/
theorem callOk {f : FuncId} {fn : Func} (hf : Tryd.prog.funcs[f]? = some fn) (hname : (fn.name == "runtime.NumGoroutine") = false) (hb : fn.body.isNone = false) : Callable Tryd.prog f := ⟨fn, hf, hname, hb⟩
def J0 : World → Prop := fun _ => True
theorem stable0 : Stable J0 := fun _ _ _ _ => trivial
end Go.Proofs.YtdmkmbaaemhhhaaDoor
