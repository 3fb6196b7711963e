/-
  The seat's types as the machine reads them, and the regions that draw their order (written by a program).
-/
import Derived.Test.YtcmpjagpggjfiaaGreatDoorT07
import Derived.Test.YtcmpjagpggjfiaaGreatDoorProg
import Derived.KernelRfl
namespace Go.Proofs.YtcmpjagpggjfiaaGreatDoor
open Go Go.Ev
def tab : List (TypeId × TI) := [
 (1, ⟨.other, 1, 8, .undef⟩),
 (2, ⟨(.int .i64), 1, 8, (.int .i64 0)⟩),
 (3, ⟨(.int .i64), 1, 8, (.int .i64 0)⟩),
 (4, ⟨.bool, 1, 1, (.bool false)⟩),
 (5, ⟨(.int .u8), 1, 1, (.int .u8 0)⟩),
 (6, ⟨(.int .u8), 1, 1, (.int .u8 0)⟩),
 (7, ⟨(.struct [(0, 1, 2), (1, 1, 3), (2, 1, 4), (3, 1, 6)]), 4, 24, (.agg [(.int .i64 0), (.int .i64 0), (.bool false), (.int .u8 0)])⟩),
 (8, ⟨(.struct [(0, 1, 2), (1, 1, 3), (2, 1, 4), (3, 1, 6)]), 4, 24, (.agg [(.int .i64 0), (.int .i64 0), (.bool false), (.int .u8 0)])⟩),
 (9, ⟨.str, 1, 16, (.str ByteArray.empty)⟩),
 (10, ⟨.str, 1, 16, (.str ByteArray.empty)⟩),
 (11, ⟨.str, 1, 16, (.str ByteArray.empty)⟩),
 (12, ⟨(.int .u64), 1, 8, (.int .u64 0)⟩),
 (13, ⟨(.struct [(0, 1, 9), (1, 1, 12)]), 2, 24, (.agg [(.str ByteArray.empty), (.int .u64 0)])⟩),
 (14, ⟨(.struct [(0, 1, 9), (1, 1, 12)]), 2, 24, (.agg [(.str ByteArray.empty), (.int .u64 0)])⟩),
 (15, ⟨.other, 1, 8, .undef⟩),
 (16, ⟨.other, 1, 8, .undef⟩),
 (17, ⟨.other, 1, 8, .undef⟩),
 (18, ⟨(.struct [(0, 1, 17)]), 1, 8, (.agg [.undef])⟩),
 (19, ⟨(.struct [(0, 1, 17)]), 1, 8, (.agg [.undef])⟩),
 (20, ⟨.iface, 1, 16, .undef⟩),
 (21, ⟨(.int .i32), 1, 4, (.int .i32 0)⟩),
 (22, ⟨.other, 1, 8, .undef⟩),
 (23, ⟨.other, 1, 8, .undef⟩),
 (24, ⟨.other, 1, 8, .undef⟩),
 (25, ⟨.other, 1, 8, .undef⟩),
 (26, ⟨.other, 1, 8, .undef⟩),
 (27, ⟨(.int .u64), 1, 8, (.int .u64 0)⟩),
 (28, ⟨(.slice 9), 1, 24, .zero⟩),
 (29, ⟨.other, 1, 8, .undef⟩),
 (30, ⟨.other, 1, 8, .undef⟩),
 (31, ⟨(.slice 91), 1, 24, .zero⟩),
 (32, ⟨(.slice 55), 1, 24, .zero⟩),
 (33, ⟨(.struct [(0, 1, 31), (1, 1, 32), (2, 1, 3)]), 3, 56, (.agg [.zero, .zero, (.int .i64 0)])⟩),
 (34, ⟨(.struct [(0, 1, 31), (1, 1, 32), (2, 1, 3)]), 3, 56, (.agg [.zero, .zero, (.int .i64 0)])⟩),
 (35, ⟨(.slice 133), 1, 24, .zero⟩),
 (37, ⟨(.struct [(0, 3, 34), (3, 1, 35)]), 4, 80, (.agg [.zero, .zero, (.int .i64 0), .zero])⟩),
 (38, ⟨.other, 1, 8, .undef⟩),
 (39, ⟨(.slice 5), 1, 24, .zero⟩),
 (40, ⟨(.struct [(0, 1, 38), (1, 1, 39)]), 2, 32, (.agg [.undef, .zero])⟩),
 (41, ⟨(.struct [(0, 1, 38), (1, 1, 39)]), 2, 32, (.agg [.undef, .zero])⟩),
 (42, ⟨.iface, 1, 16, .undef⟩),
 (43, ⟨.iface, 1, 16, .undef⟩),
 (45, ⟨.other, 1, 8, .undef⟩),
 (46, ⟨.other, 1, 8, .undef⟩),
 (47, ⟨.other, 1, 8, .undef⟩),
 (48, ⟨.other, 1, 8, .undef⟩),
 (49, ⟨(.int .i64), 1, 8, (.int .i64 0)⟩),
 (51, ⟨.other, 1, 8, .undef⟩),
 (52, ⟨.other, 1, 8, .undef⟩),
 (53, ⟨(.slice 85), 1, 24, .zero⟩),
 (54, ⟨(.struct [(0, 1, 9), (1, 1, 3), (2, 1, 53)]), 3, 48, (.agg [(.str ByteArray.empty), (.int .i64 0), .zero])⟩),
 (55, ⟨(.struct [(0, 1, 9), (1, 1, 3), (2, 1, 53)]), 3, 48, (.agg [(.str ByteArray.empty), (.int .i64 0), .zero])⟩),
 (56, ⟨.other, 1, 8, .undef⟩),
 (58, ⟨.other, 1, 8, .undef⟩),
 (59, ⟨.other, 1, 8, .undef⟩),
 (60, ⟨(.struct [(0, 1, 49)]), 1, 8, (.agg [(.int .i64 0)])⟩),
 (61, ⟨(.struct [(0, 1, 49)]), 1, 8, (.agg [(.int .i64 0)])⟩),
 (63, ⟨.other, 1, 8, .undef⟩),
 (64, ⟨(.struct [(0, 1, 28), (1, 1, 3)]), 2, 32, (.agg [.zero, (.int .i64 0)])⟩),
 (65, ⟨(.struct [(0, 1, 28), (1, 1, 3)]), 2, 32, (.agg [.zero, (.int .i64 0)])⟩),
 (66, ⟨.other, 1, 8, .undef⟩),
 (67, ⟨(.struct [(0, 1, 3), (1, 1, 4), (2, 1, 66)]), 3, 24, (.agg [(.int .i64 0), (.bool false), .undef])⟩),
 (68, ⟨(.struct [(0, 1, 3), (1, 1, 4), (2, 1, 66)]), 3, 24, (.agg [(.int .i64 0), (.bool false), .undef])⟩),
 (70, ⟨(.map 9 68), 1, 8, .undef⟩),
 (72, ⟨(.slice 3), 1, 24, .zero⟩),
 (73, ⟨.other, 1, 8, .undef⟩),
 (76, ⟨.other, 1, 8, .undef⟩),
 (78, ⟨.other, 1, 8, .undef⟩),
 (79, ⟨.other, 1, 8, .undef⟩),
 (84, ⟨(.struct [(0, 1, 9), (1, 1, 3)]), 2, 24, (.agg [(.str ByteArray.empty), (.int .i64 0)])⟩),
 (85, ⟨(.struct [(0, 1, 9), (1, 1, 3)]), 2, 24, (.agg [(.str ByteArray.empty), (.int .i64 0)])⟩),
 (87, ⟨.other, 1, 8, .undef⟩),
 (88, ⟨.other, 1, 8, .undef⟩),
 (90, ⟨(.struct [(0, 1, 9), (1, 1, 3)]), 2, 24, (.agg [(.str ByteArray.empty), (.int .i64 0)])⟩),
 (91, ⟨(.struct [(0, 1, 9), (1, 1, 3)]), 2, 24, (.agg [(.str ByteArray.empty), (.int .i64 0)])⟩),
 (92, ⟨.other, 1, 8, .undef⟩),
 (98, ⟨.other, 1, 8, .undef⟩),
 (99, ⟨.other, 1, 8, .undef⟩),
 (100, ⟨.other, 1, 8, .undef⟩),
 (101, ⟨(.struct [(0, 1, 3), (1, 1, 3), (2, 1, 3)]), 3, 24, (.agg [(.int .i64 0), (.int .i64 0), (.int .i64 0)])⟩),
 (102, ⟨(.struct [(0, 1, 3), (1, 1, 3), (2, 1, 3)]), 3, 24, (.agg [(.int .i64 0), (.int .i64 0), (.int .i64 0)])⟩),
 (103, ⟨.other, 1, 8, .undef⟩),
 (104, ⟨.other, 1, 8, .undef⟩),
 (106, ⟨.other, 1, 8, .undef⟩),
 (107, ⟨.other, 1, 8, .undef⟩),
 (108, ⟨.other, 1, 8, .undef⟩),
 (109, ⟨.other, 1, 8, .undef⟩),
 (110, ⟨.other, 1, 8, .undef⟩),
 (111, ⟨(.struct [(0, 1, 3), (1, 1, 3)]), 2, 16, (.agg [(.int .i64 0), (.int .i64 0)])⟩),
 (112, ⟨(.struct [(0, 1, 3), (1, 1, 3)]), 2, 16, (.agg [(.int .i64 0), (.int .i64 0)])⟩),
 (114, ⟨.other, 1, 8, .undef⟩),
 (115, ⟨.other, 1, 8, .undef⟩),
 (116, ⟨.other, 1, 8, .undef⟩),
 (118, ⟨.other, 1, 8, .undef⟩),
 (119, ⟨(.slice 123), 1, 24, .zero⟩),
 (121, ⟨.other, 1, 8, .undef⟩),
 (122, ⟨(.struct [(0, 1, 3), (1, 1, 3), (2, 1, 3)]), 3, 24, (.agg [(.int .i64 0), (.int .i64 0), (.int .i64 0)])⟩),
 (123, ⟨(.struct [(0, 1, 3), (1, 1, 3), (2, 1, 3)]), 3, 24, (.agg [(.int .i64 0), (.int .i64 0), (.int .i64 0)])⟩),
 (126, ⟨.other, 1, 8, .undef⟩),
 (129, ⟨.other, 1, 8, .undef⟩),
 (133, ⟨(.struct [(0, 1, 9), (1, 1, 3), (2, 1, 3), (3, 1, 3), (4, 1, 3), (5, 1, 9), (6, 1, 9)]), 7, 80, (.agg [(.str ByteArray.empty), (.int .i64 0), (.int .i64 0), (.int .i64 0), (.int .i64 0), (.str ByteArray.empty), (.str ByteArray.empty)])⟩),
 (138, ⟨(.map 9 4), 1, 8, .undef⟩),
 (142, ⟨.other, 1, 8, .undef⟩),
 (143, ⟨.other, 1, 8, .undef⟩),
 (145, ⟨.other, 1, 8, .undef⟩),
 (146, ⟨.other, 1, 8, .undef⟩),
 (147, ⟨(.int .u64), 1, 8, (.int .u64 0)⟩),
 (148, ⟨.other, 1, 8, .undef⟩),
 (151, ⟨.other, 1, 8, .undef⟩),
 (159, ⟨.other, 1, 8, .undef⟩),
 (164, ⟨.other, 1, 8, .undef⟩),
 (166, ⟨.other, 1, 8, .undef⟩),
 (168, ⟨.other, 1, 8, .undef⟩),
 (169, ⟨.other, 1, 8, .undef⟩),
 (171, ⟨.other, 1, 8, .undef⟩),
 (175, ⟨.other, 1, 8, .undef⟩),
 (176, ⟨.other, 1, 8, .undef⟩),
 (178, ⟨.other, 1, 8, .undef⟩),
 (187, ⟨(.array 24 5), 24, 24, (.agg [(.int .u8 0), (.int .u8 0), (.int .u8 0), (.int .u8 0), (.int .u8 0), (.int .u8 0), (.int .u8 0), (.int .u8 0), (.int .u8 0), (.int .u8 0), (.int .u8 0), (.int .u8 0), (.int .u8 0), (.int .u8 0), (.int .u8 0), (.int .u8 0), (.int .u8 0), (.int .u8 0), (.int .u8 0), (.int .u8 0), (.int .u8 0), (.int .u8 0), (.int .u8 0), (.int .u8 0)])⟩),
 (189, ⟨.other, 1, 8, .undef⟩),
 (192, ⟨(.array 13 3), 13, 104, (.agg [(.int .i64 0), (.int .i64 0), (.int .i64 0), (.int .i64 0), (.int .i64 0), (.int .i64 0), (.int .i64 0), (.int .i64 0), (.int .i64 0), (.int .i64 0), (.int .i64 0), (.int .i64 0), (.int .i64 0)])⟩),
 (193, ⟨.other, 1, 8, .undef⟩),
 (199, ⟨.other, 1, 8, .undef⟩),
 (201, ⟨(.array 5 3), 5, 40, (.agg [(.int .i64 0), (.int .i64 0), (.int .i64 0), (.int .i64 0), (.int .i64 0)])⟩),
 (202, ⟨.other, 1, 8, .undef⟩),
 (206, ⟨(.struct [(0, 1, 5), (1, 1, 5)]), 2, 2, (.agg [(.int .u8 0), (.int .u8 0)])⟩),
 (207, ⟨(.array 16 206), 32, 32, (.agg [(.int .u8 0), (.int .u8 0), (.int .u8 0), (.int .u8 0), (.int .u8 0), (.int .u8 0), (.int .u8 0), (.int .u8 0), (.int .u8 0), (.int .u8 0), (.int .u8 0), (.int .u8 0), (.int .u8 0), (.int .u8 0), (.int .u8 0), (.int .u8 0), (.int .u8 0), (.int .u8 0), (.int .u8 0), (.int .u8 0), (.int .u8 0), (.int .u8 0), (.int .u8 0), (.int .u8 0), (.int .u8 0), (.int .u8 0), (.int .u8 0), (.int .u8 0), (.int .u8 0), (.int .u8 0), (.int .u8 0), (.int .u8 0)])⟩),
 (208, ⟨(.int .u32), 1, 4, (.int .u32 0)⟩),
 (212, ⟨(.array 20 27), 20, 160, (.agg [(.int .u64 0), (.int .u64 0), (.int .u64 0), (.int .u64 0), (.int .u64 0), (.int .u64 0), (.int .u64 0), (.int .u64 0), (.int .u64 0), (.int .u64 0), (.int .u64 0), (.int .u64 0), (.int .u64 0), (.int .u64 0), (.int .u64 0), (.int .u64 0), (.int .u64 0), (.int .u64 0), (.int .u64 0), (.int .u64 0)])⟩),
 (215, ⟨.other, 1, 8, .undef⟩),
 (216, ⟨.other, 1, 8, .undef⟩),
 (217, ⟨(.int .i64), 1, 8, (.int .i64 0)⟩),
 (219, ⟨.other, 1, 8, .undef⟩),
 (220, ⟨.other, 1, 8, .undef⟩),
 (229, ⟨(.struct [(0, 1, 9), (1, 1, 9), (2, 1, 43)]), 3, 48, (.agg [(.str ByteArray.empty), (.str ByteArray.empty), .undef])⟩),
 (231, ⟨(.array 32 5), 32, 32, (.agg [(.int .u8 0), (.int .u8 0), (.int .u8 0), (.int .u8 0), (.int .u8 0), (.int .u8 0), (.int .u8 0), (.int .u8 0), (.int .u8 0), (.int .u8 0), (.int .u8 0), (.int .u8 0), (.int .u8 0), (.int .u8 0), (.int .u8 0), (.int .u8 0), (.int .u8 0), (.int .u8 0), (.int .u8 0), (.int .u8 0), (.int .u8 0), (.int .u8 0), (.int .u8 0), (.int .u8 0), (.int .u8 0), (.int .u8 0), (.int .u8 0), (.int .u8 0), (.int .u8 0), (.int .u8 0), (.int .u8 0), (.int .u8 0)])⟩),
 (234, ⟨.other, 1, 8, .undef⟩),
 (236, ⟨(.struct [(0, 1, 9)]), 1, 16, (.agg [(.str ByteArray.empty)])⟩),
 (242, ⟨(.int .u8), 1, 1, (.int .u8 0)⟩),
 (243, ⟨(.int .u8), 1, 1, (.int .u8 0)⟩),
 (244, ⟨.other, 1, 8, .undef⟩),
 (245, ⟨(.int .i32), 1, 4, (.int .i32 0)⟩),
 (246, ⟨(.int .i32), 1, 4, (.int .i32 0)⟩),
 (247, ⟨(.struct [(0, 1, 12), (1, 1, 12), (2, 1, 208), (3, 1, 242), (4, 1, 5), (5, 1, 5), (6, 1, 243), (7, 1, 244), (8, 1, 76), (9, 1, 245), (10, 1, 246)]), 11, 48, (.agg [(.int .u64 0), (.int .u64 0), (.int .u32 0), (.int .u8 0), (.int .u8 0), (.int .u8 0), (.int .u8 0), .undef, .undef, (.int .i32 0), (.int .i32 0)])⟩)]
def tyF : TypeId → Option TI := fun t => tab.lookup t
theorem tabAll : (tab.all fun (t, i) => tiOk Tryz.prog t i) = true := by kernel_rfl
def eqsL : List TypeId := [61, 85, 91, 102, 112, 123, 133]
theorem eqsOk : (eqsL.all fun t => eqOkB Tryz.prog t) = true := by kernel_rfl
theorem mixOk : Tryz.prog.follows .mixedOrders = true := by kernel_rfl
theorem ty1 : tyF 1 = some ⟨.other, 1, 8, .undef⟩ := rfl
theorem ty2 : tyF 2 = some ⟨(.int .i64), 1, 8, (.int .i64 0)⟩ := rfl
theorem ty3 : tyF 3 = some ⟨(.int .i64), 1, 8, (.int .i64 0)⟩ := rfl
theorem ty4 : tyF 4 = some ⟨.bool, 1, 1, (.bool false)⟩ := rfl
theorem ty5 : tyF 5 = some ⟨(.int .u8), 1, 1, (.int .u8 0)⟩ := rfl
theorem ty6 : tyF 6 = some ⟨(.int .u8), 1, 1, (.int .u8 0)⟩ := rfl
theorem ty7 : tyF 7 = some ⟨(.struct [(0, 1, 2), (1, 1, 3), (2, 1, 4), (3, 1, 6)]), 4, 24, (.agg [(.int .i64 0), (.int .i64 0), (.bool false), (.int .u8 0)])⟩ := rfl
theorem ty8 : tyF 8 = some ⟨(.struct [(0, 1, 2), (1, 1, 3), (2, 1, 4), (3, 1, 6)]), 4, 24, (.agg [(.int .i64 0), (.int .i64 0), (.bool false), (.int .u8 0)])⟩ := rfl
theorem ty9 : tyF 9 = some ⟨.str, 1, 16, (.str ByteArray.empty)⟩ := rfl
theorem ty10 : tyF 10 = some ⟨.str, 1, 16, (.str ByteArray.empty)⟩ := rfl
theorem ty11 : tyF 11 = some ⟨.str, 1, 16, (.str ByteArray.empty)⟩ := rfl
theorem ty12 : tyF 12 = some ⟨(.int .u64), 1, 8, (.int .u64 0)⟩ := rfl
theorem ty13 : tyF 13 = some ⟨(.struct [(0, 1, 9), (1, 1, 12)]), 2, 24, (.agg [(.str ByteArray.empty), (.int .u64 0)])⟩ := rfl
theorem ty14 : tyF 14 = some ⟨(.struct [(0, 1, 9), (1, 1, 12)]), 2, 24, (.agg [(.str ByteArray.empty), (.int .u64 0)])⟩ := rfl
theorem ty15 : tyF 15 = some ⟨.other, 1, 8, .undef⟩ := rfl
theorem ty16 : tyF 16 = some ⟨.other, 1, 8, .undef⟩ := rfl
theorem ty17 : tyF 17 = some ⟨.other, 1, 8, .undef⟩ := rfl
theorem ty18 : tyF 18 = some ⟨(.struct [(0, 1, 17)]), 1, 8, (.agg [.undef])⟩ := rfl
theorem ty19 : tyF 19 = some ⟨(.struct [(0, 1, 17)]), 1, 8, (.agg [.undef])⟩ := rfl
theorem ty20 : tyF 20 = some ⟨.iface, 1, 16, .undef⟩ := rfl
theorem ty21 : tyF 21 = some ⟨(.int .i32), 1, 4, (.int .i32 0)⟩ := rfl
theorem ty22 : tyF 22 = some ⟨.other, 1, 8, .undef⟩ := rfl
theorem ty23 : tyF 23 = some ⟨.other, 1, 8, .undef⟩ := rfl
theorem ty24 : tyF 24 = some ⟨.other, 1, 8, .undef⟩ := rfl
theorem ty25 : tyF 25 = some ⟨.other, 1, 8, .undef⟩ := rfl
theorem ty26 : tyF 26 = some ⟨.other, 1, 8, .undef⟩ := rfl
theorem ty27 : tyF 27 = some ⟨(.int .u64), 1, 8, (.int .u64 0)⟩ := rfl
theorem ty28 : tyF 28 = some ⟨(.slice 9), 1, 24, .zero⟩ := rfl
theorem ty29 : tyF 29 = some ⟨.other, 1, 8, .undef⟩ := rfl
theorem ty30 : tyF 30 = some ⟨.other, 1, 8, .undef⟩ := rfl
theorem ty31 : tyF 31 = some ⟨(.slice 91), 1, 24, .zero⟩ := rfl
theorem ty32 : tyF 32 = some ⟨(.slice 55), 1, 24, .zero⟩ := rfl
theorem ty33 : tyF 33 = some ⟨(.struct [(0, 1, 31), (1, 1, 32), (2, 1, 3)]), 3, 56, (.agg [.zero, .zero, (.int .i64 0)])⟩ := rfl
theorem ty34 : tyF 34 = some ⟨(.struct [(0, 1, 31), (1, 1, 32), (2, 1, 3)]), 3, 56, (.agg [.zero, .zero, (.int .i64 0)])⟩ := rfl
theorem ty35 : tyF 35 = some ⟨(.slice 133), 1, 24, .zero⟩ := rfl
theorem ty37 : tyF 37 = some ⟨(.struct [(0, 3, 34), (3, 1, 35)]), 4, 80, (.agg [.zero, .zero, (.int .i64 0), .zero])⟩ := rfl
theorem ty38 : tyF 38 = some ⟨.other, 1, 8, .undef⟩ := rfl
theorem ty39 : tyF 39 = some ⟨(.slice 5), 1, 24, .zero⟩ := rfl
theorem ty40 : tyF 40 = some ⟨(.struct [(0, 1, 38), (1, 1, 39)]), 2, 32, (.agg [.undef, .zero])⟩ := rfl
theorem ty41 : tyF 41 = some ⟨(.struct [(0, 1, 38), (1, 1, 39)]), 2, 32, (.agg [.undef, .zero])⟩ := rfl
theorem ty42 : tyF 42 = some ⟨.iface, 1, 16, .undef⟩ := rfl
theorem ty43 : tyF 43 = some ⟨.iface, 1, 16, .undef⟩ := rfl
theorem ty45 : tyF 45 = some ⟨.other, 1, 8, .undef⟩ := rfl
theorem ty46 : tyF 46 = some ⟨.other, 1, 8, .undef⟩ := rfl
theorem ty47 : tyF 47 = some ⟨.other, 1, 8, .undef⟩ := rfl
theorem ty48 : tyF 48 = some ⟨.other, 1, 8, .undef⟩ := rfl
theorem ty49 : tyF 49 = some ⟨(.int .i64), 1, 8, (.int .i64 0)⟩ := rfl
theorem ty51 : tyF 51 = some ⟨.other, 1, 8, .undef⟩ := rfl
theorem ty52 : tyF 52 = some ⟨.other, 1, 8, .undef⟩ := rfl
theorem ty53 : tyF 53 = some ⟨(.slice 85), 1, 24, .zero⟩ := rfl
theorem ty54 : tyF 54 = some ⟨(.struct [(0, 1, 9), (1, 1, 3), (2, 1, 53)]), 3, 48, (.agg [(.str ByteArray.empty), (.int .i64 0), .zero])⟩ := rfl
theorem ty55 : tyF 55 = some ⟨(.struct [(0, 1, 9), (1, 1, 3), (2, 1, 53)]), 3, 48, (.agg [(.str ByteArray.empty), (.int .i64 0), .zero])⟩ := rfl
theorem ty56 : tyF 56 = some ⟨.other, 1, 8, .undef⟩ := rfl
theorem ty58 : tyF 58 = some ⟨.other, 1, 8, .undef⟩ := rfl
theorem ty59 : tyF 59 = some ⟨.other, 1, 8, .undef⟩ := rfl
theorem ty60 : tyF 60 = some ⟨(.struct [(0, 1, 49)]), 1, 8, (.agg [(.int .i64 0)])⟩ := rfl
theorem ty61 : tyF 61 = some ⟨(.struct [(0, 1, 49)]), 1, 8, (.agg [(.int .i64 0)])⟩ := rfl
theorem ty63 : tyF 63 = some ⟨.other, 1, 8, .undef⟩ := rfl
theorem ty64 : tyF 64 = some ⟨(.struct [(0, 1, 28), (1, 1, 3)]), 2, 32, (.agg [.zero, (.int .i64 0)])⟩ := rfl
theorem ty65 : tyF 65 = some ⟨(.struct [(0, 1, 28), (1, 1, 3)]), 2, 32, (.agg [.zero, (.int .i64 0)])⟩ := rfl
theorem ty66 : tyF 66 = some ⟨.other, 1, 8, .undef⟩ := rfl
theorem ty67 : tyF 67 = some ⟨(.struct [(0, 1, 3), (1, 1, 4), (2, 1, 66)]), 3, 24, (.agg [(.int .i64 0), (.bool false), .undef])⟩ := rfl
theorem ty68 : tyF 68 = some ⟨(.struct [(0, 1, 3), (1, 1, 4), (2, 1, 66)]), 3, 24, (.agg [(.int .i64 0), (.bool false), .undef])⟩ := rfl
theorem ty70 : tyF 70 = some ⟨(.map 9 68), 1, 8, .undef⟩ := rfl
theorem ty72 : tyF 72 = some ⟨(.slice 3), 1, 24, .zero⟩ := rfl
theorem ty73 : tyF 73 = some ⟨.other, 1, 8, .undef⟩ := rfl
theorem ty76 : tyF 76 = some ⟨.other, 1, 8, .undef⟩ := rfl
theorem ty78 : tyF 78 = some ⟨.other, 1, 8, .undef⟩ := rfl
theorem ty79 : tyF 79 = some ⟨.other, 1, 8, .undef⟩ := rfl
theorem ty84 : tyF 84 = some ⟨(.struct [(0, 1, 9), (1, 1, 3)]), 2, 24, (.agg [(.str ByteArray.empty), (.int .i64 0)])⟩ := rfl
theorem ty85 : tyF 85 = some ⟨(.struct [(0, 1, 9), (1, 1, 3)]), 2, 24, (.agg [(.str ByteArray.empty), (.int .i64 0)])⟩ := rfl
theorem ty87 : tyF 87 = some ⟨.other, 1, 8, .undef⟩ := rfl
theorem ty88 : tyF 88 = some ⟨.other, 1, 8, .undef⟩ := rfl
theorem ty90 : tyF 90 = some ⟨(.struct [(0, 1, 9), (1, 1, 3)]), 2, 24, (.agg [(.str ByteArray.empty), (.int .i64 0)])⟩ := rfl
theorem ty91 : tyF 91 = some ⟨(.struct [(0, 1, 9), (1, 1, 3)]), 2, 24, (.agg [(.str ByteArray.empty), (.int .i64 0)])⟩ := rfl
theorem ty92 : tyF 92 = some ⟨.other, 1, 8, .undef⟩ := rfl
theorem ty98 : tyF 98 = some ⟨.other, 1, 8, .undef⟩ := rfl
theorem ty99 : tyF 99 = some ⟨.other, 1, 8, .undef⟩ := rfl
theorem ty100 : tyF 100 = some ⟨.other, 1, 8, .undef⟩ := rfl
theorem ty101 : tyF 101 = some ⟨(.struct [(0, 1, 3), (1, 1, 3), (2, 1, 3)]), 3, 24, (.agg [(.int .i64 0), (.int .i64 0), (.int .i64 0)])⟩ := rfl
theorem ty102 : tyF 102 = some ⟨(.struct [(0, 1, 3), (1, 1, 3), (2, 1, 3)]), 3, 24, (.agg [(.int .i64 0), (.int .i64 0), (.int .i64 0)])⟩ := rfl
theorem ty103 : tyF 103 = some ⟨.other, 1, 8, .undef⟩ := rfl
theorem ty104 : tyF 104 = some ⟨.other, 1, 8, .undef⟩ := rfl
theorem ty106 : tyF 106 = some ⟨.other, 1, 8, .undef⟩ := rfl
theorem ty107 : tyF 107 = some ⟨.other, 1, 8, .undef⟩ := rfl
theorem ty108 : tyF 108 = some ⟨.other, 1, 8, .undef⟩ := rfl
theorem ty109 : tyF 109 = some ⟨.other, 1, 8, .undef⟩ := rfl
theorem ty110 : tyF 110 = some ⟨.other, 1, 8, .undef⟩ := rfl
theorem ty111 : tyF 111 = some ⟨(.struct [(0, 1, 3), (1, 1, 3)]), 2, 16, (.agg [(.int .i64 0), (.int .i64 0)])⟩ := rfl
theorem ty112 : tyF 112 = some ⟨(.struct [(0, 1, 3), (1, 1, 3)]), 2, 16, (.agg [(.int .i64 0), (.int .i64 0)])⟩ := rfl
theorem ty114 : tyF 114 = some ⟨.other, 1, 8, .undef⟩ := rfl
theorem ty115 : tyF 115 = some ⟨.other, 1, 8, .undef⟩ := rfl
theorem ty116 : tyF 116 = some ⟨.other, 1, 8, .undef⟩ := rfl
theorem ty118 : tyF 118 = some ⟨.other, 1, 8, .undef⟩ := rfl
theorem ty119 : tyF 119 = some ⟨(.slice 123), 1, 24, .zero⟩ := rfl
theorem ty121 : tyF 121 = some ⟨.other, 1, 8, .undef⟩ := rfl
theorem ty122 : tyF 122 = some ⟨(.struct [(0, 1, 3), (1, 1, 3), (2, 1, 3)]), 3, 24, (.agg [(.int .i64 0), (.int .i64 0), (.int .i64 0)])⟩ := rfl
theorem ty123 : tyF 123 = some ⟨(.struct [(0, 1, 3), (1, 1, 3), (2, 1, 3)]), 3, 24, (.agg [(.int .i64 0), (.int .i64 0), (.int .i64 0)])⟩ := rfl
theorem ty126 : tyF 126 = some ⟨.other, 1, 8, .undef⟩ := rfl
theorem ty129 : tyF 129 = some ⟨.other, 1, 8, .undef⟩ := rfl
theorem ty133 : tyF 133 = some ⟨(.struct [(0, 1, 9), (1, 1, 3), (2, 1, 3), (3, 1, 3), (4, 1, 3), (5, 1, 9), (6, 1, 9)]), 7, 80, (.agg [(.str ByteArray.empty), (.int .i64 0), (.int .i64 0), (.int .i64 0), (.int .i64 0), (.str ByteArray.empty), (.str ByteArray.empty)])⟩ := rfl
theorem ty138 : tyF 138 = some ⟨(.map 9 4), 1, 8, .undef⟩ := rfl
theorem ty142 : tyF 142 = some ⟨.other, 1, 8, .undef⟩ := rfl
theorem ty143 : tyF 143 = some ⟨.other, 1, 8, .undef⟩ := rfl
theorem ty145 : tyF 145 = some ⟨.other, 1, 8, .undef⟩ := rfl
theorem ty146 : tyF 146 = some ⟨.other, 1, 8, .undef⟩ := rfl
theorem ty147 : tyF 147 = some ⟨(.int .u64), 1, 8, (.int .u64 0)⟩ := rfl
theorem ty148 : tyF 148 = some ⟨.other, 1, 8, .undef⟩ := rfl
theorem ty151 : tyF 151 = some ⟨.other, 1, 8, .undef⟩ := rfl
theorem ty159 : tyF 159 = some ⟨.other, 1, 8, .undef⟩ := rfl
theorem ty164 : tyF 164 = some ⟨.other, 1, 8, .undef⟩ := rfl
theorem ty166 : tyF 166 = some ⟨.other, 1, 8, .undef⟩ := rfl
theorem ty168 : tyF 168 = some ⟨.other, 1, 8, .undef⟩ := rfl
theorem ty169 : tyF 169 = some ⟨.other, 1, 8, .undef⟩ := rfl
theorem ty171 : tyF 171 = some ⟨.other, 1, 8, .undef⟩ := rfl
theorem ty175 : tyF 175 = some ⟨.other, 1, 8, .undef⟩ := rfl
theorem ty176 : tyF 176 = some ⟨.other, 1, 8, .undef⟩ := rfl
theorem ty178 : tyF 178 = some ⟨.other, 1, 8, .undef⟩ := rfl
theorem ty187 : tyF 187 = some ⟨(.array 24 5), 24, 24, (.agg [(.int .u8 0), (.int .u8 0), (.int .u8 0), (.int .u8 0), (.int .u8 0), (.int .u8 0), (.int .u8 0), (.int .u8 0), (.int .u8 0), (.int .u8 0), (.int .u8 0), (.int .u8 0), (.int .u8 0), (.int .u8 0), (.int .u8 0), (.int .u8 0), (.int .u8 0), (.int .u8 0), (.int .u8 0), (.int .u8 0), (.int .u8 0), (.int .u8 0), (.int .u8 0), (.int .u8 0)])⟩ := rfl
theorem ty189 : tyF 189 = some ⟨.other, 1, 8, .undef⟩ := rfl
theorem ty192 : tyF 192 = some ⟨(.array 13 3), 13, 104, (.agg [(.int .i64 0), (.int .i64 0), (.int .i64 0), (.int .i64 0), (.int .i64 0), (.int .i64 0), (.int .i64 0), (.int .i64 0), (.int .i64 0), (.int .i64 0), (.int .i64 0), (.int .i64 0), (.int .i64 0)])⟩ := rfl
theorem ty193 : tyF 193 = some ⟨.other, 1, 8, .undef⟩ := rfl
theorem ty199 : tyF 199 = some ⟨.other, 1, 8, .undef⟩ := rfl
theorem ty201 : tyF 201 = some ⟨(.array 5 3), 5, 40, (.agg [(.int .i64 0), (.int .i64 0), (.int .i64 0), (.int .i64 0), (.int .i64 0)])⟩ := rfl
theorem ty202 : tyF 202 = some ⟨.other, 1, 8, .undef⟩ := rfl
theorem ty206 : tyF 206 = some ⟨(.struct [(0, 1, 5), (1, 1, 5)]), 2, 2, (.agg [(.int .u8 0), (.int .u8 0)])⟩ := rfl
theorem ty207 : tyF 207 = some ⟨(.array 16 206), 32, 32, (.agg [(.int .u8 0), (.int .u8 0), (.int .u8 0), (.int .u8 0), (.int .u8 0), (.int .u8 0), (.int .u8 0), (.int .u8 0), (.int .u8 0), (.int .u8 0), (.int .u8 0), (.int .u8 0), (.int .u8 0), (.int .u8 0), (.int .u8 0), (.int .u8 0), (.int .u8 0), (.int .u8 0), (.int .u8 0), (.int .u8 0), (.int .u8 0), (.int .u8 0), (.int .u8 0), (.int .u8 0), (.int .u8 0), (.int .u8 0), (.int .u8 0), (.int .u8 0), (.int .u8 0), (.int .u8 0), (.int .u8 0), (.int .u8 0)])⟩ := rfl
theorem ty208 : tyF 208 = some ⟨(.int .u32), 1, 4, (.int .u32 0)⟩ := rfl
theorem ty212 : tyF 212 = some ⟨(.array 20 27), 20, 160, (.agg [(.int .u64 0), (.int .u64 0), (.int .u64 0), (.int .u64 0), (.int .u64 0), (.int .u64 0), (.int .u64 0), (.int .u64 0), (.int .u64 0), (.int .u64 0), (.int .u64 0), (.int .u64 0), (.int .u64 0), (.int .u64 0), (.int .u64 0), (.int .u64 0), (.int .u64 0), (.int .u64 0), (.int .u64 0), (.int .u64 0)])⟩ := rfl
theorem ty215 : tyF 215 = some ⟨.other, 1, 8, .undef⟩ := rfl
theorem ty216 : tyF 216 = some ⟨.other, 1, 8, .undef⟩ := rfl
theorem ty217 : tyF 217 = some ⟨(.int .i64), 1, 8, (.int .i64 0)⟩ := rfl
theorem ty219 : tyF 219 = some ⟨.other, 1, 8, .undef⟩ := rfl
theorem ty220 : tyF 220 = some ⟨.other, 1, 8, .undef⟩ := rfl
theorem ty229 : tyF 229 = some ⟨(.struct [(0, 1, 9), (1, 1, 9), (2, 1, 43)]), 3, 48, (.agg [(.str ByteArray.empty), (.str ByteArray.empty), .undef])⟩ := rfl
theorem ty231 : tyF 231 = some ⟨(.array 32 5), 32, 32, (.agg [(.int .u8 0), (.int .u8 0), (.int .u8 0), (.int .u8 0), (.int .u8 0), (.int .u8 0), (.int .u8 0), (.int .u8 0), (.int .u8 0), (.int .u8 0), (.int .u8 0), (.int .u8 0), (.int .u8 0), (.int .u8 0), (.int .u8 0), (.int .u8 0), (.int .u8 0), (.int .u8 0), (.int .u8 0), (.int .u8 0), (.int .u8 0), (.int .u8 0), (.int .u8 0), (.int .u8 0), (.int .u8 0), (.int .u8 0), (.int .u8 0), (.int .u8 0), (.int .u8 0), (.int .u8 0), (.int .u8 0), (.int .u8 0)])⟩ := rfl
theorem ty234 : tyF 234 = some ⟨.other, 1, 8, .undef⟩ := rfl
theorem ty236 : tyF 236 = some ⟨(.struct [(0, 1, 9)]), 1, 16, (.agg [(.str ByteArray.empty)])⟩ := rfl
theorem ty242 : tyF 242 = some ⟨(.int .u8), 1, 1, (.int .u8 0)⟩ := rfl
theorem ty243 : tyF 243 = some ⟨(.int .u8), 1, 1, (.int .u8 0)⟩ := rfl
theorem ty244 : tyF 244 = some ⟨.other, 1, 8, .undef⟩ := rfl
theorem ty245 : tyF 245 = some ⟨(.int .i32), 1, 4, (.int .i32 0)⟩ := rfl
theorem ty246 : tyF 246 = some ⟨(.int .i32), 1, 4, (.int .i32 0)⟩ := rfl
theorem ty247 : tyF 247 = some ⟨(.struct [(0, 1, 12), (1, 1, 12), (2, 1, 208), (3, 1, 242), (4, 1, 5), (5, 1, 5), (6, 1, 243), (7, 1, 244), (8, 1, 76), (9, 1, 245), (10, 1, 246)]), 11, 48, (.agg [(.int .u64 0), (.int .u64 0), (.int .u32 0), (.int .u8 0), (.int .u8 0), (.int .u8 0), (.int .u8 0), .undef, .undef, (.int .i32 0), (.int .i32 0)])⟩ := rfl
theorem eqs61 : eqsL.contains 61 = true := rfl
theorem eqs85 : eqsL.contains 85 = true := rfl
theorem eqs91 : eqsL.contains 91 = true := rfl
theorem eqs102 : eqsL.contains 102 = true := rfl
theorem eqs112 : eqsL.contains 112 = true := rfl
theorem eqs123 : eqsL.contains 123 = true := rfl
theorem eqs133 : eqsL.contains 133 = true := rfl
def dr3 : List (Nat × (Nat × List (List Nat))) := []
def dd3 : List (Nat × List Nat) := [(0, [4]), (1, [9, 10, 11, 12, 13, 14]), (2, [0, 15, 16]), (3, [1, 17, 18, 19, 20, 21, 22, 23, 24, 25, 26, 27, 28, 29, 30, 31, 32, 33, 34, 35]), (5, [6, 36, 37]), (6, [38, 39, 40, 41, 42, 43, 44, 45, 46, 47, 48, 49, 50, 51, 52, 53]), (8, [5, 7, 8, 55, 56, 57, 58, 59, 60, 61, 62])]
theorem drOk3 : drAll dr3 (Tryz.f3.body.getD .skip) = true := by kernel_rfl
def dr4 : List (Nat × (Nat × List (List Nat))) := []
def dd4 : List (Nat × List Nat) := [(0, [4]), (1, [0, 1, 5, 6, 7, 8, 9, 10])]
theorem drOk4 : drAll dr4 (Tryz.f4.body.getD .skip) = true := by kernel_rfl
def dr5 : List (Nat × (Nat × List (List Nat))) := []
def dd5 : List (Nat × List Nat) := [(0, [2]), (1, [3]), (2, [0, 5, 6, 7, 8]), (3, [9]), (4, [0, 11, 12, 13, 14]), (5, [0, 15, 16, 17, 18, 19, 20, 21])]
theorem drOk5 : drAll dr5 (Tryz.f5.body.getD .skip) = true := by kernel_rfl
def dr6 : List (Nat × (Nat × List (List Nat))) := []
def dd6 : List (Nat × List Nat) := [(0, [2]), (1, [12, 13]), (2, [14, 15]), (3, [16, 17, 18, 19, 20]), (4, [4, 22, 23, 24, 25]), (5, [0, 26, 27, 28, 29, 30, 31, 32]), (7, [34, 35, 36]), (9, [3]), (11, [41, 42]), (13, [8, 43]), (15, [48, 49]), (16, [50]), (17, [11, 52, 53, 54, 55]), (18, [56]), (19, [57, 58, 59, 60, 61, 62, 63, 64]), (20, [9, 66, 67, 68, 69]), (21, [70]), (22, [71]), (23, [6, 72])]
def dr7 : List (Nat × (Nat × List (List Nat))) := []
def dd7 : List (Nat × List Nat) := [(0, [0]), (1, [5, 6, 7, 8, 9, 10]), (2, [1, 11, 12, 13, 14, 15]), (3, [2, 3, 4, 16, 17, 18, 19, 20, 21, 22, 23, 24, 25])]
theorem drOk7 : drAll dr7 (Tryz.f7.body.getD .skip) = true := by kernel_rfl
def dr10 : List (Nat × (Nat × List (List Nat))) := [(3, (11, [[], [0], [0], [0], [1], [1, 2], [0, 1, 2, 3], [0, 1, 2, 3, 6], [0, 1, 2, 3, 4, 5, 6, 7], [7], []]))]
def dd10 : List (Nat × List Nat) := [(1, [11]), (2, [12, 13, 14]), (3, [15, 16, 17, 18, 19, 20, 21, 22]), (4, [7]), (5, [24, 25, 26, 27]), (7, [28]), (8, [30, 31]), (9, [5, 32, 33]), (10, [6, 8, 9, 34, 35, 36, 37, 38]), (11, [0, 1, 39, 40, 41, 42, 43, 44]), (12, [5, 45, 46]), (13, [10, 47, 48])]
def dr13 : List (Nat × (Nat × List (List Nat))) := [(9, (7, []))]
def dd13 : List (Nat × List Nat) := [(0, [0, 1, 5]), (1, [12, 13]), (2, [14]), (3, [6, 16, 17]), (4, [18, 19]), (5, [20]), (6, [7, 22, 23]), (7, [24, 25, 26, 27]), (8, [28]), (9, [3, 8, 30, 31, 32, 33, 34, 35]), (10, [2, 37, 38]), (11, [39]), (12, [41, 42, 43, 44]), (13, [45]), (14, [47, 48, 49, 50, 51]), (15, [52]), (16, [54, 55, 56, 57]), (17, [58]), (18, [2, 59, 60]), (19, [61, 62, 63, 64]), (20, [11, 65, 66, 67, 68, 69, 70, 71]), (21, [3, 10, 72, 73, 74, 75, 76, 77, 78]), (22, [9, 79])]
theorem drOk13 : drAll dr13 (Tryz.f13.body.getD .skip) = true := by kernel_rfl
def dr14 : List (Nat × (Nat × List (List Nat))) := []
def dd14 : List (Nat × List Nat) := [(1, [1, 2, 3, 4, 5, 6, 7, 8])]
theorem drOk14 : drAll dr14 (Tryz.f14.body.getD .skip) = true := by kernel_rfl
def dr15 : List (Nat × (Nat × List (List Nat))) := []
def dd15 : List (Nat × List Nat) := [(1, [0, 1, 2, 3, 4, 11, 12, 13, 14, 15, 16, 17, 18, 19, 20, 21, 22])]
theorem drOk15 : drAll dr15 (Tryz.f15.body.getD .skip) = true := by kernel_rfl
def dr16 : List (Nat × (Nat × List (List Nat))) := []
def dd16 : List (Nat × List Nat) := [(0, [0, 6, 7]), (1, [9, 10]), (2, [11]), (3, [8, 13]), (4, [14, 15, 16, 17]), (6, [19, 20]), (8, [1, 2, 3, 22, 23, 24, 25])]
theorem drOk16 : drAll dr16 (Tryz.f16.body.getD .skip) = true := by kernel_rfl
def dr22 : List (Nat × (Nat × List (List Nat))) := []
def dd22 : List (Nat × List Nat) := [(0, [4]), (2, [1]), (4, [9, 10, 11, 12, 13]), (5, [14]), (6, [5, 15])]
theorem drOk22 : drAll dr22 (Tryz.f22.body.getD .skip) = true := by kernel_rfl
def dr24 : List (Nat × (Nat × List (List Nat))) := [(0, (10, []))]
def dd24 : List (Nat × List Nat) := [(0, [0, 2, 3, 4, 5, 6, 7, 8, 9, 10]), (1, [12])]
theorem drOk24 : drAll dr24 (Tryz.f24.body.getD .skip) = true := by kernel_rfl
def dr25 : List (Nat × (Nat × List (List Nat))) := [(21, (20, [[], [], [], [0, 1, 2], [0, 1, 2], [0, 1, 2], [0, 1, 2, 3, 4, 5], [0, 1, 2, 3, 4, 5], [0, 1, 2, 3, 4, 5], [0, 1, 2, 3, 4, 5, 6, 7, 8], [0, 1, 2, 3, 4, 5, 6, 7, 8], [0, 1, 2, 3, 4, 5, 6, 7, 8], [3, 4, 5, 6, 7, 8, 9, 10, 11], [3, 4, 5, 6, 7, 8, 9, 10, 11], [6, 7, 8, 9, 10, 11], [6, 7, 8, 9, 10, 11], [9, 10, 11], [9, 10, 11], [], []]))]
def dd25 : List (Nat × List Nat) := [(0, [0, 6]), (2, [22]), (3, [2, 23, 24, 25, 26]), (4, [3, 7, 8, 27]), (5, [29]), (6, [30, 31, 32, 33, 34]), (7, [2, 35, 36, 37]), (8, [3, 9, 38]), (9, [40]), (10, [2, 41, 42]), (11, [3, 10, 43]), (12, [45]), (13, [2, 46, 47, 48, 49, 50, 51]), (14, [3, 11, 12, 13, 52]), (15, [54]), (16, [2, 55, 56, 57, 58, 59, 60]), (17, [3, 14, 15, 16, 61]), (18, [63]), (19, [64, 65, 66]), (20, [67, 68]), (21, [18, 69, 70, 71, 72, 73, 74, 75, 76, 77, 78, 79, 80, 81, 82, 83, 84]), (22, [2, 85, 86, 87, 88, 89, 90]), (23, [3, 17, 91]), (24, [20, 93]), (25, [2, 94, 95]), (26, [3, 19, 96]), (27, [1, 2, 3, 97, 98, 99, 100])]
theorem drOk25 : drAll dr25 (Tryz.f25.body.getD .skip) = true := by kernel_rfl
def dr26 : List (Nat × (Nat × List (List Nat))) := [(20, (13, []))]
def dd26 : List (Nat × List Nat) := [(0, [0, 2]), (1, [8, 9, 10]), (2, [11]), (3, [3, 13]), (4, [14, 15, 16, 17, 18, 19, 20]), (6, [22, 23, 24]), (8, [26]), (9, [27]), (11, [32, 33, 34]), (12, [35, 36]), (13, [37]), (14, [7, 39]), (15, [40, 41, 42]), (17, [44, 45, 46]), (19, [48, 49, 50]), (20, [5, 6, 51, 52, 53, 54, 55, 56, 57, 58, 59, 60, 61, 62]), (22, [64])]
theorem drOk26 : drAll dr26 (Tryz.f26.body.getD .skip) = true := by kernel_rfl
def dr27 : List (Nat × (Nat × List (List Nat))) := []
def dd27 : List (Nat × List Nat) := [(0, [0, 2]), (1, [3, 4, 5]), (3, [7, 8, 9]), (5, [1, 11, 12, 13])]
theorem drOk27 : drAll dr27 (Tryz.f27.body.getD .skip) = true := by kernel_rfl
def dr28 : List (Nat × (Nat × List (List Nat))) := []
def dd28 : List (Nat × List Nat) := [(0, [0, 1, 4]), (1, [2, 3, 5, 6, 7, 8])]
theorem drOk28 : drAll dr28 (Tryz.f28.body.getD .skip) = true := by kernel_rfl
def dr29 : List (Nat × (Nat × List (List Nat))) := []
def dd29 : List (Nat × List Nat) := [(0, [0, 1, 4]), (1, [2, 3, 5, 6, 7, 8, 9, 10, 11, 12, 13, 14, 15, 16, 17, 18, 19, 20, 21, 22, 23])]
theorem drOk29 : drAll dr29 (Tryz.f29.body.getD .skip) = true := by kernel_rfl
def dr30 : List (Nat × (Nat × List (List Nat))) := [(1, (7, []))]
def dd30 : List (Nat × List Nat) := [(0, [0]), (1, [6, 7, 8, 9, 10, 11]), (2, [1, 12]), (4, [17, 18]), (5, [19, 20, 21, 22]), (6, [5, 23, 24, 25, 26, 27, 28]), (7, [29]), (8, [3, 30])]
theorem drOk30 : drAll dr30 (Tryz.f30.body.getD .skip) = true := by kernel_rfl
def dr31 : List (Nat × (Nat × List (List Nat))) := []
def dd31 : List (Nat × List Nat) := [(0, [0, 1, 4]), (1, [2, 3, 5, 6, 7, 8, 9])]
theorem drOk31 : drAll dr31 (Tryz.f31.body.getD .skip) = true := by kernel_rfl
def dr32 : List (Nat × (Nat × List (List Nat))) := []
def dd32 : List (Nat × List Nat) := [(0, [2]), (1, [3]), (3, [0, 5, 6, 7])]
theorem drOk32 : drAll dr32 (Tryz.f32.body.getD .skip) = true := by kernel_rfl
def dr33 : List (Nat × (Nat × List (List Nat))) := [(5, (8, [])), (8, (16, []))]
def dd33 : List (Nat × List Nat) := [(0, [1, 6, 7]), (1, [12, 13]), (2, [14]), (3, [15, 16]), (4, [18, 19, 20, 21, 22, 23]), (5, [24, 25, 26, 27, 28, 29, 30]), (6, [11, 32, 33]), (7, [11, 34]), (8, [0, 2, 4, 8, 9, 35, 36, 37, 38, 39, 40, 41, 42, 43, 44, 45, 46, 47, 48])]
theorem drOk33 : drAll dr33 (Tryz.f33.body.getD .skip) = true := by kernel_rfl
def dr34 : List (Nat × (Nat × List (List Nat))) := []
def dd34 : List (Nat × List Nat) := [(0, [0, 1, 4]), (1, [5, 6, 7, 8]), (2, [2, 3, 10, 11, 12, 13, 14]), (3, [2, 3, 15, 16, 17, 18, 19])]
theorem drOk34 : drAll dr34 (Tryz.f34.body.getD .skip) = true := by kernel_rfl
def dr36 : List (Nat × (Nat × List (List Nat))) := []
def dd36 : List (Nat × List Nat) := [(0, [2]), (1, [0, 3, 4, 5])]
theorem drOk36 : drAll dr36 (Tryz.f36.body.getD .skip) = true := by kernel_rfl
def dr37 : List (Nat × (Nat × List (List Nat))) := []
def dd37 : List (Nat × List Nat) := [(0, [1, 4]), (1, [0, 3, 5, 6, 7])]
theorem drOk37 : drAll dr37 (Tryz.f37.body.getD .skip) = true := by kernel_rfl
def dr38 : List (Nat × (Nat × List (List Nat))) := []
def dd38 : List (Nat × List Nat) := [(0, [2]), (1, [0, 3, 4, 5, 6, 7, 8])]
theorem drOk38 : drAll dr38 (Tryz.f38.body.getD .skip) = true := by kernel_rfl
def dr39 : List (Nat × (Nat × List (List Nat))) := []
def dd39 : List (Nat × List Nat) := [(0, [0, 8]), (2, [4, 14]), (4, [19, 20]), (5, [21, 22, 23, 24, 25, 26, 27, 28, 29]), (6, [11, 31]), (8, [36, 37]), (9, [38, 39, 40]), (10, [13, 42, 43, 44, 45]), (11, [46]), (12, [47]), (13, [9, 48])]
theorem drOk39 : drAll dr39 (Tryz.f39.body.getD .skip) = true := by kernel_rfl
def dr46 : List (Nat × (Nat × List (List Nat))) := []
def dd46 : List (Nat × List Nat) := [(0, [4]), (1, [1, 5, 6]), (2, [0, 7, 8, 9])]
theorem drOk46 : drAll dr46 (Tryz.f46.body.getD .skip) = true := by kernel_rfl
def dr58 : List (Nat × (Nat × List (List Nat))) := []
def dd58 : List (Nat × List Nat) := [(0, [0, 1, 2, 6, 7]), (1, [9, 10, 11, 12]), (2, [13]), (3, [8, 15]), (4, [3, 4, 5, 16, 17, 18])]
theorem drOk58 : drAll dr58 (Tryz.f58.body.getD .skip) = true := by kernel_rfl
def dr60 : List (Nat × (Nat × List (List Nat))) := []
def dd60 : List (Nat × List Nat) := [(0, [0, 1, 2, 6, 7]), (1, [10, 11, 12, 13]), (2, [14]), (3, [8, 16]), (4, [17, 18, 19, 20, 21]), (5, [3, 4, 5, 9, 22, 23, 24])]
theorem drOk60 : drAll dr60 (Tryz.f60.body.getD .skip) = true := by kernel_rfl
def dr67 : List (Nat × (Nat × List (List Nat))) := []
def dd67 : List (Nat × List Nat) := [(0, [2]), (1, [0, 4, 5])]
theorem drOk67 : drAll dr67 (Tryz.f67.body.getD .skip) = true := by kernel_rfl
def dr68 : List (Nat × (Nat × List (List Nat))) := []
def dd68 : List (Nat × List Nat) := [(0, [2]), (2, [0]), (4, [10, 11]), (5, [5, 12, 13, 14, 15, 16]), (6, [17]), (7, [3, 18])]
theorem drOk68 : drAll dr68 (Tryz.f68.body.getD .skip) = true := by kernel_rfl
def dr73 : List (Nat × (Nat × List (List Nat))) := []
def dd73 : List (Nat × List Nat) := [(0, [2]), (1, [0, 3, 4, 5])]
theorem drOk73 : drAll dr73 (Tryz.f73.body.getD .skip) = true := by kernel_rfl
def dr74 : List (Nat × (Nat × List (List Nat))) := [(1, (10, [])), (4, (12, []))]
def dd74 : List (Nat × List Nat) := [(0, [2]), (1, [3, 4, 5, 6, 7, 8, 9, 10, 11]), (2, [13]), (3, [14, 15, 16, 17, 18, 19, 20]), (4, [0, 21, 22, 23, 24, 25, 26, 27, 28, 29, 30, 31])]
theorem drOk74 : drAll dr74 (Tryz.f74.body.getD .skip) = true := by kernel_rfl
def dr75 : List (Nat × (Nat × List (List Nat))) := []
def dd75 : List (Nat × List Nat) := [(0, [2]), (1, [5, 6, 7, 8, 9]), (2, [0, 4, 10, 11, 12, 13, 14, 15, 16, 17, 18, 19, 20, 21]), (3, [23]), (4, [3, 24])]
theorem drOk75 : drAll dr75 (Tryz.f75.body.getD .skip) = true := by kernel_rfl
def dr77 : List (Nat × (Nat × List (List Nat))) := []
def dd77 : List (Nat × List Nat) := [(0, [3]), (1, [0, 1, 2, 4, 5, 6, 7])]
theorem drOk77 : drAll dr77 (Tryz.f77.body.getD .skip) = true := by kernel_rfl
def dr78 : List (Nat × (Nat × List (List Nat))) := []
def dd78 : List (Nat × List Nat) := [(0, [6]), (1, [1, 2, 8, 9, 10, 11, 12, 13, 14, 15, 16, 17, 18]), (2, [19, 20]), (3, [21, 22, 23]), (4, [0, 7, 24, 25, 26, 27, 28])]
theorem drOk78 : drAll dr78 (Tryz.f78.body.getD .skip) = true := by kernel_rfl
def dr79 : List (Nat × (Nat × List (List Nat))) := [(2, (10, []))]
def dd79 : List (Nat × List Nat) := [(0, [2]), (2, [7, 8, 9, 10, 11, 12, 13, 14, 15]), (3, [17, 18, 19, 20, 21, 22, 23]), (4, [6, 24]), (5, [26]), (6, [4, 5, 27, 28, 29, 30, 31, 32, 33]), (7, [3, 34])]
theorem drOk79 : drAll dr79 (Tryz.f79.body.getD .skip) = true := by kernel_rfl
def dr80 : List (Nat × (Nat × List (List Nat))) := [(1, (9, []))]
def dd80 : List (Nat × List Nat) := [(0, [2]), (1, [0, 1, 3, 4, 5, 6, 7, 8, 9, 10, 11, 12])]
theorem drOk80 : drAll dr80 (Tryz.f80.body.getD .skip) = true := by kernel_rfl
def dr81 : List (Nat × (Nat × List (List Nat))) := []
def dd81 : List (Nat × List Nat) := [(0, [1, 6]), (1, [2, 7, 8]), (2, [0, 4, 9, 10, 11, 12])]
theorem drOk81 : drAll dr81 (Tryz.f81.body.getD .skip) = true := by kernel_rfl
def dr83 : List (Nat × (Nat × List (List Nat))) := []
def dd83 : List (Nat × List Nat) := [(0, [0, 5]), (1, [8, 9]), (2, [10]), (3, [6, 12, 13]), (4, [14, 15]), (5, [17]), (6, [18, 19, 20]), (7, [22]), (8, [2, 23, 24]), (9, [1, 25, 26]), (10, [7, 27])]
theorem drOk83 : drAll dr83 (Tryz.f83.body.getD .skip) = true := by kernel_rfl
def dr84 : List (Nat × (Nat × List (List Nat))) := [(1, (11, []))]
def dd84 : List (Nat × List Nat) := [(0, [4]), (1, [0, 1, 2, 3, 5, 6, 7, 8, 9, 10, 11, 12, 13, 14, 15, 16])]
theorem drOk84 : drAll dr84 (Tryz.f84.body.getD .skip) = true := by kernel_rfl
def dr85 : List (Nat × (Nat × List (List Nat))) := []
def dd85 : List (Nat × List Nat) := [(0, [0, 9]), (1, [19, 20]), (2, [21]), (3, [10, 23, 24]), (4, [25, 26]), (5, [28]), (6, [29, 30, 31, 32, 33, 34, 35]), (7, [36]), (8, [12, 38, 39]), (9, [11, 40]), (10, [42]), (11, [1, 43, 44, 45]), (13, [46]), (15, [51, 52]), (16, [53, 54, 55, 56, 57]), (17, [58, 59, 60, 61, 62, 63, 64, 65, 66, 67, 68]), (18, [16, 70, 71, 72, 73, 74, 75, 76, 77, 78, 79]), (19, [17, 80, 81, 82]), (20, [83]), (21, [84, 85, 86]), (22, [88]), (23, [89]), (24, [3, 14, 91, 92, 93, 94, 95, 96, 97, 98]), (25, [4, 13, 99, 100, 101, 102, 103, 104]), (26, [105]), (27, [12, 107, 108]), (28, [2, 18, 109, 110, 111, 112, 113])]
theorem drOk85 : drAll dr85 (Tryz.f85.body.getD .skip) = true := by kernel_rfl
def dr86 : List (Nat × (Nat × List (List Nat))) := [(1, (11, []))]
def dd86 : List (Nat × List Nat) := [(0, [4]), (1, [0, 1, 2, 3, 5, 6, 7, 8, 9, 10, 11, 12, 13, 14, 15, 16])]
theorem drOk86 : drAll dr86 (Tryz.f86.body.getD .skip) = true := by kernel_rfl
def dr87 : List (Nat × (Nat × List (List Nat))) := []
def dd87 : List (Nat × List Nat) := [(0, [0, 9]), (1, [1, 13, 14, 15, 16, 17, 18]), (2, [19]), (3, [11, 21, 22]), (4, [2, 3, 10, 23, 24, 25, 26, 27, 28, 29]), (5, [30]), (6, [11, 32, 33]), (7, [4, 12, 34, 35, 36, 37, 38])]
theorem drOk87 : drAll dr87 (Tryz.f87.body.getD .skip) = true := by kernel_rfl
def dr88 : List (Nat × (Nat × List (List Nat))) := [(1, (7, []))]
def dd88 : List (Nat × List Nat) := [(0, [2]), (1, [1, 4, 5, 6, 7, 8, 9, 10, 11]), (2, [12, 13, 14]), (3, [0, 3, 15, 16, 17, 18])]
theorem drOk88 : drAll dr88 (Tryz.f88.body.getD .skip) = true := by kernel_rfl
def dr89 : List (Nat × (Nat × List (List Nat))) := []
def dd89 : List (Nat × List Nat) := [(0, [2]), (1, [3]), (3, [0, 5, 6, 7])]
theorem drOk89 : drAll dr89 (Tryz.f89.body.getD .skip) = true := by kernel_rfl
def dr90 : List (Nat × (Nat × List (List Nat))) := []
def dd90 : List (Nat × List Nat) := [(0, [2]), (1, [6, 7]), (5, [13, 14, 15]), (6, [16, 17]), (7, [18]), (8, [5, 20]), (9, [3, 4, 21, 22, 23, 24]), (11, [26])]
theorem drOk90 : drAll dr90 (Tryz.f90.body.getD .skip) = true := by kernel_rfl
def dr91 : List (Nat × (Nat × List (List Nat))) := [(1, (13, []))]
def dd91 : List (Nat × List Nat) := [(0, [2]), (1, [0, 1, 3, 4, 5, 6, 7, 8, 9, 10, 11, 12, 13, 14, 15, 16])]
theorem drOk91 : drAll dr91 (Tryz.f91.body.getD .skip) = true := by kernel_rfl
def dr92 : List (Nat × (Nat × List (List Nat))) := []
def dd92 : List (Nat × List Nat) := [(0, [0, 7]), (1, [14, 15]), (2, [16]), (3, [8, 18, 19]), (4, [1, 2, 20, 21, 22, 23, 24, 25]), (5, [26]), (6, [10, 28, 29]), (7, [3, 30, 31]), (8, [9]), (10, [36, 37]), (11, [13, 38, 39, 40, 41, 42, 43]), (12, [44]), (13, [10, 46, 47]), (14, [48]), (15, [11, 49])]
theorem drOk92 : drAll dr92 (Tryz.f92.body.getD .skip) = true := by kernel_rfl
def dr93 : List (Nat × (Nat × List (List Nat))) := []
def dd93 : List (Nat × List Nat) := [(0, [0, 6]), (1, [1]), (2, [15]), (3, [2, 16, 17, 18, 19]), (4, [3, 7, 8, 20]), (5, [22]), (6, [2, 23, 24, 25, 26]), (7, [3, 9, 10, 27]), (8, [29]), (9, [2, 30, 31]), (10, [3, 11, 32]), (11, [34]), (12, [2, 35, 36]), (13, [3, 12, 37]), (14, [13, 39]), (15, [3, 40]), (16, [41])]
theorem drOk93 : drAll dr93 (Tryz.f93.body.getD .skip) = true := by kernel_rfl
def dr94 : List (Nat × (Nat × List (List Nat))) := [(10, (13, []))]
def dd94 : List (Nat × List Nat) := [(0, [2]), (1, [5, 6]), (5, [12, 13, 14]), (6, [15, 16, 17]), (8, [19, 20, 21, 22, 23, 24, 25]), (10, [3, 4, 27, 28, 29, 30, 31, 32, 33, 34, 35, 36, 37, 38]), (12, [40])]
theorem drOk94 : drAll dr94 (Tryz.f94.body.getD .skip) = true := by kernel_rfl
def dr95 : List (Nat × (Nat × List (List Nat))) := []
def dd95 : List (Nat × List Nat) := [(0, [2]), (1, [5, 6, 7, 8, 9, 10]), (3, [12]), (5, [16]), (6, [3, 17, 18, 19]), (7, [4, 20, 21, 22, 23, 24, 25, 26, 27, 28, 29, 30, 31, 32, 33, 34, 35, 36, 37]), (9, [39])]
theorem drOk95 : drAll dr95 (Tryz.f95.body.getD .skip) = true := by kernel_rfl
def dr96 : List (Nat × (Nat × List (List Nat))) := []
def dd96 : List (Nat × List Nat) := [(0, [2]), (1, [6, 7]), (6, [13, 14, 15]), (7, [16, 17, 18]), (9, [20, 21, 22, 23, 24, 25, 26, 27]), (11, [4, 29, 30, 31, 32]), (13, [5, 34, 35, 36, 37]), (14, [38]), (15, [0, 3, 39, 40, 41, 42, 43, 44])]
theorem drOk96 : drAll dr96 (Tryz.f96.body.getD .skip) = true := by kernel_rfl
def dr97 : List (Nat × (Nat × List (List Nat))) := []
def dd97 : List (Nat × List Nat) := [(0, [4]), (1, [6]), (3, [10]), (4, [11, 12, 13, 14, 15]), (5, [5, 17]), (6, [18])]
theorem drOk97 : drAll dr97 (Tryz.f97.body.getD .skip) = true := by kernel_rfl
def dr98 : List (Nat × (Nat × List (List Nat))) := []
def dd98 : List (Nat × List Nat) := [(0, [0, 3]), (1, [1, 2, 4, 5, 6, 7])]
theorem drOk98 : drAll dr98 (Tryz.f98.body.getD .skip) = true := by kernel_rfl
def dr99 : List (Nat × (Nat × List (List Nat))) := [(6, (9, []))]
def dd99 : List (Nat × List Nat) := [(0, [4]), (1, [6, 7, 8, 9]), (3, [11]), (5, [15]), (6, [5, 16, 17, 18, 19, 20, 21, 22, 23]), (8, [25])]
theorem drOk99 : drAll dr99 (Tryz.f99.body.getD .skip) = true := by kernel_rfl
def dr100 : List (Nat × (Nat × List (List Nat))) := []
def dd100 : List (Nat × List Nat) := [(0, [2]), (1, [3]), (3, [0, 5, 6, 7])]
theorem drOk100 : drAll dr100 (Tryz.f100.body.getD .skip) = true := by kernel_rfl
def dr101 : List (Nat × (Nat × List (List Nat))) := []
def dd101 : List (Nat × List Nat) := [(0, [4]), (1, [0, 1, 5, 6, 7, 8])]
theorem drOk101 : drAll dr101 (Tryz.f101.body.getD .skip) = true := by kernel_rfl
def dr102 : List (Nat × (Nat × List (List Nat))) := []
def dd102 : List (Nat × List Nat) := [(0, [0, 3]), (1, [1, 2, 4, 5, 6, 7, 8, 9])]
theorem drOk102 : drAll dr102 (Tryz.f102.body.getD .skip) = true := by kernel_rfl
def dr106 : List (Nat × (Nat × List (List Nat))) := []
def dd106 : List (Nat × List Nat) := [(0, [4]), (1, [6]), (3, [10]), (4, [11, 12, 13, 14, 15]), (5, [5, 17]), (6, [18])]
theorem drOk106 : drAll dr106 (Tryz.f106.body.getD .skip) = true := by kernel_rfl
def dr107 : List (Nat × (Nat × List (List Nat))) := []
def dd107 : List (Nat × List Nat) := [(0, [0, 3]), (1, [1, 2, 4, 5, 6, 7])]
theorem drOk107 : drAll dr107 (Tryz.f107.body.getD .skip) = true := by kernel_rfl
def dr119 : List (Nat × (Nat × List (List Nat))) := []
def dd119 : List (Nat × List Nat) := [(0, [2]), (1, [0, 3, 4, 5, 6, 7, 8])]
theorem drOk119 : drAll dr119 (Tryz.f119.body.getD .skip) = true := by kernel_rfl
def dr124 : List (Nat × (Nat × List (List Nat))) := []
def dd124 : List (Nat × List Nat) := [(0, [6]), (1, [0, 1, 2, 7, 8, 9, 10, 11, 12, 13, 14, 15, 16, 17, 18, 19, 20, 21, 22, 23, 24, 25, 26, 27, 28])]
theorem drOk124 : drAll dr124 (Tryz.f124.body.getD .skip) = true := by kernel_rfl
def dr125 : List (Nat × (Nat × List (List Nat))) := []
def dd125 : List (Nat × List Nat) := [(0, [4]), (1, [0, 7, 8]), (2, [9]), (4, [13]), (5, [6, 14, 15, 16, 17, 18, 19, 20, 21, 22, 23, 24]), (6, [25]), (7, [5, 26])]
theorem drOk125 : drAll dr125 (Tryz.f125.body.getD .skip) = true := by kernel_rfl
def dr126 : List (Nat × (Nat × List (List Nat))) := []
def dd126 : List (Nat × List Nat) := [(0, [5]), (1, [0, 1, 2, 3, 6, 7, 8, 9, 10, 11, 12])]
theorem drOk126 : drAll dr126 (Tryz.f126.body.getD .skip) = true := by kernel_rfl
def dr127 : List (Nat × (Nat × List (List Nat))) := []
def dd127 : List (Nat × List Nat) := [(0, [6]), (1, [0, 1, 2, 3, 4, 7, 8, 9, 10, 11, 12, 13, 14, 15, 16, 17, 18, 19, 20, 21])]
theorem drOk127 : drAll dr127 (Tryz.f127.body.getD .skip) = true := by kernel_rfl
def dr133 : List (Nat × (Nat × List (List Nat))) := []
def dd133 : List (Nat × List Nat) := [(0, [0, 1, 4, 5, 6, 7, 8])]
theorem drOk133 : drAll dr133 (Tryz.f133.body.getD .skip) = true := by kernel_rfl
def dr134 : List (Nat × (Nat × List (List Nat))) := []
def dd134 : List (Nat × List Nat) := [(0, [0, 1, 4]), (1, [2, 3, 5, 6, 7, 8, 9])]
theorem drOk134 : drAll dr134 (Tryz.f134.body.getD .skip) = true := by kernel_rfl
def dr136 : List (Nat × (Nat × List (List Nat))) := []
def dd136 : List (Nat × List Nat) := [(0, [4, 5]), (1, [8, 9]), (2, [10]), (3, [6, 12]), (4, [1, 13, 14, 15]), (5, [16]), (7, [0, 7, 18, 19, 20, 21, 22])]
theorem drOk136 : drAll dr136 (Tryz.f136.body.getD .skip) = true := by kernel_rfl
def dr137 : List (Nat × (Nat × List (List Nat))) := []
def dd137 : List (Nat × List Nat) := [(0, [0, 5]), (1, [9, 10]), (2, [11]), (3, [6, 13, 14]), (4, [1, 15, 16, 17]), (5, [18]), (6, [20]), (7, [2, 7, 21, 22, 23, 24, 25]), (8, [26, 27, 28, 29]), (9, [8, 30])]
theorem drOk137 : drAll dr137 (Tryz.f137.body.getD .skip) = true := by kernel_rfl
def dr138 : List (Nat × (Nat × List (List Nat))) := []
def dd138 : List (Nat × List Nat) := [(0, [0, 7]), (1, [12, 13]), (2, [14]), (3, [8, 16, 17]), (4, [18, 19]), (5, [21]), (6, [22, 23]), (7, [25]), (8, [1, 2, 26, 27, 28]), (9, [3, 29]), (11, [34, 35]), (12, [36, 37, 38, 39]), (13, [11, 40, 41, 42, 43, 44, 45]), (14, [46]), (15, [9, 47])]
theorem drOk138 : drAll dr138 (Tryz.f138.body.getD .skip) = true := by kernel_rfl
def dr139 : List (Nat × (Nat × List (List Nat))) := []
def dd139 : List (Nat × List Nat) := [(0, [0, 2]), (1, [6, 7, 8, 9, 10, 11, 12, 13, 14, 15, 16, 17, 18, 19, 20]), (3, [22, 23, 24, 25, 26, 27, 28, 29, 30, 31, 32, 33, 34, 35, 36, 37, 38, 39, 40, 41, 42, 43, 44, 45, 46, 47, 48, 49, 50, 51, 52, 53, 54, 55]), (5, [57, 58, 59, 60, 61, 62, 63, 64, 65, 66, 67, 68, 69, 70, 71, 72, 73]), (7, [1, 3, 74, 75, 76, 77, 78, 79, 80, 81, 82]), (8, [4, 83])]
theorem drOk139 : drAll dr139 (Tryz.f139.body.getD .skip) = true := by kernel_rfl
def dr140 : List (Nat × (Nat × List (List Nat))) := []
def dd140 : List (Nat × List Nat) := [(0, [4]), (1, [0, 1, 5, 6, 7, 8])]
theorem drOk140 : drAll dr140 (Tryz.f140.body.getD .skip) = true := by kernel_rfl
def dr141 : List (Nat × (Nat × List (List Nat))) := []
def dd141 : List (Nat × List Nat) := [(0, [0, 3]), (1, [1, 2, 4, 5, 6, 7, 8])]
theorem drOk141 : drAll dr141 (Tryz.f141.body.getD .skip) = true := by kernel_rfl
def dr142 : List (Nat × (Nat × List (List Nat))) := [(16, (17, []))]
def dd142 : List (Nat × List Nat) := [(0, [4, 5]), (1, [14, 15]), (2, [16]), (3, [6, 18]), (4, [19, 20]), (7, [0]), (9, [26, 27]), (10, [28]), (12, [33, 34, 35]), (13, [13, 36, 37, 38, 39, 40, 41, 42]), (14, [43, 44]), (15, [46]), (16, [10, 11, 12, 48, 49, 50, 51, 52, 53, 54, 55, 56, 57, 58, 59, 60, 61, 62, 63, 64, 65]), (17, [66]), (18, [67]), (19, [7, 68])]
theorem drOk142 : drAll dr142 (Tryz.f142.body.getD .skip) = true := by kernel_rfl
def dr143 : List (Nat × (Nat × List (List Nat))) := [(1, (11, []))]
def dd143 : List (Nat × List Nat) := [(0, [3]), (1, [0, 1, 2, 4, 5, 6, 7, 8, 9, 10, 11, 12, 13])]
theorem drOk143 : drAll dr143 (Tryz.f143.body.getD .skip) = true := by kernel_rfl
def dr144 : List (Nat × (Nat × List (List Nat))) := [(1, (11, []))]
def dd144 : List (Nat × List Nat) := [(0, [3]), (1, [0, 1, 2, 4, 5, 6, 7, 8, 9, 10, 11, 12, 13])]
theorem drOk144 : drAll dr144 (Tryz.f144.body.getD .skip) = true := by kernel_rfl
def dr145 : List (Nat × (Nat × List (List Nat))) := []
def dd145 : List (Nat × List Nat) := [(0, [0, 6, 7]), (1, [10, 11, 12]), (2, [13]), (3, [8, 15]), (4, [16, 17, 18, 19, 20, 21, 22]), (6, [1, 2, 3, 24, 25, 26, 27]), (7, [9, 28, 29, 30, 31, 32, 33])]
theorem drOk145 : drAll dr145 (Tryz.f145.body.getD .skip) = true := by kernel_rfl
def dr146 : List (Nat × (Nat × List (List Nat))) := [(1, (13, []))]
def dd146 : List (Nat × List Nat) := [(0, [2]), (1, [0, 1, 6, 7, 8, 9, 10, 11, 12, 13, 14, 15]), (2, [5, 16, 17]), (3, [3, 4, 18, 19, 20, 21])]
theorem drOk146 : drAll dr146 (Tryz.f146.body.getD .skip) = true := by kernel_rfl
def dr147 : List (Nat × (Nat × List (List Nat))) := []
def dd147 : List (Nat × List Nat) := [(0, [0, 4, 5, 6]), (1, [13, 14, 15]), (2, [16]), (3, [7, 18]), (5, [19]), (7, [24, 25]), (8, [11, 26, 27, 28, 29, 30]), (9, [31]), (10, [12, 33, 34, 35]), (11, [12, 36, 37, 38]), (12, [39]), (13, [8, 9, 40, 41])]
theorem drOk147 : drAll dr147 (Tryz.f147.body.getD .skip) = true := by kernel_rfl
def dr151 : List (Nat × (Nat × List (List Nat))) := []
def dd151 : List (Nat × List Nat) := [(0, [2]), (1, [4, 5, 6, 7, 8, 9]), (3, [11]), (5, [15]), (6, [3, 16, 17, 18, 19, 20, 21, 22, 23, 24]), (8, [26])]
theorem drOk151 : drAll dr151 (Tryz.f151.body.getD .skip) = true := by kernel_rfl
def dr152 : List (Nat × (Nat × List (List Nat))) := []
def dd152 : List (Nat × List Nat) := [(0, [0, 3]), (1, [1, 2, 4, 5, 6, 7, 8])]
theorem drOk152 : drAll dr152 (Tryz.f152.body.getD .skip) = true := by kernel_rfl
def dr153 : List (Nat × (Nat × List (List Nat))) := []
def dd153 : List (Nat × List Nat) := [(0, [4]), (1, [6]), (3, [10]), (4, [11, 12, 13, 14, 15]), (5, [5, 17]), (6, [18])]
theorem drOk153 : drAll dr153 (Tryz.f153.body.getD .skip) = true := by kernel_rfl
def dr170 : List (Nat × (Nat × List (List Nat))) := []
def dd170 : List (Nat × List Nat) := [(1, [10]), (2, [11, 12]), (3, [7, 14, 15, 16, 17, 18]), (4, [19]), (5, [20, 21, 22]), (6, [7, 23, 24, 25, 26, 27]), (7, [28, 29]), (8, [31, 32]), (9, [33, 34]), (10, [7, 36, 37, 38, 39, 40, 41, 42, 43]), (11, [44]), (12, [45, 46, 47, 48]), (13, [49, 50, 51]), (14, [52, 53]), (15, [7, 9, 55, 56, 57, 58, 59, 60]), (16, [61, 62])]
theorem drOk170 : drAll dr170 (Tryz.f170.body.getD .skip) = true := by kernel_rfl
def dr173 : List (Nat × (Nat × List (List Nat))) := []
def dd173 : List (Nat × List Nat) := [(0, [4]), (1, [6]), (3, [10]), (4, [11, 12, 13, 14, 15]), (5, [5, 17]), (6, [18])]
theorem drOk173 : drAll dr173 (Tryz.f173.body.getD .skip) = true := by kernel_rfl
def dr174 : List (Nat × (Nat × List (List Nat))) := []
def dd174 : List (Nat × List Nat) := [(0, [0, 2]), (1, [7, 8]), (2, [1, 4, 10, 11, 12, 13, 14, 15, 16, 17]), (3, [3, 18]), (4, [1, 6, 19, 20, 21, 22, 23, 24, 25, 26]), (5, [5, 27])]
theorem drOk174 : drAll dr174 (Tryz.f174.body.getD .skip) = true := by kernel_rfl
def dr176 : List (Nat × (Nat × List (List Nat))) := []
def dd176 : List (Nat × List Nat) := [(0, [0, 4]), (1, [2, 6, 7]), (2, [8]), (3, [5, 10]), (4, [1, 11, 12])]
theorem drOk176 : drAll dr176 (Tryz.f176.body.getD .skip) = true := by kernel_rfl
def dr177 : List (Nat × (Nat × List (List Nat))) := [(5, (12, []))]
def dd177 : List (Nat × List Nat) := [(0, [0]), (2, [10]), (4, [15, 16]), (5, [9, 17, 18, 19, 20, 21, 22, 23, 24, 25, 26, 27, 28]), (6, [29]), (7, [7, 30])]
theorem drOk177 : drAll dr177 (Tryz.f177.body.getD .skip) = true := by kernel_rfl
def dr194 : List (Nat × (Nat × List (List Nat))) := [(4, (17, [])), (6, (18, [[], [0], [0, 1], [0, 1, 2], [0, 1, 2], [0, 1, 2, 3, 4], [0, 1, 2, 3, 4, 5], [0, 1, 2, 3, 4, 5], [0, 1, 2, 3, 4], [0, 1, 2, 3, 4, 6], [0, 1, 2, 3, 4, 5, 6, 7, 8, 9], [0, 1, 2, 3, 4, 5, 6, 7, 8, 9, 10], [0, 1, 2, 3, 4, 5, 6, 7, 8, 9], [0, 1, 2, 3, 4, 5, 6, 7, 8, 9], [2, 3, 4, 10, 11], [2, 3, 4, 10, 11], [], []]))]
def dd194 : List (Nat × List Nat) := [(0, [10, 11]), (1, [12, 13]), (2, [15, 16]), (3, [17]), (4, [18, 19, 20, 21, 22, 23, 24, 25, 26, 27, 28, 29, 30, 31, 32, 33]), (5, [35, 36]), (6, [37, 38, 39, 40, 41, 42, 43, 44, 45, 46, 47, 48, 49, 50, 51, 52])]
theorem drOk194 : drAll dr194 (Tryz.f194.body.getD .skip) = true := by kernel_rfl
def mkX (Φ : FuncId → List V → Option (V × List Ev.Blk)) (nv : Nat → Option (TypeId × Nat)) (fz : Nat → List Nat) (dr : List (Nat × (Nat × List (List Nat)))) (dd : List (Nat × List Nat)) (lam : Lam) (ms : Mts) : Ctx := ⟨tyF, Φ, nv, fz, fun i => (Ev.look i dd).getD [], dr, eqsL, fun g => Ev.look g lam, fun g => Ev.look g ms.mt, ms.ln, fun g => Ev.look g ms.st⟩
section
variable (Φ : FuncId → List V → Option (V × List Ev.Blk)) (nv : Nat → Option (TypeId × Nat)) (fz : Nat → List Nat) (dr : List (Nat × (Nat × List (List Nat)))) (dd : List (Nat × List Nat)) (lam : Lam) (ms : Mts)
theorem mkX_T : (mkX Φ nv fz dr dd lam ms).T = tyF := rfl
theorem mkX_Φ : (mkX Φ nv fz dr dd lam ms).Φ = Φ := rfl
theorem mkX_n : (mkX Φ nv fz dr dd lam ms).nilv = nv := rfl
theorem mkX_f : (mkX Φ nv fz dr dd lam ms).frz = fz := rfl
theorem mkX_d (i : Nat) : (mkX Φ nv fz dr dd lam ms).dead i = (Ev.look i dd).getD [] := rfl
theorem mkX_r : (mkX Φ nv fz dr dd lam ms).dr = dr := rfl
theorem mkX_L (g : FuncId) : (mkX Φ nv fz dr dd lam ms).Λ g = Ev.look g lam := rfl
theorem mkX_M (g : FuncId) : (mkX Φ nv fz dr dd lam ms).M g = Ev.look g ms.mt := rfl
theorem mkX_S (g : FuncId) : (mkX Φ nv fz dr dd lam ms).S g = Ev.look g ms.st := rfl
theorem mkX_ln (i : Nat) : (mkX Φ nv fz dr dd lam ms).lnd i = ms.ln i := rfl
theorem mkX_e : (mkX Φ nv fz dr dd lam ms).eqs = eqsL := rfl
theorem tyOk : TOkX Tryz.prog (mkX Φ nv fz dr dd lam ms) := ⟨TOk_of tabAll, fun t ht => List.all_eq_true.1 eqsOk t ht⟩
end
def nv0 : Nat → Option (TypeId × Nat) := fun _ => none
def fz0 : Nat → List Nat := fun _ => []
theorem mapO_nil {α β : Type} (f : α → Option β) : ([] : List α).mapM f = some [] := rfl
theorem mapO_cons {α β : Type} (f : α → Option β) (a : α) (l : List α) : (a :: l).mapM f = (f a).bind fun y => (l.mapM f).bind fun ys => some (y :: ys) := by rw [List.mapM_cons]; rfl
theorem beqT (b : Bool) : (b == true) = b := by cases b <;> rfl
theorem beqF (b : Bool) : (b == false) = !b := by cases b <;> rfl
def nvL (l : List (Nat × (TypeId × Nat))) : Nat → Option (TypeId × Nat) := fun i => Ev.look i l
theorem nvL_at (l : List (Nat × (TypeId × Nat))) (i : Nat) : nvL l i = Ev.look i l := rfl
def fzL (l : List (Nat × List Nat)) : Nat → List Nat := fun i => (Ev.look i l).getD []
theorem fzL_at (l : List (Nat × List Nat)) (i : Nat) : fzL l i = (Ev.look i l).getD [] := rfl
def lnL (l : List (Nat × List Nat)) : Nat → List Nat := fun i => (Ev.look i l).getD []
theorem lnL_at (l : List (Nat × List Nat)) (i : Nat) : lnL l i = (Ev.look i l).getD [] := rfl
theorem maxLen_eq : maxLen = 9223372036854775807 := rfl
theorem leT {a b : Nat} (h : a ≤ b) : (a ≤ b) = True := by simp [h]
theorem plainI (k : IntKind) (l : List Int) : ((l.map (V.int k)).all fun v => V.plain v && V.data v) = true := by
 rw [List.all_eq_true]
 intro v hv
 obtain ⟨n, _, rfl⟩ := List.mem_map.1 hv
 rfl
theorem bin_eql_vz (b : Nat) : binV .eql (.vec b) .zero = none := rfl
theorem bin_eql_zv (b : Nat) : binV .eql .zero (.vec b) = none := rfl
theorem bin_eql_rz (z : Nat) (es : List V) : binV .eql (.row z es) .zero = none := rfl
theorem bin_eql_zr (z : Nat) (es : List V) : binV .eql .zero (.row z es) = none := rfl
theorem bin_eql_zz : binV .eql .zero .zero = none := rfl
theorem bin_neq_vz (b : Nat) : binV .neq (.vec b) .zero = none := rfl
theorem bin_neq_zv (b : Nat) : binV .neq .zero (.vec b) = none := rfl
theorem bin_neq_rz (z : Nat) (es : List V) : binV .neq (.row z es) .zero = none := rfl
theorem bin_neq_zr (z : Nat) (es : List V) : binV .neq .zero (.row z es) = none := rfl
theorem bin_neq_zz : binV .neq .zero .zero = none := rfl
theorem nv0_at (i : Nat) : nv0 i = none := rfl
theorem fz0_at (i : Nat) : fz0 i = [] := rfl
theorem evFn {J : World → Prop} {l : Phi} (hl : PhiOk Tryz.prog J l) (hJ : Stable J) {nv : Nat → Option (TypeId × Nat)} {fz : Nat → List Nat} {dr : List (Nat × (Nat × List (List Nat)))} {dd : List (Nat × List Nat)} {lam : Lam} (hlam : LamOk Tryz.prog J lam) {ms : Mts} (hms : MtsOk Tryz.prog J ms) {f : FuncId} {fn : Func} {args : List V} {r : V} {bs : List Ev.Blk}
  (hf : Tryz.prog.funcs[f]? = some fn) (hname : (fn.name == "runtime.NumGoroutine") = false) (hb : fn.body.isSome = true) (hn : args.length ≤ fn.ntmps) (hsm : fn.ntmps ≤ 100000) (hdr : drAll dr (fn.body.getD .skip) = true)
  (h : ev (mkX (phi l) nv fz dr dd lam ms) fn.ntmps (fn.body.getD .skip) (St.init args) (post (mkX (phi l) nv fz dr dd lam ms) fn.results.toList r bs)) : SoundAt Tryz.prog J f args r bs :=
 sound_fn (X := mkX (phi l) nv fz dr dd lam ms) mixOk (tyOk _ _ _ _ _ _ _) (lamAll_of hlam hms rfl rfl rfl) (phi_sound hl) hJ hf hname (by cases hc : fn.body <;> simp_all) hn hsm hdr h
theorem evLend {J : World → Prop} {l : Phi} (hl : PhiOk Tryz.prog J l) (hJ : Stable J) {nv : Nat → Option (TypeId × Nat)} {fz : Nat → List Nat} {dr : List (Nat × (Nat × List (List Nat)))} {dd : List (Nat × List Nat)} {lam : Lam} (hlam : LamOk Tryz.prog J lam) {ms : Mts} (hms : MtsOk Tryz.prog J ms) {f : FuncId} {fn : Func} {T : TypeId} {sz : Nat} {es xs es' : List V}
  (hf : Tryz.prog.funcs[f]? = some fn) (hname : (fn.name == "runtime.NumGoroutine") = false) (hb : fn.body.isSome = true) (hn : xs.length + 1 ≤ fn.ntmps) (hsm : fn.ntmps ≤ 100000) (hdr : drAll dr (fn.body.getD .skip) = true) (hres : fn.results = #[]) (hpl : ∀ e ∈ es', V.plain e = true)
  (h : ev (mkX (phi l) nv fz dr dd lam ms) fn.ntmps (fn.body.getD .skip) (St.lent T sz es xs) (postL T sz es')) : LendAt Tryz.prog J f T sz es xs es' :=
 sound_lend (X := mkX (phi l) nv fz dr dd lam ms) mixOk (tyOk _ _ _ _ _ _ _) (lamAll_of hlam hms rfl rfl rfl) (phi_sound hl) hJ hf hname (by cases hc : fn.body <;> simp_all) hn hsm hdr hres hpl h
theorem evMut {J : World → Prop} {l : Phi} (hl : PhiOk Tryz.prog J l) (hJ : Stable J) {nv : Nat → Option (TypeId × Nat)} {fz : Nat → List Nat} {dr : List (Nat × (Nat × List (List Nat)))} {dd : List (Nat × List Nat)} {lam : Lam} (hlam : LamOk Tryz.prog J lam) {ms : Mts} (hms : MtsOk Tryz.prog J ms) {f : FuncId} {fn : Func} {ks ks' : List Ev.Blk} {args : List V} {r : V} {nn : List Nat}
  (hf : Tryz.prog.funcs[f]? = some fn) (hname : (fn.name == "runtime.NumGoroutine") = false) (hb : fn.body.isSome = true) (hn : args.length ≤ fn.ntmps) (hsm : fn.ntmps ≤ 100000) (hdr : drAll dr (fn.body.getD .skip) = true) (hnn : noDup (lentN ks.length nn) = true)
  (h : ev (mkX (phi l) nv fz dr dd lam ms) fn.ntmps (fn.body.getD .skip) (St.mut ks args) (postM (mkX (phi l) nv fz dr dd lam ms) (lentN ks.length nn) fn.results.toList r ks')) : MutAt Tryz.prog J f ks args r ks' :=
 sound_mut (X := mkX (phi l) nv fz dr dd lam ms) mixOk (tyOk _ _ _ _ _ _ _) (lamAll_of hlam hms rfl rfl rfl) (phi_sound hl) hJ hf hname (by cases hc : fn.body <;> simp_all) hn hsm hdr hnn h
theorem callOk {f : FuncId} {fn : Func} (hf : Tryz.prog.funcs[f]? = some fn) (hname : (fn.name == "runtime.NumGoroutine") = false) (hb : fn.body.isNone = false) : Callable Tryz.prog f := ⟨fn, hf, hname, hb⟩
attribute [go_sem] evR_none evR_some evT_cons evT_nil oW_some oW_none two_append tailV toSub orE_some orE_none ifcQ_nil ofC_nilI bin_eql_raw bin_neq_raw bin_eql_ifc bin_neq_ifc evP_P evH_zero evH_cons hpA_eq hpB_eq augH_eq appP nrEff mutV getB mvB bkB V.mv V.mvL V.bk V.bkL Blk.mv Blk.bk posN nmN backN noDup app_writes setHL_nil setHL_cons postM_ret postM_normal resM hasN_nil hasN_cons lentN newN newN1 freshN Nat.sub_self Nat.reduceSub St.mut names_nil names_cons sortV cellOf mkX_M mkX_S mkX_ln lnL_at ms0_mt ms0_st V.lone V.loneL List.zip_cons_cons List.zip_nil_left Option.isNone_none bornV subE partR unB bytesW boundsV ownP sliceW copyV clearV lenM takeV tk1 mapsV mkMapV hintOk lookV updV mapKE keyOk V.key app_lend callW_fn lendV postL_ret postL_normal postT_ret postT_normal takeR St.lent mkX_L bin_eql_vz bin_eql_zv bin_eql_rz bin_eql_zr bin_eql_zz bin_neq_vz bin_neq_zv bin_neq_rz bin_neq_zr bin_neq_zz eqH nilEq nonE plainI gOf_bool gOf_skip g_some g_none Int.ofNat_zero Int.cast_ofNat_Int Bool.false_and Bool.and_false sliceV Int.reduceEq Int.reduceLT Int.reduceLE Int.reduceNeg noBox elemsZ V.scrub V.scrubB V.scrubL Blk.scrub appendV isSlice maxLen_eq leT List.contains_nil List.contains_cons nvL_at fzL_at fillV V.plain V.plainL Blk.plain List.size_toArray mapO_nil mapO_cons Option.isNone_some beqT beqF oI_not mkX_e phi_nil phi_cons bin_eql_bool bin_neq_bool bin_eql_agg bin_neq_agg eqV eqFs eqK_int eqK_bool' eqK_str mkX_T mkX_Φ mkX_n mkX_f mkX_d mkX_r nv0_at fz0_at evQ_dr evP_W evW_nil evW_cons evW_guard okW_eq tame_none tame_new tame_write wb_none wb_new wb_write okU_some offW_none offW_some touchOf V.noRef V.noRefL Option.isSome_some Option.isSome_none mild_none mild_new Option.getD_some Option.getD_none evQ_seq evQ_region evQ_block evQ_cond evQ_ret evQ_skip evQ_exit evO_cons evO_nil evO_guard freezeL_nil oS_some oS_none oS_ite oS_ite' oB_bool oI_true oI_false oE_normal oE_exit oE_ret bQ_normal bQ_ret bQ_exit lQ_normal lQ_ret lQ_exit List.zipIdx_cons List.zipIdx_nil List.map_cons List.map_nil evalOp opd_const opd_tmp opd_func ofC_int ofC_bool ofC_str ofC_nil app_none app_new app_write app_change putE_some putE_none setA_cons setA_nil setH_cons setH_nil mapA_cons mapA_nil look_cons look_nil e_mk h_mk drop_nil drop_mk keep_mk Nat.reduceAdd Nat.reduceLT Nat.reduceEqDiff Nat.reduceMul Nat.reduceLeDiff reduceIte dstOk_some dstOk_none guardT_eq true_and and_true Bool.not_false Bool.not_true selB_true selB_false Nat.reduceBEq mem_nil mem_cons kpL_nil kpL_cons drL_nil drL_cons closed_mk V.refsIn V.refsInL Blk.refsIn List.all_cons List.all_nil lenV bin_add bin_sub bin_mul bin_quo bin_rem bin_eql bin_neq bin_lss bin_leq bin_gtr bin_geq un_neg un_not post_ret post_normal St.init reduceCtorEq Bool.false_eq_true List.length_map Bool.or_false Bool.or_true Bool.false_or Bool.true_or beq_self_eq_true Option.map_some Option.map_none Option.bind_some List.getElem?_cons_zero List.getElem?_cons_succ scalar stor isAggV V.cells List.cons_append List.nil_append if_true if_false wrap_of callV V.dataL V.data Bool.and_true Bool.true_and fresh names V.ren V.renL retV resV packL packV packC getBlks wrapR subV putV decide_true decide_false TK.agg List.length_cons List.length_nil List.take_succ_cons List.take_zero List.drop_succ_cons List.drop_zero List.take_nil List.drop_nil Nat.zero_add Nat.add_zero List.append_nil List.getElem?_nil elemsV ro ro0 ro1 roC ty1 ty2 ty3 ty4 ty5 ty6 ty7 ty8 ty9 ty10 ty11 ty12 ty13 ty14 ty15 ty16 ty17 ty18 ty19 ty20 ty21 ty22 ty23 ty24 ty25 ty26 ty27 ty28 ty29 ty30 ty31 ty32 ty33 ty34 ty35 ty37 ty38 ty39 ty40 ty41 ty42 ty43 ty45 ty46 ty47 ty48 ty49 ty51 ty52 ty53 ty54 ty55 ty56 ty58 ty59 ty60 ty61 ty63 ty64 ty65 ty66 ty67 ty68 ty70 ty72 ty73 ty76 ty78 ty79 ty84 ty85 ty87 ty88 ty90 ty91 ty92 ty98 ty99 ty100 ty101 ty102 ty103 ty104 ty106 ty107 ty108 ty109 ty110 ty111 ty112 ty114 ty115 ty116 ty118 ty119 ty121 ty122 ty123 ty126 ty129 ty133 ty138 ty142 ty143 ty145 ty146 ty147 ty148 ty151 ty159 ty164 ty166 ty168 ty169 ty171 ty175 ty176 ty178 ty187 ty189 ty192 ty193 ty199 ty201 ty202 ty206 ty207 ty208 ty212 ty215 ty216 ty217 ty219 ty220 ty229 ty231 ty234 ty236 ty242 ty243 ty244 ty245 ty246 ty247 eqs61 eqs85 eqs91 eqs102 eqs112 eqs123 eqs133
end Go.Proofs.YtcmpjagpggjfiaaGreatDoor
