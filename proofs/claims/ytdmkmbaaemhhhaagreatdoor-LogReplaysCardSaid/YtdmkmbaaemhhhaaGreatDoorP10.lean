/-
  The seat's types as the machine reads them, and the regions that draw their order (written by a program).
-/
import Derived.Test.YtdmkmbaaemhhhaaGreatDoorEw
import Derived.Test.YtdmkmbaaemhhhaaGreatDoorProg
import Derived.KernelRfl
namespace Go.Proofs.YtdmkmbaaemhhhaaGreatDoor
open Go Go.Ev
def tab : List (TypeId × TI) := [
 (1, ⟨.other, 1, 8, .undef⟩),
 (2, ⟨(.int .i64), 1, 8, (.int .i64 0)⟩),
 (3, ⟨(.int .i64), 1, 8, (.int .i64 0)⟩),
 (4, ⟨.bool, 1, 1, (.bool false)⟩),
 (5, ⟨(.int .u8), 1, 1, (.int .u8 0)⟩),
 (6, ⟨(.int .u8), 1, 1, (.int .u8 0)⟩),
 (7, ⟨(.struct [(0, 1, 2), (1, 1, 3), (2, 1, 4), (3, 1, 6)]), 4, 24, (.agg [(.int .i64 0), (.int .i64 0), (.bool false), (.int .u8 0)])⟩),
 (8, ⟨(.struct [(0, 1, 2), (1, 1, 3), (2, 1, 4), (3, 1, 6)]), 4, 24, (.agg [(.int .i64 0), (.int .i64 0), (.bool false), (.int .u8 0)])⟩),
 (9, ⟨.str, 1, 16, (.str ByteArray.empty)⟩),
 (10, ⟨.str, 1, 16, (.str ByteArray.empty)⟩),
 (11, ⟨.str, 1, 16, (.str ByteArray.empty)⟩),
 (12, ⟨(.int .u64), 1, 8, (.int .u64 0)⟩),
 (13, ⟨(.struct [(0, 1, 9), (1, 1, 12)]), 2, 24, (.agg [(.str ByteArray.empty), (.int .u64 0)])⟩),
 (14, ⟨(.struct [(0, 1, 9), (1, 1, 12)]), 2, 24, (.agg [(.str ByteArray.empty), (.int .u64 0)])⟩),
 (16, ⟨.other, 1, 8, .undef⟩),
 (17, ⟨.other, 1, 8, .undef⟩),
 (18, ⟨(.struct [(0, 1, 17)]), 1, 8, (.agg [.undef])⟩),
 (19, ⟨(.struct [(0, 1, 17)]), 1, 8, (.agg [.undef])⟩),
 (20, ⟨.iface, 1, 16, .undef⟩),
 (21, ⟨(.int .i32), 1, 4, (.int .i32 0)⟩),
 (22, ⟨(.slice 78), 1, 24, .zero⟩),
 (23, ⟨(.slice 28), 1, 24, .zero⟩),
 (24, ⟨(.struct [(0, 1, 22), (1, 1, 23), (2, 1, 3)]), 3, 56, (.agg [.zero, .zero, (.int .i64 0)])⟩),
 (25, ⟨(.struct [(0, 1, 22), (1, 1, 23), (2, 1, 3)]), 3, 56, (.agg [.zero, .zero, (.int .i64 0)])⟩),
 (26, ⟨(.slice 61), 1, 24, .zero⟩),
 (28, ⟨(.struct [(0, 1, 9), (1, 1, 3), (2, 1, 26)]), 3, 48, (.agg [(.str ByteArray.empty), (.int .i64 0), .zero])⟩),
 (29, ⟨(.int .i64), 1, 8, (.int .i64 0)⟩),
 (36, ⟨.other, 1, 8, .undef⟩),
 (38, ⟨.other, 1, 8, .undef⟩),
 (39, ⟨.other, 1, 8, .undef⟩),
 (40, ⟨.other, 1, 8, .undef⟩),
 (41, ⟨.other, 1, 8, .undef⟩),
 (44, ⟨.other, 1, 8, .undef⟩),
 (45, ⟨.other, 1, 8, .undef⟩),
 (46, ⟨.other, 1, 8, .undef⟩),
 (48, ⟨.other, 1, 8, .undef⟩),
 (49, ⟨.other, 1, 8, .undef⟩),
 (50, ⟨(.slice 140), 1, 24, .zero⟩),
 (51, ⟨.other, 1, 8, .undef⟩),
 (52, ⟨.other, 1, 8, .undef⟩),
 (54, ⟨.other, 1, 8, .undef⟩),
 (55, ⟨.other, 1, 8, .undef⟩),
 (56, ⟨.other, 1, 8, .undef⟩),
 (57, ⟨.other, 1, 8, .undef⟩),
 (58, ⟨.other, 1, 8, .undef⟩),
 (59, ⟨.other, 1, 8, .undef⟩),
 (60, ⟨(.struct [(0, 1, 9), (1, 1, 3)]), 2, 24, (.agg [(.str ByteArray.empty), (.int .i64 0)])⟩),
 (61, ⟨(.struct [(0, 1, 9), (1, 1, 3)]), 2, 24, (.agg [(.str ByteArray.empty), (.int .i64 0)])⟩),
 (64, ⟨.other, 1, 8, .undef⟩),
 (65, ⟨.other, 1, 8, .undef⟩),
 (66, ⟨.other, 1, 8, .undef⟩),
 (67, ⟨.other, 1, 8, .undef⟩),
 (68, ⟨(.map 9 4), 1, 8, .undef⟩),
 (69, ⟨.other, 1, 8, .undef⟩),
 (70, ⟨.other, 1, 8, .undef⟩),
 (73, ⟨.other, 1, 8, .undef⟩),
 (74, ⟨.other, 1, 8, .undef⟩),
 (78, ⟨(.struct [(0, 1, 9), (1, 1, 3)]), 2, 24, (.agg [(.str ByteArray.empty), (.int .i64 0)])⟩),
 (79, ⟨.other, 1, 8, .undef⟩),
 (80, ⟨.other, 1, 8, .undef⟩),
 (82, ⟨(.map 9 3), 1, 8, .undef⟩),
 (84, ⟨.other, 1, 8, .undef⟩),
 (85, ⟨.other, 1, 8, .undef⟩),
 (87, ⟨.other, 1, 8, .undef⟩),
 (90, ⟨.iface, 1, 16, .undef⟩),
 (92, ⟨.other, 1, 8, .undef⟩),
 (97, ⟨.other, 1, 8, .undef⟩),
 (98, ⟨.other, 1, 8, .undef⟩),
 (99, ⟨(.slice 9), 1, 24, .zero⟩),
 (100, ⟨.other, 1, 8, .undef⟩),
 (102, ⟨.other, 1, 8, .undef⟩),
 (103, ⟨.other, 1, 8, .undef⟩),
 (104, ⟨.other, 1, 8, .undef⟩),
 (105, ⟨.other, 1, 8, .undef⟩),
 (106, ⟨.other, 1, 8, .undef⟩),
 (107, ⟨.other, 1, 8, .undef⟩),
 (108, ⟨.other, 1, 8, .undef⟩),
 (109, ⟨.other, 1, 8, .undef⟩),
 (110, ⟨.other, 1, 8, .undef⟩),
 (111, ⟨.other, 1, 8, .undef⟩),
 (112, ⟨(.int .u64), 1, 8, (.int .u64 0)⟩),
 (113, ⟨.other, 1, 8, .undef⟩),
 (114, ⟨.other, 1, 8, .undef⟩),
 (115, ⟨.other, 1, 8, .undef⟩),
 (116, ⟨.other, 1, 8, .undef⟩),
 (118, ⟨(.int .u64), 1, 8, (.int .u64 0)⟩),
 (119, ⟨(.struct [(0, 1, 17), (1, 1, 117), (2, 1, 118)]), 3, 24, (.agg [.undef, .undef, (.int .u64 0)])⟩),
 (120, ⟨(.struct [(0, 1, 17), (1, 1, 117), (2, 1, 118)]), 3, 24, (.agg [.undef, .undef, (.int .u64 0)])⟩),
 (121, ⟨.other, 1, 8, .undef⟩),
 (122, ⟨.other, 1, 8, .undef⟩),
 (125, ⟨.other, 1, 8, .undef⟩),
 (126, ⟨.other, 1, 8, .undef⟩),
 (128, ⟨(.struct [(0, 1, 74), (1, 1, 122)]), 2, 16, (.agg [.undef, .undef])⟩),
 (129, ⟨.other, 1, 8, .undef⟩),
 (130, ⟨(.slice 5), 1, 24, .zero⟩),
 (132, ⟨(.struct [(0, 1, 129), (1, 1, 130)]), 2, 32, (.agg [.undef, .zero])⟩),
 (133, ⟨.other, 1, 8, .undef⟩),
 (136, ⟨.other, 1, 8, .undef⟩),
 (140, ⟨(.struct [(0, 1, 9), (1, 1, 3), (2, 1, 3), (3, 1, 3), (4, 1, 3), (5, 1, 9), (6, 1, 9)]), 7, 80, (.agg [(.str ByteArray.empty), (.int .i64 0), (.int .i64 0), (.int .i64 0), (.int .i64 0), (.str ByteArray.empty), (.str ByteArray.empty)])⟩),
 (141, ⟨(.slice 3), 1, 24, .zero⟩),
 (145, ⟨.other, 1, 8, .undef⟩),
 (148, ⟨.other, 1, 8, .undef⟩),
 (149, ⟨(.struct [(0, 1, 17)]), 1, 8, (.agg [.undef])⟩),
 (152, ⟨.other, 1, 8, .undef⟩),
 (153, ⟨(.int .u32), 1, 4, (.int .u32 0)⟩),
 (154, ⟨.other, 1, 8, .undef⟩),
 (155, ⟨(.int .u64), 1, 8, (.int .u64 0)⟩),
 (157, ⟨(.int .i64), 1, 8, (.int .i64 0)⟩),
 (159, ⟨.other, 1, 8, .undef⟩),
 (163, ⟨.other, 1, 8, .undef⟩),
 (169, ⟨.other, 1, 8, .undef⟩),
 (171, ⟨.other, 1, 8, .undef⟩),
 (175, ⟨(.int .i64), 1, 8, (.int .i64 0)⟩),
 (178, ⟨.other, 1, 8, .undef⟩),
 (180, ⟨.other, 1, 8, .undef⟩),
 (192, ⟨.other, 1, 8, .undef⟩),
 (193, ⟨.other, 1, 8, .undef⟩),
 (195, ⟨(.int .u64), 1, 8, (.int .u64 0)⟩),
 (199, ⟨.other, 1, 8, .undef⟩),
 (202, ⟨(.array 24 5), 24, 24, (.agg [(.int .u8 0), (.int .u8 0), (.int .u8 0), (.int .u8 0), (.int .u8 0), (.int .u8 0), (.int .u8 0), (.int .u8 0), (.int .u8 0), (.int .u8 0), (.int .u8 0), (.int .u8 0), (.int .u8 0), (.int .u8 0), (.int .u8 0), (.int .u8 0), (.int .u8 0), (.int .u8 0), (.int .u8 0), (.int .u8 0), (.int .u8 0), (.int .u8 0), (.int .u8 0), (.int .u8 0)])⟩),
 (212, ⟨.other, 1, 8, .undef⟩),
 (215, ⟨(.struct [(0, 1, 9), (1, 1, 9), (2, 1, 90)]), 3, 48, (.agg [(.str ByteArray.empty), (.str ByteArray.empty), .undef])⟩),
 (216, ⟨.other, 1, 8, .undef⟩),
 (220, ⟨.other, 1, 8, .undef⟩),
 (224, ⟨(.array 20 155), 20, 160, (.agg [(.int .u64 0), (.int .u64 0), (.int .u64 0), (.int .u64 0), (.int .u64 0), (.int .u64 0), (.int .u64 0), (.int .u64 0), (.int .u64 0), (.int .u64 0), (.int .u64 0), (.int .u64 0), (.int .u64 0), (.int .u64 0), (.int .u64 0), (.int .u64 0), (.int .u64 0), (.int .u64 0), (.int .u64 0), (.int .u64 0)])⟩),
 (228, ⟨.other, 1, 8, .undef⟩),
 (229, ⟨(.struct [(0, 1, 9)]), 1, 16, (.agg [(.str ByteArray.empty)])⟩),
 (230, ⟨(.struct [(0, 1, 9)]), 1, 16, (.agg [(.str ByteArray.empty)])⟩),
 (232, ⟨(.struct [(0, 1, 5), (1, 1, 5)]), 2, 2, (.agg [(.int .u8 0), (.int .u8 0)])⟩),
 (233, ⟨(.struct [(0, 1, 5), (1, 1, 5)]), 2, 2, (.agg [(.int .u8 0), (.int .u8 0)])⟩),
 (234, ⟨(.array 16 233), 32, 32, (.agg [(.int .u8 0), (.int .u8 0), (.int .u8 0), (.int .u8 0), (.int .u8 0), (.int .u8 0), (.int .u8 0), (.int .u8 0), (.int .u8 0), (.int .u8 0), (.int .u8 0), (.int .u8 0), (.int .u8 0), (.int .u8 0), (.int .u8 0), (.int .u8 0), (.int .u8 0), (.int .u8 0), (.int .u8 0), (.int .u8 0), (.int .u8 0), (.int .u8 0), (.int .u8 0), (.int .u8 0), (.int .u8 0), (.int .u8 0), (.int .u8 0), (.int .u8 0), (.int .u8 0), (.int .u8 0), (.int .u8 0), (.int .u8 0)])⟩),
 (235, ⟨(.array 32 5), 32, 32, (.agg [(.int .u8 0), (.int .u8 0), (.int .u8 0), (.int .u8 0), (.int .u8 0), (.int .u8 0), (.int .u8 0), (.int .u8 0), (.int .u8 0), (.int .u8 0), (.int .u8 0), (.int .u8 0), (.int .u8 0), (.int .u8 0), (.int .u8 0), (.int .u8 0), (.int .u8 0), (.int .u8 0), (.int .u8 0), (.int .u8 0), (.int .u8 0), (.int .u8 0), (.int .u8 0), (.int .u8 0), (.int .u8 0), (.int .u8 0), (.int .u8 0), (.int .u8 0), (.int .u8 0), (.int .u8 0), (.int .u8 0), (.int .u8 0)])⟩),
 (242, ⟨(.int .u8), 1, 1, (.int .u8 0)⟩),
 (243, ⟨(.int .u8), 1, 1, (.int .u8 0)⟩),
 (244, ⟨.other, 1, 8, .undef⟩),
 (245, ⟨(.int .i32), 1, 4, (.int .i32 0)⟩),
 (246, ⟨(.int .i32), 1, 4, (.int .i32 0)⟩),
 (247, ⟨(.struct [(0, 1, 12), (1, 1, 12), (2, 1, 153), (3, 1, 242), (4, 1, 5), (5, 1, 5), (6, 1, 243), (7, 1, 244), (8, 1, 163), (9, 1, 245), (10, 1, 246)]), 11, 48, (.agg [(.int .u64 0), (.int .u64 0), (.int .u32 0), (.int .u8 0), (.int .u8 0), (.int .u8 0), (.int .u8 0), .undef, .undef, (.int .i32 0), (.int .i32 0)])⟩),
 (248, ⟨(.struct [(0, 1, 12), (1, 1, 12), (2, 1, 153), (3, 1, 242), (4, 1, 5), (5, 1, 5), (6, 1, 243), (7, 1, 244), (8, 1, 163), (9, 1, 245), (10, 1, 246)]), 11, 48, (.agg [(.int .u64 0), (.int .u64 0), (.int .u32 0), (.int .u8 0), (.int .u8 0), (.int .u8 0), (.int .u8 0), .undef, .undef, (.int .i32 0), (.int .i32 0)])⟩)]
def tyF : TypeId → Option TI := fun t => tab.lookup t
theorem tabAll : (tab.all fun (t, i) => tiOk Tryz.prog t i) = true := by kernel_rfl
def eqsL : List TypeId := [61, 78, 140, 188]
theorem eqsOk : (eqsL.all fun t => eqOkB Tryz.prog t) = true := by kernel_rfl
theorem mixOk : Tryz.prog.follows .mixedOrders = true := by kernel_rfl
theorem ty1 : tyF 1 = some ⟨.other, 1, 8, .undef⟩ := rfl
theorem ty2 : tyF 2 = some ⟨(.int .i64), 1, 8, (.int .i64 0)⟩ := rfl
theorem ty3 : tyF 3 = some ⟨(.int .i64), 1, 8, (.int .i64 0)⟩ := rfl
theorem ty4 : tyF 4 = some ⟨.bool, 1, 1, (.bool false)⟩ := rfl
theorem ty5 : tyF 5 = some ⟨(.int .u8), 1, 1, (.int .u8 0)⟩ := rfl
theorem ty6 : tyF 6 = some ⟨(.int .u8), 1, 1, (.int .u8 0)⟩ := rfl
theorem ty7 : tyF 7 = some ⟨(.struct [(0, 1, 2), (1, 1, 3), (2, 1, 4), (3, 1, 6)]), 4, 24, (.agg [(.int .i64 0), (.int .i64 0), (.bool false), (.int .u8 0)])⟩ := rfl
theorem ty8 : tyF 8 = some ⟨(.struct [(0, 1, 2), (1, 1, 3), (2, 1, 4), (3, 1, 6)]), 4, 24, (.agg [(.int .i64 0), (.int .i64 0), (.bool false), (.int .u8 0)])⟩ := rfl
theorem ty9 : tyF 9 = some ⟨.str, 1, 16, (.str ByteArray.empty)⟩ := rfl
theorem ty10 : tyF 10 = some ⟨.str, 1, 16, (.str ByteArray.empty)⟩ := rfl
theorem ty11 : tyF 11 = some ⟨.str, 1, 16, (.str ByteArray.empty)⟩ := rfl
theorem ty12 : tyF 12 = some ⟨(.int .u64), 1, 8, (.int .u64 0)⟩ := rfl
theorem ty13 : tyF 13 = some ⟨(.struct [(0, 1, 9), (1, 1, 12)]), 2, 24, (.agg [(.str ByteArray.empty), (.int .u64 0)])⟩ := rfl
theorem ty14 : tyF 14 = some ⟨(.struct [(0, 1, 9), (1, 1, 12)]), 2, 24, (.agg [(.str ByteArray.empty), (.int .u64 0)])⟩ := rfl
theorem ty16 : tyF 16 = some ⟨.other, 1, 8, .undef⟩ := rfl
theorem ty17 : tyF 17 = some ⟨.other, 1, 8, .undef⟩ := rfl
theorem ty18 : tyF 18 = some ⟨(.struct [(0, 1, 17)]), 1, 8, (.agg [.undef])⟩ := rfl
theorem ty19 : tyF 19 = some ⟨(.struct [(0, 1, 17)]), 1, 8, (.agg [.undef])⟩ := rfl
theorem ty20 : tyF 20 = some ⟨.iface, 1, 16, .undef⟩ := rfl
theorem ty21 : tyF 21 = some ⟨(.int .i32), 1, 4, (.int .i32 0)⟩ := rfl
theorem ty22 : tyF 22 = some ⟨(.slice 78), 1, 24, .zero⟩ := rfl
theorem ty23 : tyF 23 = some ⟨(.slice 28), 1, 24, .zero⟩ := rfl
theorem ty24 : tyF 24 = some ⟨(.struct [(0, 1, 22), (1, 1, 23), (2, 1, 3)]), 3, 56, (.agg [.zero, .zero, (.int .i64 0)])⟩ := rfl
theorem ty25 : tyF 25 = some ⟨(.struct [(0, 1, 22), (1, 1, 23), (2, 1, 3)]), 3, 56, (.agg [.zero, .zero, (.int .i64 0)])⟩ := rfl
theorem ty26 : tyF 26 = some ⟨(.slice 61), 1, 24, .zero⟩ := rfl
theorem ty28 : tyF 28 = some ⟨(.struct [(0, 1, 9), (1, 1, 3), (2, 1, 26)]), 3, 48, (.agg [(.str ByteArray.empty), (.int .i64 0), .zero])⟩ := rfl
theorem ty29 : tyF 29 = some ⟨(.int .i64), 1, 8, (.int .i64 0)⟩ := rfl
theorem ty36 : tyF 36 = some ⟨.other, 1, 8, .undef⟩ := rfl
theorem ty38 : tyF 38 = some ⟨.other, 1, 8, .undef⟩ := rfl
theorem ty39 : tyF 39 = some ⟨.other, 1, 8, .undef⟩ := rfl
theorem ty40 : tyF 40 = some ⟨.other, 1, 8, .undef⟩ := rfl
theorem ty41 : tyF 41 = some ⟨.other, 1, 8, .undef⟩ := rfl
theorem ty44 : tyF 44 = some ⟨.other, 1, 8, .undef⟩ := rfl
theorem ty45 : tyF 45 = some ⟨.other, 1, 8, .undef⟩ := rfl
theorem ty46 : tyF 46 = some ⟨.other, 1, 8, .undef⟩ := rfl
theorem ty48 : tyF 48 = some ⟨.other, 1, 8, .undef⟩ := rfl
theorem ty49 : tyF 49 = some ⟨.other, 1, 8, .undef⟩ := rfl
theorem ty50 : tyF 50 = some ⟨(.slice 140), 1, 24, .zero⟩ := rfl
theorem ty51 : tyF 51 = some ⟨.other, 1, 8, .undef⟩ := rfl
theorem ty52 : tyF 52 = some ⟨.other, 1, 8, .undef⟩ := rfl
theorem ty54 : tyF 54 = some ⟨.other, 1, 8, .undef⟩ := rfl
theorem ty55 : tyF 55 = some ⟨.other, 1, 8, .undef⟩ := rfl
theorem ty56 : tyF 56 = some ⟨.other, 1, 8, .undef⟩ := rfl
theorem ty57 : tyF 57 = some ⟨.other, 1, 8, .undef⟩ := rfl
theorem ty58 : tyF 58 = some ⟨.other, 1, 8, .undef⟩ := rfl
theorem ty59 : tyF 59 = some ⟨.other, 1, 8, .undef⟩ := rfl
theorem ty60 : tyF 60 = some ⟨(.struct [(0, 1, 9), (1, 1, 3)]), 2, 24, (.agg [(.str ByteArray.empty), (.int .i64 0)])⟩ := rfl
theorem ty61 : tyF 61 = some ⟨(.struct [(0, 1, 9), (1, 1, 3)]), 2, 24, (.agg [(.str ByteArray.empty), (.int .i64 0)])⟩ := rfl
theorem ty64 : tyF 64 = some ⟨.other, 1, 8, .undef⟩ := rfl
theorem ty65 : tyF 65 = some ⟨.other, 1, 8, .undef⟩ := rfl
theorem ty66 : tyF 66 = some ⟨.other, 1, 8, .undef⟩ := rfl
theorem ty67 : tyF 67 = some ⟨.other, 1, 8, .undef⟩ := rfl
theorem ty68 : tyF 68 = some ⟨(.map 9 4), 1, 8, .undef⟩ := rfl
theorem ty69 : tyF 69 = some ⟨.other, 1, 8, .undef⟩ := rfl
theorem ty70 : tyF 70 = some ⟨.other, 1, 8, .undef⟩ := rfl
theorem ty73 : tyF 73 = some ⟨.other, 1, 8, .undef⟩ := rfl
theorem ty74 : tyF 74 = some ⟨.other, 1, 8, .undef⟩ := rfl
theorem ty78 : tyF 78 = some ⟨(.struct [(0, 1, 9), (1, 1, 3)]), 2, 24, (.agg [(.str ByteArray.empty), (.int .i64 0)])⟩ := rfl
theorem ty79 : tyF 79 = some ⟨.other, 1, 8, .undef⟩ := rfl
theorem ty80 : tyF 80 = some ⟨.other, 1, 8, .undef⟩ := rfl
theorem ty82 : tyF 82 = some ⟨(.map 9 3), 1, 8, .undef⟩ := rfl
theorem ty84 : tyF 84 = some ⟨.other, 1, 8, .undef⟩ := rfl
theorem ty85 : tyF 85 = some ⟨.other, 1, 8, .undef⟩ := rfl
theorem ty87 : tyF 87 = some ⟨.other, 1, 8, .undef⟩ := rfl
theorem ty90 : tyF 90 = some ⟨.iface, 1, 16, .undef⟩ := rfl
theorem ty92 : tyF 92 = some ⟨.other, 1, 8, .undef⟩ := rfl
theorem ty97 : tyF 97 = some ⟨.other, 1, 8, .undef⟩ := rfl
theorem ty98 : tyF 98 = some ⟨.other, 1, 8, .undef⟩ := rfl
theorem ty99 : tyF 99 = some ⟨(.slice 9), 1, 24, .zero⟩ := rfl
theorem ty100 : tyF 100 = some ⟨.other, 1, 8, .undef⟩ := rfl
theorem ty102 : tyF 102 = some ⟨.other, 1, 8, .undef⟩ := rfl
theorem ty103 : tyF 103 = some ⟨.other, 1, 8, .undef⟩ := rfl
theorem ty104 : tyF 104 = some ⟨.other, 1, 8, .undef⟩ := rfl
theorem ty105 : tyF 105 = some ⟨.other, 1, 8, .undef⟩ := rfl
theorem ty106 : tyF 106 = some ⟨.other, 1, 8, .undef⟩ := rfl
theorem ty107 : tyF 107 = some ⟨.other, 1, 8, .undef⟩ := rfl
theorem ty108 : tyF 108 = some ⟨.other, 1, 8, .undef⟩ := rfl
theorem ty109 : tyF 109 = some ⟨.other, 1, 8, .undef⟩ := rfl
theorem ty110 : tyF 110 = some ⟨.other, 1, 8, .undef⟩ := rfl
theorem ty111 : tyF 111 = some ⟨.other, 1, 8, .undef⟩ := rfl
theorem ty112 : tyF 112 = some ⟨(.int .u64), 1, 8, (.int .u64 0)⟩ := rfl
theorem ty113 : tyF 113 = some ⟨.other, 1, 8, .undef⟩ := rfl
theorem ty114 : tyF 114 = some ⟨.other, 1, 8, .undef⟩ := rfl
theorem ty115 : tyF 115 = some ⟨.other, 1, 8, .undef⟩ := rfl
theorem ty116 : tyF 116 = some ⟨.other, 1, 8, .undef⟩ := rfl
theorem ty118 : tyF 118 = some ⟨(.int .u64), 1, 8, (.int .u64 0)⟩ := rfl
theorem ty119 : tyF 119 = some ⟨(.struct [(0, 1, 17), (1, 1, 117), (2, 1, 118)]), 3, 24, (.agg [.undef, .undef, (.int .u64 0)])⟩ := rfl
theorem ty120 : tyF 120 = some ⟨(.struct [(0, 1, 17), (1, 1, 117), (2, 1, 118)]), 3, 24, (.agg [.undef, .undef, (.int .u64 0)])⟩ := rfl
theorem ty121 : tyF 121 = some ⟨.other, 1, 8, .undef⟩ := rfl
theorem ty122 : tyF 122 = some ⟨.other, 1, 8, .undef⟩ := rfl
theorem ty125 : tyF 125 = some ⟨.other, 1, 8, .undef⟩ := rfl
theorem ty126 : tyF 126 = some ⟨.other, 1, 8, .undef⟩ := rfl
theorem ty128 : tyF 128 = some ⟨(.struct [(0, 1, 74), (1, 1, 122)]), 2, 16, (.agg [.undef, .undef])⟩ := rfl
theorem ty129 : tyF 129 = some ⟨.other, 1, 8, .undef⟩ := rfl
theorem ty130 : tyF 130 = some ⟨(.slice 5), 1, 24, .zero⟩ := rfl
theorem ty132 : tyF 132 = some ⟨(.struct [(0, 1, 129), (1, 1, 130)]), 2, 32, (.agg [.undef, .zero])⟩ := rfl
theorem ty133 : tyF 133 = some ⟨.other, 1, 8, .undef⟩ := rfl
theorem ty136 : tyF 136 = some ⟨.other, 1, 8, .undef⟩ := rfl
theorem ty140 : tyF 140 = some ⟨(.struct [(0, 1, 9), (1, 1, 3), (2, 1, 3), (3, 1, 3), (4, 1, 3), (5, 1, 9), (6, 1, 9)]), 7, 80, (.agg [(.str ByteArray.empty), (.int .i64 0), (.int .i64 0), (.int .i64 0), (.int .i64 0), (.str ByteArray.empty), (.str ByteArray.empty)])⟩ := rfl
theorem ty141 : tyF 141 = some ⟨(.slice 3), 1, 24, .zero⟩ := rfl
theorem ty145 : tyF 145 = some ⟨.other, 1, 8, .undef⟩ := rfl
theorem ty148 : tyF 148 = some ⟨.other, 1, 8, .undef⟩ := rfl
theorem ty149 : tyF 149 = some ⟨(.struct [(0, 1, 17)]), 1, 8, (.agg [.undef])⟩ := rfl
theorem ty152 : tyF 152 = some ⟨.other, 1, 8, .undef⟩ := rfl
theorem ty153 : tyF 153 = some ⟨(.int .u32), 1, 4, (.int .u32 0)⟩ := rfl
theorem ty154 : tyF 154 = some ⟨.other, 1, 8, .undef⟩ := rfl
theorem ty155 : tyF 155 = some ⟨(.int .u64), 1, 8, (.int .u64 0)⟩ := rfl
theorem ty157 : tyF 157 = some ⟨(.int .i64), 1, 8, (.int .i64 0)⟩ := rfl
theorem ty159 : tyF 159 = some ⟨.other, 1, 8, .undef⟩ := rfl
theorem ty163 : tyF 163 = some ⟨.other, 1, 8, .undef⟩ := rfl
theorem ty169 : tyF 169 = some ⟨.other, 1, 8, .undef⟩ := rfl
theorem ty171 : tyF 171 = some ⟨.other, 1, 8, .undef⟩ := rfl
theorem ty175 : tyF 175 = some ⟨(.int .i64), 1, 8, (.int .i64 0)⟩ := rfl
theorem ty178 : tyF 178 = some ⟨.other, 1, 8, .undef⟩ := rfl
theorem ty180 : tyF 180 = some ⟨.other, 1, 8, .undef⟩ := rfl
theorem ty192 : tyF 192 = some ⟨.other, 1, 8, .undef⟩ := rfl
theorem ty193 : tyF 193 = some ⟨.other, 1, 8, .undef⟩ := rfl
theorem ty195 : tyF 195 = some ⟨(.int .u64), 1, 8, (.int .u64 0)⟩ := rfl
theorem ty199 : tyF 199 = some ⟨.other, 1, 8, .undef⟩ := rfl
theorem ty202 : tyF 202 = some ⟨(.array 24 5), 24, 24, (.agg [(.int .u8 0), (.int .u8 0), (.int .u8 0), (.int .u8 0), (.int .u8 0), (.int .u8 0), (.int .u8 0), (.int .u8 0), (.int .u8 0), (.int .u8 0), (.int .u8 0), (.int .u8 0), (.int .u8 0), (.int .u8 0), (.int .u8 0), (.int .u8 0), (.int .u8 0), (.int .u8 0), (.int .u8 0), (.int .u8 0), (.int .u8 0), (.int .u8 0), (.int .u8 0), (.int .u8 0)])⟩ := rfl
theorem ty212 : tyF 212 = some ⟨.other, 1, 8, .undef⟩ := rfl
theorem ty215 : tyF 215 = some ⟨(.struct [(0, 1, 9), (1, 1, 9), (2, 1, 90)]), 3, 48, (.agg [(.str ByteArray.empty), (.str ByteArray.empty), .undef])⟩ := rfl
theorem ty216 : tyF 216 = some ⟨.other, 1, 8, .undef⟩ := rfl
theorem ty220 : tyF 220 = some ⟨.other, 1, 8, .undef⟩ := rfl
theorem ty224 : tyF 224 = some ⟨(.array 20 155), 20, 160, (.agg [(.int .u64 0), (.int .u64 0), (.int .u64 0), (.int .u64 0), (.int .u64 0), (.int .u64 0), (.int .u64 0), (.int .u64 0), (.int .u64 0), (.int .u64 0), (.int .u64 0), (.int .u64 0), (.int .u64 0), (.int .u64 0), (.int .u64 0), (.int .u64 0), (.int .u64 0), (.int .u64 0), (.int .u64 0), (.int .u64 0)])⟩ := rfl
theorem ty228 : tyF 228 = some ⟨.other, 1, 8, .undef⟩ := rfl
theorem ty229 : tyF 229 = some ⟨(.struct [(0, 1, 9)]), 1, 16, (.agg [(.str ByteArray.empty)])⟩ := rfl
theorem ty230 : tyF 230 = some ⟨(.struct [(0, 1, 9)]), 1, 16, (.agg [(.str ByteArray.empty)])⟩ := rfl
theorem ty232 : tyF 232 = some ⟨(.struct [(0, 1, 5), (1, 1, 5)]), 2, 2, (.agg [(.int .u8 0), (.int .u8 0)])⟩ := rfl
theorem ty233 : tyF 233 = some ⟨(.struct [(0, 1, 5), (1, 1, 5)]), 2, 2, (.agg [(.int .u8 0), (.int .u8 0)])⟩ := rfl
theorem ty234 : tyF 234 = some ⟨(.array 16 233), 32, 32, (.agg [(.int .u8 0), (.int .u8 0), (.int .u8 0), (.int .u8 0), (.int .u8 0), (.int .u8 0), (.int .u8 0), (.int .u8 0), (.int .u8 0), (.int .u8 0), (.int .u8 0), (.int .u8 0), (.int .u8 0), (.int .u8 0), (.int .u8 0), (.int .u8 0), (.int .u8 0), (.int .u8 0), (.int .u8 0), (.int .u8 0), (.int .u8 0), (.int .u8 0), (.int .u8 0), (.int .u8 0), (.int .u8 0), (.int .u8 0), (.int .u8 0), (.int .u8 0), (.int .u8 0), (.int .u8 0), (.int .u8 0), (.int .u8 0)])⟩ := rfl
theorem ty235 : tyF 235 = some ⟨(.array 32 5), 32, 32, (.agg [(.int .u8 0), (.int .u8 0), (.int .u8 0), (.int .u8 0), (.int .u8 0), (.int .u8 0), (.int .u8 0), (.int .u8 0), (.int .u8 0), (.int .u8 0), (.int .u8 0), (.int .u8 0), (.int .u8 0), (.int .u8 0), (.int .u8 0), (.int .u8 0), (.int .u8 0), (.int .u8 0), (.int .u8 0), (.int .u8 0), (.int .u8 0), (.int .u8 0), (.int .u8 0), (.int .u8 0), (.int .u8 0), (.int .u8 0), (.int .u8 0), (.int .u8 0), (.int .u8 0), (.int .u8 0), (.int .u8 0), (.int .u8 0)])⟩ := rfl
theorem ty242 : tyF 242 = some ⟨(.int .u8), 1, 1, (.int .u8 0)⟩ := rfl
theorem ty243 : tyF 243 = some ⟨(.int .u8), 1, 1, (.int .u8 0)⟩ := rfl
theorem ty244 : tyF 244 = some ⟨.other, 1, 8, .undef⟩ := rfl
theorem ty245 : tyF 245 = some ⟨(.int .i32), 1, 4, (.int .i32 0)⟩ := rfl
theorem ty246 : tyF 246 = some ⟨(.int .i32), 1, 4, (.int .i32 0)⟩ := rfl
theorem ty247 : tyF 247 = some ⟨(.struct [(0, 1, 12), (1, 1, 12), (2, 1, 153), (3, 1, 242), (4, 1, 5), (5, 1, 5), (6, 1, 243), (7, 1, 244), (8, 1, 163), (9, 1, 245), (10, 1, 246)]), 11, 48, (.agg [(.int .u64 0), (.int .u64 0), (.int .u32 0), (.int .u8 0), (.int .u8 0), (.int .u8 0), (.int .u8 0), .undef, .undef, (.int .i32 0), (.int .i32 0)])⟩ := rfl
theorem ty248 : tyF 248 = some ⟨(.struct [(0, 1, 12), (1, 1, 12), (2, 1, 153), (3, 1, 242), (4, 1, 5), (5, 1, 5), (6, 1, 243), (7, 1, 244), (8, 1, 163), (9, 1, 245), (10, 1, 246)]), 11, 48, (.agg [(.int .u64 0), (.int .u64 0), (.int .u32 0), (.int .u8 0), (.int .u8 0), (.int .u8 0), (.int .u8 0), .undef, .undef, (.int .i32 0), (.int .i32 0)])⟩ := rfl
theorem eqs61 : eqsL.contains 61 = true := rfl
theorem eqs78 : eqsL.contains 78 = true := rfl
theorem eqs140 : eqsL.contains 140 = true := rfl
theorem eqs188 : eqsL.contains 188 = true := rfl
def dr7 : List (Nat × (Nat × List (List Nat))) := []
def dd7 : List (Nat × List Nat) := [(0, [0, 4]), (1, [15, 16, 17, 18, 19, 20, 21]), (2, [8, 9, 22, 23, 24, 25, 26, 27]), (3, [10, 28]), (5, [30, 31]), (6, [32]), (7, [5, 6, 7, 11, 34, 35, 36, 37, 38, 39, 40, 41, 42]), (8, [1, 2, 43, 44, 45, 46, 47, 48, 49]), (9, [5, 6, 7, 12, 13, 14, 50, 51, 52, 53, 54, 55, 56, 57, 58, 59])]
theorem drOk7 : drAll dr7 (Tryz.f7.body.getD .skip) = true := by kernel_rfl
def dr8 : List (Nat × (Nat × List (List Nat))) := [(9, (7, []))]
def dd8 : List (Nat × List Nat) := [(0, [0, 1, 5]), (1, [12, 13]), (2, [14]), (3, [6, 16, 17]), (4, [18, 19]), (5, [20]), (6, [7, 22, 23]), (7, [24, 25, 26, 27]), (8, [28]), (9, [3, 8, 30, 31, 32, 33, 34, 35]), (10, [2, 37, 38]), (11, [39]), (12, [41, 42, 43, 44]), (13, [45]), (14, [47, 48, 49, 50, 51]), (15, [52]), (16, [54, 55, 56, 57]), (17, [58]), (18, [2, 59, 60]), (19, [61, 62, 63, 64]), (20, [11, 65, 66, 67, 68, 69, 70, 71]), (21, [3, 10, 72, 73, 74, 75, 76, 77, 78]), (22, [9, 79])]
theorem drOk8 : drAll dr8 (Tryz.f8.body.getD .skip) = true := by kernel_rfl
def dr10 : List (Nat × (Nat × List (List Nat))) := []
def dd10 : List (Nat × List Nat) := [(0, [0, 2]), (1, [11, 12, 13]), (2, [14]), (3, [3, 16]), (4, [17, 18, 19, 20, 21, 22, 23, 24]), (6, [26, 27, 28]), (8, [30]), (9, [31]), (11, [36, 37, 38]), (12, [39, 40]), (13, [41]), (14, [7, 43]), (15, [44]), (17, [49, 50]), (18, [9, 51, 52, 53, 54, 55]), (20, [57]), (21, [58, 59, 60]), (23, [62, 63, 64]), (24, [65]), (25, [5, 67, 68, 69, 70, 71, 72]), (26, [6, 10, 73, 74, 75, 76, 77, 78, 79, 80, 81, 82, 83, 84, 85, 86, 87, 88, 89, 90]), (28, [92])]
theorem drOk10 : drAll dr10 (Tryz.f10.body.getD .skip) = true := by kernel_rfl
def dr11 : List (Nat × (Nat × List (List Nat))) := [(20, (13, []))]
def dd11 : List (Nat × List Nat) := [(0, [0, 2]), (1, [8, 9, 10]), (2, [11]), (3, [3, 13]), (4, [14, 15, 16, 17, 18, 19, 20]), (6, [22, 23, 24]), (8, [26]), (9, [27]), (11, [32, 33, 34]), (12, [35, 36]), (13, [37]), (14, [7, 39]), (15, [40, 41, 42]), (17, [44, 45, 46]), (19, [48, 49, 50]), (20, [5, 6, 51, 52, 53, 54, 55, 56, 57, 58, 59, 60, 61, 62]), (22, [64])]
theorem drOk11 : drAll dr11 (Tryz.f11.body.getD .skip) = true := by kernel_rfl
def dr12 : List (Nat × (Nat × List (List Nat))) := []
def dd12 : List (Nat × List Nat) := [(0, [0, 2, 8]), (1, [1, 3, 4, 6, 9, 10, 11, 12, 13, 14, 15, 16])]
theorem drOk12 : drAll dr12 (Tryz.f12.body.getD .skip) = true := by kernel_rfl
def dr13 : List (Nat × (Nat × List (List Nat))) := []
def dd13 : List (Nat × List Nat) := [(0, [0, 1, 4]), (1, [2, 3, 5, 6, 7, 8, 9, 10, 11, 12, 13, 14, 15, 16, 17, 18, 19, 20, 21, 22, 23])]
theorem drOk13 : drAll dr13 (Tryz.f13.body.getD .skip) = true := by kernel_rfl
def dr14 : List (Nat × (Nat × List (List Nat))) := [(19, (12, [[6, 9, 63, 66], [10, 12]]))]
def dd14 : List (Nat × List Nat) := [(0, [0, 1, 5]), (1, [12, 13]), (2, [14]), (3, [6, 16, 17]), (4, [18, 19, 20, 21, 22, 23, 24]), (5, [8]), (6, [3, 7, 26, 27]), (7, [2, 29]), (8, [30]), (9, [31]), (11, [36, 37]), (12, [10, 38, 39, 40, 41, 42]), (13, [44]), (14, [45]), (15, [46, 47, 48, 49]), (16, [51]), (17, [52, 53, 54]), (18, [56]), (19, [2, 3, 57, 58, 59, 60, 61, 62, 63, 64, 65, 66, 67]), (20, [68, 69, 70, 71, 72]), (21, [11, 73])]
theorem drOk14 : drAll dr14 (Tryz.f14.body.getD .skip) = true := by kernel_rfl
def dr15 : List (Nat × (Nat × List (List Nat))) := []
def dd15 : List (Nat × List Nat) := [(0, [0, 5]), (1, [2, 8]), (3, [13, 14]), (4, [15, 16, 17]), (5, [7, 19]), (6, [20]), (7, [21])]
theorem drOk15 : drAll dr15 (Tryz.f15.body.getD .skip) = true := by kernel_rfl
def dr20 : List (Nat × (Nat × List (List Nat))) := []
def dd20 : List (Nat × List Nat) := [(0, [0, 2, 3]), (1, [6, 7]), (2, [8]), (3, [4, 10]), (4, [1, 11, 12]), (5, [5, 13, 14, 15, 16, 17, 18, 19])]
theorem drOk20 : drAll dr20 (Tryz.f20.body.getD .skip) = true := by kernel_rfl
def dr21 : List (Nat × (Nat × List (List Nat))) := []
def dd21 : List (Nat × List Nat) := [(0, [0, 2]), (1, [7, 8, 9]), (3, [11, 12, 13]), (5, [15, 16, 17]), (7, [19]), (9, [1, 20]), (11, [25, 26]), (12, [28, 29, 30, 31]), (14, [33, 34, 35, 36, 37, 38, 39, 40, 41]), (16, [43, 44, 45, 46]), (18, [47, 48, 49]), (19, [6, 50, 51, 52, 53]), (20, [54]), (21, [3, 4, 55, 56, 57, 58, 59, 60])]
theorem drOk21 : drAll dr21 (Tryz.f21.body.getD .skip) = true := by kernel_rfl
def dr22 : List (Nat × (Nat × List (List Nat))) := [(1, (8, [])), (5, (11, []))]
def dd22 : List (Nat × List Nat) := [(0, [0, 2]), (1, [6, 7, 8, 9, 10, 11, 12]), (2, [1, 13]), (4, [18, 19]), (5, [5, 20, 21, 22, 23, 24, 25, 26, 27, 28, 29]), (6, [30]), (7, [3, 31, 32, 33, 34, 35, 36, 37])]
theorem drOk22 : drAll dr22 (Tryz.f22.body.getD .skip) = true := by kernel_rfl
def dr23 : List (Nat × (Nat × List (List Nat))) := [(9, (19, []))]
def dd23 : List (Nat × List Nat) := [(0, [3, 4]), (1, [13, 14]), (2, [15]), (3, [17]), (4, [18, 19, 20]), (5, [21, 22]), (6, [23]), (7, [25]), (8, [26, 27, 28, 29, 30, 31, 32, 33]), (9, [9, 34, 35, 36, 37, 38, 39, 40, 41, 42, 43, 44, 45, 46, 47, 48, 49, 50, 51]), (10, [53]), (11, [8, 54, 55, 56, 57, 58]), (12, [60]), (13, [6, 7, 61, 62, 63, 64]), (14, [65, 66, 67, 68, 69]), (15, [0, 11, 12, 70, 71, 72, 73, 74, 75, 76, 77, 78]), (16, [80]), (17, [5, 10, 81, 82, 83])]
theorem drOk23 : drAll dr23 (Tryz.f23.body.getD .skip) = true := by kernel_rfl
def dr24 : List (Nat × (Nat × List (List Nat))) := []
def dd24 : List (Nat × List Nat) := [(0, [3, 4]), (1, [0, 6, 19, 20, 21, 22, 23, 24]), (2, [7, 25]), (3, [27]), (5, [28]), (7, [32]), (8, [33, 34, 35]), (9, [9, 37]), (10, [38]), (11, [39]), (12, [41]), (13, [42, 43, 44, 45, 46, 47, 48, 49]), (14, [7, 50, 51, 52, 53, 54, 55]), (15, [57]), (16, [10, 58, 59, 60, 61, 62]), (17, [64]), (19, [8, 65, 66, 67]), (21, [72, 73, 74]), (22, [75]), (23, [13, 77, 78]), (24, [12, 79]), (25, [13, 81, 82, 83, 84, 85, 86]), (26, [13, 16, 87, 88, 89, 90, 91, 92]), (27, [15, 18, 93, 94, 95, 96, 97]), (28, [14, 17, 98, 99, 100, 101, 102, 103, 104, 105]), (29, [106]), (30, [107, 108, 109, 110, 111, 112, 113, 114, 115]), (31, [117]), (32, [5, 11, 118, 119, 120, 121])]
theorem drOk24 : drAll dr24 (Tryz.f24.body.getD .skip) = true := by kernel_rfl
def dr27 : List (Nat × (Nat × List (List Nat))) := []
def dd27 : List (Nat × List Nat) := [(0, [0, 5, 6]), (1, [13, 14]), (2, [15]), (3, [7, 17, 18]), (4, [19, 20]), (5, [22]), (6, [2, 23, 24]), (8, [25]), (9, [27, 28, 29, 30, 31, 32]), (10, [33]), (11, [35]), (12, [12, 37, 38]), (13, [10, 39, 40, 41, 42, 43, 44]), (14, [45]), (15, [12, 47, 48]), (16, [49, 50]), (17, [11, 51, 52, 53]), (18, [8, 9, 54, 55])]
theorem drOk27 : drAll dr27 (Tryz.f27.body.getD .skip) = true := by kernel_rfl
def dr28 : List (Nat × (Nat × List (List Nat))) := []
def dd28 : List (Nat × List Nat) := [(0, [0, 5, 6]), (1, [11, 12]), (2, [14]), (4, [15, 16]), (5, [17, 18, 19, 20, 21, 22]), (6, [23, 24, 25, 26, 27]), (7, [2, 7, 29, 30]), (8, [31]), (9, [10, 33, 34]), (10, [8, 35, 36, 37, 38, 39, 40]), (11, [41]), (12, [10, 43, 44]), (13, [9, 45, 46, 47])]
theorem drOk28 : drAll dr28 (Tryz.f28.body.getD .skip) = true := by kernel_rfl
def dr29 : List (Nat × (Nat × List (List Nat))) := []
def dd29 : List (Nat × List Nat) := [(0, [0, 2]), (1, [3, 4, 5]), (3, [7, 8, 9]), (5, [1, 11, 12, 13])]
theorem drOk29 : drAll dr29 (Tryz.f29.body.getD .skip) = true := by kernel_rfl
def dr30 : List (Nat × (Nat × List (List Nat))) := []
def dd30 : List (Nat × List Nat) := [(0, [0, 1, 4]), (1, [2, 3, 5, 6, 7, 8])]
theorem drOk30 : drAll dr30 (Tryz.f30.body.getD .skip) = true := by kernel_rfl
def dr31 : List (Nat × (Nat × List (List Nat))) := []
def dd31 : List (Nat × List Nat) := [(0, [0, 1, 4]), (1, [2, 3, 5, 6, 7, 8, 9, 10, 11, 12, 13, 14, 15, 16, 17, 18, 19, 20, 21, 22, 23])]
theorem drOk31 : drAll dr31 (Tryz.f31.body.getD .skip) = true := by kernel_rfl
def dr32 : List (Nat × (Nat × List (List Nat))) := [(1, (7, []))]
def dd32 : List (Nat × List Nat) := [(0, [0]), (1, [6, 7, 8, 9, 10, 11]), (2, [1, 12]), (4, [17, 18]), (5, [19, 20, 21, 22]), (6, [5, 23, 24, 25, 26, 27, 28]), (7, [29]), (8, [3, 30])]
theorem drOk32 : drAll dr32 (Tryz.f32.body.getD .skip) = true := by kernel_rfl
def dr33 : List (Nat × (Nat × List (List Nat))) := []
def dd33 : List (Nat × List Nat) := [(0, [0, 1, 4]), (1, [2, 3, 5, 6, 7, 8, 9])]
theorem drOk33 : drAll dr33 (Tryz.f33.body.getD .skip) = true := by kernel_rfl
def dr34 : List (Nat × (Nat × List (List Nat))) := []
def dd34 : List (Nat × List Nat) := [(0, [2]), (1, [3]), (3, [0, 5, 6, 7])]
theorem drOk34 : drAll dr34 (Tryz.f34.body.getD .skip) = true := by kernel_rfl
def dr35 : List (Nat × (Nat × List (List Nat))) := [(5, (8, [])), (8, (16, []))]
def dd35 : List (Nat × List Nat) := [(0, [1, 6, 7]), (1, [12, 13]), (2, [14]), (3, [15, 16]), (4, [18, 19, 20, 21, 22, 23]), (5, [24, 25, 26, 27, 28, 29, 30]), (6, [11, 32, 33]), (7, [11, 34]), (8, [0, 2, 4, 8, 9, 35, 36, 37, 38, 39, 40, 41, 42, 43, 44, 45, 46, 47, 48])]
theorem drOk35 : drAll dr35 (Tryz.f35.body.getD .skip) = true := by kernel_rfl
def dr36 : List (Nat × (Nat × List (List Nat))) := []
def dd36 : List (Nat × List Nat) := [(0, [0, 1, 4]), (1, [5, 6, 7, 8]), (2, [2, 3, 10, 11, 12, 13, 14]), (3, [2, 3, 15, 16, 17, 18, 19])]
theorem drOk36 : drAll dr36 (Tryz.f36.body.getD .skip) = true := by kernel_rfl
def dr38 : List (Nat × (Nat × List (List Nat))) := []
def dd38 : List (Nat × List Nat) := [(0, [2]), (1, [6, 7]), (4, [0]), (6, [13, 14]), (7, [16, 17, 18, 19]), (9, [21, 22, 23, 24]), (11, [3, 26, 27, 28, 29]), (13, [5, 30, 31]), (14, [32])]
theorem drOk38 : drAll dr38 (Tryz.f38.body.getD .skip) = true := by kernel_rfl
def dr39 : List (Nat × (Nat × List (List Nat))) := []
def dd39 : List (Nat × List Nat) := [(0, [2]), (1, [0, 3, 4])]
theorem drOk39 : drAll dr39 (Tryz.f39.body.getD .skip) = true := by kernel_rfl
def dr40 : List (Nat × (Nat × List (List Nat))) := []
def dd40 : List (Nat × List Nat) := [(0, [4]), (1, [0]), (3, [11, 12]), (4, [6, 13, 14, 15]), (6, [17])]
theorem drOk40 : drAll dr40 (Tryz.f40.body.getD .skip) = true := by kernel_rfl
def dr41 : List (Nat × (Nat × List (List Nat))) := [(10, (13, []))]
def dd41 : List (Nat × List Nat) := [(0, [2]), (1, [5, 6]), (5, [12, 13, 14]), (6, [15, 16, 17]), (8, [19, 20, 21, 22, 23, 24, 25]), (10, [3, 4, 27, 28, 29, 30, 31, 32, 33, 34, 35, 36, 37, 38]), (12, [40])]
theorem drOk41 : drAll dr41 (Tryz.f41.body.getD .skip) = true := by kernel_rfl
def dr42 : List (Nat × (Nat × List (List Nat))) := []
def dd42 : List (Nat × List Nat) := [(0, [0, 1, 4]), (1, [2, 3, 5, 6, 7, 8, 9, 10, 11, 12, 13, 14, 15, 16, 17, 18, 19, 20, 21, 22, 23])]
theorem drOk42 : drAll dr42 (Tryz.f42.body.getD .skip) = true := by kernel_rfl
def dr43 : List (Nat × (Nat × List (List Nat))) := [(6, (9, []))]
def dd43 : List (Nat × List Nat) := [(0, [4]), (1, [6, 7, 8, 9]), (3, [11]), (5, [15]), (6, [5, 16, 17, 18, 19, 20, 21, 22, 23]), (8, [25])]
theorem drOk43 : drAll dr43 (Tryz.f43.body.getD .skip) = true := by kernel_rfl
def dr44 : List (Nat × (Nat × List (List Nat))) := []
def dd44 : List (Nat × List Nat) := [(0, [2]), (1, [3]), (3, [0, 5, 6, 7])]
theorem drOk44 : drAll dr44 (Tryz.f44.body.getD .skip) = true := by kernel_rfl
def dr46 : List (Nat × (Nat × List (List Nat))) := [(1, (14, [[], [], [0, 1], [], [0], [0, 1, 2, 3, 4], [0, 1, 2, 3, 4], [0, 1, 2, 3, 4, 5, 6], [0, 1, 2, 3, 4], [0, 1, 2, 3, 4, 5], [0, 1, 2, 3, 4, 5, 6, 7, 8, 9], [0, 1, 2, 3, 4, 5, 6, 7, 8, 9, 10], [5, 6, 7, 8, 9], []]))]
def dd46 : List (Nat × List Nat) := [(0, [5]), (1, [0, 1, 2, 8, 9, 10, 11, 12, 13, 14, 15, 16, 17]), (2, [6, 7, 18, 19, 20, 21, 22, 23, 24, 25, 26, 27, 28, 29, 30, 31, 32, 33, 34, 35, 36])]
theorem drOk46 : drAll dr46 (Tryz.f46.body.getD .skip) = true := by kernel_rfl
def dr47 : List (Nat × (Nat × List (List Nat))) := []
def dd47 : List (Nat × List Nat) := [(0, [2]), (1, [0, 3, 4, 5, 6, 7, 8])]
theorem drOk47 : drAll dr47 (Tryz.f47.body.getD .skip) = true := by kernel_rfl
def dr56 : List (Nat × (Nat × List (List Nat))) := []
def dd56 : List (Nat × List Nat) := [(0, [2]), (2, [5]), (4, [9]), (5, [4, 10, 11, 12, 13, 14, 15, 16, 17, 18, 19]), (6, [20]), (7, [3, 21])]
theorem drOk56 : drAll dr56 (Tryz.f56.body.getD .skip) = true := by kernel_rfl
def dr57 : List (Nat × (Nat × List (List Nat))) := []
def dd57 : List (Nat × List Nat) := [(0, [2]), (1, [4]), (3, [8]), (4, [3, 9, 10, 11, 12]), (6, [14]), (7, [0, 15, 16, 17, 18, 19, 20, 21, 22])]
theorem drOk57 : drAll dr57 (Tryz.f57.body.getD .skip) = true := by kernel_rfl
def dr58 : List (Nat × (Nat × List (List Nat))) := []
def dd58 : List (Nat × List Nat) := [(0, [2]), (1, [0, 3, 4, 5, 6, 7, 8, 9, 10, 11, 12, 13, 14, 15, 16, 17, 18, 19, 20])]
theorem drOk58 : drAll dr58 (Tryz.f58.body.getD .skip) = true := by kernel_rfl
def dr59 : List (Nat × (Nat × List (List Nat))) := []
def dd59 : List (Nat × List Nat) := [(0, [2]), (1, [0, 3, 4])]
theorem drOk59 : drAll dr59 (Tryz.f59.body.getD .skip) = true := by kernel_rfl
def dr60 : List (Nat × (Nat × List (List Nat))) := []
def dd60 : List (Nat × List Nat) := [(0, [2]), (1, [3]), (2, [0, 5, 6, 7, 8]), (3, [9]), (4, [0, 11, 12, 13, 14]), (5, [0, 15, 16, 17, 18, 19, 20, 21])]
theorem drOk60 : drAll dr60 (Tryz.f60.body.getD .skip) = true := by kernel_rfl
def dr61 : List (Nat × (Nat × List (List Nat))) := []
def dd61 : List (Nat × List Nat) := [(0, [2]), (2, [5, 6]), (3, [7]), (4, [9, 10]), (5, [11, 12, 13, 14, 15, 16, 17, 18, 19]), (6, [3, 20, 21])]
theorem drOk61 : drAll dr61 (Tryz.f61.body.getD .skip) = true := by kernel_rfl
def dr65 : List (Nat × (Nat × List (List Nat))) := []
def dd65 : List (Nat × List Nat) := [(2, [0, 11]), (4, [16, 17, 18]), (5, [4]), (6, [5, 8, 20, 21, 22, 23, 24, 25]), (7, [7, 10, 26, 27, 28, 29, 30]), (8, [6, 9, 31, 32, 33, 34, 35, 36, 37, 38]), (9, [40]), (10, [5, 41, 42]), (11, [19, 44]), (12, [5, 45, 46, 47, 48, 49, 50]), (13, [51]), (14, [3, 52])]
theorem drOk65 : drAll dr65 (Tryz.f65.body.getD .skip) = true := by kernel_rfl
def dr69 : List (Nat × (Nat × List (List Nat))) := []
def dd69 : List (Nat × List Nat) := [(0, [6]), (1, [0, 1, 2, 7, 8, 9, 10, 11, 12, 13, 14])]
theorem drOk69 : drAll dr69 (Tryz.f69.body.getD .skip) = true := by kernel_rfl
def dr74 : List (Nat × (Nat × List (List Nat))) := []
def dd74 : List (Nat × List Nat) := [(0, [2]), (1, [5, 6, 7, 8, 9, 10]), (3, [12]), (5, [16]), (6, [3, 17, 18, 19]), (7, [4, 20, 21, 22, 23, 24, 25, 26, 27, 28, 29, 30, 31, 32, 33, 34, 35, 36, 37]), (9, [39])]
theorem drOk74 : drAll dr74 (Tryz.f74.body.getD .skip) = true := by kernel_rfl
def dr75 : List (Nat × (Nat × List (List Nat))) := []
def dd75 : List (Nat × List Nat) := [(0, [2]), (1, [6, 7]), (6, [13, 14, 15]), (7, [16, 17, 18]), (9, [20, 21, 22, 23, 24, 25, 26, 27]), (11, [4, 29, 30, 31, 32]), (13, [5, 34, 35, 36, 37]), (14, [38]), (15, [0, 3, 39, 40, 41, 42, 43, 44])]
theorem drOk75 : drAll dr75 (Tryz.f75.body.getD .skip) = true := by kernel_rfl
def dr76 : List (Nat × (Nat × List (List Nat))) := []
def dd76 : List (Nat × List Nat) := [(0, [4]), (1, [6]), (3, [10]), (4, [11, 12, 13, 14, 15]), (5, [5, 17]), (6, [18])]
theorem drOk76 : drAll dr76 (Tryz.f76.body.getD .skip) = true := by kernel_rfl
def dr77 : List (Nat × (Nat × List (List Nat))) := []
def dd77 : List (Nat × List Nat) := [(0, [0, 3]), (1, [1, 2, 4, 5, 6, 7])]
theorem drOk77 : drAll dr77 (Tryz.f77.body.getD .skip) = true := by kernel_rfl
def dr78 : List (Nat × (Nat × List (List Nat))) := []
def dd78 : List (Nat × List Nat) := [(0, [2]), (1, [3]), (3, [0, 5, 6, 7])]
theorem drOk78 : drAll dr78 (Tryz.f78.body.getD .skip) = true := by kernel_rfl
def dr79 : List (Nat × (Nat × List (List Nat))) := []
def dd79 : List (Nat × List Nat) := [(0, [4]), (1, [0, 1, 5, 6, 7, 8])]
theorem drOk79 : drAll dr79 (Tryz.f79.body.getD .skip) = true := by kernel_rfl
def dr80 : List (Nat × (Nat × List (List Nat))) := []
def dd80 : List (Nat × List Nat) := [(0, [0, 3]), (1, [1, 2, 4, 5, 6, 7, 8, 9])]
theorem drOk80 : drAll dr80 (Tryz.f80.body.getD .skip) = true := by kernel_rfl
def dr81 : List (Nat × (Nat × List (List Nat))) := []
def dd81 : List (Nat × List Nat) := [(0, [1, 4]), (1, [0, 3, 5, 6, 7])]
theorem drOk81 : drAll dr81 (Tryz.f81.body.getD .skip) = true := by kernel_rfl
def dr85 : List (Nat × (Nat × List (List Nat))) := []
def dd85 : List (Nat × List Nat) := [(0, [2]), (1, [4, 5, 6, 7, 8, 9]), (3, [11]), (5, [15]), (6, [3, 16, 17, 18, 19, 20, 21, 22, 23, 24]), (8, [26])]
theorem drOk85 : drAll dr85 (Tryz.f85.body.getD .skip) = true := by kernel_rfl
def dr86 : List (Nat × (Nat × List (List Nat))) := [(6, (9, []))]
def dd86 : List (Nat × List Nat) := [(0, [4]), (1, [6, 7, 8, 9]), (3, [11]), (5, [15]), (6, [5, 16, 17, 18, 19, 20, 21, 22, 23]), (8, [25])]
theorem drOk86 : drAll dr86 (Tryz.f86.body.getD .skip) = true := by kernel_rfl
def dr87 : List (Nat × (Nat × List (List Nat))) := []
def dd87 : List (Nat × List Nat) := [(0, [6]), (1, [10, 11, 12, 13]), (3, [0]), (5, [19, 20, 21]), (6, [7, 22, 23, 24, 25]), (7, [8, 9, 26, 27, 28, 29]), (9, [31])]
theorem drOk87 : drAll dr87 (Tryz.f87.body.getD .skip) = true := by kernel_rfl
def dr92 : List (Nat × (Nat × List (List Nat))) := []
def dd92 : List (Nat × List Nat) := [(0, [0]), (3, [19, 20, 21]), (4, [22]), (5, [1, 2, 4, 24, 25, 26, 27]), (6, [28]), (7, [1, 2, 4, 30, 31, 32, 33]), (8, [34]), (9, [36, 37, 38, 39]), (10, [40, 41]), (11, [42, 43, 44, 45, 46, 47, 48]), (12, [49]), (13, [51, 52, 53, 54]), (14, [55, 56, 57, 58, 59, 60]), (16, [12, 61, 62, 63, 64, 65, 66, 67]), (17, [69, 70, 71]), (18, [73, 74, 75, 76, 77, 78, 79, 80, 81, 82]), (19, [1, 11, 84, 85, 86, 87, 88]), (20, [13, 89]), (21, [11, 90, 91, 92, 93, 94, 95, 96, 97]), (22, [15, 98]), (23, [99, 100, 101, 102, 103, 104]), (24, [10, 105, 106]), (25, [107, 108]), (26, [16, 18, 110, 111, 112]), (27, [1, 113, 114, 115, 116, 117]), (28, [14, 118, 119]), (29, [17, 18, 120, 121, 122]), (30, [2, 123, 124, 125, 126, 127, 128]), (31, [14, 129])]
theorem drOk92 : drAll dr92 (Tryz.f92.body.getD .skip) = true := by kernel_rfl
def dr98 : List (Nat × (Nat × List (List Nat))) := []
def dd98 : List (Nat × List Nat) := [(0, [2]), (1, [0, 3, 4, 5, 6, 7, 8])]
theorem drOk98 : drAll dr98 (Tryz.f98.body.getD .skip) = true := by kernel_rfl
def dr114 : List (Nat × (Nat × List (List Nat))) := []
def dd114 : List (Nat × List Nat) := [(0, [2]), (1, [0, 3, 4, 5, 6, 7, 8])]
theorem drOk114 : drAll dr114 (Tryz.f114.body.getD .skip) = true := by kernel_rfl
def dr115 : List (Nat × (Nat × List (List Nat))) := []
def dd115 : List (Nat × List Nat) := [(0, [0, 3]), (1, [1, 2, 4, 5, 6, 7, 8])]
theorem drOk115 : drAll dr115 (Tryz.f115.body.getD .skip) = true := by kernel_rfl
def dr116 : List (Nat × (Nat × List (List Nat))) := []
def dd116 : List (Nat × List Nat) := [(0, [4]), (1, [6]), (3, [10]), (4, [11, 12, 13, 14, 15]), (5, [5, 17]), (6, [18])]
theorem drOk116 : drAll dr116 (Tryz.f116.body.getD .skip) = true := by kernel_rfl
def dr117 : List (Nat × (Nat × List (List Nat))) := []
def dd117 : List (Nat × List Nat) := [(0, [4]), (1, [6]), (3, [10]), (4, [11, 12, 13, 14, 15]), (5, [5, 17]), (6, [18])]
theorem drOk117 : drAll dr117 (Tryz.f117.body.getD .skip) = true := by kernel_rfl
def dr118 : List (Nat × (Nat × List (List Nat))) := []
def dd118 : List (Nat × List Nat) := [(0, [0, 3]), (1, [1, 2, 4, 5, 6, 7])]
theorem drOk118 : drAll dr118 (Tryz.f118.body.getD .skip) = true := by kernel_rfl
def dr132 : List (Nat × (Nat × List (List Nat))) := []
def dd132 : List (Nat × List Nat) := [(0, [0]), (1, [8, 9]), (2, [10, 11]), (3, [13, 14]), (4, [15]), (5, [16, 17, 18, 19, 20, 21, 22, 23, 24, 25]), (6, [27, 28]), (7, [29, 30, 31, 32, 33, 34])]
theorem drOk132 : drAll dr132 (Tryz.f132.body.getD .skip) = true := by kernel_rfl
def dr133 : List (Nat × (Nat × List (List Nat))) := []
def dd133 : List (Nat × List Nat) := [(0, [0]), (1, [11]), (3, [1, 2, 12, 13, 14]), (4, [15, 16, 17]), (5, [18]), (6, [20, 21]), (7, [22, 23, 24, 25, 26]), (8, [8, 27, 28]), (9, [29]), (10, [31, 32]), (11, [33, 34, 35, 36, 37, 38, 39]), (12, [40, 41, 42, 43, 44])]
theorem drOk133 : drAll dr133 (Tryz.f133.body.getD .skip) = true := by kernel_rfl
def dr134 : List (Nat × (Nat × List (List Nat))) := []
def dd134 : List (Nat × List Nat) := [(0, [0]), (1, [2, 11, 12, 13]), (2, [14]), (3, [16, 17]), (4, [18, 19]), (5, [20, 21, 22, 23, 24, 25]), (6, [26, 27, 28, 29, 30, 31, 32]), (7, [34, 35]), (8, [36, 37, 38, 39, 40]), (9, [41, 42]), (10, [44, 45, 46]), (11, [10, 47, 48, 49, 50, 51, 52, 53])]
theorem drOk134 : drAll dr134 (Tryz.f134.body.getD .skip) = true := by kernel_rfl
def dr135 : List (Nat × (Nat × List (List Nat))) := []
def dd135 : List (Nat × List Nat) := [(0, [0, 6, 7]), (1, [2, 13, 14, 15]), (3, [16, 17, 18, 19, 20]), (4, [21, 22, 23, 24, 25]), (5, [1, 26, 27, 28, 29, 30]), (6, [31]), (7, [8, 33]), (8, [35, 36, 37]), (9, [38, 39, 40]), (10, [41, 42, 43]), (11, [3, 10, 12, 44, 45, 46, 47, 48]), (12, [9]), (13, [11, 50]), (14, [52]), (15, [11, 53]), (16, [49, 55]), (17, [11, 56])]
theorem drOk135 : drAll dr135 (Tryz.f135.body.getD .skip) = true := by kernel_rfl
def dr136 : List (Nat × (Nat × List (List Nat))) := []
def dd136 : List (Nat × List Nat) := [(0, [0]), (1, [1, 8]), (2, [2, 9, 10]), (3, [11, 12]), (4, [14, 15, 16, 17, 18]), (5, [19, 20]), (6, [21, 22])]
theorem drOk136 : drAll dr136 (Tryz.f136.body.getD .skip) = true := by kernel_rfl
def dr137 : List (Nat × (Nat × List (List Nat))) := []
def dd137 : List (Nat × List Nat) := [(0, [0, 6]), (1, [11, 12]), (3, [13]), (4, [15, 16]), (5, [17, 18, 19, 20, 21, 22, 23, 24, 25, 26, 27]), (6, [29, 30]), (7, [31, 32]), (9, [34, 35, 36]), (11, [38, 39, 40, 41, 42, 43]), (12, [44, 45, 46]), (13, [48, 49]), (14, [50]), (15, [52, 53]), (16, [54, 55, 56, 57, 58, 59]), (17, [61, 62, 63, 64, 65, 66]), (18, [67, 68, 69]), (19, [71, 72]), (20, [73, 74]), (21, [76, 77]), (22, [78, 79, 80, 81, 82, 83]), (23, [85, 86, 87, 88, 89, 90])]
theorem drOk137 : drAll dr137 (Tryz.f137.body.getD .skip) = true := by kernel_rfl
def dr138 : List (Nat × (Nat × List (List Nat))) := []
def dd138 : List (Nat × List Nat) := [(0, [0, 8]), (1, [3, 11, 12, 13, 14, 15]), (2, [2, 16, 17, 18, 19]), (3, [20, 21, 22, 23, 24, 25, 26, 27, 28, 29]), (4, [31, 32]), (5, [33, 34, 35, 36, 37, 38, 39, 40, 41]), (6, [43, 44]), (7, [45, 46]), (8, [48, 49, 50, 51, 52]), (9, [53, 54]), (10, [55, 56]), (11, [9, 57])]
theorem drOk138 : drAll dr138 (Tryz.f138.body.getD .skip) = true := by kernel_rfl
def dr139 : List (Nat × (Nat × List (List Nat))) := []
def dd139 : List (Nat × List Nat) := [(0, [0, 8, 9]), (1, [3, 12, 13, 14, 15, 16]), (2, [2, 17, 18, 19, 20]), (3, [21, 22, 23, 24, 25, 26, 27, 28, 29]), (4, [31, 32]), (5, [33, 34, 35, 36, 37, 38, 39, 40, 41, 42]), (6, [44, 45]), (7, [46, 47]), (8, [1, 4, 49, 50, 51, 52, 53]), (9, [11, 54]), (10, [55, 56, 57, 58, 59]), (11, [60, 61]), (12, [62, 63]), (13, [64, 65, 66, 67, 68, 69, 70, 71, 72]), (14, [74, 75]), (15, [76, 77, 78, 79, 80, 81, 82, 83, 84, 85]), (16, [87, 88]), (17, [89, 90]), (18, [92, 93, 94, 95, 96]), (19, [97, 98]), (20, [99, 100]), (21, [1, 4, 101, 102, 103, 104, 105]), (22, [11, 106])]
theorem drOk139 : drAll dr139 (Tryz.f139.body.getD .skip) = true := by kernel_rfl
def dr179 : List (Nat × (Nat × List (List Nat))) := []
def dd179 : List (Nat × List Nat) := [(0, [0]), (1, [1, 10]), (2, [11, 12, 13]), (3, [14, 15]), (4, [17, 18, 19, 20, 21, 22, 23, 24, 25, 26, 27, 28, 29, 30, 31]), (5, [33, 34]), (6, [35, 36, 37, 38, 39, 40, 41, 42, 43]), (7, [8, 45, 46, 47, 48, 49, 50, 51, 52, 53]), (8, [9, 54])]
theorem drOk179 : drAll dr179 (Tryz.f179.body.getD .skip) = true := by kernel_rfl
def dr181 : List (Nat × (Nat × List (List Nat))) := [(1, (9, [])), (2, (9, [])), (3, (9, []))]
def dd181 : List (Nat × List Nat) := [(0, [2]), (1, [3, 4, 5, 6, 7, 8, 9, 10, 11]), (2, [12, 13, 14, 15, 16, 17, 18, 19, 20]), (3, [21, 22, 23, 24, 25, 26, 27, 28, 29]), (4, [0, 30, 31, 32])]
theorem drOk181 : drAll dr181 (Tryz.f181.body.getD .skip) = true := by kernel_rfl
def dr182 : List (Nat × (Nat × List (List Nat))) := []
def dd182 : List (Nat × List Nat) := [(0, [0, 6]), (1, [1, 2, 3, 7, 8, 9, 10, 11, 12, 13, 14])]
theorem drOk182 : drAll dr182 (Tryz.f182.body.getD .skip) = true := by kernel_rfl
def dr183 : List (Nat × (Nat × List (List Nat))) := []
def dd183 : List (Nat × List Nat) := [(0, [0, 10]), (1, [11, 12, 13, 14, 15, 16, 17, 18]), (2, [3, 19, 20, 21, 22, 23, 24, 25, 26]), (3, [1, 4, 5, 27, 28, 29, 30, 31, 32, 33, 34]), (4, [2, 35])]
theorem drOk183 : drAll dr183 (Tryz.f183.body.getD .skip) = true := by kernel_rfl
def dr211 : List (Nat × (Nat × List (List Nat))) := []
def dd211 : List (Nat × List Nat) := [(0, [0, 8, 9]), (1, [4, 10, 11, 12, 13]), (2, [3, 15, 16, 17, 18, 19]), (3, [1, 2, 20, 21]), (4, [1, 2, 22, 23])]
theorem drOk211 : drAll dr211 (Tryz.f211.body.getD .skip) = true := by kernel_rfl
def mkX (Φ : FuncId → List V → Option (V × List Blk)) (nv : Nat → Option (TypeId × Nat)) (fz : Nat → List Nat) (dr : List (Nat × (Nat × List (List Nat)))) (dd : List (Nat × List Nat)) (lam : Lam) (ms : Mts) : Ctx := ⟨tyF, Φ, nv, fz, fun i => (Ev.look i dd).getD [], dr, eqsL, fun g => Ev.look g lam, fun g => Ev.look g ms.mt, ms.ln, fun g => Ev.look g ms.st⟩
section
variable (Φ : FuncId → List V → Option (V × List Blk)) (nv : Nat → Option (TypeId × Nat)) (fz : Nat → List Nat) (dr : List (Nat × (Nat × List (List Nat)))) (dd : List (Nat × List Nat)) (lam : Lam) (ms : Mts)
theorem mkX_T : (mkX Φ nv fz dr dd lam ms).T = tyF := rfl
theorem mkX_Φ : (mkX Φ nv fz dr dd lam ms).Φ = Φ := rfl
theorem mkX_n : (mkX Φ nv fz dr dd lam ms).nilv = nv := rfl
theorem mkX_f : (mkX Φ nv fz dr dd lam ms).frz = fz := rfl
theorem mkX_d (i : Nat) : (mkX Φ nv fz dr dd lam ms).dead i = (Ev.look i dd).getD [] := rfl
theorem mkX_r : (mkX Φ nv fz dr dd lam ms).dr = dr := rfl
theorem mkX_L (g : FuncId) : (mkX Φ nv fz dr dd lam ms).Λ g = Ev.look g lam := rfl
theorem mkX_M (g : FuncId) : (mkX Φ nv fz dr dd lam ms).M g = Ev.look g ms.mt := rfl
theorem mkX_S (g : FuncId) : (mkX Φ nv fz dr dd lam ms).S g = Ev.look g ms.st := rfl
theorem mkX_ln (i : Nat) : (mkX Φ nv fz dr dd lam ms).lnd i = ms.ln i := rfl
theorem mkX_e : (mkX Φ nv fz dr dd lam ms).eqs = eqsL := rfl
theorem tyOk : TOkX Tryz.prog (mkX Φ nv fz dr dd lam ms) := ⟨TOk_of tabAll, fun t ht => List.all_eq_true.1 eqsOk t ht⟩
end
def nv0 : Nat → Option (TypeId × Nat) := fun _ => none
def fz0 : Nat → List Nat := fun _ => []
theorem mapO_nil {α β : Type} (f : α → Option β) : ([] : List α).mapM f = some [] := rfl
theorem mapO_cons {α β : Type} (f : α → Option β) (a : α) (l : List α) : (a :: l).mapM f = (f a).bind fun y => (l.mapM f).bind fun ys => some (y :: ys) := by rw [List.mapM_cons]; rfl
theorem beqT (b : Bool) : (b == true) = b := by cases b <;> rfl
theorem beqF (b : Bool) : (b == false) = !b := by cases b <;> rfl
def nvL (l : List (Nat × (TypeId × Nat))) : Nat → Option (TypeId × Nat) := fun i => Ev.look i l
theorem nvL_at (l : List (Nat × (TypeId × Nat))) (i : Nat) : nvL l i = Ev.look i l := rfl
def fzL (l : List (Nat × List Nat)) : Nat → List Nat := fun i => (Ev.look i l).getD []
theorem fzL_at (l : List (Nat × List Nat)) (i : Nat) : fzL l i = (Ev.look i l).getD [] := rfl
def lnL (l : List (Nat × List Nat)) : Nat → List Nat := fun i => (Ev.look i l).getD []
theorem lnL_at (l : List (Nat × List Nat)) (i : Nat) : lnL l i = (Ev.look i l).getD [] := rfl
theorem maxLen_eq : maxLen = 9223372036854775807 := rfl
theorem leT {a b : Nat} (h : a ≤ b) : (a ≤ b) = True := by simp [h]
theorem plainI (k : IntKind) (l : List Int) : ((l.map (V.int k)).all fun v => V.plain v && V.data v) = true := by
 rw [List.all_eq_true]
 intro v hv
 obtain ⟨n, _, rfl⟩ := List.mem_map.1 hv
 rfl
theorem bin_eql_vz (b : Nat) : binV .eql (.vec b) .zero = none := rfl
theorem bin_eql_zv (b : Nat) : binV .eql .zero (.vec b) = none := rfl
theorem bin_eql_rz (z : Nat) (es : List V) : binV .eql (.row z es) .zero = none := rfl
theorem bin_eql_zr (z : Nat) (es : List V) : binV .eql .zero (.row z es) = none := rfl
theorem bin_eql_zz : binV .eql .zero .zero = none := rfl
theorem bin_neq_vz (b : Nat) : binV .neq (.vec b) .zero = none := rfl
theorem bin_neq_zv (b : Nat) : binV .neq .zero (.vec b) = none := rfl
theorem bin_neq_rz (z : Nat) (es : List V) : binV .neq (.row z es) .zero = none := rfl
theorem bin_neq_zr (z : Nat) (es : List V) : binV .neq .zero (.row z es) = none := rfl
theorem bin_neq_zz : binV .neq .zero .zero = none := rfl
theorem nv0_at (i : Nat) : nv0 i = none := rfl
theorem fz0_at (i : Nat) : fz0 i = [] := rfl
theorem evFn {J : World → Prop} {l : Phi} (hl : PhiOk Tryz.prog J l) (hJ : Stable J) {nv : Nat → Option (TypeId × Nat)} {fz : Nat → List Nat} {dr : List (Nat × (Nat × List (List Nat)))} {dd : List (Nat × List Nat)} {lam : Lam} (hlam : LamOk Tryz.prog J lam) {ms : Mts} (hms : MtsOk Tryz.prog J ms) {f : FuncId} {fn : Func} {args : List V} {r : V} {bs : List Blk}
  (hf : Tryz.prog.funcs[f]? = some fn) (hname : (fn.name == "runtime.NumGoroutine") = false) (hb : fn.body.isSome = true) (hn : args.length ≤ fn.ntmps) (hsm : fn.ntmps ≤ 100000) (hdr : drAll dr (fn.body.getD .skip) = true)
  (h : ev (mkX (phi l) nv fz dr dd lam ms) fn.ntmps (fn.body.getD .skip) (St.init args) (post (mkX (phi l) nv fz dr dd lam ms) fn.results.toList r bs)) : SoundAt Tryz.prog J f args r bs :=
 sound_fn (X := mkX (phi l) nv fz dr dd lam ms) mixOk (tyOk _ _ _ _ _ _ _) (lamAll_of hlam hms rfl rfl rfl) (phi_sound hl) hJ hf hname (by cases hc : fn.body <;> simp_all) hn hsm hdr h
theorem evMut {J : World → Prop} {l : Phi} (hl : PhiOk Tryz.prog J l) (hJ : Stable J) {nv : Nat → Option (TypeId × Nat)} {fz : Nat → List Nat} {dr : List (Nat × (Nat × List (List Nat)))} {dd : List (Nat × List Nat)} {lam : Lam} (hlam : LamOk Tryz.prog J lam) {ms : Mts} (hms : MtsOk Tryz.prog J ms) {f : FuncId} {fn : Func} {ks ks' : List Blk} {args : List V} {r : V}
  (hf : Tryz.prog.funcs[f]? = some fn) (hname : (fn.name == "runtime.NumGoroutine") = false) (hb : fn.body.isSome = true) (hn : args.length ≤ fn.ntmps) (hsm : fn.ntmps ≤ 100000) (hdr : drAll dr (fn.body.getD .skip) = true) (hlen : ks'.length = ks.length) (hr : V.lone r = true) (hks : ∀ k ∈ ks', Blk.lone k = true)
  (h : ev (mkX (phi l) nv fz dr dd lam ms) fn.ntmps (fn.body.getD .skip) (St.mut ks args) (postM (mkX (phi l) nv fz dr dd lam ms) fn.results.toList r ks')) : MutAt Tryz.prog J f ks args r ks' :=
 sound_mut (X := mkX (phi l) nv fz dr dd lam ms) mixOk (tyOk _ _ _ _ _ _ _) (lamAll_of hlam hms rfl rfl rfl) (phi_sound hl) hJ hf hname (by cases hc : fn.body <;> simp_all) hn hsm hdr hlen hr hks h
theorem callOk {f : FuncId} {fn : Func} (hf : Tryz.prog.funcs[f]? = some fn) (hname : (fn.name == "runtime.NumGoroutine") = false) (hb : fn.body.isNone = false) : Callable Tryz.prog f := ⟨fn, hf, hname, hb⟩
attribute [go_sem] orE_some orE_none ifcQ_nil ofC_nilI bin_eql_raw bin_neq_raw bin_eql_ifc bin_neq_ifc evP_P evH_zero evH_cons hpA_eq hpB_eq augH_eq appP nrEff mutV getB mvB bkB V.mv V.mvL V.bk V.bkL Blk.mv Blk.bk posN nmN backN noDup app_writes setHL_nil setHL_cons postM_ret postM_normal resM hasB_nil hasB_cons St.mut names_nil names_cons sortV cellOf mkX_M mkX_S mkX_ln lnL_at ms0_mt ms0_st V.lone V.loneL List.zip_cons_cons List.zip_nil_left Option.isNone_none bornV subE partR unB bytesW boundsV ownP sliceW copyV clearV lenM takeV tk1 mapsV mkMapV hintOk lookV updV mapKE keyOk V.key app_lend callW_fn lendV postL_ret postL_normal postT_ret postT_normal takeR St.lent mkX_L bin_eql_vz bin_eql_zv bin_eql_rz bin_eql_zr bin_eql_zz bin_neq_vz bin_neq_zv bin_neq_rz bin_neq_zr bin_neq_zz eqH nilEq nonE plainI gOf_bool gOf_skip g_some g_none Int.ofNat_zero Int.cast_ofNat_Int Bool.false_and Bool.and_false sliceV Int.reduceEq Int.reduceLT Int.reduceLE Int.reduceNeg noBox elemsZ V.scrub V.scrubL Blk.scrub appendV isSlice maxLen_eq leT List.contains_nil List.contains_cons nvL_at fzL_at fillV V.plain V.plainL Blk.plain List.size_toArray mapO_nil mapO_cons Option.isNone_some beqT beqF oI_not mkX_e phi_nil phi_cons bin_eql_bool bin_neq_bool bin_eql_agg bin_neq_agg eqV eqFs eqK_int eqK_bool' eqK_str mkX_T mkX_Φ mkX_n mkX_f mkX_d mkX_r nv0_at fz0_at evQ_dr evP_W evW_nil evW_cons evW_guard okW_eq tame_none tame_new tame_write wb_none wb_new wb_write okU_some offW_none offW_some touchOf V.noRef V.noRefL Option.isSome_some Option.isSome_none mild_none mild_new Option.getD_some Option.getD_none evQ_seq evQ_region evQ_block evQ_cond evQ_ret evQ_skip evQ_exit evO_cons evO_nil evO_guard freezeL_nil oS_some oS_none oS_ite oS_ite' oB_bool oI_true oI_false oE_normal oE_exit oE_ret bQ_normal bQ_ret bQ_exit lQ_normal lQ_ret lQ_exit List.zipIdx_cons List.zipIdx_nil List.map_cons List.map_nil evalOp opd_const opd_tmp opd_func ofC_int ofC_bool ofC_str ofC_nil app_none app_new app_write app_change putE_some putE_none setA_cons setA_nil setH_cons setH_nil mapA_cons mapA_nil look_cons look_nil e_mk h_mk drop_nil drop_mk keep_mk Nat.reduceAdd Nat.reduceLT Nat.reduceEqDiff Nat.reduceMul Nat.reduceLeDiff reduceIte dstOk_some dstOk_none guardT_eq true_and and_true Bool.not_false Bool.not_true selB_true selB_false Nat.reduceBEq mem_nil mem_cons kpL_nil kpL_cons drL_nil drL_cons closed_mk V.refsIn V.refsInL Blk.refsIn List.all_cons List.all_nil lenV bin_add bin_sub bin_mul bin_quo bin_rem bin_eql bin_neq bin_lss bin_leq bin_gtr bin_geq un_neg un_not post_ret post_normal St.init reduceCtorEq Bool.false_eq_true List.length_map Bool.or_false Bool.or_true Bool.false_or Bool.true_or beq_self_eq_true Option.map_some Option.map_none Option.bind_some List.getElem?_cons_zero List.getElem?_cons_succ scalar stor isAggV V.cells List.cons_append List.nil_append if_true if_false wrap_of callV V.dataL V.data Bool.and_true Bool.true_and fresh names V.ren V.renL retV resV packL packV packC getBlks wrapR subV putV decide_true decide_false TK.agg List.length_cons List.length_nil List.take_succ_cons List.take_zero List.drop_succ_cons List.drop_zero List.take_nil List.drop_nil Nat.zero_add Nat.add_zero List.append_nil List.getElem?_nil elemsV ro ro0 ro1 roC ty1 ty2 ty3 ty4 ty5 ty6 ty7 ty8 ty9 ty10 ty11 ty12 ty13 ty14 ty16 ty17 ty18 ty19 ty20 ty21 ty22 ty23 ty24 ty25 ty26 ty28 ty29 ty36 ty38 ty39 ty40 ty41 ty44 ty45 ty46 ty48 ty49 ty50 ty51 ty52 ty54 ty55 ty56 ty57 ty58 ty59 ty60 ty61 ty64 ty65 ty66 ty67 ty68 ty69 ty70 ty73 ty74 ty78 ty79 ty80 ty82 ty84 ty85 ty87 ty90 ty92 ty97 ty98 ty99 ty100 ty102 ty103 ty104 ty105 ty106 ty107 ty108 ty109 ty110 ty111 ty112 ty113 ty114 ty115 ty116 ty118 ty119 ty120 ty121 ty122 ty125 ty126 ty128 ty129 ty130 ty132 ty133 ty136 ty140 ty141 ty145 ty148 ty149 ty152 ty153 ty154 ty155 ty157 ty159 ty163 ty169 ty171 ty175 ty178 ty180 ty192 ty193 ty195 ty199 ty202 ty212 ty215 ty216 ty220 ty224 ty228 ty229 ty230 ty232 ty233 ty234 ty235 ty242 ty243 ty244 ty245 ty246 ty247 ty248 eqs61 eqs78 eqs140 eqs188
end Go.Proofs.YtdmkmbaaemhhhaaGreatDoor
