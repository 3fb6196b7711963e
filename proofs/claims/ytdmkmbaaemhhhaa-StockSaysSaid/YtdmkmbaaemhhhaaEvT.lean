/-
  The seat's types as the machine reads them, and the regions that draw their order (written by a program).
-/
import Derived.Test.YtdmkmbaaemhhhaaEw
import Derived.Test.YtdmkmbaaemhhhaaProg
import Derived.KernelRfl
namespace Go.Proofs.Ytdmkmbaaemhhhaa
open Go Go.Ev
def tab : List (TypeId × TI) := [
  (1, ⟨.other, 1, 8, .undef⟩),
  (2, ⟨(.int .i64), 1, 8, (.int .i64 0)⟩),
  (3, ⟨(.int .i64), 1, 8, (.int .i64 0)⟩),
  (4, ⟨.bool, 1, 1, (.bool false)⟩),
  (5, ⟨(.int .u8), 1, 1, (.int .u8 0)⟩),
  (6, ⟨(.int .u8), 1, 1, (.int .u8 0)⟩),
  (7, ⟨(.struct [(0, 1, 2), (1, 1, 3), (2, 1, 4), (3, 1, 6)]), 4, 24, (.agg [(.int .i64 0), (.int .i64 0), (.bool false), (.int .u8 0)])⟩),
  (8, ⟨(.struct [(0, 1, 2), (1, 1, 3), (2, 1, 4), (3, 1, 6)]), 4, 24, (.agg [(.int .i64 0), (.int .i64 0), (.bool false), (.int .u8 0)])⟩),
  (9, ⟨.str, 1, 16, (.str ByteArray.empty)⟩),
  (10, ⟨.str, 1, 16, (.str ByteArray.empty)⟩),
  (11, ⟨.str, 1, 16, (.str ByteArray.empty)⟩),
  (12, ⟨(.int .u64), 1, 8, (.int .u64 0)⟩),
  (13, ⟨(.struct [(0, 1, 9), (1, 1, 12)]), 2, 24, (.agg [(.str ByteArray.empty), (.int .u64 0)])⟩),
  (14, ⟨(.struct [(0, 1, 9), (1, 1, 12)]), 2, 24, (.agg [(.str ByteArray.empty), (.int .u64 0)])⟩),
  (15, ⟨.other, 1, 8, .undef⟩),
  (16, ⟨.other, 1, 8, .undef⟩),
  (17, ⟨.other, 1, 8, .undef⟩),
  (18, ⟨(.struct [(0, 1, 17)]), 1, 8, (.agg [.undef])⟩),
  (19, ⟨(.struct [(0, 1, 17)]), 1, 8, (.agg [.undef])⟩),
  (20, ⟨.iface, 1, 16, .undef⟩),
  (21, ⟨(.int .i32), 1, 4, (.int .i32 0)⟩),
  (22, ⟨(.slice 47), 1, 24, .zero⟩),
  (23, ⟨(.slice 3), 1, 24, .zero⟩),
  (24, ⟨(.slice 29), 1, 24, .zero⟩),
  (25, ⟨(.int .i64), 1, 8, (.int .i64 0)⟩),
  (27, ⟨.other, 1, 8, .undef⟩),
  (28, ⟨(.struct [(0, 1, 3), (1, 1, 3)]), 2, 16, (.agg [(.int .i64 0), (.int .i64 0)])⟩),
  (29, ⟨(.struct [(0, 1, 3), (1, 1, 3)]), 2, 16, (.agg [(.int .i64 0), (.int .i64 0)])⟩),
  (31, ⟨.other, 1, 8, .undef⟩),
  (32, ⟨.other, 1, 8, .undef⟩),
  (34, ⟨.other, 1, 8, .undef⟩),
  (36, ⟨.other, 1, 8, .undef⟩),
  (37, ⟨.other, 1, 8, .undef⟩),
  (38, ⟨.other, 1, 8, .undef⟩),
  (39, ⟨.other, 1, 8, .undef⟩),
  (41, ⟨.other, 1, 8, .undef⟩),
  (42, ⟨.other, 1, 8, .undef⟩),
  (43, ⟨.other, 1, 8, .undef⟩),
  (44, ⟨.other, 1, 8, .undef⟩),
  (45, ⟨.other, 1, 8, .undef⟩),
  (46, ⟨(.slice 29), 1, 24, .zero⟩),
  (47, ⟨(.struct [(0, 1, 3), (1, 1, 3)]), 2, 16, (.agg [(.int .i64 0), (.int .i64 0)])⟩),
  (49, ⟨.other, 1, 8, .undef⟩),
  (50, ⟨.other, 1, 8, .undef⟩),
  (51, ⟨.other, 1, 8, .undef⟩),
  (52, ⟨(.slice 54), 1, 24, .zero⟩),
  (53, ⟨(.struct [(0, 1, 3), (1, 1, 3), (2, 1, 3)]), 3, 24, (.agg [(.int .i64 0), (.int .i64 0), (.int .i64 0)])⟩),
  (54, ⟨(.struct [(0, 1, 3), (1, 1, 3), (2, 1, 3)]), 3, 24, (.agg [(.int .i64 0), (.int .i64 0), (.int .i64 0)])⟩),
  (56, ⟨.other, 1, 8, .undef⟩),
  (57, ⟨.other, 1, 8, .undef⟩),
  (58, ⟨.other, 1, 8, .undef⟩),
  (59, ⟨.other, 1, 8, .undef⟩),
  (60, ⟨(.slice 62), 1, 24, .zero⟩),
  (61, ⟨(.struct [(0, 1, 3), (1, 1, 3), (2, 1, 3)]), 3, 24, (.agg [(.int .i64 0), (.int .i64 0), (.int .i64 0)])⟩),
  (62, ⟨(.struct [(0, 1, 3), (1, 1, 3), (2, 1, 3)]), 3, 24, (.agg [(.int .i64 0), (.int .i64 0), (.int .i64 0)])⟩),
  (63, ⟨.other, 1, 8, .undef⟩),
  (64, ⟨.other, 1, 8, .undef⟩),
  (65, ⟨.other, 1, 8, .undef⟩),
  (66, ⟨.other, 1, 8, .undef⟩),
  (67, ⟨.other, 1, 8, .undef⟩),
  (69, ⟨(.int .u64), 1, 8, (.int .u64 0)⟩),
  (70, ⟨(.struct [(0, 1, 17), (1, 1, 68), (2, 1, 69)]), 3, 24, (.agg [.undef, .undef, (.int .u64 0)])⟩),
  (71, ⟨(.struct [(0, 1, 17), (1, 1, 68), (2, 1, 69)]), 3, 24, (.agg [.undef, .undef, (.int .u64 0)])⟩),
  (72, ⟨.other, 1, 8, .undef⟩),
  (73, ⟨.other, 1, 8, .undef⟩),
  (74, ⟨.other, 1, 8, .undef⟩),
  (75, ⟨.other, 1, 8, .undef⟩),
  (76, ⟨(.struct [(0, 1, 64), (1, 1, 73)]), 2, 16, (.agg [.undef, .undef])⟩),
  (77, ⟨(.struct [(0, 1, 64), (1, 1, 73)]), 2, 16, (.agg [.undef, .undef])⟩),
  (78, ⟨.other, 1, 8, .undef⟩),
  (79, ⟨(.struct [(0, 1, 17)]), 1, 8, (.agg [.undef])⟩),
  (80, ⟨(.struct [(0, 1, 17)]), 1, 8, (.agg [.undef])⟩),
  (81, ⟨.other, 1, 8, .undef⟩),
  (82, ⟨.other, 1, 8, .undef⟩),
  (83, ⟨.other, 1, 8, .undef⟩),
  (84, ⟨(.int .u64), 1, 8, (.int .u64 0)⟩),
  (85, ⟨.other, 1, 8, .undef⟩),
  (86, ⟨(.struct [(0, 1, 17), (1, 1, 17), (2, 1, 17), (3, 1, 9)]), 4, 40, (.agg [.undef, .undef, .undef, (.str ByteArray.empty)])⟩),
  (87, ⟨(.struct [(0, 1, 17), (1, 1, 17), (2, 1, 17), (3, 1, 9)]), 4, 40, (.agg [.undef, .undef, .undef, (.str ByteArray.empty)])⟩),
  (91, ⟨(.int .u32), 1, 4, (.int .u32 0)⟩),
  (92, ⟨(.int .u8), 1, 1, (.int .u8 0)⟩),
  (93, ⟨(.int .u8), 1, 1, (.int .u8 0)⟩),
  (94, ⟨.other, 1, 8, .undef⟩),
  (95, ⟨.other, 1, 8, .undef⟩),
  (96, ⟨(.int .i32), 1, 4, (.int .i32 0)⟩),
  (97, ⟨(.int .i32), 1, 4, (.int .i32 0)⟩),
  (98, ⟨(.struct [(0, 1, 12), (1, 1, 12), (2, 1, 91), (3, 1, 92), (4, 1, 5), (5, 1, 5), (6, 1, 93), (7, 1, 94), (8, 1, 95), (9, 1, 96), (10, 1, 97)]), 11, 48, (.agg [(.int .u64 0), (.int .u64 0), (.int .u32 0), (.int .u8 0), (.int .u8 0), (.int .u8 0), (.int .u8 0), .undef, .undef, (.int .i32 0), (.int .i32 0)])⟩),
  (99, ⟨(.struct [(0, 1, 12), (1, 1, 12), (2, 1, 91), (3, 1, 92), (4, 1, 5), (5, 1, 5), (6, 1, 93), (7, 1, 94), (8, 1, 95), (9, 1, 96), (10, 1, 97)]), 11, 48, (.agg [(.int .u64 0), (.int .u64 0), (.int .u32 0), (.int .u8 0), (.int .u8 0), (.int .u8 0), (.int .u8 0), .undef, .undef, (.int .i32 0), (.int .i32 0)])⟩),
  (100, ⟨(.struct [(0, 1, 9), (1, 1, 93)]), 2, 24, (.agg [(.str ByteArray.empty), (.int .u8 0)])⟩),
  (101, ⟨(.struct [(0, 1, 9), (1, 1, 93)]), 2, 24, (.agg [(.str ByteArray.empty), (.int .u8 0)])⟩)]
def tyF : TypeId → Option TI := fun t => tab.lookup t
theorem tabAll : (tab.all fun (t, i) => tiOk Try.prog t i) = true := by kernel_rfl
def eqsL : List TypeId := [29, 47, 54, 62]
theorem eqsOk : (eqsL.all fun t => eqOkB Try.prog t) = true := by kernel_rfl
theorem mixOk : Try.prog.follows .mixedOrders = true := by kernel_rfl
theorem ty1 : tyF 1 = some ⟨.other, 1, 8, .undef⟩ := rfl
theorem ty2 : tyF 2 = some ⟨(.int .i64), 1, 8, (.int .i64 0)⟩ := rfl
theorem ty3 : tyF 3 = some ⟨(.int .i64), 1, 8, (.int .i64 0)⟩ := rfl
theorem ty4 : tyF 4 = some ⟨.bool, 1, 1, (.bool false)⟩ := rfl
theorem ty5 : tyF 5 = some ⟨(.int .u8), 1, 1, (.int .u8 0)⟩ := rfl
theorem ty6 : tyF 6 = some ⟨(.int .u8), 1, 1, (.int .u8 0)⟩ := rfl
theorem ty7 : tyF 7 = some ⟨(.struct [(0, 1, 2), (1, 1, 3), (2, 1, 4), (3, 1, 6)]), 4, 24, (.agg [(.int .i64 0), (.int .i64 0), (.bool false), (.int .u8 0)])⟩ := rfl
theorem ty8 : tyF 8 = some ⟨(.struct [(0, 1, 2), (1, 1, 3), (2, 1, 4), (3, 1, 6)]), 4, 24, (.agg [(.int .i64 0), (.int .i64 0), (.bool false), (.int .u8 0)])⟩ := rfl
theorem ty9 : tyF 9 = some ⟨.str, 1, 16, (.str ByteArray.empty)⟩ := rfl
theorem ty10 : tyF 10 = some ⟨.str, 1, 16, (.str ByteArray.empty)⟩ := rfl
theorem ty11 : tyF 11 = some ⟨.str, 1, 16, (.str ByteArray.empty)⟩ := rfl
theorem ty12 : tyF 12 = some ⟨(.int .u64), 1, 8, (.int .u64 0)⟩ := rfl
theorem ty13 : tyF 13 = some ⟨(.struct [(0, 1, 9), (1, 1, 12)]), 2, 24, (.agg [(.str ByteArray.empty), (.int .u64 0)])⟩ := rfl
theorem ty14 : tyF 14 = some ⟨(.struct [(0, 1, 9), (1, 1, 12)]), 2, 24, (.agg [(.str ByteArray.empty), (.int .u64 0)])⟩ := rfl
theorem ty15 : tyF 15 = some ⟨.other, 1, 8, .undef⟩ := rfl
theorem ty16 : tyF 16 = some ⟨.other, 1, 8, .undef⟩ := rfl
theorem ty17 : tyF 17 = some ⟨.other, 1, 8, .undef⟩ := rfl
theorem ty18 : tyF 18 = some ⟨(.struct [(0, 1, 17)]), 1, 8, (.agg [.undef])⟩ := rfl
theorem ty19 : tyF 19 = some ⟨(.struct [(0, 1, 17)]), 1, 8, (.agg [.undef])⟩ := rfl
theorem ty20 : tyF 20 = some ⟨.iface, 1, 16, .undef⟩ := rfl
theorem ty21 : tyF 21 = some ⟨(.int .i32), 1, 4, (.int .i32 0)⟩ := rfl
theorem ty22 : tyF 22 = some ⟨(.slice 47), 1, 24, .zero⟩ := rfl
theorem ty23 : tyF 23 = some ⟨(.slice 3), 1, 24, .zero⟩ := rfl
theorem ty24 : tyF 24 = some ⟨(.slice 29), 1, 24, .zero⟩ := rfl
theorem ty25 : tyF 25 = some ⟨(.int .i64), 1, 8, (.int .i64 0)⟩ := rfl
theorem ty27 : tyF 27 = some ⟨.other, 1, 8, .undef⟩ := rfl
theorem ty28 : tyF 28 = some ⟨(.struct [(0, 1, 3), (1, 1, 3)]), 2, 16, (.agg [(.int .i64 0), (.int .i64 0)])⟩ := rfl
theorem ty29 : tyF 29 = some ⟨(.struct [(0, 1, 3), (1, 1, 3)]), 2, 16, (.agg [(.int .i64 0), (.int .i64 0)])⟩ := rfl
theorem ty31 : tyF 31 = some ⟨.other, 1, 8, .undef⟩ := rfl
theorem ty32 : tyF 32 = some ⟨.other, 1, 8, .undef⟩ := rfl
theorem ty34 : tyF 34 = some ⟨.other, 1, 8, .undef⟩ := rfl
theorem ty36 : tyF 36 = some ⟨.other, 1, 8, .undef⟩ := rfl
theorem ty37 : tyF 37 = some ⟨.other, 1, 8, .undef⟩ := rfl
theorem ty38 : tyF 38 = some ⟨.other, 1, 8, .undef⟩ := rfl
theorem ty39 : tyF 39 = some ⟨.other, 1, 8, .undef⟩ := rfl
theorem ty41 : tyF 41 = some ⟨.other, 1, 8, .undef⟩ := rfl
theorem ty42 : tyF 42 = some ⟨.other, 1, 8, .undef⟩ := rfl
theorem ty43 : tyF 43 = some ⟨.other, 1, 8, .undef⟩ := rfl
theorem ty44 : tyF 44 = some ⟨.other, 1, 8, .undef⟩ := rfl
theorem ty45 : tyF 45 = some ⟨.other, 1, 8, .undef⟩ := rfl
theorem ty46 : tyF 46 = some ⟨(.slice 29), 1, 24, .zero⟩ := rfl
theorem ty47 : tyF 47 = some ⟨(.struct [(0, 1, 3), (1, 1, 3)]), 2, 16, (.agg [(.int .i64 0), (.int .i64 0)])⟩ := rfl
theorem ty49 : tyF 49 = some ⟨.other, 1, 8, .undef⟩ := rfl
theorem ty50 : tyF 50 = some ⟨.other, 1, 8, .undef⟩ := rfl
theorem ty51 : tyF 51 = some ⟨.other, 1, 8, .undef⟩ := rfl
theorem ty52 : tyF 52 = some ⟨(.slice 54), 1, 24, .zero⟩ := rfl
theorem ty53 : tyF 53 = some ⟨(.struct [(0, 1, 3), (1, 1, 3), (2, 1, 3)]), 3, 24, (.agg [(.int .i64 0), (.int .i64 0), (.int .i64 0)])⟩ := rfl
theorem ty54 : tyF 54 = some ⟨(.struct [(0, 1, 3), (1, 1, 3), (2, 1, 3)]), 3, 24, (.agg [(.int .i64 0), (.int .i64 0), (.int .i64 0)])⟩ := rfl
theorem ty56 : tyF 56 = some ⟨.other, 1, 8, .undef⟩ := rfl
theorem ty57 : tyF 57 = some ⟨.other, 1, 8, .undef⟩ := rfl
theorem ty58 : tyF 58 = some ⟨.other, 1, 8, .undef⟩ := rfl
theorem ty59 : tyF 59 = some ⟨.other, 1, 8, .undef⟩ := rfl
theorem ty60 : tyF 60 = some ⟨(.slice 62), 1, 24, .zero⟩ := rfl
theorem ty61 : tyF 61 = some ⟨(.struct [(0, 1, 3), (1, 1, 3), (2, 1, 3)]), 3, 24, (.agg [(.int .i64 0), (.int .i64 0), (.int .i64 0)])⟩ := rfl
theorem ty62 : tyF 62 = some ⟨(.struct [(0, 1, 3), (1, 1, 3), (2, 1, 3)]), 3, 24, (.agg [(.int .i64 0), (.int .i64 0), (.int .i64 0)])⟩ := rfl
theorem ty63 : tyF 63 = some ⟨.other, 1, 8, .undef⟩ := rfl
theorem ty64 : tyF 64 = some ⟨.other, 1, 8, .undef⟩ := rfl
theorem ty65 : tyF 65 = some ⟨.other, 1, 8, .undef⟩ := rfl
theorem ty66 : tyF 66 = some ⟨.other, 1, 8, .undef⟩ := rfl
theorem ty67 : tyF 67 = some ⟨.other, 1, 8, .undef⟩ := rfl
theorem ty69 : tyF 69 = some ⟨(.int .u64), 1, 8, (.int .u64 0)⟩ := rfl
theorem ty70 : tyF 70 = some ⟨(.struct [(0, 1, 17), (1, 1, 68), (2, 1, 69)]), 3, 24, (.agg [.undef, .undef, (.int .u64 0)])⟩ := rfl
theorem ty71 : tyF 71 = some ⟨(.struct [(0, 1, 17), (1, 1, 68), (2, 1, 69)]), 3, 24, (.agg [.undef, .undef, (.int .u64 0)])⟩ := rfl
theorem ty72 : tyF 72 = some ⟨.other, 1, 8, .undef⟩ := rfl
theorem ty73 : tyF 73 = some ⟨.other, 1, 8, .undef⟩ := rfl
theorem ty74 : tyF 74 = some ⟨.other, 1, 8, .undef⟩ := rfl
theorem ty75 : tyF 75 = some ⟨.other, 1, 8, .undef⟩ := rfl
theorem ty76 : tyF 76 = some ⟨(.struct [(0, 1, 64), (1, 1, 73)]), 2, 16, (.agg [.undef, .undef])⟩ := rfl
theorem ty77 : tyF 77 = some ⟨(.struct [(0, 1, 64), (1, 1, 73)]), 2, 16, (.agg [.undef, .undef])⟩ := rfl
theorem ty78 : tyF 78 = some ⟨.other, 1, 8, .undef⟩ := rfl
theorem ty79 : tyF 79 = some ⟨(.struct [(0, 1, 17)]), 1, 8, (.agg [.undef])⟩ := rfl
theorem ty80 : tyF 80 = some ⟨(.struct [(0, 1, 17)]), 1, 8, (.agg [.undef])⟩ := rfl
theorem ty81 : tyF 81 = some ⟨.other, 1, 8, .undef⟩ := rfl
theorem ty82 : tyF 82 = some ⟨.other, 1, 8, .undef⟩ := rfl
theorem ty83 : tyF 83 = some ⟨.other, 1, 8, .undef⟩ := rfl
theorem ty84 : tyF 84 = some ⟨(.int .u64), 1, 8, (.int .u64 0)⟩ := rfl
theorem ty85 : tyF 85 = some ⟨.other, 1, 8, .undef⟩ := rfl
theorem ty86 : tyF 86 = some ⟨(.struct [(0, 1, 17), (1, 1, 17), (2, 1, 17), (3, 1, 9)]), 4, 40, (.agg [.undef, .undef, .undef, (.str ByteArray.empty)])⟩ := rfl
theorem ty87 : tyF 87 = some ⟨(.struct [(0, 1, 17), (1, 1, 17), (2, 1, 17), (3, 1, 9)]), 4, 40, (.agg [.undef, .undef, .undef, (.str ByteArray.empty)])⟩ := rfl
theorem ty91 : tyF 91 = some ⟨(.int .u32), 1, 4, (.int .u32 0)⟩ := rfl
theorem ty92 : tyF 92 = some ⟨(.int .u8), 1, 1, (.int .u8 0)⟩ := rfl
theorem ty93 : tyF 93 = some ⟨(.int .u8), 1, 1, (.int .u8 0)⟩ := rfl
theorem ty94 : tyF 94 = some ⟨.other, 1, 8, .undef⟩ := rfl
theorem ty95 : tyF 95 = some ⟨.other, 1, 8, .undef⟩ := rfl
theorem ty96 : tyF 96 = some ⟨(.int .i32), 1, 4, (.int .i32 0)⟩ := rfl
theorem ty97 : tyF 97 = some ⟨(.int .i32), 1, 4, (.int .i32 0)⟩ := rfl
theorem ty98 : tyF 98 = some ⟨(.struct [(0, 1, 12), (1, 1, 12), (2, 1, 91), (3, 1, 92), (4, 1, 5), (5, 1, 5), (6, 1, 93), (7, 1, 94), (8, 1, 95), (9, 1, 96), (10, 1, 97)]), 11, 48, (.agg [(.int .u64 0), (.int .u64 0), (.int .u32 0), (.int .u8 0), (.int .u8 0), (.int .u8 0), (.int .u8 0), .undef, .undef, (.int .i32 0), (.int .i32 0)])⟩ := rfl
theorem ty99 : tyF 99 = some ⟨(.struct [(0, 1, 12), (1, 1, 12), (2, 1, 91), (3, 1, 92), (4, 1, 5), (5, 1, 5), (6, 1, 93), (7, 1, 94), (8, 1, 95), (9, 1, 96), (10, 1, 97)]), 11, 48, (.agg [(.int .u64 0), (.int .u64 0), (.int .u32 0), (.int .u8 0), (.int .u8 0), (.int .u8 0), (.int .u8 0), .undef, .undef, (.int .i32 0), (.int .i32 0)])⟩ := rfl
theorem ty100 : tyF 100 = some ⟨(.struct [(0, 1, 9), (1, 1, 93)]), 2, 24, (.agg [(.str ByteArray.empty), (.int .u8 0)])⟩ := rfl
theorem ty101 : tyF 101 = some ⟨(.struct [(0, 1, 9), (1, 1, 93)]), 2, 24, (.agg [(.str ByteArray.empty), (.int .u8 0)])⟩ := rfl
theorem eqs29 : eqsL.contains 29 = true := rfl
theorem eqs47 : eqsL.contains 47 = true := rfl
theorem eqs54 : eqsL.contains 54 = true := rfl
theorem eqs62 : eqsL.contains 62 = true := rfl
def dr3 : List (Nat × (Nat × List (List Nat))) := []
def dd3 : List (Nat × List Nat) := [(0, [2]), (1, [14, 15, 16, 17, 18, 19]), (2, [20, 21, 22, 23, 24, 25]), (3, [26, 27]), (4, [28]), (5, [3, 4, 5, 6, 7, 8, 9, 30, 31, 32, 33, 34, 35, 36, 37, 38, 39, 40, 41, 42, 43, 44, 45, 46, 47, 48, 49, 50, 51, 52, 53, 54, 55, 56, 57]), (6, [58, 59, 60, 61, 62]), (7, [0, 63, 64, 65, 66, 67]), (8, [3, 4, 5, 6, 7, 8, 10, 11, 12, 13, 68, 69, 70, 71, 72, 73, 74, 75, 76, 77, 78, 79, 80, 81, 82, 83, 84, 85, 86, 87, 88, 89, 90, 91, 92, 93])]
theorem drOk3 : drAll dr3 (Try.f3.body.getD .skip) = true := by kernel_rfl
def dr4 : List (Nat × (Nat × List (List Nat))) := []
def dd4 : List (Nat × List Nat) := [(0, [6]), (1, [19, 20, 21, 22, 23, 24, 25]), (2, [26, 27, 28, 29, 30, 31]), (3, [32, 33, 34]), (4, [35]), (5, [36, 37, 38, 39, 40]), (7, [42]), (8, [7, 8, 12, 44, 45, 46, 47, 48, 49, 50]), (10, [0, 7, 8, 52, 53, 54, 55, 56, 57, 58, 59, 60, 61]), (12, [63]), (13, [9, 10, 11, 65, 66, 67, 68, 69, 70, 71, 72]), (17, [77, 78]), (18, [15, 79, 80, 81]), (19, [82]), (21, [2]), (23, [87, 88]), (24, [18, 89, 90, 91, 92, 93, 94, 95, 96, 97, 98, 99, 100, 101, 102]), (25, [103]), (26, [9, 10, 16, 104, 105, 106, 107, 108, 109, 110])]
theorem drOk4 : drAll dr4 (Try.f4.body.getD .skip) = true := by kernel_rfl
def dr5 : List (Nat × (Nat × List (List Nat))) := [(10, (0, [[], [], [], [], [], [], []]))]
def dd5 : List (Nat × List Nat) := [(0, [2, 3, 4]), (1, [12, 13]), (2, [14]), (3, [5, 16]), (6, [0]), (8, [21, 22]), (9, [23, 24]), (10, [9, 26, 27, 28, 29, 30, 31, 32, 33]), (11, [9, 34, 35, 36, 37, 38, 39, 40]), (12, [11, 41]), (14, [10, 43, 44, 45, 46]), (15, [47]), (16, [6, 7, 48, 49, 50])]
theorem drOk5 : drAll dr5 (Try.f5.body.getD .skip) = true := by kernel_rfl
def dr6 : List (Nat × (Nat × List (List Nat))) := [(10, (14, [[], [], [0, 1], [0, 1], [], [0, 1, 2, 3, 4], [0, 1, 2, 3, 4], [0, 1, 2, 3, 4, 5, 6], [0, 1, 2, 3, 4, 5, 6], [0, 1, 2, 3, 4], [7, 8, 9], [7, 8, 9], [], []])), (13, (23, [])), (17, (3, []))]
def dd6 : List (Nat × List Nat) := [(0, [2, 4]), (1, [11, 12]), (2, [13]), (3, [5, 15, 16]), (6, [0]), (8, [21, 22]), (9, [23, 24]), (10, [9, 26, 27, 28, 29, 30, 31, 32, 33, 34, 35, 36, 37]), (11, [38, 39, 40, 41, 42]), (12, [44]), (13, [45, 46, 47, 48, 49, 50, 51, 52, 53, 54, 55, 56, 57, 58, 59, 60, 61, 62, 63, 64, 65, 66]), (14, [9, 67, 68, 69, 70, 71, 72, 73, 74, 75, 76, 77]), (15, [10, 78, 79, 80, 81]), (16, [82]), (17, [6, 7, 83, 84])]
theorem drOk6 : drAll dr6 (Try.f6.body.getD .skip) = true := by kernel_rfl
def dr7 : List (Nat × (Nat × List (List Nat))) := []
def dd7 : List (Nat × List Nat) := [(0, [2]), (1, [8, 9]), (5, [15, 16]), (6, [17, 18, 19, 20, 21, 22, 23, 24, 25, 26, 27, 28, 29, 30]), (8, [4, 32, 33, 34, 35, 36, 37, 38]), (10, [40]), (12, [0]), (14, [45, 46]), (15, [7, 47, 48, 49, 50]), (16, [51]), (18, [53])]
theorem drOk7 : drAll dr7 (Try.f7.body.getD .skip) = true := by kernel_rfl
def dr8 : List (Nat × (Nat × List (List Nat))) := [(15, (10, []))]
def dd8 : List (Nat × List Nat) := [(0, [2, 3]), (4, [0]), (6, [24, 25]), (7, [26, 27]), (8, [29, 30, 31, 32, 33, 34, 35, 36, 37, 38, 39]), (9, [9, 40, 41, 42, 43]), (10, [9, 44, 45, 46, 47]), (14, [52, 53, 54]), (15, [55, 56, 57, 58, 59, 60, 61, 62]), (16, [63, 64]), (17, [66, 67]), (18, [68, 69, 70]), (19, [14, 72, 73, 74, 75, 76, 77, 78, 79, 80, 81, 82]), (20, [12, 13, 15, 83, 84, 85, 86, 87, 88, 89, 90, 91, 92, 93]), (21, [16, 94, 95, 96]), (22, [97]), (23, [10, 98]), (24, [11, 99, 100, 101, 102]), (25, [103]), (27, [4]), (29, [108, 109]), (30, [110, 111, 112, 113]), (31, [19, 115, 116, 117, 118, 119, 120, 121, 122, 123, 124, 125]), (32, [126]), (33, [7, 17, 127, 128])]
theorem drOk8 : drAll dr8 (Try.f8.body.getD .skip) = true := by kernel_rfl
def dr9 : List (Nat × (Nat × List (List Nat))) := [(9, (12, [])), (14, (3, []))]
def dd9 : List (Nat × List Nat) := [(0, [2]), (3, [0]), (5, [16, 17]), (6, [18, 19]), (7, [7, 21, 22, 23, 24, 25, 26, 27, 28, 29, 30, 31]), (8, [7, 32, 33, 34]), (9, [35, 36, 37, 38, 39, 40, 41, 42, 43, 44]), (10, [9, 10, 45, 46, 47, 48, 49, 50, 51, 52, 53, 54, 55, 56, 57, 58, 59]), (11, [8, 60, 61, 62, 63, 64, 65, 66, 67, 68]), (12, [11, 69, 70, 71, 72]), (13, [73]), (14, [4, 5, 74, 75])]
theorem drOk9 : drAll dr9 (Try.f9.body.getD .skip) = true := by kernel_rfl
def dr10 : List (Nat × (Nat × List (List Nat))) := [(6, (9, []))]
def dd10 : List (Nat × List Nat) := [(0, [4]), (1, [6, 7, 8, 9]), (3, [11]), (5, [15]), (6, [5, 16, 17, 18, 19, 20, 21, 22, 23]), (8, [25])]
theorem drOk10 : drAll dr10 (Try.f10.body.getD .skip) = true := by kernel_rfl
def dr11 : List (Nat × (Nat × List (List Nat))) := [(6, (9, []))]
def dd11 : List (Nat × List Nat) := [(0, [4]), (1, [6, 7, 8, 9]), (3, [11]), (5, [15]), (6, [5, 16, 17, 18, 19, 20, 21, 22, 23]), (8, [25])]
theorem drOk11 : drAll dr11 (Try.f11.body.getD .skip) = true := by kernel_rfl
def dr12 : List (Nat × (Nat × List (List Nat))) := [(14, (24, []))]
def dd12 : List (Nat × List Nat) := [(0, [6, 7]), (1, [14, 15, 16, 17, 18]), (3, [8, 20, 21, 22, 23, 24, 25]), (4, [26]), (5, [9, 28]), (6, [29, 30, 31]), (7, [1]), (12, [39, 40, 41]), (13, [42]), (14, [13, 44, 45, 46, 47, 48, 49, 50, 51, 52, 53, 54, 55, 56, 57, 58, 59, 60, 61, 62, 63, 64, 65, 66]), (15, [12, 68]), (16, [69]), (17, [11, 70, 71, 72, 73, 74, 75]), (18, [76]), (19, [10, 77])]
theorem drOk12 : drAll dr12 (Try.f12.body.getD .skip) = true := by kernel_rfl
def dr13 : List (Nat × (Nat × List (List Nat))) := []
def dd13 : List (Nat × List Nat) := [(0, [4, 5]), (1, [11, 12, 13, 14, 15, 16]), (2, [17]), (3, [7, 19]), (4, [20, 21, 22]), (5, [1]), (7, [27, 28, 29]), (8, [9, 10, 30, 31, 32, 33, 34, 35, 36, 37]), (9, [38]), (10, [8, 39])]
theorem drOk13 : drAll dr13 (Try.f13.body.getD .skip) = true := by kernel_rfl
def dr14 : List (Nat × (Nat × List (List Nat))) := []
def dd14 : List (Nat × List Nat) := [(0, [4]), (1, [5, 6]), (3, [0, 8, 9, 10, 11, 12, 13]), (5, [1, 15])]
theorem drOk14 : drAll dr14 (Try.f14.body.getD .skip) = true := by kernel_rfl
def dr15 : List (Nat × (Nat × List (List Nat))) := [(8, (15, []))]
def dd15 : List (Nat × List Nat) := [(0, [6]), (4, [18, 19, 20]), (6, [21, 22, 23, 24, 25, 26]), (7, [28, 29]), (8, [30, 31, 32, 33, 34, 35, 36, 37, 38, 39, 40, 41, 42, 43, 44, 45]), (9, [46]), (10, [47, 48, 49, 50]), (11, [2, 51, 52, 53]), (12, [1, 7, 54, 55]), (14, [60, 61]), (15, [13, 62, 63, 64, 65, 66, 67, 68]), (16, [69]), (17, [11, 70])]
theorem drOk15 : drAll dr15 (Try.f15.body.getD .skip) = true := by kernel_rfl
def dr16 : List (Nat × (Nat × List (List Nat))) := []
def dd16 : List (Nat × List Nat) := [(0, [2]), (1, [5, 6]), (3, [0]), (5, [12, 13]), (6, [15, 16, 17, 18, 19, 20, 21, 22, 23, 24, 25, 26, 27, 28, 29, 30, 31, 32, 33, 34, 35, 36, 37]), (8, [4, 39, 40, 41, 42, 43, 44, 45, 46]), (10, [47])]
theorem drOk16 : drAll dr16 (Try.f16.body.getD .skip) = true := by kernel_rfl
def dr17 : List (Nat × (Nat × List (List Nat))) := [(7, (14, [])), (9, (12, [])), (10, (20, [[], [0], [0, 1], [0, 1], [0, 1], [0, 1, 2], [0, 1, 2, 3, 4, 5], [0, 1, 2, 3], [0, 1, 2, 3, 4, 5, 6, 7], [0, 1, 2, 3, 4, 5, 6, 7], [0, 1, 2, 3, 4, 5, 6, 7], [0, 1, 2, 3, 4, 5, 6, 7, 8], [0, 1, 2, 3, 4, 5, 6, 7, 8, 9, 10, 11], [0, 1, 2, 3, 4, 5, 6, 7, 8, 9], [1, 8, 9, 12, 13], [1, 8, 9, 12, 13], [1, 8, 9, 12, 13], [], [], []]))]
def dd17 : List (Nat × List Nat) := [(0, [4, 5]), (2, [9]), (3, [11, 12, 13, 14]), (5, [16, 17, 18, 19]), (6, [20, 21, 22, 23, 24]), (7, [7, 26, 27, 28, 29, 30, 31, 32, 33, 34, 35, 36, 37]), (8, [38, 39, 40, 41, 42, 43]), (9, [44, 45, 46, 47, 48, 49, 50, 51, 52, 53, 54]), (10, [1, 7, 55, 56, 57, 58, 59, 60, 61, 62, 63, 64, 65, 66, 67, 68, 69, 70, 71, 72]), (11, [6, 8, 73, 74, 75]), (12, [6, 76])]
theorem drOk17 : drAll dr17 (Try.f17.body.getD .skip) = true := by kernel_rfl
def dr18 : List (Nat × (Nat × List (List Nat))) := [(1, (8, []))]
def dd18 : List (Nat × List Nat) := [(0, [6]), (1, [10, 11, 12, 13, 14, 15]), (2, [16]), (3, [18, 19, 20, 21, 22]), (5, [2]), (6, [25]), (7, [8, 26, 27]), (8, [29]), (9, [0, 1, 8, 30, 31, 32, 33, 34, 35, 36, 37, 38, 39, 40, 41, 42, 43]), (10, [23, 45]), (11, [1, 8, 46, 47, 48, 49, 50, 51, 52, 53, 54, 55, 56, 57, 58, 59, 60]), (12, [9]), (13, [62, 63]), (14, [7, 64])]
theorem drOk18 : drAll dr18 (Try.f18.body.getD .skip) = true := by kernel_rfl
def dr19 : List (Nat × (Nat × List (List Nat))) := []
def dd19 : List (Nat × List Nat) := [(0, [6]), (1, [0, 1, 2, 7, 8, 9, 10, 11, 12, 13, 14])]
theorem drOk19 : drAll dr19 (Try.f19.body.getD .skip) = true := by kernel_rfl
def dr20 : List (Nat × (Nat × List (List Nat))) := []
def dd20 : List (Nat × List Nat) := [(0, [4, 5]), (1, [9, 10]), (4, [1]), (6, [16, 17]), (7, [18, 19, 20, 21, 22]), (9, [8, 24, 25, 26]), (10, [27]), (11, [0, 28, 29, 30, 31, 32]), (13, [34]), (15, [6, 36])]
theorem drOk20 : drAll dr20 (Try.f20.body.getD .skip) = true := by kernel_rfl
def dr21 : List (Nat × (Nat × List (List Nat))) := []
def dd21 : List (Nat × List Nat) := [(0, [4]), (1, [0]), (2, [7]), (3, [1, 8, 9]), (4, [5, 11]), (5, [1, 12, 13, 14]), (6, [1, 15])]
theorem drOk21 : drAll dr21 (Try.f21.body.getD .skip) = true := by kernel_rfl
def dr22 : List (Nat × (Nat × List (List Nat))) := []
def dd22 : List (Nat × List Nat) := [(0, [4]), (1, [0, 1, 5, 6, 7, 8])]
theorem drOk22 : drAll dr22 (Try.f22.body.getD .skip) = true := by kernel_rfl
def dr23 : List (Nat × (Nat × List (List Nat))) := []
def dd23 : List (Nat × List Nat) := [(0, [2]), (1, [0, 3, 4, 5])]
theorem drOk23 : drAll dr23 (Try.f23.body.getD .skip) = true := by kernel_rfl
def dr24 : List (Nat × (Nat × List (List Nat))) := []
def dd24 : List (Nat × List Nat) := [(0, [2]), (1, [0, 3, 4])]
theorem drOk24 : drAll dr24 (Try.f24.body.getD .skip) = true := by kernel_rfl
def dr25 : List (Nat × (Nat × List (List Nat))) := []
def dd25 : List (Nat × List Nat) := [(0, [6, 7]), (1, [0, 8, 9]), (2, [1, 4, 5, 10, 11, 12, 13, 14, 15])]
theorem drOk25 : drAll dr25 (Try.f25.body.getD .skip) = true := by kernel_rfl
def dr26 : List (Nat × (Nat × List (List Nat))) := [(1, (12, [[], [0], [], [], [0, 1, 2, 3], [0, 1, 2, 3, 4], [0, 1, 2, 3], [0, 1, 2, 3], [0, 1, 2, 3, 4, 5, 6, 7], [0, 1, 2, 3, 4, 5, 6, 7, 8], [4, 5, 6, 7], []]))]
def dd26 : List (Nat × List Nat) := [(0, [5]), (1, [0, 1, 2, 8, 9, 10, 11, 12, 13, 14, 15]), (2, [16, 17, 18, 19, 20, 21, 22]), (3, [6, 7, 24, 25, 26, 27, 28, 29, 30, 31]), (4, [6, 7, 32, 33, 34, 35, 36, 37, 38, 39, 40, 41, 42])]
theorem drOk26 : drAll dr26 (Try.f26.body.getD .skip) = true := by kernel_rfl
def dr27 : List (Nat × (Nat × List (List Nat))) := []
def dd27 : List (Nat × List Nat) := [(0, [4]), (1, [6]), (3, [10]), (4, [11, 12, 13, 14, 15]), (5, [5, 17]), (6, [18])]
theorem drOk27 : drAll dr27 (Try.f27.body.getD .skip) = true := by kernel_rfl
def dr30 : List (Nat × (Nat × List (List Nat))) := []
def dd30 : List (Nat × List Nat) := [(0, [0]), (2, [8]), (3, [9, 10]), (4, [5, 12, 13, 14, 15]), (5, [16]), (6, [17, 18, 19]), (7, [5, 20, 21, 22, 23]), (8, [24, 25]), (9, [27, 28]), (10, [29, 30]), (11, [5, 32, 33, 34, 35, 36, 37, 38]), (12, [39]), (13, [40, 41, 42, 43]), (14, [44, 45, 46]), (15, [47, 48]), (16, [5, 7, 50, 51, 52, 53, 54]), (17, [55, 56])]
theorem drOk30 : drAll dr30 (Try.f30.body.getD .skip) = true := by kernel_rfl
def dr41 : List (Nat × (Nat × List (List Nat))) := []
def dd41 : List (Nat × List Nat) := [(0, [0]), (1, [8, 9]), (2, [10, 11]), (3, [13, 14]), (4, [15]), (5, [16, 17, 18, 19, 20, 21, 22, 23, 24, 25]), (6, [27, 28]), (7, [29, 30, 31, 32, 33, 34])]
theorem drOk41 : drAll dr41 (Try.f41.body.getD .skip) = true := by kernel_rfl
def dr42 : List (Nat × (Nat × List (List Nat))) := []
def dd42 : List (Nat × List Nat) := [(0, [0]), (1, [23, 24, 25]), (2, [2, 27]), (3, [3, 28]), (4, [29, 30]), (5, [32, 33, 34, 35, 36, 37]), (6, [38, 39, 40, 41]), (7, [10, 43, 44]), (8, [10, 45]), (9, [1, 46]), (10, [47, 48, 49]), (11, [51, 52]), (12, [53, 54, 55, 56, 57, 58]), (13, [59, 60, 61]), (14, [1, 63]), (15, [64]), (16, [65, 66]), (17, [68, 69, 70, 71, 72, 73]), (18, [74, 75, 76, 77, 78]), (19, [14, 80, 81]), (20, [14, 82]), (21, [2, 83]), (22, [84, 85]), (23, [87, 88]), (24, [89, 90, 91, 92, 93, 94]), (25, [95, 96, 97, 98, 99, 100]), (26, [101, 102, 103]), (27, [18, 19]), (28, [104, 105]), (29, [107, 108, 109]), (30, [110]), (31, [111]), (32, [112]), (33, [113, 114]), (34, [115, 116]), (35, [118, 119, 120, 121, 122, 123]), (36, [124, 125, 126, 127, 128, 129, 130]), (37, [21, 132, 133]), (38, [21, 134]), (39, [17, 135, 136, 137]), (40, [138, 139, 140, 141, 142, 143, 144]), (41, [2, 146, 147, 148, 149, 150]), (42, [151, 152, 153, 154, 155, 156, 157]), (43, [1, 18, 159, 160, 161, 162, 163]), (44, [164, 165, 166, 167, 168, 169, 170]), (45, [3, 4, 16, 22, 172, 173, 174, 175, 176])]
theorem drOk42 : drAll dr42 (Try.f42.body.getD .skip) = true := by kernel_rfl
def dr43 : List (Nat × (Nat × List (List Nat))) := []
def dd43 : List (Nat × List Nat) := [(0, [0]), (1, [1, 10, 11, 12]), (2, [3, 13, 14, 15]), (3, [16, 17]), (4, [19, 20]), (5, [22, 23, 24, 25, 26, 27, 28]), (6, [29, 30, 31]), (7, [32, 33, 34, 35, 36, 37, 38, 39, 40, 41, 42]), (8, [43, 44, 45]), (9, [2, 4, 8, 46, 47, 48, 49, 50, 51, 52])]
theorem drOk43 : drAll dr43 (Try.f43.body.getD .skip) = true := by kernel_rfl
def dr44 : List (Nat × (Nat × List (List Nat))) := []
def dd44 : List (Nat × List Nat) := [(0, [0]), (2, [9, 10]), (3, [12, 13]), (4, [14, 15, 16, 17, 18, 19, 20, 21, 22])]
theorem drOk44 : drAll dr44 (Try.f44.body.getD .skip) = true := by kernel_rfl
/-- what the machine runs in: the callees' answers, the variables that begin as nil and are rows of one's own, what becomes data where -/
def mkX (Φ : FuncId → List V → Option (V × List Blk)) (nv : Nat → Option (TypeId × Nat)) (fz : Nat → List Nat) (dr : List (Nat × (Nat × List (List Nat)))) (dd : List (Nat × List Nat)) (lam : Lam) (ms : Mts) : Ctx := ⟨tyF, Φ, nv, fz, fun i => (Ev.look i dd).getD [], dr, eqsL, fun g => Ev.look g lam, fun g => Ev.look g ms.mt, ms.ln, fun g => Ev.look g ms.st⟩
section
variable (Φ : FuncId → List V → Option (V × List Blk)) (nv : Nat → Option (TypeId × Nat)) (fz : Nat → List Nat) (dr : List (Nat × (Nat × List (List Nat)))) (dd : List (Nat × List Nat)) (lam : Lam) (ms : Mts)
theorem mkX_T : (mkX Φ nv fz dr dd lam ms).T = tyF := rfl
theorem mkX_Φ : (mkX Φ nv fz dr dd lam ms).Φ = Φ := rfl
theorem mkX_n : (mkX Φ nv fz dr dd lam ms).nilv = nv := rfl
theorem mkX_f : (mkX Φ nv fz dr dd lam ms).frz = fz := rfl
theorem mkX_d (i : Nat) : (mkX Φ nv fz dr dd lam ms).dead i = (Ev.look i dd).getD [] := rfl
theorem mkX_r : (mkX Φ nv fz dr dd lam ms).dr = dr := rfl
theorem mkX_L (g : FuncId) : (mkX Φ nv fz dr dd lam ms).Λ g = Ev.look g lam := rfl
theorem mkX_M (g : FuncId) : (mkX Φ nv fz dr dd lam ms).M g = Ev.look g ms.mt := rfl
theorem mkX_S (g : FuncId) : (mkX Φ nv fz dr dd lam ms).S g = Ev.look g ms.st := rfl
theorem mkX_ln (i : Nat) : (mkX Φ nv fz dr dd lam ms).lnd i = ms.ln i := rfl
theorem mkX_e : (mkX Φ nv fz dr dd lam ms).eqs = eqsL := rfl
theorem tyOk : TOkX Try.prog (mkX Φ nv fz dr dd lam ms) := ⟨TOk_of tabAll, fun t ht => List.all_eq_true.1 eqsOk t ht⟩
end
def nv0 : Nat → Option (TypeId × Nat) := fun _ => none
def fz0 : Nat → List Nat := fun _ => []
theorem mapO_nil {α β : Type} (f : α → Option β) : ([] : List α).mapM f = some [] := rfl
theorem mapO_cons {α β : Type} (f : α → Option β) (a : α) (l : List α) : (a :: l).mapM f = (f a).bind fun y => (l.mapM f).bind fun ys => some (y :: ys) := by rw [List.mapM_cons]; rfl
theorem beqT (b : Bool) : (b == true) = b := by cases b <;> rfl
theorem beqF (b : Bool) : (b == false) = !b := by cases b <;> rfl
def nvL (l : List (Nat × (TypeId × Nat))) : Nat → Option (TypeId × Nat) := fun i => Ev.look i l
theorem nvL_at (l : List (Nat × (TypeId × Nat))) (i : Nat) : nvL l i = Ev.look i l := rfl
def fzL (l : List (Nat × List Nat)) : Nat → List Nat := fun i => (Ev.look i l).getD []
theorem fzL_at (l : List (Nat × List Nat)) (i : Nat) : fzL l i = (Ev.look i l).getD [] := rfl
def lnL (l : List (Nat × List Nat)) : Nat → List Nat := fun i => (Ev.look i l).getD []
theorem lnL_at (l : List (Nat × List Nat)) (i : Nat) : lnL l i = (Ev.look i l).getD [] := rfl
theorem maxLen_eq : maxLen = 9223372036854775807 := rfl
theorem leT {a b : Nat} (h : a ≤ b) : (a ≤ b) = True := by simp [h]
theorem plainI (k : IntKind) (l : List Int) : ((l.map (V.int k)).all fun v => V.plain v && V.data v) = true := by
  rw [List.all_eq_true]
  intro v hv
  obtain ⟨n, _, rfl⟩ := List.mem_map.1 hv
  rfl
theorem bin_eql_vz (b : Nat) : binV .eql (.vec b) .zero = none := rfl
theorem bin_eql_zv (b : Nat) : binV .eql .zero (.vec b) = none := rfl
theorem bin_eql_rz (z : Nat) (es : List V) : binV .eql (.row z es) .zero = none := rfl
theorem bin_eql_zr (z : Nat) (es : List V) : binV .eql .zero (.row z es) = none := rfl
theorem bin_eql_zz : binV .eql .zero .zero = none := rfl
theorem bin_neq_vz (b : Nat) : binV .neq (.vec b) .zero = none := rfl
theorem bin_neq_zv (b : Nat) : binV .neq .zero (.vec b) = none := rfl
theorem bin_neq_rz (z : Nat) (es : List V) : binV .neq (.row z es) .zero = none := rfl
theorem bin_neq_zr (z : Nat) (es : List V) : binV .neq .zero (.row z es) = none := rfl
theorem bin_neq_zz : binV .neq .zero .zero = none := rfl
theorem nv0_at (i : Nat) : nv0 i = none := rfl
theorem fz0_at (i : Nat) : fz0 i = [] := rfl
/-- a function of this seat, run by the machine -/
theorem evFn {J : World → Prop} {l : Phi} (hl : PhiOk Try.prog J l) (hJ : Stable J) {nv : Nat → Option (TypeId × Nat)} {fz : Nat → List Nat} {dr : List (Nat × (Nat × List (List Nat)))} {dd : List (Nat × List Nat)} {lam : Lam} (hlam : LamOk Try.prog J lam) {ms : Mts} (hms : MtsOk Try.prog J ms) {f : FuncId} {fn : Func} {args : List V} {r : V} {bs : List Blk}
    (hf : Try.prog.funcs[f]? = some fn) (hname : (fn.name == "runtime.NumGoroutine") = false) (hb : fn.body.isSome = true) (hn : args.length ≤ fn.ntmps) (hsm : fn.ntmps ≤ 100000) (hdr : drAll dr (fn.body.getD .skip) = true)
    (h : ev (mkX (phi l) nv fz dr dd lam ms) fn.ntmps (fn.body.getD .skip) (St.init args) (post (mkX (phi l) nv fz dr dd lam ms) fn.results.toList r bs)) : SoundAt Try.prog J f args r bs :=
  sound_fn (X := mkX (phi l) nv fz dr dd lam ms) mixOk (tyOk _ _ _ _ _ _ _) (lamAll_of hlam hms rfl rfl rfl) (phi_sound hl) hJ hf hname (by cases hc : fn.body <;> simp_all) hn hsm hdr h
/-- a function of this seat that is lent a row, run by the machine -/
theorem evLend {J : World → Prop} {l : Phi} (hl : PhiOk Try.prog J l) (hJ : Stable J) {nv : Nat → Option (TypeId × Nat)} {fz : Nat → List Nat} {dr : List (Nat × (Nat × List (List Nat)))} {dd : List (Nat × List Nat)} {lam : Lam} (hlam : LamOk Try.prog J lam) {ms : Mts} (hms : MtsOk Try.prog J ms) {f : FuncId} {fn : Func} {T : TypeId} {sz : Nat} {es xs es' : List V}
    (hf : Try.prog.funcs[f]? = some fn) (hname : (fn.name == "runtime.NumGoroutine") = false) (hb : fn.body.isSome = true) (hn : xs.length + 1 ≤ fn.ntmps) (hsm : fn.ntmps ≤ 100000) (hdr : drAll dr (fn.body.getD .skip) = true) (hres : fn.results = #[]) (hpl : ∀ e ∈ es', V.plain e = true)
    (h : ev (mkX (phi l) nv fz dr dd lam ms) fn.ntmps (fn.body.getD .skip) (St.lent T sz es xs) (postL T sz es')) : LendAt Try.prog J f T sz es xs es' :=
  sound_lend (X := mkX (phi l) nv fz dr dd lam ms) mixOk (tyOk _ _ _ _ _ _ _) (lamAll_of hlam hms rfl rfl rfl) (phi_sound hl) hJ hf hname (by cases hc : fn.body <;> simp_all) hn hsm hdr hres hpl h
/-- a function of this seat that takes a row and gives it back, run by the machine -/
theorem evTake {J : World → Prop} {l : Phi} (hl : PhiOk Try.prog J l) (hJ : Stable J) {nv : Nat → Option (TypeId × Nat)} {fz : Nat → List Nat} {dr : List (Nat × (Nat × List (List Nat)))} {dd : List (Nat × List Nat)} {lam : Lam} (hlam : LamOk Try.prog J lam) {ms : Mts} (hms : MtsOk Try.prog J ms) {f : FuncId} {fn : Func} {T : TypeId} {sz t : Nat} {es xs es' : List V}
    (hf : Try.prog.funcs[f]? = some fn) (hname : (fn.name == "runtime.NumGoroutine") = false) (hb : fn.body.isSome = true) (hn : xs.length + 1 ≤ fn.ntmps) (hsm : fn.ntmps ≤ 100000) (hdr : drAll dr (fn.body.getD .skip) = true) (hres : fn.results = #[.tmp t]) (hrow : xs.all (fun a => !(isRowV a)) = true) (hpl : ∀ e ∈ es', V.plain e = true)
    (h : ev (mkX (phi l) nv fz dr dd lam ms) fn.ntmps (fn.body.getD .skip) (St.lent T sz es xs) (postT t T sz es')) : TakeAt Try.prog J f T sz es xs es' :=
  sound_take (X := mkX (phi l) nv fz dr dd lam ms) mixOk (tyOk _ _ _ _ _ _ _) (lamAll_of hlam hms rfl rfl rfl) (phi_sound hl) hJ hf hname (by cases hc : fn.body <;> simp_all) hn hsm hdr hres hrow hpl h
/-- a function of this seat that is lent blocks, run by the machine -/
theorem evMut {J : World → Prop} {l : Phi} (hl : PhiOk Try.prog J l) (hJ : Stable J) {nv : Nat → Option (TypeId × Nat)} {fz : Nat → List Nat} {dr : List (Nat × (Nat × List (List Nat)))} {dd : List (Nat × List Nat)} {lam : Lam} (hlam : LamOk Try.prog J lam) {ms : Mts} (hms : MtsOk Try.prog J ms) {f : FuncId} {fn : Func} {ks ks' : List Blk} {args : List V} {r : V}
    (hf : Try.prog.funcs[f]? = some fn) (hname : (fn.name == "runtime.NumGoroutine") = false) (hb : fn.body.isSome = true) (hn : args.length ≤ fn.ntmps) (hsm : fn.ntmps ≤ 100000) (hdr : drAll dr (fn.body.getD .skip) = true) (hlen : ks'.length = ks.length) (hr : V.lone r = true) (hks : ∀ k ∈ ks', Blk.lone k = true)
    (h : ev (mkX (phi l) nv fz dr dd lam ms) fn.ntmps (fn.body.getD .skip) (St.mut ks args) (postM (mkX (phi l) nv fz dr dd lam ms) fn.results.toList r ks')) : MutAt Try.prog J f ks args r ks' :=
  sound_mut (X := mkX (phi l) nv fz dr dd lam ms) mixOk (tyOk _ _ _ _ _ _ _) (lamAll_of hlam hms rfl rfl rfl) (phi_sound hl) hJ hf hname (by cases hc : fn.body <;> simp_all) hn hsm hdr hlen hr hks h
/-- what has a body is called -/
theorem callOk {f : FuncId} {fn : Func} (hf : Try.prog.funcs[f]? = some fn) (hname : (fn.name == "runtime.NumGoroutine") = false) (hb : fn.body.isNone = false) : Callable Try.prog f := ⟨fn, hf, hname, hb⟩
def J0 : World → Prop := fun _ => True
theorem stable0 : Stable J0 := fun _ _ _ _ => trivial
attribute [go_sem] evR_none evR_some evT_cons evT_nil oW_some oW_none two_append tailV toSub orE_some orE_none ifcQ_nil ofC_nilI bin_eql_raw bin_neq_raw bin_eql_ifc bin_neq_ifc evP_P evH_zero evH_cons hpA_eq hpB_eq augH_eq appP nrEff mutV getB mvB bkB V.mv V.mvL V.bk V.bkL Blk.mv Blk.bk posN nmN backN noDup app_writes setHL_nil setHL_cons postM_ret postM_normal resM hasB_nil hasB_cons St.mut names_nil names_cons sortV cellOf mkX_M mkX_S mkX_ln lnL_at ms0_mt ms0_st V.lone V.loneL List.zip_cons_cons List.zip_nil_left Option.isNone_none bornV subE partR unB bytesW boundsV ownP sliceW copyV clearV lenM takeV tk1 mapsV mkMapV hintOk lookV updV mapKE keyOk V.key app_lend callW_fn lendV postL_ret postL_normal postT_ret postT_normal takeR St.lent mkX_L bin_eql_vz bin_eql_zv bin_eql_rz bin_eql_zr bin_eql_zz bin_neq_vz bin_neq_zv bin_neq_rz bin_neq_zr bin_neq_zz eqH nilEq nonE plainI gOf_bool gOf_skip g_some g_none Int.ofNat_zero Int.cast_ofNat_Int Bool.false_and Bool.and_false sliceV Int.reduceEq Int.reduceLT Int.reduceLE Int.reduceNeg noBox elemsZ V.scrub V.scrubB V.scrubL Blk.scrub appendV isSlice maxLen_eq leT List.contains_nil List.contains_cons nvL_at fzL_at fillV V.plain V.plainL Blk.plain List.size_toArray mapO_nil mapO_cons Option.isNone_some beqT beqF oI_not mkX_e phi_nil phi_cons bin_eql_bool bin_neq_bool bin_eql_agg bin_neq_agg eqV eqFs eqK_int eqK_bool' eqK_str mkX_T mkX_Φ mkX_n mkX_f mkX_d mkX_r nv0_at fz0_at evQ_dr evP_W evW_nil evW_cons evW_guard okW_eq tame_none tame_new tame_write wb_none wb_new wb_write okU_some offW_none offW_some touchOf V.noRef V.noRefL Option.isSome_some Option.isSome_none mild_none mild_new Option.getD_some Option.getD_none evQ_seq evQ_region evQ_block evQ_cond evQ_ret evQ_skip evQ_exit evO_cons evO_nil evO_guard freezeL_nil oS_some oS_none oS_ite oS_ite' oB_bool oI_true oI_false oE_normal oE_exit oE_ret bQ_normal bQ_ret bQ_exit lQ_normal lQ_ret lQ_exit List.zipIdx_cons List.zipIdx_nil List.map_cons List.map_nil evalOp opd_const opd_tmp opd_func ofC_int ofC_bool ofC_str ofC_nil app_none app_new app_write app_change putE_some putE_none setA_cons setA_nil setH_cons setH_nil mapA_cons mapA_nil look_cons look_nil e_mk h_mk drop_nil drop_mk keep_mk Nat.reduceAdd Nat.reduceLT Nat.reduceEqDiff Nat.reduceMul Nat.reduceLeDiff reduceIte dstOk_some dstOk_none guardT_eq true_and and_true Bool.not_false Bool.not_true selB_true selB_false Nat.reduceBEq mem_nil mem_cons kpL_nil kpL_cons drL_nil drL_cons closed_mk V.refsIn V.refsInL Blk.refsIn List.all_cons List.all_nil lenV bin_add bin_sub bin_mul bin_quo bin_rem bin_eql bin_neq bin_lss bin_leq bin_gtr bin_geq un_neg un_not post_ret post_normal St.init reduceCtorEq Bool.false_eq_true List.length_map Bool.or_false Bool.or_true Bool.false_or Bool.true_or beq_self_eq_true Option.map_some Option.map_none Option.bind_some List.getElem?_cons_zero List.getElem?_cons_succ scalar stor isAggV V.cells List.cons_append List.nil_append if_true if_false wrap_of callV V.dataL V.data Bool.and_true Bool.true_and fresh names V.ren V.renL retV resV packL packV packC getBlks wrapR subV putV decide_true decide_false TK.agg List.length_cons List.length_nil List.take_succ_cons List.take_zero List.drop_succ_cons List.drop_zero List.take_nil List.drop_nil Nat.zero_add Nat.add_zero List.append_nil List.getElem?_nil elemsV ro ro0 ro1 roC ty1 ty2 ty3 ty4 ty5 ty6 ty7 ty8 ty9 ty10 ty11 ty12 ty13 ty14 ty15 ty16 ty17 ty18 ty19 ty20 ty21 ty22 ty23 ty24 ty25 ty27 ty28 ty29 ty31 ty32 ty34 ty36 ty37 ty38 ty39 ty41 ty42 ty43 ty44 ty45 ty46 ty47 ty49 ty50 ty51 ty52 ty53 ty54 ty56 ty57 ty58 ty59 ty60 ty61 ty62 ty63 ty64 ty65 ty66 ty67 ty69 ty70 ty71 ty72 ty73 ty74 ty75 ty76 ty77 ty78 ty79 ty80 ty81 ty82 ty83 ty84 ty85 ty86 ty87 ty91 ty92 ty93 ty94 ty95 ty96 ty97 ty98 ty99 ty100 ty101 eqs29 eqs47 eqs54 eqs62
end Go.Proofs.Ytdmkmbaaemhhhaa
