import Derived.Test.YtopbbjoflopjbaaDoorProg
import Derived.Test.YtopbbjoflopjbaaDoorB11
import Derived.KernelRfl
/-! The types of this translation. -/
set_option maxRecDepth 100000
namespace Go.Proofs.YtopbbjoflopjbaaDoor
open Go.Bb
def tabList : List (Nat × TI) := [
  (1, ⟨1, 8, .func, [.raw .nilFunc], []⟩),
  (2, ⟨1, 8, .int .i64, [.int .i64 0], []⟩),
  (3, ⟨1, 8, .int .i64, [.int .i64 0], []⟩),
  (4, ⟨1, 1, .bool, [.bool false], []⟩),
  (5, ⟨1, 1, .int .u8, [.int .u8 0], []⟩),
  (6, ⟨1, 1, .int .u8, [.int .u8 0], []⟩),
  (7, ⟨4, 24, .struct [(0, 2), (1, 3), (2, 4), (3, 6)], [.int .i64 0, .int .i64 0, .bool false, .int .u8 0], []⟩),
  (8, ⟨4, 24, .struct [(0, 2), (1, 3), (2, 4), (3, 6)], [.int .i64 0, .int .i64 0, .bool false, .int .u8 0], [("Error", 99), ("RuntimeError", 100)]⟩),
  (9, ⟨1, 16, .string, [.str []], []⟩),
  (10, ⟨1, 16, .string, [.str []], [("Error", 101), ("RuntimeError", 102)]⟩),
  (11, ⟨1, 16, .string, [.str []], [("Error", 103), ("RuntimeError", 104)]⟩),
  (12, ⟨1, 8, .int .u64, [.int .u64 0], []⟩),
  (13, ⟨2, 24, .struct [(0, 9), (1, 12)], [.str [], .int .u64 0], []⟩),
  (14, ⟨2, 24, .struct [(0, 9), (1, 12)], [.str [], .int .u64 0], [("Error", 105), ("RuntimeError", 106)]⟩),
  (15, ⟨1, 8, .ptr 131, [.raw (.pointer none)], []⟩),
  (16, ⟨1, 8, .ptr 134, [.raw (.pointer none)], []⟩),
  (17, ⟨1, 8, .ptr 142, [.raw (.pointer none)], []⟩),
  (18, ⟨1, 8, .struct [(0, 17)], [.raw (.pointer none)], []⟩),
  (19, ⟨1, 8, .struct [(0, 17)], [.raw (.pointer none)], [("Error", 112), ("RuntimeError", 113)]⟩),
  (20, ⟨1, 16, .iface, [.raw .nilIface], []⟩),
  (21, ⟨1, 4, .int .i32, [.int .i32 0], []⟩),
  (22, ⟨1, 8, .func, [.raw .nilFunc], []⟩),
  (23, ⟨1, 8, .func, [.raw .nilFunc], []⟩),
  (24, ⟨1, 24, .slice 9, [.nil], []⟩),
  (26, ⟨1, 8, .func, [.raw .nilFunc], []⟩),
  (27, ⟨1, 8, .func, [.raw .nilFunc], []⟩),
  (28, ⟨1, 8, .func, [.raw .nilFunc], []⟩),
  (29, ⟨1, 8, .func, [.raw .nilFunc], []⟩),
  (30, ⟨1, 24, .slice 5, [.nil], []⟩),
  (31, ⟨1, 8, .func, [.raw .nilFunc], []⟩),
  (32, ⟨1, 8, .func, [.raw .nilFunc], []⟩),
  (33, ⟨1, 8, .func, [.raw .nilFunc], []⟩),
  (34, ⟨1, 8, .func, [.raw .nilFunc], []⟩),
  (35, ⟨1, 24, .slice 37, [.nil], []⟩),
  (36, ⟨5, 80, .struct [(0, 3), (1, 3), (2, 9), (3, 35), (4, 24)], [.int .i64 0, .int .i64 0, .str [], .nil, .nil], []⟩),
  (37, ⟨5, 80, .struct [(0, 3), (1, 3), (2, 9), (3, 35), (4, 24)], [.int .i64 0, .int .i64 0, .str [], .nil, .nil], []⟩),
  (38, ⟨1, 8, .func, [.raw .nilFunc], []⟩),
  (39, ⟨1, 8, .func, [.raw .nilFunc], []⟩),
  (40, ⟨1, 24, .slice 42, [.nil], []⟩),
  (41, ⟨5, 80, .struct [(0, 3), (1, 3), (2, 9), (3, 40), (4, 24)], [.int .i64 0, .int .i64 0, .str [], .nil, .nil], []⟩),
  (42, ⟨5, 80, .struct [(0, 3), (1, 3), (2, 9), (3, 40), (4, 24)], [.int .i64 0, .int .i64 0, .str [], .nil, .nil], []⟩),
  (43, ⟨1, 8, .func, [.raw .nilFunc], []⟩),
  (44, ⟨1, 8, .func, [.raw .nilFunc], []⟩),
  (45, ⟨1, 8, .func, [.raw .nilFunc], []⟩),
  (46, ⟨1, 8, .func, [.raw .nilFunc], []⟩),
  (47, ⟨1, 8, .func, [.raw .nilFunc], []⟩),
  (49, ⟨1, 8, .func, [.raw .nilFunc], []⟩),
  (50, ⟨1, 8, .ptr 73, [.raw (.pointer none)], []⟩),
  (51, ⟨1, 8, .func, [.raw .nilFunc], []⟩),
  (52, ⟨1, 8, .func, [.raw .nilFunc], []⟩),
  (53, ⟨1, 8, .ptr 55, [.raw (.pointer none)], []⟩),
  (54, ⟨2, 32, .struct [(0, 53), (1, 30)], [.raw (.pointer none), .nil], []⟩),
  (55, ⟨2, 32, .struct [(0, 53), (1, 30)], [.raw (.pointer none), .nil], []⟩),
  (56, ⟨1, 16, .iface, [.raw .nilIface], []⟩),
  (57, ⟨1, 16, .iface, [.raw .nilIface], []⟩),
  (58, ⟨1, 8, .func, [.raw .nilFunc], []⟩),
  (60, ⟨1, 8, .func, [.raw .nilFunc], []⟩),
  (61, ⟨1, 8, .func, [.raw .nilFunc], []⟩),
  (62, ⟨1, 8, .func, [.raw .nilFunc], []⟩),
  (63, ⟨1, 8, .func, [.raw .nilFunc], []⟩),
  (64, ⟨1, 8, .func, [.raw .nilFunc], []⟩),
  (65, ⟨1, 8, .func, [.raw .nilFunc], []⟩),
  (66, ⟨1, 8, .func, [.raw .nilFunc], []⟩),
  (67, ⟨1, 8, .func, [.raw .nilFunc], []⟩),
  (68, ⟨1, 8, .func, [.raw .nilFunc], []⟩),
  (69, ⟨1, 8, .func, [.raw .nilFunc], []⟩),
  (70, ⟨1, 8, .func, [.raw .nilFunc], []⟩),
  (71, ⟨1, 8, .func, [.raw .nilFunc], []⟩),
  (72, ⟨2, 32, .struct [(0, 30), (1, 3)], [.nil, .int .i64 0], []⟩),
  (73, ⟨2, 32, .struct [(0, 30), (1, 3)], [.nil, .int .i64 0], []⟩),
  (74, ⟨1, 8, .ptr 5, [.raw (.pointer none)], []⟩),
  (75, ⟨1, 8, .func, [.raw .nilFunc], []⟩),
  (76, ⟨1, 8, .func, [.raw .nilFunc], []⟩),
  (77, ⟨1, 16, .iface, [.raw .nilIface], []⟩),
  (78, ⟨1, 16, .iface, [.raw .nilIface], []⟩),
  (79, ⟨1, 8, .func, [.raw .nilFunc], []⟩),
  (80, ⟨1, 1, .bool, [.bool false], [("loop.example/pergola/impl.within", 115)]⟩),
  (81, ⟨1, 8, .func, [.raw .nilFunc], []⟩),
  (82, ⟨1, 8, .int .i64, [.int .i64 0], [("loop.example/pergola/impl.within", 116)]⟩),
  (83, ⟨1, 16, .string, [.str []], [("loop.example/pergola/impl.within", 117)]⟩),
  (84, ⟨1, 24, .slice 42, [.nil], [("loop.example/pergola/impl.within", 118)]⟩),
  (85, ⟨1, 8, .func, [.raw .nilFunc], []⟩),
  (86, ⟨2, 48, .struct [(0, 24), (1, 40)], [.nil, .nil], []⟩),
  (87, ⟨2, 48, .struct [(0, 24), (1, 40)], [.nil, .nil], [("loop.example/pergola/impl.within", 119)]⟩),
  (88, ⟨1, 16, .string, [.str []], [("loop.example/pergola/impl.within", 120)]⟩),
  (89, ⟨1, 16, .string, [.str []], [("loop.example/pergola/impl.within", 121)]⟩),
  (90, ⟨1, 8, .int .u64, [.int .u64 0], []⟩),
  (91, ⟨1, 8, .func, [.raw .nilFunc], []⟩),
  (92, ⟨1, 8, .func, [.raw .nilFunc], []⟩),
  (93, ⟨1, 8, .func, [.raw .nilFunc], []⟩),
  (95, ⟨1, 8, .func, [.raw .nilFunc], []⟩),
  (96, ⟨1, 8, .func, [.raw .nilFunc], []⟩),
  (97, ⟨1, 8, .func, [.raw .nilFunc], []⟩),
  (98, ⟨1, 8, .func, [.raw .nilFunc], []⟩),
  (99, ⟨0, 0, .struct [], [], []⟩),
  (100, ⟨0, 0, .struct [], [], [("loop.example/pergola/impl.within", 122)]⟩),
  (101, ⟨1, 8, .func, [.raw .nilFunc], []⟩),
  (103, ⟨1, 8, .int .u64, [.int .u64 0], []⟩),
  (104, ⟨1, 8, .func, [.raw .nilFunc], []⟩),
  (105, ⟨1, 8, .func, [.raw .nilFunc], []⟩),
  (107, ⟨1, 8, .func, [.raw .nilFunc], []⟩),
  (108, ⟨1, 8, .func, [.raw .nilFunc], []⟩),
  (110, ⟨1, 8, .func, [.raw .nilFunc], []⟩),
  (111, ⟨1, 8, .func, [.raw .nilFunc], []⟩),
  (112, ⟨1, 8, .func, [.raw .nilFunc], []⟩),
  (113, ⟨1, 8, .func, [.raw .nilFunc], []⟩),
  (115, ⟨1, 4, .int .u32, [.int .u32 0], []⟩),
  (117, ⟨1, 8, .func, [.raw .nilFunc], []⟩),
  (118, ⟨1, 8, .func, [.raw .nilFunc], []⟩),
  (119, ⟨1, 8, .func, [.raw .nilFunc], []⟩),
  (120, ⟨1, 8, .func, [.raw .nilFunc], []⟩),
  (121, ⟨1, 8, .func, [.raw .nilFunc], []⟩),
  (123, ⟨2, 2, .struct [(0, 5), (1, 5)], [.int .u8 0, .int .u8 0], []⟩),
  (124, ⟨2, 2, .struct [(0, 5), (1, 5)], [.int .u8 0, .int .u8 0], []⟩),
  (127, ⟨1, 8, .func, [.raw .nilFunc], []⟩),
  (130, ⟨4, 40, .struct [(0, 17), (1, 17), (2, 17), (3, 9)], [.raw (.pointer none), .raw (.pointer none), .raw (.pointer none), .str []], []⟩),
  (131, ⟨4, 40, .struct [(0, 17), (1, 17), (2, 17), (3, 9)], [.raw (.pointer none), .raw (.pointer none), .raw (.pointer none), .str []], []⟩),
  (133, ⟨0, 0, .struct [(0, 132)], [], []⟩),
  (134, ⟨0, 0, .struct [(0, 132)], [], []⟩),
  (135, ⟨1, 8, .func, [.raw .nilFunc], []⟩),
  (136, ⟨1, 1, .int .u8, [.int .u8 0], []⟩),
  (137, ⟨1, 1, .int .u8, [.int .u8 0], [("String", 123)]⟩),
  (138, ⟨1, 8, .func, [.raw .nilFunc], []⟩),
  (139, ⟨1, 4, .int .i32, [.int .i32 0], []⟩),
  (140, ⟨1, 4, .int .i32, [.int .i32 0], []⟩),
  (141, ⟨11, 48, .struct [(0, 12), (1, 12), (2, 115), (3, 136), (4, 5), (5, 5), (6, 137), (7, 138), (8, 74), (9, 139), (10, 140)], [.int .u64 0, .int .u64 0, .int .u32 0, .int .u8 0, .int .u8 0, .int .u8 0, .int .u8 0, .raw .nilFunc, .raw (.pointer none), .int .i32 0, .int .i32 0], []⟩),
  (142, ⟨11, 48, .struct [(0, 12), (1, 12), (2, 115), (3, 136), (4, 5), (5, 5), (6, 137), (7, 138), (8, 74), (9, 139), (10, 140)], [.int .u64 0, .int .u64 0, .int .u32 0, .int .u8 0, .int .u8 0, .int .u8 0, .int .u8 0, .raw .nilFunc, .raw (.pointer none), .int .i32 0, .int .i32 0], []⟩)]
def tab : Tab := ⟨fun t => getk t tabList⟩
theorem tabAll : (tabList.all fun p => rowOk Tryd.prog p.1 p.2) = true := by kernel_rfl
theorem tabOk : TabOk Tryd.prog tab := by
  intro t i h
  have : (t, i) ∈ tabList := get_mem h
  exact List.all_eq_true.1 tabAll _ this
@[simp] theorem tsize1 : tab.size 1 = some 1 := rfl
@[simp] theorem tbytes1 : tab.bytes 1 = some 8 := rfl
@[simp] theorem tagg1 : tab.agg 1 = some false := rfl
@[simp] theorem tkind1 : tab.kind 1 = some (.func) := rfl
@[simp] theorem tzero1 : tab.zero 1 = some [.raw .nilFunc] := rfl
@[simp] theorem tsize2 : tab.size 2 = some 1 := rfl
@[simp] theorem tbytes2 : tab.bytes 2 = some 8 := rfl
@[simp] theorem tagg2 : tab.agg 2 = some false := rfl
@[simp] theorem tkind2 : tab.kind 2 = some (.int .i64) := rfl
@[simp] theorem tzero2 : tab.zero 2 = some [.int .i64 0] := rfl
@[simp] theorem tsize3 : tab.size 3 = some 1 := rfl
@[simp] theorem tbytes3 : tab.bytes 3 = some 8 := rfl
@[simp] theorem tagg3 : tab.agg 3 = some false := rfl
@[simp] theorem tkind3 : tab.kind 3 = some (.int .i64) := rfl
@[simp] theorem tzero3 : tab.zero 3 = some [.int .i64 0] := rfl
@[simp] theorem tsize4 : tab.size 4 = some 1 := rfl
@[simp] theorem tbytes4 : tab.bytes 4 = some 1 := rfl
@[simp] theorem tagg4 : tab.agg 4 = some false := rfl
@[simp] theorem tkind4 : tab.kind 4 = some (.bool) := rfl
@[simp] theorem tzero4 : tab.zero 4 = some [.bool false] := rfl
@[simp] theorem tsize5 : tab.size 5 = some 1 := rfl
@[simp] theorem tbytes5 : tab.bytes 5 = some 1 := rfl
@[simp] theorem tagg5 : tab.agg 5 = some false := rfl
@[simp] theorem tkind5 : tab.kind 5 = some (.int .u8) := rfl
@[simp] theorem tzero5 : tab.zero 5 = some [.int .u8 0] := rfl
@[simp] theorem tsize6 : tab.size 6 = some 1 := rfl
@[simp] theorem tbytes6 : tab.bytes 6 = some 1 := rfl
@[simp] theorem tagg6 : tab.agg 6 = some false := rfl
@[simp] theorem tkind6 : tab.kind 6 = some (.int .u8) := rfl
@[simp] theorem tzero6 : tab.zero 6 = some [.int .u8 0] := rfl
@[simp] theorem tsize7 : tab.size 7 = some 4 := rfl
@[simp] theorem tbytes7 : tab.bytes 7 = some 24 := rfl
@[simp] theorem tagg7 : tab.agg 7 = some true := rfl
@[simp] theorem tkind7 : tab.kind 7 = some (.struct [(0, 2), (1, 3), (2, 4), (3, 6)]) := rfl
@[simp] theorem tzero7 : tab.zero 7 = some [.int .i64 0, .int .i64 0, .bool false, .int .u8 0] := rfl
@[simp] theorem tfoff7_0 : tab.foff 7 0 = some (0, 1) := rfl
@[simp] theorem tfoff7_1 : tab.foff 7 1 = some (1, 1) := rfl
@[simp] theorem tfoff7_2 : tab.foff 7 2 = some (2, 1) := rfl
@[simp] theorem tfoff7_3 : tab.foff 7 3 = some (3, 1) := rfl
@[simp] theorem tsok7 : structOk tab 7 = true := rfl
@[simp] theorem tmeth8_99 : tab.meth 8 "Error" = some 99 := rfl
@[simp] theorem tmeth8_100 : tab.meth 8 "RuntimeError" = some 100 := rfl
@[simp] theorem tsize8 : tab.size 8 = some 4 := rfl
@[simp] theorem tbytes8 : tab.bytes 8 = some 24 := rfl
@[simp] theorem tagg8 : tab.agg 8 = some true := rfl
@[simp] theorem tkind8 : tab.kind 8 = some (.struct [(0, 2), (1, 3), (2, 4), (3, 6)]) := rfl
@[simp] theorem tzero8 : tab.zero 8 = some [.int .i64 0, .int .i64 0, .bool false, .int .u8 0] := rfl
@[simp] theorem tfoff8_0 : tab.foff 8 0 = some (0, 1) := rfl
@[simp] theorem tfoff8_1 : tab.foff 8 1 = some (1, 1) := rfl
@[simp] theorem tfoff8_2 : tab.foff 8 2 = some (2, 1) := rfl
@[simp] theorem tfoff8_3 : tab.foff 8 3 = some (3, 1) := rfl
@[simp] theorem tsok8 : structOk tab 8 = true := rfl
@[simp] theorem tsize9 : tab.size 9 = some 1 := rfl
@[simp] theorem tbytes9 : tab.bytes 9 = some 16 := rfl
@[simp] theorem tagg9 : tab.agg 9 = some false := rfl
@[simp] theorem tkind9 : tab.kind 9 = some (.string) := rfl
@[simp] theorem tzero9 : tab.zero 9 = some [.str []] := rfl
@[simp] theorem tmeth10_101 : tab.meth 10 "Error" = some 101 := rfl
@[simp] theorem tmeth10_102 : tab.meth 10 "RuntimeError" = some 102 := rfl
@[simp] theorem tsize10 : tab.size 10 = some 1 := rfl
@[simp] theorem tbytes10 : tab.bytes 10 = some 16 := rfl
@[simp] theorem tagg10 : tab.agg 10 = some false := rfl
@[simp] theorem tkind10 : tab.kind 10 = some (.string) := rfl
@[simp] theorem tzero10 : tab.zero 10 = some [.str []] := rfl
@[simp] theorem tmeth11_103 : tab.meth 11 "Error" = some 103 := rfl
@[simp] theorem tmeth11_104 : tab.meth 11 "RuntimeError" = some 104 := rfl
@[simp] theorem tsize11 : tab.size 11 = some 1 := rfl
@[simp] theorem tbytes11 : tab.bytes 11 = some 16 := rfl
@[simp] theorem tagg11 : tab.agg 11 = some false := rfl
@[simp] theorem tkind11 : tab.kind 11 = some (.string) := rfl
@[simp] theorem tzero11 : tab.zero 11 = some [.str []] := rfl
@[simp] theorem tsize12 : tab.size 12 = some 1 := rfl
@[simp] theorem tbytes12 : tab.bytes 12 = some 8 := rfl
@[simp] theorem tagg12 : tab.agg 12 = some false := rfl
@[simp] theorem tkind12 : tab.kind 12 = some (.int .u64) := rfl
@[simp] theorem tzero12 : tab.zero 12 = some [.int .u64 0] := rfl
@[simp] theorem tsize13 : tab.size 13 = some 2 := rfl
@[simp] theorem tbytes13 : tab.bytes 13 = some 24 := rfl
@[simp] theorem tagg13 : tab.agg 13 = some true := rfl
@[simp] theorem tkind13 : tab.kind 13 = some (.struct [(0, 9), (1, 12)]) := rfl
@[simp] theorem tzero13 : tab.zero 13 = some [.str [], .int .u64 0] := rfl
@[simp] theorem tfoff13_0 : tab.foff 13 0 = some (0, 1) := rfl
@[simp] theorem tfoff13_1 : tab.foff 13 1 = some (1, 1) := rfl
@[simp] theorem tsok13 : structOk tab 13 = true := rfl
@[simp] theorem tmeth14_105 : tab.meth 14 "Error" = some 105 := rfl
@[simp] theorem tmeth14_106 : tab.meth 14 "RuntimeError" = some 106 := rfl
@[simp] theorem tsize14 : tab.size 14 = some 2 := rfl
@[simp] theorem tbytes14 : tab.bytes 14 = some 24 := rfl
@[simp] theorem tagg14 : tab.agg 14 = some true := rfl
@[simp] theorem tkind14 : tab.kind 14 = some (.struct [(0, 9), (1, 12)]) := rfl
@[simp] theorem tzero14 : tab.zero 14 = some [.str [], .int .u64 0] := rfl
@[simp] theorem tfoff14_0 : tab.foff 14 0 = some (0, 1) := rfl
@[simp] theorem tfoff14_1 : tab.foff 14 1 = some (1, 1) := rfl
@[simp] theorem tsok14 : structOk tab 14 = true := rfl
@[simp] theorem tsize15 : tab.size 15 = some 1 := rfl
@[simp] theorem tbytes15 : tab.bytes 15 = some 8 := rfl
@[simp] theorem tagg15 : tab.agg 15 = some false := rfl
@[simp] theorem tkind15 : tab.kind 15 = some (.ptr 131) := rfl
@[simp] theorem tzero15 : tab.zero 15 = some [.raw (.pointer none)] := rfl
@[simp] theorem tsize16 : tab.size 16 = some 1 := rfl
@[simp] theorem tbytes16 : tab.bytes 16 = some 8 := rfl
@[simp] theorem tagg16 : tab.agg 16 = some false := rfl
@[simp] theorem tkind16 : tab.kind 16 = some (.ptr 134) := rfl
@[simp] theorem tzero16 : tab.zero 16 = some [.raw (.pointer none)] := rfl
@[simp] theorem tsize17 : tab.size 17 = some 1 := rfl
@[simp] theorem tbytes17 : tab.bytes 17 = some 8 := rfl
@[simp] theorem tagg17 : tab.agg 17 = some false := rfl
@[simp] theorem tkind17 : tab.kind 17 = some (.ptr 142) := rfl
@[simp] theorem tzero17 : tab.zero 17 = some [.raw (.pointer none)] := rfl
@[simp] theorem tsize18 : tab.size 18 = some 1 := rfl
@[simp] theorem tbytes18 : tab.bytes 18 = some 8 := rfl
@[simp] theorem tagg18 : tab.agg 18 = some true := rfl
@[simp] theorem tkind18 : tab.kind 18 = some (.struct [(0, 17)]) := rfl
@[simp] theorem tzero18 : tab.zero 18 = some [.raw (.pointer none)] := rfl
@[simp] theorem tfoff18_0 : tab.foff 18 0 = some (0, 1) := rfl
@[simp] theorem tsok18 : structOk tab 18 = true := rfl
@[simp] theorem tmeth19_112 : tab.meth 19 "Error" = some 112 := rfl
@[simp] theorem tmeth19_113 : tab.meth 19 "RuntimeError" = some 113 := rfl
@[simp] theorem tsize19 : tab.size 19 = some 1 := rfl
@[simp] theorem tbytes19 : tab.bytes 19 = some 8 := rfl
@[simp] theorem tagg19 : tab.agg 19 = some true := rfl
@[simp] theorem tkind19 : tab.kind 19 = some (.struct [(0, 17)]) := rfl
@[simp] theorem tzero19 : tab.zero 19 = some [.raw (.pointer none)] := rfl
@[simp] theorem tfoff19_0 : tab.foff 19 0 = some (0, 1) := rfl
@[simp] theorem tsok19 : structOk tab 19 = true := rfl
@[simp] theorem tsize20 : tab.size 20 = some 1 := rfl
@[simp] theorem tbytes20 : tab.bytes 20 = some 16 := rfl
@[simp] theorem tagg20 : tab.agg 20 = some false := rfl
@[simp] theorem tkind20 : tab.kind 20 = some (.iface) := rfl
@[simp] theorem tzero20 : tab.zero 20 = some [.raw .nilIface] := rfl
@[simp] theorem tsize21 : tab.size 21 = some 1 := rfl
@[simp] theorem tbytes21 : tab.bytes 21 = some 4 := rfl
@[simp] theorem tagg21 : tab.agg 21 = some false := rfl
@[simp] theorem tkind21 : tab.kind 21 = some (.int .i32) := rfl
@[simp] theorem tzero21 : tab.zero 21 = some [.int .i32 0] := rfl
@[simp] theorem tsize22 : tab.size 22 = some 1 := rfl
@[simp] theorem tbytes22 : tab.bytes 22 = some 8 := rfl
@[simp] theorem tagg22 : tab.agg 22 = some false := rfl
@[simp] theorem tkind22 : tab.kind 22 = some (.func) := rfl
@[simp] theorem tzero22 : tab.zero 22 = some [.raw .nilFunc] := rfl
@[simp] theorem tsize23 : tab.size 23 = some 1 := rfl
@[simp] theorem tbytes23 : tab.bytes 23 = some 8 := rfl
@[simp] theorem tagg23 : tab.agg 23 = some false := rfl
@[simp] theorem tkind23 : tab.kind 23 = some (.func) := rfl
@[simp] theorem tzero23 : tab.zero 23 = some [.raw .nilFunc] := rfl
@[simp] theorem tsize24 : tab.size 24 = some 1 := rfl
@[simp] theorem tbytes24 : tab.bytes 24 = some 24 := rfl
@[simp] theorem tagg24 : tab.agg 24 = some false := rfl
@[simp] theorem tkind24 : tab.kind 24 = some (.slice 9) := rfl
@[simp] theorem tzero24 : tab.zero 24 = some [.nil] := rfl
@[simp] theorem telem24 : tab.elem 24 = some 9 := rfl
@[simp] theorem tsize26 : tab.size 26 = some 1 := rfl
@[simp] theorem tbytes26 : tab.bytes 26 = some 8 := rfl
@[simp] theorem tagg26 : tab.agg 26 = some false := rfl
@[simp] theorem tkind26 : tab.kind 26 = some (.func) := rfl
@[simp] theorem tzero26 : tab.zero 26 = some [.raw .nilFunc] := rfl
@[simp] theorem tsize27 : tab.size 27 = some 1 := rfl
@[simp] theorem tbytes27 : tab.bytes 27 = some 8 := rfl
@[simp] theorem tagg27 : tab.agg 27 = some false := rfl
@[simp] theorem tkind27 : tab.kind 27 = some (.func) := rfl
@[simp] theorem tzero27 : tab.zero 27 = some [.raw .nilFunc] := rfl
@[simp] theorem tsize28 : tab.size 28 = some 1 := rfl
@[simp] theorem tbytes28 : tab.bytes 28 = some 8 := rfl
@[simp] theorem tagg28 : tab.agg 28 = some false := rfl
@[simp] theorem tkind28 : tab.kind 28 = some (.func) := rfl
@[simp] theorem tzero28 : tab.zero 28 = some [.raw .nilFunc] := rfl
@[simp] theorem tsize29 : tab.size 29 = some 1 := rfl
@[simp] theorem tbytes29 : tab.bytes 29 = some 8 := rfl
@[simp] theorem tagg29 : tab.agg 29 = some false := rfl
@[simp] theorem tkind29 : tab.kind 29 = some (.func) := rfl
@[simp] theorem tzero29 : tab.zero 29 = some [.raw .nilFunc] := rfl
@[simp] theorem tsize30 : tab.size 30 = some 1 := rfl
@[simp] theorem tbytes30 : tab.bytes 30 = some 24 := rfl
@[simp] theorem tagg30 : tab.agg 30 = some false := rfl
@[simp] theorem tkind30 : tab.kind 30 = some (.slice 5) := rfl
@[simp] theorem tzero30 : tab.zero 30 = some [.nil] := rfl
@[simp] theorem telem30 : tab.elem 30 = some 5 := rfl
@[simp] theorem tsize31 : tab.size 31 = some 1 := rfl
@[simp] theorem tbytes31 : tab.bytes 31 = some 8 := rfl
@[simp] theorem tagg31 : tab.agg 31 = some false := rfl
@[simp] theorem tkind31 : tab.kind 31 = some (.func) := rfl
@[simp] theorem tzero31 : tab.zero 31 = some [.raw .nilFunc] := rfl
@[simp] theorem tsize32 : tab.size 32 = some 1 := rfl
@[simp] theorem tbytes32 : tab.bytes 32 = some 8 := rfl
@[simp] theorem tagg32 : tab.agg 32 = some false := rfl
@[simp] theorem tkind32 : tab.kind 32 = some (.func) := rfl
@[simp] theorem tzero32 : tab.zero 32 = some [.raw .nilFunc] := rfl
@[simp] theorem tsize33 : tab.size 33 = some 1 := rfl
@[simp] theorem tbytes33 : tab.bytes 33 = some 8 := rfl
@[simp] theorem tagg33 : tab.agg 33 = some false := rfl
@[simp] theorem tkind33 : tab.kind 33 = some (.func) := rfl
@[simp] theorem tzero33 : tab.zero 33 = some [.raw .nilFunc] := rfl
@[simp] theorem tsize34 : tab.size 34 = some 1 := rfl
@[simp] theorem tbytes34 : tab.bytes 34 = some 8 := rfl
@[simp] theorem tagg34 : tab.agg 34 = some false := rfl
@[simp] theorem tkind34 : tab.kind 34 = some (.func) := rfl
@[simp] theorem tzero34 : tab.zero 34 = some [.raw .nilFunc] := rfl
@[simp] theorem tsize35 : tab.size 35 = some 1 := rfl
@[simp] theorem tbytes35 : tab.bytes 35 = some 24 := rfl
@[simp] theorem tagg35 : tab.agg 35 = some false := rfl
@[simp] theorem tkind35 : tab.kind 35 = some (.slice 37) := rfl
@[simp] theorem tzero35 : tab.zero 35 = some [.nil] := rfl
@[simp] theorem telem35 : tab.elem 35 = some 37 := rfl
@[simp] theorem tsize36 : tab.size 36 = some 5 := rfl
@[simp] theorem tbytes36 : tab.bytes 36 = some 80 := rfl
@[simp] theorem tagg36 : tab.agg 36 = some true := rfl
@[simp] theorem tkind36 : tab.kind 36 = some (.struct [(0, 3), (1, 3), (2, 9), (3, 35), (4, 24)]) := rfl
@[simp] theorem tzero36 : tab.zero 36 = some [.int .i64 0, .int .i64 0, .str [], .nil, .nil] := rfl
@[simp] theorem tfoff36_0 : tab.foff 36 0 = some (0, 1) := rfl
@[simp] theorem tfoff36_1 : tab.foff 36 1 = some (1, 1) := rfl
@[simp] theorem tfoff36_2 : tab.foff 36 2 = some (2, 1) := rfl
@[simp] theorem tfoff36_3 : tab.foff 36 3 = some (3, 1) := rfl
@[simp] theorem tfoff36_4 : tab.foff 36 4 = some (4, 1) := rfl
@[simp] theorem tsok36 : structOk tab 36 = true := rfl
@[simp] theorem tsize37 : tab.size 37 = some 5 := rfl
@[simp] theorem tbytes37 : tab.bytes 37 = some 80 := rfl
@[simp] theorem tagg37 : tab.agg 37 = some true := rfl
@[simp] theorem tkind37 : tab.kind 37 = some (.struct [(0, 3), (1, 3), (2, 9), (3, 35), (4, 24)]) := rfl
@[simp] theorem tzero37 : tab.zero 37 = some [.int .i64 0, .int .i64 0, .str [], .nil, .nil] := rfl
@[simp] theorem tfoff37_0 : tab.foff 37 0 = some (0, 1) := rfl
@[simp] theorem tfoff37_1 : tab.foff 37 1 = some (1, 1) := rfl
@[simp] theorem tfoff37_2 : tab.foff 37 2 = some (2, 1) := rfl
@[simp] theorem tfoff37_3 : tab.foff 37 3 = some (3, 1) := rfl
@[simp] theorem tfoff37_4 : tab.foff 37 4 = some (4, 1) := rfl
@[simp] theorem tsok37 : structOk tab 37 = true := rfl
@[simp] theorem tsize38 : tab.size 38 = some 1 := rfl
@[simp] theorem tbytes38 : tab.bytes 38 = some 8 := rfl
@[simp] theorem tagg38 : tab.agg 38 = some false := rfl
@[simp] theorem tkind38 : tab.kind 38 = some (.func) := rfl
@[simp] theorem tzero38 : tab.zero 38 = some [.raw .nilFunc] := rfl
@[simp] theorem tsize39 : tab.size 39 = some 1 := rfl
@[simp] theorem tbytes39 : tab.bytes 39 = some 8 := rfl
@[simp] theorem tagg39 : tab.agg 39 = some false := rfl
@[simp] theorem tkind39 : tab.kind 39 = some (.func) := rfl
@[simp] theorem tzero39 : tab.zero 39 = some [.raw .nilFunc] := rfl
@[simp] theorem tsize40 : tab.size 40 = some 1 := rfl
@[simp] theorem tbytes40 : tab.bytes 40 = some 24 := rfl
@[simp] theorem tagg40 : tab.agg 40 = some false := rfl
@[simp] theorem tkind40 : tab.kind 40 = some (.slice 42) := rfl
@[simp] theorem tzero40 : tab.zero 40 = some [.nil] := rfl
@[simp] theorem telem40 : tab.elem 40 = some 42 := rfl
@[simp] theorem tsize41 : tab.size 41 = some 5 := rfl
@[simp] theorem tbytes41 : tab.bytes 41 = some 80 := rfl
@[simp] theorem tagg41 : tab.agg 41 = some true := rfl
@[simp] theorem tkind41 : tab.kind 41 = some (.struct [(0, 3), (1, 3), (2, 9), (3, 40), (4, 24)]) := rfl
@[simp] theorem tzero41 : tab.zero 41 = some [.int .i64 0, .int .i64 0, .str [], .nil, .nil] := rfl
@[simp] theorem tfoff41_0 : tab.foff 41 0 = some (0, 1) := rfl
@[simp] theorem tfoff41_1 : tab.foff 41 1 = some (1, 1) := rfl
@[simp] theorem tfoff41_2 : tab.foff 41 2 = some (2, 1) := rfl
@[simp] theorem tfoff41_3 : tab.foff 41 3 = some (3, 1) := rfl
@[simp] theorem tfoff41_4 : tab.foff 41 4 = some (4, 1) := rfl
@[simp] theorem tsok41 : structOk tab 41 = true := rfl
@[simp] theorem tsize42 : tab.size 42 = some 5 := rfl
@[simp] theorem tbytes42 : tab.bytes 42 = some 80 := rfl
@[simp] theorem tagg42 : tab.agg 42 = some true := rfl
@[simp] theorem tkind42 : tab.kind 42 = some (.struct [(0, 3), (1, 3), (2, 9), (3, 40), (4, 24)]) := rfl
@[simp] theorem tzero42 : tab.zero 42 = some [.int .i64 0, .int .i64 0, .str [], .nil, .nil] := rfl
@[simp] theorem tfoff42_0 : tab.foff 42 0 = some (0, 1) := rfl
@[simp] theorem tfoff42_1 : tab.foff 42 1 = some (1, 1) := rfl
@[simp] theorem tfoff42_2 : tab.foff 42 2 = some (2, 1) := rfl
@[simp] theorem tfoff42_3 : tab.foff 42 3 = some (3, 1) := rfl
@[simp] theorem tfoff42_4 : tab.foff 42 4 = some (4, 1) := rfl
@[simp] theorem tsok42 : structOk tab 42 = true := rfl
@[simp] theorem tsize43 : tab.size 43 = some 1 := rfl
@[simp] theorem tbytes43 : tab.bytes 43 = some 8 := rfl
@[simp] theorem tagg43 : tab.agg 43 = some false := rfl
@[simp] theorem tkind43 : tab.kind 43 = some (.func) := rfl
@[simp] theorem tzero43 : tab.zero 43 = some [.raw .nilFunc] := rfl
@[simp] theorem tsize44 : tab.size 44 = some 1 := rfl
@[simp] theorem tbytes44 : tab.bytes 44 = some 8 := rfl
@[simp] theorem tagg44 : tab.agg 44 = some false := rfl
@[simp] theorem tkind44 : tab.kind 44 = some (.func) := rfl
@[simp] theorem tzero44 : tab.zero 44 = some [.raw .nilFunc] := rfl
@[simp] theorem tsize45 : tab.size 45 = some 1 := rfl
@[simp] theorem tbytes45 : tab.bytes 45 = some 8 := rfl
@[simp] theorem tagg45 : tab.agg 45 = some false := rfl
@[simp] theorem tkind45 : tab.kind 45 = some (.func) := rfl
@[simp] theorem tzero45 : tab.zero 45 = some [.raw .nilFunc] := rfl
@[simp] theorem tsize46 : tab.size 46 = some 1 := rfl
@[simp] theorem tbytes46 : tab.bytes 46 = some 8 := rfl
@[simp] theorem tagg46 : tab.agg 46 = some false := rfl
@[simp] theorem tkind46 : tab.kind 46 = some (.func) := rfl
@[simp] theorem tzero46 : tab.zero 46 = some [.raw .nilFunc] := rfl
@[simp] theorem tsize47 : tab.size 47 = some 1 := rfl
@[simp] theorem tbytes47 : tab.bytes 47 = some 8 := rfl
@[simp] theorem tagg47 : tab.agg 47 = some false := rfl
@[simp] theorem tkind47 : tab.kind 47 = some (.func) := rfl
@[simp] theorem tzero47 : tab.zero 47 = some [.raw .nilFunc] := rfl
@[simp] theorem tsize49 : tab.size 49 = some 1 := rfl
@[simp] theorem tbytes49 : tab.bytes 49 = some 8 := rfl
@[simp] theorem tagg49 : tab.agg 49 = some false := rfl
@[simp] theorem tkind49 : tab.kind 49 = some (.func) := rfl
@[simp] theorem tzero49 : tab.zero 49 = some [.raw .nilFunc] := rfl
@[simp] theorem tsize50 : tab.size 50 = some 1 := rfl
@[simp] theorem tbytes50 : tab.bytes 50 = some 8 := rfl
@[simp] theorem tagg50 : tab.agg 50 = some false := rfl
@[simp] theorem tkind50 : tab.kind 50 = some (.ptr 73) := rfl
@[simp] theorem tzero50 : tab.zero 50 = some [.raw (.pointer none)] := rfl
@[simp] theorem tsize51 : tab.size 51 = some 1 := rfl
@[simp] theorem tbytes51 : tab.bytes 51 = some 8 := rfl
@[simp] theorem tagg51 : tab.agg 51 = some false := rfl
@[simp] theorem tkind51 : tab.kind 51 = some (.func) := rfl
@[simp] theorem tzero51 : tab.zero 51 = some [.raw .nilFunc] := rfl
@[simp] theorem tsize52 : tab.size 52 = some 1 := rfl
@[simp] theorem tbytes52 : tab.bytes 52 = some 8 := rfl
@[simp] theorem tagg52 : tab.agg 52 = some false := rfl
@[simp] theorem tkind52 : tab.kind 52 = some (.func) := rfl
@[simp] theorem tzero52 : tab.zero 52 = some [.raw .nilFunc] := rfl
@[simp] theorem tsize53 : tab.size 53 = some 1 := rfl
@[simp] theorem tbytes53 : tab.bytes 53 = some 8 := rfl
@[simp] theorem tagg53 : tab.agg 53 = some false := rfl
@[simp] theorem tkind53 : tab.kind 53 = some (.ptr 55) := rfl
@[simp] theorem tzero53 : tab.zero 53 = some [.raw (.pointer none)] := rfl
@[simp] theorem tsize54 : tab.size 54 = some 2 := rfl
@[simp] theorem tbytes54 : tab.bytes 54 = some 32 := rfl
@[simp] theorem tagg54 : tab.agg 54 = some true := rfl
@[simp] theorem tkind54 : tab.kind 54 = some (.struct [(0, 53), (1, 30)]) := rfl
@[simp] theorem tzero54 : tab.zero 54 = some [.raw (.pointer none), .nil] := rfl
@[simp] theorem tfoff54_0 : tab.foff 54 0 = some (0, 1) := rfl
@[simp] theorem tfoff54_1 : tab.foff 54 1 = some (1, 1) := rfl
@[simp] theorem tsok54 : structOk tab 54 = true := rfl
@[simp] theorem tsize55 : tab.size 55 = some 2 := rfl
@[simp] theorem tbytes55 : tab.bytes 55 = some 32 := rfl
@[simp] theorem tagg55 : tab.agg 55 = some true := rfl
@[simp] theorem tkind55 : tab.kind 55 = some (.struct [(0, 53), (1, 30)]) := rfl
@[simp] theorem tzero55 : tab.zero 55 = some [.raw (.pointer none), .nil] := rfl
@[simp] theorem tfoff55_0 : tab.foff 55 0 = some (0, 1) := rfl
@[simp] theorem tfoff55_1 : tab.foff 55 1 = some (1, 1) := rfl
@[simp] theorem tsok55 : structOk tab 55 = true := rfl
@[simp] theorem tsize56 : tab.size 56 = some 1 := rfl
@[simp] theorem tbytes56 : tab.bytes 56 = some 16 := rfl
@[simp] theorem tagg56 : tab.agg 56 = some false := rfl
@[simp] theorem tkind56 : tab.kind 56 = some (.iface) := rfl
@[simp] theorem tzero56 : tab.zero 56 = some [.raw .nilIface] := rfl
@[simp] theorem tsize57 : tab.size 57 = some 1 := rfl
@[simp] theorem tbytes57 : tab.bytes 57 = some 16 := rfl
@[simp] theorem tagg57 : tab.agg 57 = some false := rfl
@[simp] theorem tkind57 : tab.kind 57 = some (.iface) := rfl
@[simp] theorem tzero57 : tab.zero 57 = some [.raw .nilIface] := rfl
@[simp] theorem tsize58 : tab.size 58 = some 1 := rfl
@[simp] theorem tbytes58 : tab.bytes 58 = some 8 := rfl
@[simp] theorem tagg58 : tab.agg 58 = some false := rfl
@[simp] theorem tkind58 : tab.kind 58 = some (.func) := rfl
@[simp] theorem tzero58 : tab.zero 58 = some [.raw .nilFunc] := rfl
@[simp] theorem tsize60 : tab.size 60 = some 1 := rfl
@[simp] theorem tbytes60 : tab.bytes 60 = some 8 := rfl
@[simp] theorem tagg60 : tab.agg 60 = some false := rfl
@[simp] theorem tkind60 : tab.kind 60 = some (.func) := rfl
@[simp] theorem tzero60 : tab.zero 60 = some [.raw .nilFunc] := rfl
@[simp] theorem tsize61 : tab.size 61 = some 1 := rfl
@[simp] theorem tbytes61 : tab.bytes 61 = some 8 := rfl
@[simp] theorem tagg61 : tab.agg 61 = some false := rfl
@[simp] theorem tkind61 : tab.kind 61 = some (.func) := rfl
@[simp] theorem tzero61 : tab.zero 61 = some [.raw .nilFunc] := rfl
@[simp] theorem tsize62 : tab.size 62 = some 1 := rfl
@[simp] theorem tbytes62 : tab.bytes 62 = some 8 := rfl
@[simp] theorem tagg62 : tab.agg 62 = some false := rfl
@[simp] theorem tkind62 : tab.kind 62 = some (.func) := rfl
@[simp] theorem tzero62 : tab.zero 62 = some [.raw .nilFunc] := rfl
@[simp] theorem tsize63 : tab.size 63 = some 1 := rfl
@[simp] theorem tbytes63 : tab.bytes 63 = some 8 := rfl
@[simp] theorem tagg63 : tab.agg 63 = some false := rfl
@[simp] theorem tkind63 : tab.kind 63 = some (.func) := rfl
@[simp] theorem tzero63 : tab.zero 63 = some [.raw .nilFunc] := rfl
@[simp] theorem tsize64 : tab.size 64 = some 1 := rfl
@[simp] theorem tbytes64 : tab.bytes 64 = some 8 := rfl
@[simp] theorem tagg64 : tab.agg 64 = some false := rfl
@[simp] theorem tkind64 : tab.kind 64 = some (.func) := rfl
@[simp] theorem tzero64 : tab.zero 64 = some [.raw .nilFunc] := rfl
@[simp] theorem tsize65 : tab.size 65 = some 1 := rfl
@[simp] theorem tbytes65 : tab.bytes 65 = some 8 := rfl
@[simp] theorem tagg65 : tab.agg 65 = some false := rfl
@[simp] theorem tkind65 : tab.kind 65 = some (.func) := rfl
@[simp] theorem tzero65 : tab.zero 65 = some [.raw .nilFunc] := rfl
@[simp] theorem tsize66 : tab.size 66 = some 1 := rfl
@[simp] theorem tbytes66 : tab.bytes 66 = some 8 := rfl
@[simp] theorem tagg66 : tab.agg 66 = some false := rfl
@[simp] theorem tkind66 : tab.kind 66 = some (.func) := rfl
@[simp] theorem tzero66 : tab.zero 66 = some [.raw .nilFunc] := rfl
@[simp] theorem tsize67 : tab.size 67 = some 1 := rfl
@[simp] theorem tbytes67 : tab.bytes 67 = some 8 := rfl
@[simp] theorem tagg67 : tab.agg 67 = some false := rfl
@[simp] theorem tkind67 : tab.kind 67 = some (.func) := rfl
@[simp] theorem tzero67 : tab.zero 67 = some [.raw .nilFunc] := rfl
@[simp] theorem tsize68 : tab.size 68 = some 1 := rfl
@[simp] theorem tbytes68 : tab.bytes 68 = some 8 := rfl
@[simp] theorem tagg68 : tab.agg 68 = some false := rfl
@[simp] theorem tkind68 : tab.kind 68 = some (.func) := rfl
@[simp] theorem tzero68 : tab.zero 68 = some [.raw .nilFunc] := rfl
@[simp] theorem tsize69 : tab.size 69 = some 1 := rfl
@[simp] theorem tbytes69 : tab.bytes 69 = some 8 := rfl
@[simp] theorem tagg69 : tab.agg 69 = some false := rfl
@[simp] theorem tkind69 : tab.kind 69 = some (.func) := rfl
@[simp] theorem tzero69 : tab.zero 69 = some [.raw .nilFunc] := rfl
@[simp] theorem tsize70 : tab.size 70 = some 1 := rfl
@[simp] theorem tbytes70 : tab.bytes 70 = some 8 := rfl
@[simp] theorem tagg70 : tab.agg 70 = some false := rfl
@[simp] theorem tkind70 : tab.kind 70 = some (.func) := rfl
@[simp] theorem tzero70 : tab.zero 70 = some [.raw .nilFunc] := rfl
@[simp] theorem tsize71 : tab.size 71 = some 1 := rfl
@[simp] theorem tbytes71 : tab.bytes 71 = some 8 := rfl
@[simp] theorem tagg71 : tab.agg 71 = some false := rfl
@[simp] theorem tkind71 : tab.kind 71 = some (.func) := rfl
@[simp] theorem tzero71 : tab.zero 71 = some [.raw .nilFunc] := rfl
@[simp] theorem tsize72 : tab.size 72 = some 2 := rfl
@[simp] theorem tbytes72 : tab.bytes 72 = some 32 := rfl
@[simp] theorem tagg72 : tab.agg 72 = some true := rfl
@[simp] theorem tkind72 : tab.kind 72 = some (.struct [(0, 30), (1, 3)]) := rfl
@[simp] theorem tzero72 : tab.zero 72 = some [.nil, .int .i64 0] := rfl
@[simp] theorem tfoff72_0 : tab.foff 72 0 = some (0, 1) := rfl
@[simp] theorem tfoff72_1 : tab.foff 72 1 = some (1, 1) := rfl
@[simp] theorem tsok72 : structOk tab 72 = true := rfl
@[simp] theorem tsize73 : tab.size 73 = some 2 := rfl
@[simp] theorem tbytes73 : tab.bytes 73 = some 32 := rfl
@[simp] theorem tagg73 : tab.agg 73 = some true := rfl
@[simp] theorem tkind73 : tab.kind 73 = some (.struct [(0, 30), (1, 3)]) := rfl
@[simp] theorem tzero73 : tab.zero 73 = some [.nil, .int .i64 0] := rfl
@[simp] theorem tfoff73_0 : tab.foff 73 0 = some (0, 1) := rfl
@[simp] theorem tfoff73_1 : tab.foff 73 1 = some (1, 1) := rfl
@[simp] theorem tsok73 : structOk tab 73 = true := rfl
@[simp] theorem tsize74 : tab.size 74 = some 1 := rfl
@[simp] theorem tbytes74 : tab.bytes 74 = some 8 := rfl
@[simp] theorem tagg74 : tab.agg 74 = some false := rfl
@[simp] theorem tkind74 : tab.kind 74 = some (.ptr 5) := rfl
@[simp] theorem tzero74 : tab.zero 74 = some [.raw (.pointer none)] := rfl
@[simp] theorem tsize75 : tab.size 75 = some 1 := rfl
@[simp] theorem tbytes75 : tab.bytes 75 = some 8 := rfl
@[simp] theorem tagg75 : tab.agg 75 = some false := rfl
@[simp] theorem tkind75 : tab.kind 75 = some (.func) := rfl
@[simp] theorem tzero75 : tab.zero 75 = some [.raw .nilFunc] := rfl
@[simp] theorem tsize76 : tab.size 76 = some 1 := rfl
@[simp] theorem tbytes76 : tab.bytes 76 = some 8 := rfl
@[simp] theorem tagg76 : tab.agg 76 = some false := rfl
@[simp] theorem tkind76 : tab.kind 76 = some (.func) := rfl
@[simp] theorem tzero76 : tab.zero 76 = some [.raw .nilFunc] := rfl
@[simp] theorem tsize77 : tab.size 77 = some 1 := rfl
@[simp] theorem tbytes77 : tab.bytes 77 = some 16 := rfl
@[simp] theorem tagg77 : tab.agg 77 = some false := rfl
@[simp] theorem tkind77 : tab.kind 77 = some (.iface) := rfl
@[simp] theorem tzero77 : tab.zero 77 = some [.raw .nilIface] := rfl
@[simp] theorem tsize78 : tab.size 78 = some 1 := rfl
@[simp] theorem tbytes78 : tab.bytes 78 = some 16 := rfl
@[simp] theorem tagg78 : tab.agg 78 = some false := rfl
@[simp] theorem tkind78 : tab.kind 78 = some (.iface) := rfl
@[simp] theorem tzero78 : tab.zero 78 = some [.raw .nilIface] := rfl
@[simp] theorem tsize79 : tab.size 79 = some 1 := rfl
@[simp] theorem tbytes79 : tab.bytes 79 = some 8 := rfl
@[simp] theorem tagg79 : tab.agg 79 = some false := rfl
@[simp] theorem tkind79 : tab.kind 79 = some (.func) := rfl
@[simp] theorem tzero79 : tab.zero 79 = some [.raw .nilFunc] := rfl
@[simp] theorem tmeth80_115 : tab.meth 80 "loop.example/pergola/impl.within" = some 115 := rfl
@[simp] theorem tsize80 : tab.size 80 = some 1 := rfl
@[simp] theorem tbytes80 : tab.bytes 80 = some 1 := rfl
@[simp] theorem tagg80 : tab.agg 80 = some false := rfl
@[simp] theorem tkind80 : tab.kind 80 = some (.bool) := rfl
@[simp] theorem tzero80 : tab.zero 80 = some [.bool false] := rfl
@[simp] theorem tsize81 : tab.size 81 = some 1 := rfl
@[simp] theorem tbytes81 : tab.bytes 81 = some 8 := rfl
@[simp] theorem tagg81 : tab.agg 81 = some false := rfl
@[simp] theorem tkind81 : tab.kind 81 = some (.func) := rfl
@[simp] theorem tzero81 : tab.zero 81 = some [.raw .nilFunc] := rfl
@[simp] theorem tmeth82_116 : tab.meth 82 "loop.example/pergola/impl.within" = some 116 := rfl
@[simp] theorem tsize82 : tab.size 82 = some 1 := rfl
@[simp] theorem tbytes82 : tab.bytes 82 = some 8 := rfl
@[simp] theorem tagg82 : tab.agg 82 = some false := rfl
@[simp] theorem tkind82 : tab.kind 82 = some (.int .i64) := rfl
@[simp] theorem tzero82 : tab.zero 82 = some [.int .i64 0] := rfl
@[simp] theorem tmeth83_117 : tab.meth 83 "loop.example/pergola/impl.within" = some 117 := rfl
@[simp] theorem tsize83 : tab.size 83 = some 1 := rfl
@[simp] theorem tbytes83 : tab.bytes 83 = some 16 := rfl
@[simp] theorem tagg83 : tab.agg 83 = some false := rfl
@[simp] theorem tkind83 : tab.kind 83 = some (.string) := rfl
@[simp] theorem tzero83 : tab.zero 83 = some [.str []] := rfl
@[simp] theorem tmeth84_118 : tab.meth 84 "loop.example/pergola/impl.within" = some 118 := rfl
@[simp] theorem tsize84 : tab.size 84 = some 1 := rfl
@[simp] theorem tbytes84 : tab.bytes 84 = some 24 := rfl
@[simp] theorem tagg84 : tab.agg 84 = some false := rfl
@[simp] theorem tkind84 : tab.kind 84 = some (.slice 42) := rfl
@[simp] theorem tzero84 : tab.zero 84 = some [.nil] := rfl
@[simp] theorem telem84 : tab.elem 84 = some 42 := rfl
@[simp] theorem tsize85 : tab.size 85 = some 1 := rfl
@[simp] theorem tbytes85 : tab.bytes 85 = some 8 := rfl
@[simp] theorem tagg85 : tab.agg 85 = some false := rfl
@[simp] theorem tkind85 : tab.kind 85 = some (.func) := rfl
@[simp] theorem tzero85 : tab.zero 85 = some [.raw .nilFunc] := rfl
@[simp] theorem tsize86 : tab.size 86 = some 2 := rfl
@[simp] theorem tbytes86 : tab.bytes 86 = some 48 := rfl
@[simp] theorem tagg86 : tab.agg 86 = some true := rfl
@[simp] theorem tkind86 : tab.kind 86 = some (.struct [(0, 24), (1, 40)]) := rfl
@[simp] theorem tzero86 : tab.zero 86 = some [.nil, .nil] := rfl
@[simp] theorem tfoff86_0 : tab.foff 86 0 = some (0, 1) := rfl
@[simp] theorem tfoff86_1 : tab.foff 86 1 = some (1, 1) := rfl
@[simp] theorem tsok86 : structOk tab 86 = true := rfl
@[simp] theorem tmeth87_119 : tab.meth 87 "loop.example/pergola/impl.within" = some 119 := rfl
@[simp] theorem tsize87 : tab.size 87 = some 2 := rfl
@[simp] theorem tbytes87 : tab.bytes 87 = some 48 := rfl
@[simp] theorem tagg87 : tab.agg 87 = some true := rfl
@[simp] theorem tkind87 : tab.kind 87 = some (.struct [(0, 24), (1, 40)]) := rfl
@[simp] theorem tzero87 : tab.zero 87 = some [.nil, .nil] := rfl
@[simp] theorem tfoff87_0 : tab.foff 87 0 = some (0, 1) := rfl
@[simp] theorem tfoff87_1 : tab.foff 87 1 = some (1, 1) := rfl
@[simp] theorem tsok87 : structOk tab 87 = true := rfl
@[simp] theorem tmeth88_120 : tab.meth 88 "loop.example/pergola/impl.within" = some 120 := rfl
@[simp] theorem tsize88 : tab.size 88 = some 1 := rfl
@[simp] theorem tbytes88 : tab.bytes 88 = some 16 := rfl
@[simp] theorem tagg88 : tab.agg 88 = some false := rfl
@[simp] theorem tkind88 : tab.kind 88 = some (.string) := rfl
@[simp] theorem tzero88 : tab.zero 88 = some [.str []] := rfl
@[simp] theorem tmeth89_121 : tab.meth 89 "loop.example/pergola/impl.within" = some 121 := rfl
@[simp] theorem tsize89 : tab.size 89 = some 1 := rfl
@[simp] theorem tbytes89 : tab.bytes 89 = some 16 := rfl
@[simp] theorem tagg89 : tab.agg 89 = some false := rfl
@[simp] theorem tkind89 : tab.kind 89 = some (.string) := rfl
@[simp] theorem tzero89 : tab.zero 89 = some [.str []] := rfl
@[simp] theorem tsize90 : tab.size 90 = some 1 := rfl
@[simp] theorem tbytes90 : tab.bytes 90 = some 8 := rfl
@[simp] theorem tagg90 : tab.agg 90 = some false := rfl
@[simp] theorem tkind90 : tab.kind 90 = some (.int .u64) := rfl
@[simp] theorem tzero90 : tab.zero 90 = some [.int .u64 0] := rfl
@[simp] theorem tsize91 : tab.size 91 = some 1 := rfl
@[simp] theorem tbytes91 : tab.bytes 91 = some 8 := rfl
@[simp] theorem tagg91 : tab.agg 91 = some false := rfl
@[simp] theorem tkind91 : tab.kind 91 = some (.func) := rfl
@[simp] theorem tzero91 : tab.zero 91 = some [.raw .nilFunc] := rfl
@[simp] theorem tsize92 : tab.size 92 = some 1 := rfl
@[simp] theorem tbytes92 : tab.bytes 92 = some 8 := rfl
@[simp] theorem tagg92 : tab.agg 92 = some false := rfl
@[simp] theorem tkind92 : tab.kind 92 = some (.func) := rfl
@[simp] theorem tzero92 : tab.zero 92 = some [.raw .nilFunc] := rfl
@[simp] theorem tsize93 : tab.size 93 = some 1 := rfl
@[simp] theorem tbytes93 : tab.bytes 93 = some 8 := rfl
@[simp] theorem tagg93 : tab.agg 93 = some false := rfl
@[simp] theorem tkind93 : tab.kind 93 = some (.func) := rfl
@[simp] theorem tzero93 : tab.zero 93 = some [.raw .nilFunc] := rfl
@[simp] theorem tsize95 : tab.size 95 = some 1 := rfl
@[simp] theorem tbytes95 : tab.bytes 95 = some 8 := rfl
@[simp] theorem tagg95 : tab.agg 95 = some false := rfl
@[simp] theorem tkind95 : tab.kind 95 = some (.func) := rfl
@[simp] theorem tzero95 : tab.zero 95 = some [.raw .nilFunc] := rfl
@[simp] theorem tsize96 : tab.size 96 = some 1 := rfl
@[simp] theorem tbytes96 : tab.bytes 96 = some 8 := rfl
@[simp] theorem tagg96 : tab.agg 96 = some false := rfl
@[simp] theorem tkind96 : tab.kind 96 = some (.func) := rfl
@[simp] theorem tzero96 : tab.zero 96 = some [.raw .nilFunc] := rfl
@[simp] theorem tsize97 : tab.size 97 = some 1 := rfl
@[simp] theorem tbytes97 : tab.bytes 97 = some 8 := rfl
@[simp] theorem tagg97 : tab.agg 97 = some false := rfl
@[simp] theorem tkind97 : tab.kind 97 = some (.func) := rfl
@[simp] theorem tzero97 : tab.zero 97 = some [.raw .nilFunc] := rfl
@[simp] theorem tsize98 : tab.size 98 = some 1 := rfl
@[simp] theorem tbytes98 : tab.bytes 98 = some 8 := rfl
@[simp] theorem tagg98 : tab.agg 98 = some false := rfl
@[simp] theorem tkind98 : tab.kind 98 = some (.func) := rfl
@[simp] theorem tzero98 : tab.zero 98 = some [.raw .nilFunc] := rfl
@[simp] theorem tsize99 : tab.size 99 = some 0 := rfl
@[simp] theorem tbytes99 : tab.bytes 99 = some 0 := rfl
@[simp] theorem tagg99 : tab.agg 99 = some true := rfl
@[simp] theorem tkind99 : tab.kind 99 = some (.struct []) := rfl
@[simp] theorem tzero99 : tab.zero 99 = some [] := rfl
@[simp] theorem tsok99 : structOk tab 99 = true := rfl
@[simp] theorem tmeth100_122 : tab.meth 100 "loop.example/pergola/impl.within" = some 122 := rfl
@[simp] theorem tsize100 : tab.size 100 = some 0 := rfl
@[simp] theorem tbytes100 : tab.bytes 100 = some 0 := rfl
@[simp] theorem tagg100 : tab.agg 100 = some true := rfl
@[simp] theorem tkind100 : tab.kind 100 = some (.struct []) := rfl
@[simp] theorem tzero100 : tab.zero 100 = some [] := rfl
@[simp] theorem tsok100 : structOk tab 100 = true := rfl
@[simp] theorem tsize101 : tab.size 101 = some 1 := rfl
@[simp] theorem tbytes101 : tab.bytes 101 = some 8 := rfl
@[simp] theorem tagg101 : tab.agg 101 = some false := rfl
@[simp] theorem tkind101 : tab.kind 101 = some (.func) := rfl
@[simp] theorem tzero101 : tab.zero 101 = some [.raw .nilFunc] := rfl
@[simp] theorem tsize103 : tab.size 103 = some 1 := rfl
@[simp] theorem tbytes103 : tab.bytes 103 = some 8 := rfl
@[simp] theorem tagg103 : tab.agg 103 = some false := rfl
@[simp] theorem tkind103 : tab.kind 103 = some (.int .u64) := rfl
@[simp] theorem tzero103 : tab.zero 103 = some [.int .u64 0] := rfl
@[simp] theorem tsize104 : tab.size 104 = some 1 := rfl
@[simp] theorem tbytes104 : tab.bytes 104 = some 8 := rfl
@[simp] theorem tagg104 : tab.agg 104 = some false := rfl
@[simp] theorem tkind104 : tab.kind 104 = some (.func) := rfl
@[simp] theorem tzero104 : tab.zero 104 = some [.raw .nilFunc] := rfl
@[simp] theorem tsize105 : tab.size 105 = some 1 := rfl
@[simp] theorem tbytes105 : tab.bytes 105 = some 8 := rfl
@[simp] theorem tagg105 : tab.agg 105 = some false := rfl
@[simp] theorem tkind105 : tab.kind 105 = some (.func) := rfl
@[simp] theorem tzero105 : tab.zero 105 = some [.raw .nilFunc] := rfl
@[simp] theorem tsize107 : tab.size 107 = some 1 := rfl
@[simp] theorem tbytes107 : tab.bytes 107 = some 8 := rfl
@[simp] theorem tagg107 : tab.agg 107 = some false := rfl
@[simp] theorem tkind107 : tab.kind 107 = some (.func) := rfl
@[simp] theorem tzero107 : tab.zero 107 = some [.raw .nilFunc] := rfl
@[simp] theorem tsize108 : tab.size 108 = some 1 := rfl
@[simp] theorem tbytes108 : tab.bytes 108 = some 8 := rfl
@[simp] theorem tagg108 : tab.agg 108 = some false := rfl
@[simp] theorem tkind108 : tab.kind 108 = some (.func) := rfl
@[simp] theorem tzero108 : tab.zero 108 = some [.raw .nilFunc] := rfl
@[simp] theorem tsize110 : tab.size 110 = some 1 := rfl
@[simp] theorem tbytes110 : tab.bytes 110 = some 8 := rfl
@[simp] theorem tagg110 : tab.agg 110 = some false := rfl
@[simp] theorem tkind110 : tab.kind 110 = some (.func) := rfl
@[simp] theorem tzero110 : tab.zero 110 = some [.raw .nilFunc] := rfl
@[simp] theorem tsize111 : tab.size 111 = some 1 := rfl
@[simp] theorem tbytes111 : tab.bytes 111 = some 8 := rfl
@[simp] theorem tagg111 : tab.agg 111 = some false := rfl
@[simp] theorem tkind111 : tab.kind 111 = some (.func) := rfl
@[simp] theorem tzero111 : tab.zero 111 = some [.raw .nilFunc] := rfl
@[simp] theorem tsize112 : tab.size 112 = some 1 := rfl
@[simp] theorem tbytes112 : tab.bytes 112 = some 8 := rfl
@[simp] theorem tagg112 : tab.agg 112 = some false := rfl
@[simp] theorem tkind112 : tab.kind 112 = some (.func) := rfl
@[simp] theorem tzero112 : tab.zero 112 = some [.raw .nilFunc] := rfl
@[simp] theorem tsize113 : tab.size 113 = some 1 := rfl
@[simp] theorem tbytes113 : tab.bytes 113 = some 8 := rfl
@[simp] theorem tagg113 : tab.agg 113 = some false := rfl
@[simp] theorem tkind113 : tab.kind 113 = some (.func) := rfl
@[simp] theorem tzero113 : tab.zero 113 = some [.raw .nilFunc] := rfl
@[simp] theorem tsize115 : tab.size 115 = some 1 := rfl
@[simp] theorem tbytes115 : tab.bytes 115 = some 4 := rfl
@[simp] theorem tagg115 : tab.agg 115 = some false := rfl
@[simp] theorem tkind115 : tab.kind 115 = some (.int .u32) := rfl
@[simp] theorem tzero115 : tab.zero 115 = some [.int .u32 0] := rfl
@[simp] theorem tsize117 : tab.size 117 = some 1 := rfl
@[simp] theorem tbytes117 : tab.bytes 117 = some 8 := rfl
@[simp] theorem tagg117 : tab.agg 117 = some false := rfl
@[simp] theorem tkind117 : tab.kind 117 = some (.func) := rfl
@[simp] theorem tzero117 : tab.zero 117 = some [.raw .nilFunc] := rfl
@[simp] theorem tsize118 : tab.size 118 = some 1 := rfl
@[simp] theorem tbytes118 : tab.bytes 118 = some 8 := rfl
@[simp] theorem tagg118 : tab.agg 118 = some false := rfl
@[simp] theorem tkind118 : tab.kind 118 = some (.func) := rfl
@[simp] theorem tzero118 : tab.zero 118 = some [.raw .nilFunc] := rfl
@[simp] theorem tsize119 : tab.size 119 = some 1 := rfl
@[simp] theorem tbytes119 : tab.bytes 119 = some 8 := rfl
@[simp] theorem tagg119 : tab.agg 119 = some false := rfl
@[simp] theorem tkind119 : tab.kind 119 = some (.func) := rfl
@[simp] theorem tzero119 : tab.zero 119 = some [.raw .nilFunc] := rfl
@[simp] theorem tsize120 : tab.size 120 = some 1 := rfl
@[simp] theorem tbytes120 : tab.bytes 120 = some 8 := rfl
@[simp] theorem tagg120 : tab.agg 120 = some false := rfl
@[simp] theorem tkind120 : tab.kind 120 = some (.func) := rfl
@[simp] theorem tzero120 : tab.zero 120 = some [.raw .nilFunc] := rfl
@[simp] theorem tsize121 : tab.size 121 = some 1 := rfl
@[simp] theorem tbytes121 : tab.bytes 121 = some 8 := rfl
@[simp] theorem tagg121 : tab.agg 121 = some false := rfl
@[simp] theorem tkind121 : tab.kind 121 = some (.func) := rfl
@[simp] theorem tzero121 : tab.zero 121 = some [.raw .nilFunc] := rfl
@[simp] theorem tsize123 : tab.size 123 = some 2 := rfl
@[simp] theorem tbytes123 : tab.bytes 123 = some 2 := rfl
@[simp] theorem tagg123 : tab.agg 123 = some true := rfl
@[simp] theorem tkind123 : tab.kind 123 = some (.struct [(0, 5), (1, 5)]) := rfl
@[simp] theorem tzero123 : tab.zero 123 = some [.int .u8 0, .int .u8 0] := rfl
@[simp] theorem tfoff123_0 : tab.foff 123 0 = some (0, 1) := rfl
@[simp] theorem tfoff123_1 : tab.foff 123 1 = some (1, 1) := rfl
@[simp] theorem tsok123 : structOk tab 123 = true := rfl
@[simp] theorem tsize124 : tab.size 124 = some 2 := rfl
@[simp] theorem tbytes124 : tab.bytes 124 = some 2 := rfl
@[simp] theorem tagg124 : tab.agg 124 = some true := rfl
@[simp] theorem tkind124 : tab.kind 124 = some (.struct [(0, 5), (1, 5)]) := rfl
@[simp] theorem tzero124 : tab.zero 124 = some [.int .u8 0, .int .u8 0] := rfl
@[simp] theorem tfoff124_0 : tab.foff 124 0 = some (0, 1) := rfl
@[simp] theorem tfoff124_1 : tab.foff 124 1 = some (1, 1) := rfl
@[simp] theorem tsok124 : structOk tab 124 = true := rfl
@[simp] theorem tsize127 : tab.size 127 = some 1 := rfl
@[simp] theorem tbytes127 : tab.bytes 127 = some 8 := rfl
@[simp] theorem tagg127 : tab.agg 127 = some false := rfl
@[simp] theorem tkind127 : tab.kind 127 = some (.func) := rfl
@[simp] theorem tzero127 : tab.zero 127 = some [.raw .nilFunc] := rfl
@[simp] theorem tsize130 : tab.size 130 = some 4 := rfl
@[simp] theorem tbytes130 : tab.bytes 130 = some 40 := rfl
@[simp] theorem tagg130 : tab.agg 130 = some true := rfl
@[simp] theorem tkind130 : tab.kind 130 = some (.struct [(0, 17), (1, 17), (2, 17), (3, 9)]) := rfl
@[simp] theorem tzero130 : tab.zero 130 = some [.raw (.pointer none), .raw (.pointer none), .raw (.pointer none), .str []] := rfl
@[simp] theorem tfoff130_0 : tab.foff 130 0 = some (0, 1) := rfl
@[simp] theorem tfoff130_1 : tab.foff 130 1 = some (1, 1) := rfl
@[simp] theorem tfoff130_2 : tab.foff 130 2 = some (2, 1) := rfl
@[simp] theorem tfoff130_3 : tab.foff 130 3 = some (3, 1) := rfl
@[simp] theorem tsok130 : structOk tab 130 = true := rfl
@[simp] theorem tsize131 : tab.size 131 = some 4 := rfl
@[simp] theorem tbytes131 : tab.bytes 131 = some 40 := rfl
@[simp] theorem tagg131 : tab.agg 131 = some true := rfl
@[simp] theorem tkind131 : tab.kind 131 = some (.struct [(0, 17), (1, 17), (2, 17), (3, 9)]) := rfl
@[simp] theorem tzero131 : tab.zero 131 = some [.raw (.pointer none), .raw (.pointer none), .raw (.pointer none), .str []] := rfl
@[simp] theorem tfoff131_0 : tab.foff 131 0 = some (0, 1) := rfl
@[simp] theorem tfoff131_1 : tab.foff 131 1 = some (1, 1) := rfl
@[simp] theorem tfoff131_2 : tab.foff 131 2 = some (2, 1) := rfl
@[simp] theorem tfoff131_3 : tab.foff 131 3 = some (3, 1) := rfl
@[simp] theorem tsok131 : structOk tab 131 = true := rfl
@[simp] theorem tsize133 : tab.size 133 = some 0 := rfl
@[simp] theorem tbytes133 : tab.bytes 133 = some 0 := rfl
@[simp] theorem tagg133 : tab.agg 133 = some true := rfl
@[simp] theorem tkind133 : tab.kind 133 = some (.struct [(0, 132)]) := rfl
@[simp] theorem tzero133 : tab.zero 133 = some [] := rfl
@[simp] theorem tsize134 : tab.size 134 = some 0 := rfl
@[simp] theorem tbytes134 : tab.bytes 134 = some 0 := rfl
@[simp] theorem tagg134 : tab.agg 134 = some true := rfl
@[simp] theorem tkind134 : tab.kind 134 = some (.struct [(0, 132)]) := rfl
@[simp] theorem tzero134 : tab.zero 134 = some [] := rfl
@[simp] theorem tsize135 : tab.size 135 = some 1 := rfl
@[simp] theorem tbytes135 : tab.bytes 135 = some 8 := rfl
@[simp] theorem tagg135 : tab.agg 135 = some false := rfl
@[simp] theorem tkind135 : tab.kind 135 = some (.func) := rfl
@[simp] theorem tzero135 : tab.zero 135 = some [.raw .nilFunc] := rfl
@[simp] theorem tsize136 : tab.size 136 = some 1 := rfl
@[simp] theorem tbytes136 : tab.bytes 136 = some 1 := rfl
@[simp] theorem tagg136 : tab.agg 136 = some false := rfl
@[simp] theorem tkind136 : tab.kind 136 = some (.int .u8) := rfl
@[simp] theorem tzero136 : tab.zero 136 = some [.int .u8 0] := rfl
@[simp] theorem tmeth137_123 : tab.meth 137 "String" = some 123 := rfl
@[simp] theorem tsize137 : tab.size 137 = some 1 := rfl
@[simp] theorem tbytes137 : tab.bytes 137 = some 1 := rfl
@[simp] theorem tagg137 : tab.agg 137 = some false := rfl
@[simp] theorem tkind137 : tab.kind 137 = some (.int .u8) := rfl
@[simp] theorem tzero137 : tab.zero 137 = some [.int .u8 0] := rfl
@[simp] theorem tsize138 : tab.size 138 = some 1 := rfl
@[simp] theorem tbytes138 : tab.bytes 138 = some 8 := rfl
@[simp] theorem tagg138 : tab.agg 138 = some false := rfl
@[simp] theorem tkind138 : tab.kind 138 = some (.func) := rfl
@[simp] theorem tzero138 : tab.zero 138 = some [.raw .nilFunc] := rfl
@[simp] theorem tsize139 : tab.size 139 = some 1 := rfl
@[simp] theorem tbytes139 : tab.bytes 139 = some 4 := rfl
@[simp] theorem tagg139 : tab.agg 139 = some false := rfl
@[simp] theorem tkind139 : tab.kind 139 = some (.int .i32) := rfl
@[simp] theorem tzero139 : tab.zero 139 = some [.int .i32 0] := rfl
@[simp] theorem tsize140 : tab.size 140 = some 1 := rfl
@[simp] theorem tbytes140 : tab.bytes 140 = some 4 := rfl
@[simp] theorem tagg140 : tab.agg 140 = some false := rfl
@[simp] theorem tkind140 : tab.kind 140 = some (.int .i32) := rfl
@[simp] theorem tzero140 : tab.zero 140 = some [.int .i32 0] := rfl
@[simp] theorem tsize141 : tab.size 141 = some 11 := rfl
@[simp] theorem tbytes141 : tab.bytes 141 = some 48 := rfl
@[simp] theorem tagg141 : tab.agg 141 = some true := rfl
@[simp] theorem tkind141 : tab.kind 141 = some (.struct [(0, 12), (1, 12), (2, 115), (3, 136), (4, 5), (5, 5), (6, 137), (7, 138), (8, 74), (9, 139), (10, 140)]) := rfl
@[simp] theorem tzero141 : tab.zero 141 = some [.int .u64 0, .int .u64 0, .int .u32 0, .int .u8 0, .int .u8 0, .int .u8 0, .int .u8 0, .raw .nilFunc, .raw (.pointer none), .int .i32 0, .int .i32 0] := rfl
@[simp] theorem tfoff141_0 : tab.foff 141 0 = some (0, 1) := rfl
@[simp] theorem tfoff141_1 : tab.foff 141 1 = some (1, 1) := rfl
@[simp] theorem tfoff141_2 : tab.foff 141 2 = some (2, 1) := rfl
@[simp] theorem tfoff141_3 : tab.foff 141 3 = some (3, 1) := rfl
@[simp] theorem tfoff141_4 : tab.foff 141 4 = some (4, 1) := rfl
@[simp] theorem tfoff141_5 : tab.foff 141 5 = some (5, 1) := rfl
@[simp] theorem tfoff141_6 : tab.foff 141 6 = some (6, 1) := rfl
@[simp] theorem tfoff141_7 : tab.foff 141 7 = some (7, 1) := rfl
@[simp] theorem tfoff141_8 : tab.foff 141 8 = some (8, 1) := rfl
@[simp] theorem tfoff141_9 : tab.foff 141 9 = some (9, 1) := rfl
@[simp] theorem tfoff141_10 : tab.foff 141 10 = some (10, 1) := rfl
@[simp] theorem tsok141 : structOk tab 141 = true := rfl
@[simp] theorem tsize142 : tab.size 142 = some 11 := rfl
@[simp] theorem tbytes142 : tab.bytes 142 = some 48 := rfl
@[simp] theorem tagg142 : tab.agg 142 = some true := rfl
@[simp] theorem tkind142 : tab.kind 142 = some (.struct [(0, 12), (1, 12), (2, 115), (3, 136), (4, 5), (5, 5), (6, 137), (7, 138), (8, 74), (9, 139), (10, 140)]) := rfl
@[simp] theorem tzero142 : tab.zero 142 = some [.int .u64 0, .int .u64 0, .int .u32 0, .int .u8 0, .int .u8 0, .int .u8 0, .int .u8 0, .raw .nilFunc, .raw (.pointer none), .int .i32 0, .int .i32 0] := rfl
@[simp] theorem tfoff142_0 : tab.foff 142 0 = some (0, 1) := rfl
@[simp] theorem tfoff142_1 : tab.foff 142 1 = some (1, 1) := rfl
@[simp] theorem tfoff142_2 : tab.foff 142 2 = some (2, 1) := rfl
@[simp] theorem tfoff142_3 : tab.foff 142 3 = some (3, 1) := rfl
@[simp] theorem tfoff142_4 : tab.foff 142 4 = some (4, 1) := rfl
@[simp] theorem tfoff142_5 : tab.foff 142 5 = some (5, 1) := rfl
@[simp] theorem tfoff142_6 : tab.foff 142 6 = some (6, 1) := rfl
@[simp] theorem tfoff142_7 : tab.foff 142 7 = some (7, 1) := rfl
@[simp] theorem tfoff142_8 : tab.foff 142 8 = some (8, 1) := rfl
@[simp] theorem tfoff142_9 : tab.foff 142 9 = some (9, 1) := rfl
@[simp] theorem tfoff142_10 : tab.foff 142 10 = some (10, 1) := rfl
@[simp] theorem tsok142 : structOk tab 142 = true := rfl
end Go.Proofs.YtopbbjoflopjbaaDoor
