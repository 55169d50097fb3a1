import Derived.Test.YtiaigcdckmpepaaProg
import Derived.Test.YtiaigcdckmpepaaB11
import Derived.KernelRfl
/-! The types of this translation. -/
set_option maxRecDepth 100000
namespace Go.Proofs.Ytiaigcdckmpepaa
open Go.Bb
def tabList : List (Nat × TI) := [
  (1, ⟨1, 8, .func, [.raw .nilFunc], []⟩),
  (2, ⟨1, 8, .int .i64, [.int .i64 0], []⟩),
  (3, ⟨1, 8, .int .i64, [.int .i64 0], []⟩),
  (4, ⟨1, 1, .bool, [.bool false], []⟩),
  (5, ⟨1, 1, .int .u8, [.int .u8 0], []⟩),
  (6, ⟨1, 1, .int .u8, [.int .u8 0], []⟩),
  (7, ⟨4, 24, .struct [(0, 2), (1, 3), (2, 4), (3, 6)], [.int .i64 0, .int .i64 0, .bool false, .int .u8 0], []⟩),
  (8, ⟨4, 24, .struct [(0, 2), (1, 3), (2, 4), (3, 6)], [.int .i64 0, .int .i64 0, .bool false, .int .u8 0], [("Error", 152), ("RuntimeError", 153)]⟩),
  (9, ⟨1, 16, .string, [.str []], []⟩),
  (10, ⟨1, 16, .string, [.str []], [("Error", 154), ("RuntimeError", 155)]⟩),
  (11, ⟨1, 16, .string, [.str []], [("Error", 156), ("RuntimeError", 157)]⟩),
  (12, ⟨1, 8, .int .u64, [.int .u64 0], []⟩),
  (13, ⟨2, 24, .struct [(0, 9), (1, 12)], [.str [], .int .u64 0], []⟩),
  (14, ⟨2, 24, .struct [(0, 9), (1, 12)], [.str [], .int .u64 0], [("Error", 158), ("RuntimeError", 159)]⟩),
  (15, ⟨1, 8, .ptr 167, [.raw (.pointer none)], []⟩),
  (16, ⟨1, 8, .ptr 170, [.raw (.pointer none)], []⟩),
  (17, ⟨1, 8, .ptr 179, [.raw (.pointer none)], []⟩),
  (18, ⟨1, 8, .struct [(0, 17)], [.raw (.pointer none)], []⟩),
  (19, ⟨1, 8, .struct [(0, 17)], [.raw (.pointer none)], [("Error", 165), ("RuntimeError", 166)]⟩),
  (20, ⟨1, 16, .iface, [.raw .nilIface], []⟩),
  (21, ⟨1, 4, .int .i32, [.int .i32 0], []⟩),
  (22, ⟨1, 24, .slice 25, [.nil], []⟩),
  (23, ⟨1, 24, .slice 9, [.nil], []⟩),
  (24, ⟨5, 80, .struct [(0, 3), (1, 3), (2, 9), (3, 22), (4, 23)], [.int .i64 0, .int .i64 0, .str [], .nil, .nil], []⟩),
  (25, ⟨5, 80, .struct [(0, 3), (1, 3), (2, 9), (3, 22), (4, 23)], [.int .i64 0, .int .i64 0, .str [], .nil, .nil], []⟩),
  (26, ⟨1, 8, .func, [.raw .nilFunc], []⟩),
  (27, ⟨1, 8, .func, [.raw .nilFunc], []⟩),
  (28, ⟨1, 24, .slice 30, [.nil], []⟩),
  (29, ⟨5, 80, .struct [(0, 3), (1, 3), (2, 9), (3, 28), (4, 23)], [.int .i64 0, .int .i64 0, .str [], .nil, .nil], []⟩),
  (30, ⟨5, 80, .struct [(0, 3), (1, 3), (2, 9), (3, 28), (4, 23)], [.int .i64 0, .int .i64 0, .str [], .nil, .nil], []⟩),
  (31, ⟨1, 8, .func, [.raw .nilFunc], []⟩),
  (32, ⟨1, 8, .func, [.raw .nilFunc], []⟩),
  (33, ⟨1, 8, .func, [.raw .nilFunc], []⟩),
  (34, ⟨1, 8, .func, [.raw .nilFunc], []⟩),
  (36, ⟨1, 8, .func, [.raw .nilFunc], []⟩),
  (37, ⟨1, 8, .func, [.raw .nilFunc], []⟩),
  (38, ⟨1, 8, .func, [.raw .nilFunc], []⟩),
  (39, ⟨1, 8, .func, [.raw .nilFunc], []⟩),
  (40, ⟨1, 8, .func, [.raw .nilFunc], []⟩),
  (41, ⟨1, 8, .func, [.raw .nilFunc], []⟩),
  (42, ⟨1, 24, .slice 5, [.nil], []⟩),
  (44, ⟨1, 8, .func, [.raw .nilFunc], []⟩),
  (45, ⟨1, 8, .func, [.raw .nilFunc], []⟩),
  (46, ⟨1, 8, .func, [.raw .nilFunc], []⟩),
  (47, ⟨1, 8, .func, [.raw .nilFunc], []⟩),
  (48, ⟨1, 8, .func, [.raw .nilFunc], []⟩),
  (49, ⟨1, 8, .func, [.raw .nilFunc], []⟩),
  (51, ⟨1, 8, .func, [.raw .nilFunc], []⟩),
  (52, ⟨1, 8, .func, [.raw .nilFunc], []⟩),
  (53, ⟨1, 8, .func, [.raw .nilFunc], []⟩),
  (54, ⟨1, 8, .func, [.raw .nilFunc], []⟩),
  (55, ⟨1, 8, .func, [.raw .nilFunc], []⟩),
  (56, ⟨1, 8, .map 65 66, [.raw (.map none)], []⟩),
  (57, ⟨10, 160, .struct [(0, 30), (5, 30)], [.int .i64 0, .int .i64 0, .str [], .nil, .nil, .int .i64 0, .int .i64 0, .str [], .nil, .nil], []⟩),
  (58, ⟨10, 160, .struct [(0, 30), (5, 30)], [.int .i64 0, .int .i64 0, .str [], .nil, .nil, .int .i64 0, .int .i64 0, .str [], .nil, .nil], []⟩),
  (59, ⟨1, 24, .slice 58, [.nil], []⟩),
  (60, ⟨1, 8, .ptr 30, [.raw (.pointer none)], []⟩),
  (61, ⟨2, 16, .struct [(0, 60), (1, 3)], [.raw (.pointer none), .int .i64 0], []⟩),
  (62, ⟨2, 16, .struct [(0, 60), (1, 3)], [.raw (.pointer none), .int .i64 0], []⟩),
  (63, ⟨1, 8, .func, [.raw .nilFunc], []⟩),
  (64, ⟨4, 32, .struct [(0, 62), (2, 62)], [.raw (.pointer none), .int .i64 0, .raw (.pointer none), .int .i64 0], []⟩),
  (65, ⟨4, 32, .struct [(0, 62), (2, 62)], [.raw (.pointer none), .int .i64 0, .raw (.pointer none), .int .i64 0], []⟩),
  (66, ⟨0, 0, .struct [], [], []⟩),
  (68, ⟨1, 8, .func, [.raw .nilFunc], []⟩),
  (69, ⟨1, 8, .func, [.raw .nilFunc], []⟩),
  (70, ⟨1, 8, .map 62 66, [.raw (.map none)], []⟩),
  (71, ⟨1, 24, .slice 28, [.nil], []⟩),
  (72, ⟨1, 8, .func, [.raw .nilFunc], []⟩),
  (73, ⟨1, 8, .func, [.raw .nilFunc], []⟩),
  (75, ⟨1, 8, .func, [.raw .nilFunc], []⟩),
  (76, ⟨1, 8, .func, [.raw .nilFunc], []⟩),
  (77, ⟨2, 24, .struct [(0, 9), (1, 3)], [.str [], .int .i64 0], []⟩),
  (78, ⟨2, 24, .struct [(0, 9), (1, 3)], [.str [], .int .i64 0], []⟩),
  (79, ⟨1, 8, .func, [.raw .nilFunc], []⟩),
  (80, ⟨1, 8, .ptr 104, [.raw (.pointer none)], []⟩),
  (81, ⟨1, 8, .func, [.raw .nilFunc], []⟩),
  (82, ⟨1, 8, .func, [.raw .nilFunc], []⟩),
  (83, ⟨1, 8, .func, [.raw .nilFunc], []⟩),
  (84, ⟨1, 8, .func, [.raw .nilFunc], []⟩),
  (85, ⟨1, 8, .func, [.raw .nilFunc], []⟩),
  (86, ⟨1, 8, .func, [.raw .nilFunc], []⟩),
  (87, ⟨1, 8, .func, [.raw .nilFunc], []⟩),
  (88, ⟨1, 8, .func, [.raw .nilFunc], []⟩),
  (89, ⟨1, 8, .func, [.raw .nilFunc], []⟩),
  (90, ⟨1, 8, .func, [.raw .nilFunc], []⟩),
  (92, ⟨1, 8, .func, [.raw .nilFunc], []⟩),
  (93, ⟨1, 8, .func, [.raw .nilFunc], []⟩),
  (94, ⟨1, 8, .func, [.raw .nilFunc], []⟩),
  (96, ⟨1, 8, .func, [.raw .nilFunc], []⟩),
  (97, ⟨1, 8, .ptr 78, [.raw (.pointer none)], []⟩),
  (99, ⟨1, 8, .func, [.raw .nilFunc], []⟩),
  (101, ⟨1, 8, .func, [.raw .nilFunc], []⟩),
  (102, ⟨1, 8, .func, [.raw .nilFunc], []⟩),
  (103, ⟨2, 32, .struct [(0, 42), (1, 3)], [.nil, .int .i64 0], []⟩),
  (104, ⟨2, 32, .struct [(0, 42), (1, 3)], [.nil, .int .i64 0], []⟩),
  (105, ⟨1, 8, .func, [.raw .nilFunc], []⟩),
  (106, ⟨1, 24, .slice 3, [.nil], []⟩),
  (107, ⟨1, 8, .func, [.raw .nilFunc], []⟩),
  (108, ⟨1, 8, .func, [.raw .nilFunc], []⟩),
  (109, ⟨1, 16, .iface, [.raw .nilIface], []⟩),
  (110, ⟨1, 16, .iface, [.raw .nilIface], []⟩),
  (111, ⟨1, 8, .func, [.raw .nilFunc], []⟩),
  (112, ⟨1, 16, .string, [.str []], [("loop.example/pergola/impl.within", 167)]⟩),
  (113, ⟨1, 16, .string, [.str []], [("loop.example/pergola/impl.within", 168)]⟩),
  (114, ⟨1, 8, .func, [.raw .nilFunc], []⟩),
  (115, ⟨1, 8, .func, [.raw .nilFunc], []⟩),
  (116, ⟨1, 8, .func, [.raw .nilFunc], []⟩),
  (117, ⟨1, 8, .func, [.raw .nilFunc], []⟩),
  (118, ⟨1, 8, .func, [.raw .nilFunc], []⟩),
  (119, ⟨1, 8, .func, [.raw .nilFunc], []⟩),
  (120, ⟨1, 8, .func, [.raw .nilFunc], []⟩),
  (121, ⟨1, 8, .ptr 123, [.raw (.pointer none)], []⟩),
  (122, ⟨4, 48, .struct [(0, 62), (2, 28), (3, 121)], [.raw (.pointer none), .int .i64 0, .nil, .raw (.pointer none)], []⟩),
  (123, ⟨4, 48, .struct [(0, 62), (2, 28), (3, 121)], [.raw (.pointer none), .int .i64 0, .nil, .raw (.pointer none)], []⟩),
  (125, ⟨1, 8, .func, [.raw .nilFunc], []⟩),
  (126, ⟨1, 8, .func, [.raw .nilFunc], []⟩),
  (128, ⟨1, 8, .func, [.raw .nilFunc], []⟩),
  (129, ⟨1, 8, .func, [.raw .nilFunc], []⟩),
  (130, ⟨1, 8, .func, [.raw .nilFunc], []⟩),
  (131, ⟨1, 8, .func, [.raw .nilFunc], []⟩),
  (132, ⟨1, 8, .int .u64, [.int .u64 0], []⟩),
  (133, ⟨1, 8, .func, [.raw .nilFunc], []⟩),
  (134, ⟨0, 0, .struct [], [], [("loop.example/pergola/impl.within", 169)]⟩),
  (135, ⟨1, 1, .bool, [.bool false], [("loop.example/pergola/impl.within", 170)]⟩),
  (136, ⟨1, 8, .int .i64, [.int .i64 0], [("loop.example/pergola/impl.within", 171)]⟩),
  (137, ⟨1, 16, .string, [.str []], [("loop.example/pergola/impl.within", 172)]⟩),
  (138, ⟨1, 24, .slice 30, [.nil], [("loop.example/pergola/impl.within", 173)]⟩),
  (139, ⟨2, 48, .struct [(0, 23), (1, 28)], [.nil, .nil], []⟩),
  (140, ⟨2, 48, .struct [(0, 23), (1, 28)], [.nil, .nil], [("loop.example/pergola/impl.within", 174)]⟩),
  (141, ⟨1, 8, .func, [.raw .nilFunc], []⟩),
  (142, ⟨1, 8, .func, [.raw .nilFunc], []⟩),
  (143, ⟨1, 8, .func, [.raw .nilFunc], []⟩),
  (144, ⟨1, 8, .func, [.raw .nilFunc], []⟩),
  (145, ⟨1, 8, .int .i64, [.int .i64 0], []⟩),
  (147, ⟨1, 8, .func, [.raw .nilFunc], []⟩),
  (148, ⟨1, 8, .func, [.raw .nilFunc], []⟩),
  (149, ⟨1, 8, .func, [.raw .nilFunc], []⟩),
  (151, ⟨1, 8, .func, [.raw .nilFunc], []⟩),
  (152, ⟨1, 8, .func, [.raw .nilFunc], []⟩),
  (153, ⟨1, 4, .int .u32, [.int .u32 0], []⟩),
  (154, ⟨1, 8, .func, [.raw .nilFunc], []⟩),
  (155, ⟨1, 8, .int .u64, [.int .u64 0], []⟩),
  (156, ⟨1, 8, .int .u64, [.int .u64 0], []⟩),
  (157, ⟨1, 8, .func, [.raw .nilFunc], []⟩),
  (158, ⟨1, 8, .func, [.raw .nilFunc], []⟩),
  (159, ⟨1, 8, .func, [.raw .nilFunc], []⟩),
  (160, ⟨1, 8, .ptr 3, [.raw (.pointer none)], []⟩),
  (161, ⟨1, 8, .func, [.raw .nilFunc], []⟩),
  (162, ⟨1, 8, .ptr 156, [.raw (.pointer none)], []⟩),
  (164, ⟨1, 8, .func, [.raw .nilFunc], []⟩),
  (165, ⟨1, 8, .func, [.raw .nilFunc], []⟩),
  (166, ⟨4, 40, .struct [(0, 17), (1, 17), (2, 17), (3, 9)], [.raw (.pointer none), .raw (.pointer none), .raw (.pointer none), .str []], []⟩),
  (167, ⟨4, 40, .struct [(0, 17), (1, 17), (2, 17), (3, 9)], [.raw (.pointer none), .raw (.pointer none), .raw (.pointer none), .str []], []⟩),
  (169, ⟨0, 0, .struct [(0, 168)], [], []⟩),
  (170, ⟨0, 0, .struct [(0, 168)], [], []⟩),
  (171, ⟨1, 8, .func, [.raw .nilFunc], []⟩),
  (172, ⟨1, 1, .int .u8, [.int .u8 0], []⟩),
  (173, ⟨1, 1, .int .u8, [.int .u8 0], [("String", 175)]⟩),
  (174, ⟨1, 8, .func, [.raw .nilFunc], []⟩),
  (175, ⟨1, 8, .ptr 5, [.raw (.pointer none)], []⟩),
  (176, ⟨1, 4, .int .i32, [.int .i32 0], []⟩),
  (177, ⟨1, 4, .int .i32, [.int .i32 0], []⟩),
  (178, ⟨11, 48, .struct [(0, 12), (1, 12), (2, 153), (3, 172), (4, 5), (5, 5), (6, 173), (7, 174), (8, 175), (9, 176), (10, 177)], [.int .u64 0, .int .u64 0, .int .u32 0, .int .u8 0, .int .u8 0, .int .u8 0, .int .u8 0, .raw .nilFunc, .raw (.pointer none), .int .i32 0, .int .i32 0], []⟩),
  (179, ⟨11, 48, .struct [(0, 12), (1, 12), (2, 153), (3, 172), (4, 5), (5, 5), (6, 173), (7, 174), (8, 175), (9, 176), (10, 177)], [.int .u64 0, .int .u64 0, .int .u32 0, .int .u8 0, .int .u8 0, .int .u8 0, .int .u8 0, .raw .nilFunc, .raw (.pointer none), .int .i32 0, .int .i32 0], []⟩)]
def tab : Tab := ⟨fun t => getk t tabList⟩
theorem tabAll : (tabList.all fun p => rowOk Try.prog p.1 p.2) = true := by kernel_rfl
theorem tabOk : TabOk Try.prog tab := by
  intro t i h
  have : (t, i) ∈ tabList := get_mem h
  exact List.all_eq_true.1 tabAll _ this
@[simp] theorem tsize1 : tab.size 1 = some 1 := rfl
@[simp] theorem tbytes1 : tab.bytes 1 = some 8 := rfl
@[simp] theorem tagg1 : tab.agg 1 = some false := rfl
@[simp] theorem tkind1 : tab.kind 1 = some (.func) := rfl
@[simp] theorem tzero1 : tab.zero 1 = some [.raw .nilFunc] := rfl
@[simp] theorem tsize2 : tab.size 2 = some 1 := rfl
@[simp] theorem tbytes2 : tab.bytes 2 = some 8 := rfl
@[simp] theorem tagg2 : tab.agg 2 = some false := rfl
@[simp] theorem tkind2 : tab.kind 2 = some (.int .i64) := rfl
@[simp] theorem tzero2 : tab.zero 2 = some [.int .i64 0] := rfl
@[simp] theorem tsize3 : tab.size 3 = some 1 := rfl
@[simp] theorem tbytes3 : tab.bytes 3 = some 8 := rfl
@[simp] theorem tagg3 : tab.agg 3 = some false := rfl
@[simp] theorem tkind3 : tab.kind 3 = some (.int .i64) := rfl
@[simp] theorem tzero3 : tab.zero 3 = some [.int .i64 0] := rfl
@[simp] theorem tsize4 : tab.size 4 = some 1 := rfl
@[simp] theorem tbytes4 : tab.bytes 4 = some 1 := rfl
@[simp] theorem tagg4 : tab.agg 4 = some false := rfl
@[simp] theorem tkind4 : tab.kind 4 = some (.bool) := rfl
@[simp] theorem tzero4 : tab.zero 4 = some [.bool false] := rfl
@[simp] theorem tsize5 : tab.size 5 = some 1 := rfl
@[simp] theorem tbytes5 : tab.bytes 5 = some 1 := rfl
@[simp] theorem tagg5 : tab.agg 5 = some false := rfl
@[simp] theorem tkind5 : tab.kind 5 = some (.int .u8) := rfl
@[simp] theorem tzero5 : tab.zero 5 = some [.int .u8 0] := rfl
@[simp] theorem tsize6 : tab.size 6 = some 1 := rfl
@[simp] theorem tbytes6 : tab.bytes 6 = some 1 := rfl
@[simp] theorem tagg6 : tab.agg 6 = some false := rfl
@[simp] theorem tkind6 : tab.kind 6 = some (.int .u8) := rfl
@[simp] theorem tzero6 : tab.zero 6 = some [.int .u8 0] := rfl
@[simp] theorem tsize7 : tab.size 7 = some 4 := rfl
@[simp] theorem tbytes7 : tab.bytes 7 = some 24 := rfl
@[simp] theorem tagg7 : tab.agg 7 = some true := rfl
@[simp] theorem tkind7 : tab.kind 7 = some (.struct [(0, 2), (1, 3), (2, 4), (3, 6)]) := rfl
@[simp] theorem tzero7 : tab.zero 7 = some [.int .i64 0, .int .i64 0, .bool false, .int .u8 0] := rfl
@[simp] theorem tfoff7_0 : tab.foff 7 0 = some (0, 1) := rfl
@[simp] theorem tfoff7_1 : tab.foff 7 1 = some (1, 1) := rfl
@[simp] theorem tfoff7_2 : tab.foff 7 2 = some (2, 1) := rfl
@[simp] theorem tfoff7_3 : tab.foff 7 3 = some (3, 1) := rfl
@[simp] theorem tsok7 : structOk tab 7 = true := rfl
@[simp] theorem tmeth8_152 : tab.meth 8 "Error" = some 152 := rfl
@[simp] theorem tmeth8_153 : tab.meth 8 "RuntimeError" = some 153 := rfl
@[simp] theorem tsize8 : tab.size 8 = some 4 := rfl
@[simp] theorem tbytes8 : tab.bytes 8 = some 24 := rfl
@[simp] theorem tagg8 : tab.agg 8 = some true := rfl
@[simp] theorem tkind8 : tab.kind 8 = some (.struct [(0, 2), (1, 3), (2, 4), (3, 6)]) := rfl
@[simp] theorem tzero8 : tab.zero 8 = some [.int .i64 0, .int .i64 0, .bool false, .int .u8 0] := rfl
@[simp] theorem tfoff8_0 : tab.foff 8 0 = some (0, 1) := rfl
@[simp] theorem tfoff8_1 : tab.foff 8 1 = some (1, 1) := rfl
@[simp] theorem tfoff8_2 : tab.foff 8 2 = some (2, 1) := rfl
@[simp] theorem tfoff8_3 : tab.foff 8 3 = some (3, 1) := rfl
@[simp] theorem tsok8 : structOk tab 8 = true := rfl
@[simp] theorem tsize9 : tab.size 9 = some 1 := rfl
@[simp] theorem tbytes9 : tab.bytes 9 = some 16 := rfl
@[simp] theorem tagg9 : tab.agg 9 = some false := rfl
@[simp] theorem tkind9 : tab.kind 9 = some (.string) := rfl
@[simp] theorem tzero9 : tab.zero 9 = some [.str []] := rfl
@[simp] theorem tmeth10_154 : tab.meth 10 "Error" = some 154 := rfl
@[simp] theorem tmeth10_155 : tab.meth 10 "RuntimeError" = some 155 := rfl
@[simp] theorem tsize10 : tab.size 10 = some 1 := rfl
@[simp] theorem tbytes10 : tab.bytes 10 = some 16 := rfl
@[simp] theorem tagg10 : tab.agg 10 = some false := rfl
@[simp] theorem tkind10 : tab.kind 10 = some (.string) := rfl
@[simp] theorem tzero10 : tab.zero 10 = some [.str []] := rfl
@[simp] theorem tmeth11_156 : tab.meth 11 "Error" = some 156 := rfl
@[simp] theorem tmeth11_157 : tab.meth 11 "RuntimeError" = some 157 := rfl
@[simp] theorem tsize11 : tab.size 11 = some 1 := rfl
@[simp] theorem tbytes11 : tab.bytes 11 = some 16 := rfl
@[simp] theorem tagg11 : tab.agg 11 = some false := rfl
@[simp] theorem tkind11 : tab.kind 11 = some (.string) := rfl
@[simp] theorem tzero11 : tab.zero 11 = some [.str []] := rfl
@[simp] theorem tsize12 : tab.size 12 = some 1 := rfl
@[simp] theorem tbytes12 : tab.bytes 12 = some 8 := rfl
@[simp] theorem tagg12 : tab.agg 12 = some false := rfl
@[simp] theorem tkind12 : tab.kind 12 = some (.int .u64) := rfl
@[simp] theorem tzero12 : tab.zero 12 = some [.int .u64 0] := rfl
@[simp] theorem tsize13 : tab.size 13 = some 2 := rfl
@[simp] theorem tbytes13 : tab.bytes 13 = some 24 := rfl
@[simp] theorem tagg13 : tab.agg 13 = some true := rfl
@[simp] theorem tkind13 : tab.kind 13 = some (.struct [(0, 9), (1, 12)]) := rfl
@[simp] theorem tzero13 : tab.zero 13 = some [.str [], .int .u64 0] := rfl
@[simp] theorem tfoff13_0 : tab.foff 13 0 = some (0, 1) := rfl
@[simp] theorem tfoff13_1 : tab.foff 13 1 = some (1, 1) := rfl
@[simp] theorem tsok13 : structOk tab 13 = true := rfl
@[simp] theorem tmeth14_158 : tab.meth 14 "Error" = some 158 := rfl
@[simp] theorem tmeth14_159 : tab.meth 14 "RuntimeError" = some 159 := rfl
@[simp] theorem tsize14 : tab.size 14 = some 2 := rfl
@[simp] theorem tbytes14 : tab.bytes 14 = some 24 := rfl
@[simp] theorem tagg14 : tab.agg 14 = some true := rfl
@[simp] theorem tkind14 : tab.kind 14 = some (.struct [(0, 9), (1, 12)]) := rfl
@[simp] theorem tzero14 : tab.zero 14 = some [.str [], .int .u64 0] := rfl
@[simp] theorem tfoff14_0 : tab.foff 14 0 = some (0, 1) := rfl
@[simp] theorem tfoff14_1 : tab.foff 14 1 = some (1, 1) := rfl
@[simp] theorem tsok14 : structOk tab 14 = true := rfl
@[simp] theorem tsize15 : tab.size 15 = some 1 := rfl
@[simp] theorem tbytes15 : tab.bytes 15 = some 8 := rfl
@[simp] theorem tagg15 : tab.agg 15 = some false := rfl
@[simp] theorem tkind15 : tab.kind 15 = some (.ptr 167) := rfl
@[simp] theorem tzero15 : tab.zero 15 = some [.raw (.pointer none)] := rfl
@[simp] theorem tsize16 : tab.size 16 = some 1 := rfl
@[simp] theorem tbytes16 : tab.bytes 16 = some 8 := rfl
@[simp] theorem tagg16 : tab.agg 16 = some false := rfl
@[simp] theorem tkind16 : tab.kind 16 = some (.ptr 170) := rfl
@[simp] theorem tzero16 : tab.zero 16 = some [.raw (.pointer none)] := rfl
@[simp] theorem tsize17 : tab.size 17 = some 1 := rfl
@[simp] theorem tbytes17 : tab.bytes 17 = some 8 := rfl
@[simp] theorem tagg17 : tab.agg 17 = some false := rfl
@[simp] theorem tkind17 : tab.kind 17 = some (.ptr 179) := rfl
@[simp] theorem tzero17 : tab.zero 17 = some [.raw (.pointer none)] := rfl
@[simp] theorem tsize18 : tab.size 18 = some 1 := rfl
@[simp] theorem tbytes18 : tab.bytes 18 = some 8 := rfl
@[simp] theorem tagg18 : tab.agg 18 = some true := rfl
@[simp] theorem tkind18 : tab.kind 18 = some (.struct [(0, 17)]) := rfl
@[simp] theorem tzero18 : tab.zero 18 = some [.raw (.pointer none)] := rfl
@[simp] theorem tfoff18_0 : tab.foff 18 0 = some (0, 1) := rfl
@[simp] theorem tsok18 : structOk tab 18 = true := rfl
@[simp] theorem tmeth19_165 : tab.meth 19 "Error" = some 165 := rfl
@[simp] theorem tmeth19_166 : tab.meth 19 "RuntimeError" = some 166 := rfl
@[simp] theorem tsize19 : tab.size 19 = some 1 := rfl
@[simp] theorem tbytes19 : tab.bytes 19 = some 8 := rfl
@[simp] theorem tagg19 : tab.agg 19 = some true := rfl
@[simp] theorem tkind19 : tab.kind 19 = some (.struct [(0, 17)]) := rfl
@[simp] theorem tzero19 : tab.zero 19 = some [.raw (.pointer none)] := rfl
@[simp] theorem tfoff19_0 : tab.foff 19 0 = some (0, 1) := rfl
@[simp] theorem tsok19 : structOk tab 19 = true := rfl
@[simp] theorem tsize20 : tab.size 20 = some 1 := rfl
@[simp] theorem tbytes20 : tab.bytes 20 = some 16 := rfl
@[simp] theorem tagg20 : tab.agg 20 = some false := rfl
@[simp] theorem tkind20 : tab.kind 20 = some (.iface) := rfl
@[simp] theorem tzero20 : tab.zero 20 = some [.raw .nilIface] := rfl
@[simp] theorem tsize21 : tab.size 21 = some 1 := rfl
@[simp] theorem tbytes21 : tab.bytes 21 = some 4 := rfl
@[simp] theorem tagg21 : tab.agg 21 = some false := rfl
@[simp] theorem tkind21 : tab.kind 21 = some (.int .i32) := rfl
@[simp] theorem tzero21 : tab.zero 21 = some [.int .i32 0] := rfl
@[simp] theorem tsize22 : tab.size 22 = some 1 := rfl
@[simp] theorem tbytes22 : tab.bytes 22 = some 24 := rfl
@[simp] theorem tagg22 : tab.agg 22 = some false := rfl
@[simp] theorem tkind22 : tab.kind 22 = some (.slice 25) := rfl
@[simp] theorem tzero22 : tab.zero 22 = some [.nil] := rfl
@[simp] theorem telem22 : tab.elem 22 = some 25 := rfl
@[simp] theorem tsize23 : tab.size 23 = some 1 := rfl
@[simp] theorem tbytes23 : tab.bytes 23 = some 24 := rfl
@[simp] theorem tagg23 : tab.agg 23 = some false := rfl
@[simp] theorem tkind23 : tab.kind 23 = some (.slice 9) := rfl
@[simp] theorem tzero23 : tab.zero 23 = some [.nil] := rfl
@[simp] theorem telem23 : tab.elem 23 = some 9 := rfl
@[simp] theorem tsize24 : tab.size 24 = some 5 := rfl
@[simp] theorem tbytes24 : tab.bytes 24 = some 80 := rfl
@[simp] theorem tagg24 : tab.agg 24 = some true := rfl
@[simp] theorem tkind24 : tab.kind 24 = some (.struct [(0, 3), (1, 3), (2, 9), (3, 22), (4, 23)]) := rfl
@[simp] theorem tzero24 : tab.zero 24 = some [.int .i64 0, .int .i64 0, .str [], .nil, .nil] := rfl
@[simp] theorem tfoff24_0 : tab.foff 24 0 = some (0, 1) := rfl
@[simp] theorem tfoff24_1 : tab.foff 24 1 = some (1, 1) := rfl
@[simp] theorem tfoff24_2 : tab.foff 24 2 = some (2, 1) := rfl
@[simp] theorem tfoff24_3 : tab.foff 24 3 = some (3, 1) := rfl
@[simp] theorem tfoff24_4 : tab.foff 24 4 = some (4, 1) := rfl
@[simp] theorem tsok24 : structOk tab 24 = true := rfl
@[simp] theorem tsize25 : tab.size 25 = some 5 := rfl
@[simp] theorem tbytes25 : tab.bytes 25 = some 80 := rfl
@[simp] theorem tagg25 : tab.agg 25 = some true := rfl
@[simp] theorem tkind25 : tab.kind 25 = some (.struct [(0, 3), (1, 3), (2, 9), (3, 22), (4, 23)]) := rfl
@[simp] theorem tzero25 : tab.zero 25 = some [.int .i64 0, .int .i64 0, .str [], .nil, .nil] := rfl
@[simp] theorem tfoff25_0 : tab.foff 25 0 = some (0, 1) := rfl
@[simp] theorem tfoff25_1 : tab.foff 25 1 = some (1, 1) := rfl
@[simp] theorem tfoff25_2 : tab.foff 25 2 = some (2, 1) := rfl
@[simp] theorem tfoff25_3 : tab.foff 25 3 = some (3, 1) := rfl
@[simp] theorem tfoff25_4 : tab.foff 25 4 = some (4, 1) := rfl
@[simp] theorem tsok25 : structOk tab 25 = true := rfl
@[simp] theorem tsize26 : tab.size 26 = some 1 := rfl
@[simp] theorem tbytes26 : tab.bytes 26 = some 8 := rfl
@[simp] theorem tagg26 : tab.agg 26 = some false := rfl
@[simp] theorem tkind26 : tab.kind 26 = some (.func) := rfl
@[simp] theorem tzero26 : tab.zero 26 = some [.raw .nilFunc] := rfl
@[simp] theorem tsize27 : tab.size 27 = some 1 := rfl
@[simp] theorem tbytes27 : tab.bytes 27 = some 8 := rfl
@[simp] theorem tagg27 : tab.agg 27 = some false := rfl
@[simp] theorem tkind27 : tab.kind 27 = some (.func) := rfl
@[simp] theorem tzero27 : tab.zero 27 = some [.raw .nilFunc] := rfl
@[simp] theorem tsize28 : tab.size 28 = some 1 := rfl
@[simp] theorem tbytes28 : tab.bytes 28 = some 24 := rfl
@[simp] theorem tagg28 : tab.agg 28 = some false := rfl
@[simp] theorem tkind28 : tab.kind 28 = some (.slice 30) := rfl
@[simp] theorem tzero28 : tab.zero 28 = some [.nil] := rfl
@[simp] theorem telem28 : tab.elem 28 = some 30 := rfl
@[simp] theorem tsize29 : tab.size 29 = some 5 := rfl
@[simp] theorem tbytes29 : tab.bytes 29 = some 80 := rfl
@[simp] theorem tagg29 : tab.agg 29 = some true := rfl
@[simp] theorem tkind29 : tab.kind 29 = some (.struct [(0, 3), (1, 3), (2, 9), (3, 28), (4, 23)]) := rfl
@[simp] theorem tzero29 : tab.zero 29 = some [.int .i64 0, .int .i64 0, .str [], .nil, .nil] := rfl
@[simp] theorem tfoff29_0 : tab.foff 29 0 = some (0, 1) := rfl
@[simp] theorem tfoff29_1 : tab.foff 29 1 = some (1, 1) := rfl
@[simp] theorem tfoff29_2 : tab.foff 29 2 = some (2, 1) := rfl
@[simp] theorem tfoff29_3 : tab.foff 29 3 = some (3, 1) := rfl
@[simp] theorem tfoff29_4 : tab.foff 29 4 = some (4, 1) := rfl
@[simp] theorem tsok29 : structOk tab 29 = true := rfl
@[simp] theorem tsize30 : tab.size 30 = some 5 := rfl
@[simp] theorem tbytes30 : tab.bytes 30 = some 80 := rfl
@[simp] theorem tagg30 : tab.agg 30 = some true := rfl
@[simp] theorem tkind30 : tab.kind 30 = some (.struct [(0, 3), (1, 3), (2, 9), (3, 28), (4, 23)]) := rfl
@[simp] theorem tzero30 : tab.zero 30 = some [.int .i64 0, .int .i64 0, .str [], .nil, .nil] := rfl
@[simp] theorem tfoff30_0 : tab.foff 30 0 = some (0, 1) := rfl
@[simp] theorem tfoff30_1 : tab.foff 30 1 = some (1, 1) := rfl
@[simp] theorem tfoff30_2 : tab.foff 30 2 = some (2, 1) := rfl
@[simp] theorem tfoff30_3 : tab.foff 30 3 = some (3, 1) := rfl
@[simp] theorem tfoff30_4 : tab.foff 30 4 = some (4, 1) := rfl
@[simp] theorem tsok30 : structOk tab 30 = true := rfl
@[simp] theorem tsize31 : tab.size 31 = some 1 := rfl
@[simp] theorem tbytes31 : tab.bytes 31 = some 8 := rfl
@[simp] theorem tagg31 : tab.agg 31 = some false := rfl
@[simp] theorem tkind31 : tab.kind 31 = some (.func) := rfl
@[simp] theorem tzero31 : tab.zero 31 = some [.raw .nilFunc] := rfl
@[simp] theorem tsize32 : tab.size 32 = some 1 := rfl
@[simp] theorem tbytes32 : tab.bytes 32 = some 8 := rfl
@[simp] theorem tagg32 : tab.agg 32 = some false := rfl
@[simp] theorem tkind32 : tab.kind 32 = some (.func) := rfl
@[simp] theorem tzero32 : tab.zero 32 = some [.raw .nilFunc] := rfl
@[simp] theorem tsize33 : tab.size 33 = some 1 := rfl
@[simp] theorem tbytes33 : tab.bytes 33 = some 8 := rfl
@[simp] theorem tagg33 : tab.agg 33 = some false := rfl
@[simp] theorem tkind33 : tab.kind 33 = some (.func) := rfl
@[simp] theorem tzero33 : tab.zero 33 = some [.raw .nilFunc] := rfl
@[simp] theorem tsize34 : tab.size 34 = some 1 := rfl
@[simp] theorem tbytes34 : tab.bytes 34 = some 8 := rfl
@[simp] theorem tagg34 : tab.agg 34 = some false := rfl
@[simp] theorem tkind34 : tab.kind 34 = some (.func) := rfl
@[simp] theorem tzero34 : tab.zero 34 = some [.raw .nilFunc] := rfl
@[simp] theorem tsize36 : tab.size 36 = some 1 := rfl
@[simp] theorem tbytes36 : tab.bytes 36 = some 8 := rfl
@[simp] theorem tagg36 : tab.agg 36 = some false := rfl
@[simp] theorem tkind36 : tab.kind 36 = some (.func) := rfl
@[simp] theorem tzero36 : tab.zero 36 = some [.raw .nilFunc] := rfl
@[simp] theorem tsize37 : tab.size 37 = some 1 := rfl
@[simp] theorem tbytes37 : tab.bytes 37 = some 8 := rfl
@[simp] theorem tagg37 : tab.agg 37 = some false := rfl
@[simp] theorem tkind37 : tab.kind 37 = some (.func) := rfl
@[simp] theorem tzero37 : tab.zero 37 = some [.raw .nilFunc] := rfl
@[simp] theorem tsize38 : tab.size 38 = some 1 := rfl
@[simp] theorem tbytes38 : tab.bytes 38 = some 8 := rfl
@[simp] theorem tagg38 : tab.agg 38 = some false := rfl
@[simp] theorem tkind38 : tab.kind 38 = some (.func) := rfl
@[simp] theorem tzero38 : tab.zero 38 = some [.raw .nilFunc] := rfl
@[simp] theorem tsize39 : tab.size 39 = some 1 := rfl
@[simp] theorem tbytes39 : tab.bytes 39 = some 8 := rfl
@[simp] theorem tagg39 : tab.agg 39 = some false := rfl
@[simp] theorem tkind39 : tab.kind 39 = some (.func) := rfl
@[simp] theorem tzero39 : tab.zero 39 = some [.raw .nilFunc] := rfl
@[simp] theorem tsize40 : tab.size 40 = some 1 := rfl
@[simp] theorem tbytes40 : tab.bytes 40 = some 8 := rfl
@[simp] theorem tagg40 : tab.agg 40 = some false := rfl
@[simp] theorem tkind40 : tab.kind 40 = some (.func) := rfl
@[simp] theorem tzero40 : tab.zero 40 = some [.raw .nilFunc] := rfl
@[simp] theorem tsize41 : tab.size 41 = some 1 := rfl
@[simp] theorem tbytes41 : tab.bytes 41 = some 8 := rfl
@[simp] theorem tagg41 : tab.agg 41 = some false := rfl
@[simp] theorem tkind41 : tab.kind 41 = some (.func) := rfl
@[simp] theorem tzero41 : tab.zero 41 = some [.raw .nilFunc] := rfl
@[simp] theorem tsize42 : tab.size 42 = some 1 := rfl
@[simp] theorem tbytes42 : tab.bytes 42 = some 24 := rfl
@[simp] theorem tagg42 : tab.agg 42 = some false := rfl
@[simp] theorem tkind42 : tab.kind 42 = some (.slice 5) := rfl
@[simp] theorem tzero42 : tab.zero 42 = some [.nil] := rfl
@[simp] theorem telem42 : tab.elem 42 = some 5 := rfl
@[simp] theorem tsize44 : tab.size 44 = some 1 := rfl
@[simp] theorem tbytes44 : tab.bytes 44 = some 8 := rfl
@[simp] theorem tagg44 : tab.agg 44 = some false := rfl
@[simp] theorem tkind44 : tab.kind 44 = some (.func) := rfl
@[simp] theorem tzero44 : tab.zero 44 = some [.raw .nilFunc] := rfl
@[simp] theorem tsize45 : tab.size 45 = some 1 := rfl
@[simp] theorem tbytes45 : tab.bytes 45 = some 8 := rfl
@[simp] theorem tagg45 : tab.agg 45 = some false := rfl
@[simp] theorem tkind45 : tab.kind 45 = some (.func) := rfl
@[simp] theorem tzero45 : tab.zero 45 = some [.raw .nilFunc] := rfl
@[simp] theorem tsize46 : tab.size 46 = some 1 := rfl
@[simp] theorem tbytes46 : tab.bytes 46 = some 8 := rfl
@[simp] theorem tagg46 : tab.agg 46 = some false := rfl
@[simp] theorem tkind46 : tab.kind 46 = some (.func) := rfl
@[simp] theorem tzero46 : tab.zero 46 = some [.raw .nilFunc] := rfl
@[simp] theorem tsize47 : tab.size 47 = some 1 := rfl
@[simp] theorem tbytes47 : tab.bytes 47 = some 8 := rfl
@[simp] theorem tagg47 : tab.agg 47 = some false := rfl
@[simp] theorem tkind47 : tab.kind 47 = some (.func) := rfl
@[simp] theorem tzero47 : tab.zero 47 = some [.raw .nilFunc] := rfl
@[simp] theorem tsize48 : tab.size 48 = some 1 := rfl
@[simp] theorem tbytes48 : tab.bytes 48 = some 8 := rfl
@[simp] theorem tagg48 : tab.agg 48 = some false := rfl
@[simp] theorem tkind48 : tab.kind 48 = some (.func) := rfl
@[simp] theorem tzero48 : tab.zero 48 = some [.raw .nilFunc] := rfl
@[simp] theorem tsize49 : tab.size 49 = some 1 := rfl
@[simp] theorem tbytes49 : tab.bytes 49 = some 8 := rfl
@[simp] theorem tagg49 : tab.agg 49 = some false := rfl
@[simp] theorem tkind49 : tab.kind 49 = some (.func) := rfl
@[simp] theorem tzero49 : tab.zero 49 = some [.raw .nilFunc] := rfl
@[simp] theorem tsize51 : tab.size 51 = some 1 := rfl
@[simp] theorem tbytes51 : tab.bytes 51 = some 8 := rfl
@[simp] theorem tagg51 : tab.agg 51 = some false := rfl
@[simp] theorem tkind51 : tab.kind 51 = some (.func) := rfl
@[simp] theorem tzero51 : tab.zero 51 = some [.raw .nilFunc] := rfl
@[simp] theorem tsize52 : tab.size 52 = some 1 := rfl
@[simp] theorem tbytes52 : tab.bytes 52 = some 8 := rfl
@[simp] theorem tagg52 : tab.agg 52 = some false := rfl
@[simp] theorem tkind52 : tab.kind 52 = some (.func) := rfl
@[simp] theorem tzero52 : tab.zero 52 = some [.raw .nilFunc] := rfl
@[simp] theorem tsize53 : tab.size 53 = some 1 := rfl
@[simp] theorem tbytes53 : tab.bytes 53 = some 8 := rfl
@[simp] theorem tagg53 : tab.agg 53 = some false := rfl
@[simp] theorem tkind53 : tab.kind 53 = some (.func) := rfl
@[simp] theorem tzero53 : tab.zero 53 = some [.raw .nilFunc] := rfl
@[simp] theorem tsize54 : tab.size 54 = some 1 := rfl
@[simp] theorem tbytes54 : tab.bytes 54 = some 8 := rfl
@[simp] theorem tagg54 : tab.agg 54 = some false := rfl
@[simp] theorem tkind54 : tab.kind 54 = some (.func) := rfl
@[simp] theorem tzero54 : tab.zero 54 = some [.raw .nilFunc] := rfl
@[simp] theorem tsize55 : tab.size 55 = some 1 := rfl
@[simp] theorem tbytes55 : tab.bytes 55 = some 8 := rfl
@[simp] theorem tagg55 : tab.agg 55 = some false := rfl
@[simp] theorem tkind55 : tab.kind 55 = some (.func) := rfl
@[simp] theorem tzero55 : tab.zero 55 = some [.raw .nilFunc] := rfl
@[simp] theorem tsize56 : tab.size 56 = some 1 := rfl
@[simp] theorem tbytes56 : tab.bytes 56 = some 8 := rfl
@[simp] theorem tagg56 : tab.agg 56 = some false := rfl
@[simp] theorem tkind56 : tab.kind 56 = some (.map 65 66) := rfl
@[simp] theorem tzero56 : tab.zero 56 = some [.raw (.map none)] := rfl
@[simp] theorem tsize57 : tab.size 57 = some 10 := rfl
@[simp] theorem tbytes57 : tab.bytes 57 = some 160 := rfl
@[simp] theorem tagg57 : tab.agg 57 = some true := rfl
@[simp] theorem tkind57 : tab.kind 57 = some (.struct [(0, 30), (5, 30)]) := rfl
@[simp] theorem tzero57 : tab.zero 57 = some [.int .i64 0, .int .i64 0, .str [], .nil, .nil, .int .i64 0, .int .i64 0, .str [], .nil, .nil] := rfl
@[simp] theorem tfoff57_0 : tab.foff 57 0 = some (0, 5) := rfl
@[simp] theorem tfoff57_1 : tab.foff 57 1 = some (5, 5) := rfl
@[simp] theorem tsok57 : structOk tab 57 = true := rfl
@[simp] theorem tsize58 : tab.size 58 = some 10 := rfl
@[simp] theorem tbytes58 : tab.bytes 58 = some 160 := rfl
@[simp] theorem tagg58 : tab.agg 58 = some true := rfl
@[simp] theorem tkind58 : tab.kind 58 = some (.struct [(0, 30), (5, 30)]) := rfl
@[simp] theorem tzero58 : tab.zero 58 = some [.int .i64 0, .int .i64 0, .str [], .nil, .nil, .int .i64 0, .int .i64 0, .str [], .nil, .nil] := rfl
@[simp] theorem tfoff58_0 : tab.foff 58 0 = some (0, 5) := rfl
@[simp] theorem tfoff58_1 : tab.foff 58 1 = some (5, 5) := rfl
@[simp] theorem tsok58 : structOk tab 58 = true := rfl
@[simp] theorem tsize59 : tab.size 59 = some 1 := rfl
@[simp] theorem tbytes59 : tab.bytes 59 = some 24 := rfl
@[simp] theorem tagg59 : tab.agg 59 = some false := rfl
@[simp] theorem tkind59 : tab.kind 59 = some (.slice 58) := rfl
@[simp] theorem tzero59 : tab.zero 59 = some [.nil] := rfl
@[simp] theorem telem59 : tab.elem 59 = some 58 := rfl
@[simp] theorem tsize60 : tab.size 60 = some 1 := rfl
@[simp] theorem tbytes60 : tab.bytes 60 = some 8 := rfl
@[simp] theorem tagg60 : tab.agg 60 = some false := rfl
@[simp] theorem tkind60 : tab.kind 60 = some (.ptr 30) := rfl
@[simp] theorem tzero60 : tab.zero 60 = some [.raw (.pointer none)] := rfl
@[simp] theorem tsize61 : tab.size 61 = some 2 := rfl
@[simp] theorem tbytes61 : tab.bytes 61 = some 16 := rfl
@[simp] theorem tagg61 : tab.agg 61 = some true := rfl
@[simp] theorem tkind61 : tab.kind 61 = some (.struct [(0, 60), (1, 3)]) := rfl
@[simp] theorem tzero61 : tab.zero 61 = some [.raw (.pointer none), .int .i64 0] := rfl
@[simp] theorem tfoff61_0 : tab.foff 61 0 = some (0, 1) := rfl
@[simp] theorem tfoff61_1 : tab.foff 61 1 = some (1, 1) := rfl
@[simp] theorem tsok61 : structOk tab 61 = true := rfl
@[simp] theorem tsize62 : tab.size 62 = some 2 := rfl
@[simp] theorem tbytes62 : tab.bytes 62 = some 16 := rfl
@[simp] theorem tagg62 : tab.agg 62 = some true := rfl
@[simp] theorem tkind62 : tab.kind 62 = some (.struct [(0, 60), (1, 3)]) := rfl
@[simp] theorem tzero62 : tab.zero 62 = some [.raw (.pointer none), .int .i64 0] := rfl
@[simp] theorem tfoff62_0 : tab.foff 62 0 = some (0, 1) := rfl
@[simp] theorem tfoff62_1 : tab.foff 62 1 = some (1, 1) := rfl
@[simp] theorem tsok62 : structOk tab 62 = true := rfl
@[simp] theorem tsize63 : tab.size 63 = some 1 := rfl
@[simp] theorem tbytes63 : tab.bytes 63 = some 8 := rfl
@[simp] theorem tagg63 : tab.agg 63 = some false := rfl
@[simp] theorem tkind63 : tab.kind 63 = some (.func) := rfl
@[simp] theorem tzero63 : tab.zero 63 = some [.raw .nilFunc] := rfl
@[simp] theorem tsize64 : tab.size 64 = some 4 := rfl
@[simp] theorem tbytes64 : tab.bytes 64 = some 32 := rfl
@[simp] theorem tagg64 : tab.agg 64 = some true := rfl
@[simp] theorem tkind64 : tab.kind 64 = some (.struct [(0, 62), (2, 62)]) := rfl
@[simp] theorem tzero64 : tab.zero 64 = some [.raw (.pointer none), .int .i64 0, .raw (.pointer none), .int .i64 0] := rfl
@[simp] theorem tfoff64_0 : tab.foff 64 0 = some (0, 2) := rfl
@[simp] theorem tfoff64_1 : tab.foff 64 1 = some (2, 2) := rfl
@[simp] theorem tsok64 : structOk tab 64 = true := rfl
@[simp] theorem tsize65 : tab.size 65 = some 4 := rfl
@[simp] theorem tbytes65 : tab.bytes 65 = some 32 := rfl
@[simp] theorem tagg65 : tab.agg 65 = some true := rfl
@[simp] theorem tkind65 : tab.kind 65 = some (.struct [(0, 62), (2, 62)]) := rfl
@[simp] theorem tzero65 : tab.zero 65 = some [.raw (.pointer none), .int .i64 0, .raw (.pointer none), .int .i64 0] := rfl
@[simp] theorem tfoff65_0 : tab.foff 65 0 = some (0, 2) := rfl
@[simp] theorem tfoff65_1 : tab.foff 65 1 = some (2, 2) := rfl
@[simp] theorem tsok65 : structOk tab 65 = true := rfl
@[simp] theorem tsize66 : tab.size 66 = some 0 := rfl
@[simp] theorem tbytes66 : tab.bytes 66 = some 0 := rfl
@[simp] theorem tagg66 : tab.agg 66 = some true := rfl
@[simp] theorem tkind66 : tab.kind 66 = some (.struct []) := rfl
@[simp] theorem tzero66 : tab.zero 66 = some [] := rfl
@[simp] theorem tsok66 : structOk tab 66 = true := rfl
@[simp] theorem tsize68 : tab.size 68 = some 1 := rfl
@[simp] theorem tbytes68 : tab.bytes 68 = some 8 := rfl
@[simp] theorem tagg68 : tab.agg 68 = some false := rfl
@[simp] theorem tkind68 : tab.kind 68 = some (.func) := rfl
@[simp] theorem tzero68 : tab.zero 68 = some [.raw .nilFunc] := rfl
@[simp] theorem tsize69 : tab.size 69 = some 1 := rfl
@[simp] theorem tbytes69 : tab.bytes 69 = some 8 := rfl
@[simp] theorem tagg69 : tab.agg 69 = some false := rfl
@[simp] theorem tkind69 : tab.kind 69 = some (.func) := rfl
@[simp] theorem tzero69 : tab.zero 69 = some [.raw .nilFunc] := rfl
@[simp] theorem tsize70 : tab.size 70 = some 1 := rfl
@[simp] theorem tbytes70 : tab.bytes 70 = some 8 := rfl
@[simp] theorem tagg70 : tab.agg 70 = some false := rfl
@[simp] theorem tkind70 : tab.kind 70 = some (.map 62 66) := rfl
@[simp] theorem tzero70 : tab.zero 70 = some [.raw (.map none)] := rfl
@[simp] theorem tsize71 : tab.size 71 = some 1 := rfl
@[simp] theorem tbytes71 : tab.bytes 71 = some 24 := rfl
@[simp] theorem tagg71 : tab.agg 71 = some false := rfl
@[simp] theorem tkind71 : tab.kind 71 = some (.slice 28) := rfl
@[simp] theorem tzero71 : tab.zero 71 = some [.nil] := rfl
@[simp] theorem telem71 : tab.elem 71 = some 28 := rfl
@[simp] theorem tsize72 : tab.size 72 = some 1 := rfl
@[simp] theorem tbytes72 : tab.bytes 72 = some 8 := rfl
@[simp] theorem tagg72 : tab.agg 72 = some false := rfl
@[simp] theorem tkind72 : tab.kind 72 = some (.func) := rfl
@[simp] theorem tzero72 : tab.zero 72 = some [.raw .nilFunc] := rfl
@[simp] theorem tsize73 : tab.size 73 = some 1 := rfl
@[simp] theorem tbytes73 : tab.bytes 73 = some 8 := rfl
@[simp] theorem tagg73 : tab.agg 73 = some false := rfl
@[simp] theorem tkind73 : tab.kind 73 = some (.func) := rfl
@[simp] theorem tzero73 : tab.zero 73 = some [.raw .nilFunc] := rfl
@[simp] theorem tsize75 : tab.size 75 = some 1 := rfl
@[simp] theorem tbytes75 : tab.bytes 75 = some 8 := rfl
@[simp] theorem tagg75 : tab.agg 75 = some false := rfl
@[simp] theorem tkind75 : tab.kind 75 = some (.func) := rfl
@[simp] theorem tzero75 : tab.zero 75 = some [.raw .nilFunc] := rfl
@[simp] theorem tsize76 : tab.size 76 = some 1 := rfl
@[simp] theorem tbytes76 : tab.bytes 76 = some 8 := rfl
@[simp] theorem tagg76 : tab.agg 76 = some false := rfl
@[simp] theorem tkind76 : tab.kind 76 = some (.func) := rfl
@[simp] theorem tzero76 : tab.zero 76 = some [.raw .nilFunc] := rfl
@[simp] theorem tsize77 : tab.size 77 = some 2 := rfl
@[simp] theorem tbytes77 : tab.bytes 77 = some 24 := rfl
@[simp] theorem tagg77 : tab.agg 77 = some true := rfl
@[simp] theorem tkind77 : tab.kind 77 = some (.struct [(0, 9), (1, 3)]) := rfl
@[simp] theorem tzero77 : tab.zero 77 = some [.str [], .int .i64 0] := rfl
@[simp] theorem tfoff77_0 : tab.foff 77 0 = some (0, 1) := rfl
@[simp] theorem tfoff77_1 : tab.foff 77 1 = some (1, 1) := rfl
@[simp] theorem tsok77 : structOk tab 77 = true := rfl
@[simp] theorem tsize78 : tab.size 78 = some 2 := rfl
@[simp] theorem tbytes78 : tab.bytes 78 = some 24 := rfl
@[simp] theorem tagg78 : tab.agg 78 = some true := rfl
@[simp] theorem tkind78 : tab.kind 78 = some (.struct [(0, 9), (1, 3)]) := rfl
@[simp] theorem tzero78 : tab.zero 78 = some [.str [], .int .i64 0] := rfl
@[simp] theorem tfoff78_0 : tab.foff 78 0 = some (0, 1) := rfl
@[simp] theorem tfoff78_1 : tab.foff 78 1 = some (1, 1) := rfl
@[simp] theorem tsok78 : structOk tab 78 = true := rfl
@[simp] theorem tsize79 : tab.size 79 = some 1 := rfl
@[simp] theorem tbytes79 : tab.bytes 79 = some 8 := rfl
@[simp] theorem tagg79 : tab.agg 79 = some false := rfl
@[simp] theorem tkind79 : tab.kind 79 = some (.func) := rfl
@[simp] theorem tzero79 : tab.zero 79 = some [.raw .nilFunc] := rfl
@[simp] theorem tsize80 : tab.size 80 = some 1 := rfl
@[simp] theorem tbytes80 : tab.bytes 80 = some 8 := rfl
@[simp] theorem tagg80 : tab.agg 80 = some false := rfl
@[simp] theorem tkind80 : tab.kind 80 = some (.ptr 104) := rfl
@[simp] theorem tzero80 : tab.zero 80 = some [.raw (.pointer none)] := rfl
@[simp] theorem tsize81 : tab.size 81 = some 1 := rfl
@[simp] theorem tbytes81 : tab.bytes 81 = some 8 := rfl
@[simp] theorem tagg81 : tab.agg 81 = some false := rfl
@[simp] theorem tkind81 : tab.kind 81 = some (.func) := rfl
@[simp] theorem tzero81 : tab.zero 81 = some [.raw .nilFunc] := rfl
@[simp] theorem tsize82 : tab.size 82 = some 1 := rfl
@[simp] theorem tbytes82 : tab.bytes 82 = some 8 := rfl
@[simp] theorem tagg82 : tab.agg 82 = some false := rfl
@[simp] theorem tkind82 : tab.kind 82 = some (.func) := rfl
@[simp] theorem tzero82 : tab.zero 82 = some [.raw .nilFunc] := rfl
@[simp] theorem tsize83 : tab.size 83 = some 1 := rfl
@[simp] theorem tbytes83 : tab.bytes 83 = some 8 := rfl
@[simp] theorem tagg83 : tab.agg 83 = some false := rfl
@[simp] theorem tkind83 : tab.kind 83 = some (.func) := rfl
@[simp] theorem tzero83 : tab.zero 83 = some [.raw .nilFunc] := rfl
@[simp] theorem tsize84 : tab.size 84 = some 1 := rfl
@[simp] theorem tbytes84 : tab.bytes 84 = some 8 := rfl
@[simp] theorem tagg84 : tab.agg 84 = some false := rfl
@[simp] theorem tkind84 : tab.kind 84 = some (.func) := rfl
@[simp] theorem tzero84 : tab.zero 84 = some [.raw .nilFunc] := rfl
@[simp] theorem tsize85 : tab.size 85 = some 1 := rfl
@[simp] theorem tbytes85 : tab.bytes 85 = some 8 := rfl
@[simp] theorem tagg85 : tab.agg 85 = some false := rfl
@[simp] theorem tkind85 : tab.kind 85 = some (.func) := rfl
@[simp] theorem tzero85 : tab.zero 85 = some [.raw .nilFunc] := rfl
@[simp] theorem tsize86 : tab.size 86 = some 1 := rfl
@[simp] theorem tbytes86 : tab.bytes 86 = some 8 := rfl
@[simp] theorem tagg86 : tab.agg 86 = some false := rfl
@[simp] theorem tkind86 : tab.kind 86 = some (.func) := rfl
@[simp] theorem tzero86 : tab.zero 86 = some [.raw .nilFunc] := rfl
@[simp] theorem tsize87 : tab.size 87 = some 1 := rfl
@[simp] theorem tbytes87 : tab.bytes 87 = some 8 := rfl
@[simp] theorem tagg87 : tab.agg 87 = some false := rfl
@[simp] theorem tkind87 : tab.kind 87 = some (.func) := rfl
@[simp] theorem tzero87 : tab.zero 87 = some [.raw .nilFunc] := rfl
@[simp] theorem tsize88 : tab.size 88 = some 1 := rfl
@[simp] theorem tbytes88 : tab.bytes 88 = some 8 := rfl
@[simp] theorem tagg88 : tab.agg 88 = some false := rfl
@[simp] theorem tkind88 : tab.kind 88 = some (.func) := rfl
@[simp] theorem tzero88 : tab.zero 88 = some [.raw .nilFunc] := rfl
@[simp] theorem tsize89 : tab.size 89 = some 1 := rfl
@[simp] theorem tbytes89 : tab.bytes 89 = some 8 := rfl
@[simp] theorem tagg89 : tab.agg 89 = some false := rfl
@[simp] theorem tkind89 : tab.kind 89 = some (.func) := rfl
@[simp] theorem tzero89 : tab.zero 89 = some [.raw .nilFunc] := rfl
@[simp] theorem tsize90 : tab.size 90 = some 1 := rfl
@[simp] theorem tbytes90 : tab.bytes 90 = some 8 := rfl
@[simp] theorem tagg90 : tab.agg 90 = some false := rfl
@[simp] theorem tkind90 : tab.kind 90 = some (.func) := rfl
@[simp] theorem tzero90 : tab.zero 90 = some [.raw .nilFunc] := rfl
@[simp] theorem tsize92 : tab.size 92 = some 1 := rfl
@[simp] theorem tbytes92 : tab.bytes 92 = some 8 := rfl
@[simp] theorem tagg92 : tab.agg 92 = some false := rfl
@[simp] theorem tkind92 : tab.kind 92 = some (.func) := rfl
@[simp] theorem tzero92 : tab.zero 92 = some [.raw .nilFunc] := rfl
@[simp] theorem tsize93 : tab.size 93 = some 1 := rfl
@[simp] theorem tbytes93 : tab.bytes 93 = some 8 := rfl
@[simp] theorem tagg93 : tab.agg 93 = some false := rfl
@[simp] theorem tkind93 : tab.kind 93 = some (.func) := rfl
@[simp] theorem tzero93 : tab.zero 93 = some [.raw .nilFunc] := rfl
@[simp] theorem tsize94 : tab.size 94 = some 1 := rfl
@[simp] theorem tbytes94 : tab.bytes 94 = some 8 := rfl
@[simp] theorem tagg94 : tab.agg 94 = some false := rfl
@[simp] theorem tkind94 : tab.kind 94 = some (.func) := rfl
@[simp] theorem tzero94 : tab.zero 94 = some [.raw .nilFunc] := rfl
@[simp] theorem tsize96 : tab.size 96 = some 1 := rfl
@[simp] theorem tbytes96 : tab.bytes 96 = some 8 := rfl
@[simp] theorem tagg96 : tab.agg 96 = some false := rfl
@[simp] theorem tkind96 : tab.kind 96 = some (.func) := rfl
@[simp] theorem tzero96 : tab.zero 96 = some [.raw .nilFunc] := rfl
@[simp] theorem tsize97 : tab.size 97 = some 1 := rfl
@[simp] theorem tbytes97 : tab.bytes 97 = some 8 := rfl
@[simp] theorem tagg97 : tab.agg 97 = some false := rfl
@[simp] theorem tkind97 : tab.kind 97 = some (.ptr 78) := rfl
@[simp] theorem tzero97 : tab.zero 97 = some [.raw (.pointer none)] := rfl
@[simp] theorem tsize99 : tab.size 99 = some 1 := rfl
@[simp] theorem tbytes99 : tab.bytes 99 = some 8 := rfl
@[simp] theorem tagg99 : tab.agg 99 = some false := rfl
@[simp] theorem tkind99 : tab.kind 99 = some (.func) := rfl
@[simp] theorem tzero99 : tab.zero 99 = some [.raw .nilFunc] := rfl
@[simp] theorem tsize101 : tab.size 101 = some 1 := rfl
@[simp] theorem tbytes101 : tab.bytes 101 = some 8 := rfl
@[simp] theorem tagg101 : tab.agg 101 = some false := rfl
@[simp] theorem tkind101 : tab.kind 101 = some (.func) := rfl
@[simp] theorem tzero101 : tab.zero 101 = some [.raw .nilFunc] := rfl
@[simp] theorem tsize102 : tab.size 102 = some 1 := rfl
@[simp] theorem tbytes102 : tab.bytes 102 = some 8 := rfl
@[simp] theorem tagg102 : tab.agg 102 = some false := rfl
@[simp] theorem tkind102 : tab.kind 102 = some (.func) := rfl
@[simp] theorem tzero102 : tab.zero 102 = some [.raw .nilFunc] := rfl
@[simp] theorem tsize103 : tab.size 103 = some 2 := rfl
@[simp] theorem tbytes103 : tab.bytes 103 = some 32 := rfl
@[simp] theorem tagg103 : tab.agg 103 = some true := rfl
@[simp] theorem tkind103 : tab.kind 103 = some (.struct [(0, 42), (1, 3)]) := rfl
@[simp] theorem tzero103 : tab.zero 103 = some [.nil, .int .i64 0] := rfl
@[simp] theorem tfoff103_0 : tab.foff 103 0 = some (0, 1) := rfl
@[simp] theorem tfoff103_1 : tab.foff 103 1 = some (1, 1) := rfl
@[simp] theorem tsok103 : structOk tab 103 = true := rfl
@[simp] theorem tsize104 : tab.size 104 = some 2 := rfl
@[simp] theorem tbytes104 : tab.bytes 104 = some 32 := rfl
@[simp] theorem tagg104 : tab.agg 104 = some true := rfl
@[simp] theorem tkind104 : tab.kind 104 = some (.struct [(0, 42), (1, 3)]) := rfl
@[simp] theorem tzero104 : tab.zero 104 = some [.nil, .int .i64 0] := rfl
@[simp] theorem tfoff104_0 : tab.foff 104 0 = some (0, 1) := rfl
@[simp] theorem tfoff104_1 : tab.foff 104 1 = some (1, 1) := rfl
@[simp] theorem tsok104 : structOk tab 104 = true := rfl
@[simp] theorem tsize105 : tab.size 105 = some 1 := rfl
@[simp] theorem tbytes105 : tab.bytes 105 = some 8 := rfl
@[simp] theorem tagg105 : tab.agg 105 = some false := rfl
@[simp] theorem tkind105 : tab.kind 105 = some (.func) := rfl
@[simp] theorem tzero105 : tab.zero 105 = some [.raw .nilFunc] := rfl
@[simp] theorem tsize106 : tab.size 106 = some 1 := rfl
@[simp] theorem tbytes106 : tab.bytes 106 = some 24 := rfl
@[simp] theorem tagg106 : tab.agg 106 = some false := rfl
@[simp] theorem tkind106 : tab.kind 106 = some (.slice 3) := rfl
@[simp] theorem tzero106 : tab.zero 106 = some [.nil] := rfl
@[simp] theorem telem106 : tab.elem 106 = some 3 := rfl
@[simp] theorem tsize107 : tab.size 107 = some 1 := rfl
@[simp] theorem tbytes107 : tab.bytes 107 = some 8 := rfl
@[simp] theorem tagg107 : tab.agg 107 = some false := rfl
@[simp] theorem tkind107 : tab.kind 107 = some (.func) := rfl
@[simp] theorem tzero107 : tab.zero 107 = some [.raw .nilFunc] := rfl
@[simp] theorem tsize108 : tab.size 108 = some 1 := rfl
@[simp] theorem tbytes108 : tab.bytes 108 = some 8 := rfl
@[simp] theorem tagg108 : tab.agg 108 = some false := rfl
@[simp] theorem tkind108 : tab.kind 108 = some (.func) := rfl
@[simp] theorem tzero108 : tab.zero 108 = some [.raw .nilFunc] := rfl
@[simp] theorem tsize109 : tab.size 109 = some 1 := rfl
@[simp] theorem tbytes109 : tab.bytes 109 = some 16 := rfl
@[simp] theorem tagg109 : tab.agg 109 = some false := rfl
@[simp] theorem tkind109 : tab.kind 109 = some (.iface) := rfl
@[simp] theorem tzero109 : tab.zero 109 = some [.raw .nilIface] := rfl
@[simp] theorem tsize110 : tab.size 110 = some 1 := rfl
@[simp] theorem tbytes110 : tab.bytes 110 = some 16 := rfl
@[simp] theorem tagg110 : tab.agg 110 = some false := rfl
@[simp] theorem tkind110 : tab.kind 110 = some (.iface) := rfl
@[simp] theorem tzero110 : tab.zero 110 = some [.raw .nilIface] := rfl
@[simp] theorem tsize111 : tab.size 111 = some 1 := rfl
@[simp] theorem tbytes111 : tab.bytes 111 = some 8 := rfl
@[simp] theorem tagg111 : tab.agg 111 = some false := rfl
@[simp] theorem tkind111 : tab.kind 111 = some (.func) := rfl
@[simp] theorem tzero111 : tab.zero 111 = some [.raw .nilFunc] := rfl
@[simp] theorem tmeth112_167 : tab.meth 112 "loop.example/pergola/impl.within" = some 167 := rfl
@[simp] theorem tsize112 : tab.size 112 = some 1 := rfl
@[simp] theorem tbytes112 : tab.bytes 112 = some 16 := rfl
@[simp] theorem tagg112 : tab.agg 112 = some false := rfl
@[simp] theorem tkind112 : tab.kind 112 = some (.string) := rfl
@[simp] theorem tzero112 : tab.zero 112 = some [.str []] := rfl
@[simp] theorem tmeth113_168 : tab.meth 113 "loop.example/pergola/impl.within" = some 168 := rfl
@[simp] theorem tsize113 : tab.size 113 = some 1 := rfl
@[simp] theorem tbytes113 : tab.bytes 113 = some 16 := rfl
@[simp] theorem tagg113 : tab.agg 113 = some false := rfl
@[simp] theorem tkind113 : tab.kind 113 = some (.string) := rfl
@[simp] theorem tzero113 : tab.zero 113 = some [.str []] := rfl
@[simp] theorem tsize114 : tab.size 114 = some 1 := rfl
@[simp] theorem tbytes114 : tab.bytes 114 = some 8 := rfl
@[simp] theorem tagg114 : tab.agg 114 = some false := rfl
@[simp] theorem tkind114 : tab.kind 114 = some (.func) := rfl
@[simp] theorem tzero114 : tab.zero 114 = some [.raw .nilFunc] := rfl
@[simp] theorem tsize115 : tab.size 115 = some 1 := rfl
@[simp] theorem tbytes115 : tab.bytes 115 = some 8 := rfl
@[simp] theorem tagg115 : tab.agg 115 = some false := rfl
@[simp] theorem tkind115 : tab.kind 115 = some (.func) := rfl
@[simp] theorem tzero115 : tab.zero 115 = some [.raw .nilFunc] := rfl
@[simp] theorem tsize116 : tab.size 116 = some 1 := rfl
@[simp] theorem tbytes116 : tab.bytes 116 = some 8 := rfl
@[simp] theorem tagg116 : tab.agg 116 = some false := rfl
@[simp] theorem tkind116 : tab.kind 116 = some (.func) := rfl
@[simp] theorem tzero116 : tab.zero 116 = some [.raw .nilFunc] := rfl
@[simp] theorem tsize117 : tab.size 117 = some 1 := rfl
@[simp] theorem tbytes117 : tab.bytes 117 = some 8 := rfl
@[simp] theorem tagg117 : tab.agg 117 = some false := rfl
@[simp] theorem tkind117 : tab.kind 117 = some (.func) := rfl
@[simp] theorem tzero117 : tab.zero 117 = some [.raw .nilFunc] := rfl
@[simp] theorem tsize118 : tab.size 118 = some 1 := rfl
@[simp] theorem tbytes118 : tab.bytes 118 = some 8 := rfl
@[simp] theorem tagg118 : tab.agg 118 = some false := rfl
@[simp] theorem tkind118 : tab.kind 118 = some (.func) := rfl
@[simp] theorem tzero118 : tab.zero 118 = some [.raw .nilFunc] := rfl
@[simp] theorem tsize119 : tab.size 119 = some 1 := rfl
@[simp] theorem tbytes119 : tab.bytes 119 = some 8 := rfl
@[simp] theorem tagg119 : tab.agg 119 = some false := rfl
@[simp] theorem tkind119 : tab.kind 119 = some (.func) := rfl
@[simp] theorem tzero119 : tab.zero 119 = some [.raw .nilFunc] := rfl
@[simp] theorem tsize120 : tab.size 120 = some 1 := rfl
@[simp] theorem tbytes120 : tab.bytes 120 = some 8 := rfl
@[simp] theorem tagg120 : tab.agg 120 = some false := rfl
@[simp] theorem tkind120 : tab.kind 120 = some (.func) := rfl
@[simp] theorem tzero120 : tab.zero 120 = some [.raw .nilFunc] := rfl
@[simp] theorem tsize121 : tab.size 121 = some 1 := rfl
@[simp] theorem tbytes121 : tab.bytes 121 = some 8 := rfl
@[simp] theorem tagg121 : tab.agg 121 = some false := rfl
@[simp] theorem tkind121 : tab.kind 121 = some (.ptr 123) := rfl
@[simp] theorem tzero121 : tab.zero 121 = some [.raw (.pointer none)] := rfl
@[simp] theorem tsize122 : tab.size 122 = some 4 := rfl
@[simp] theorem tbytes122 : tab.bytes 122 = some 48 := rfl
@[simp] theorem tagg122 : tab.agg 122 = some true := rfl
@[simp] theorem tkind122 : tab.kind 122 = some (.struct [(0, 62), (2, 28), (3, 121)]) := rfl
@[simp] theorem tzero122 : tab.zero 122 = some [.raw (.pointer none), .int .i64 0, .nil, .raw (.pointer none)] := rfl
@[simp] theorem tfoff122_0 : tab.foff 122 0 = some (0, 2) := rfl
@[simp] theorem tfoff122_1 : tab.foff 122 1 = some (2, 1) := rfl
@[simp] theorem tfoff122_2 : tab.foff 122 2 = some (3, 1) := rfl
@[simp] theorem tsok122 : structOk tab 122 = true := rfl
@[simp] theorem tsize123 : tab.size 123 = some 4 := rfl
@[simp] theorem tbytes123 : tab.bytes 123 = some 48 := rfl
@[simp] theorem tagg123 : tab.agg 123 = some true := rfl
@[simp] theorem tkind123 : tab.kind 123 = some (.struct [(0, 62), (2, 28), (3, 121)]) := rfl
@[simp] theorem tzero123 : tab.zero 123 = some [.raw (.pointer none), .int .i64 0, .nil, .raw (.pointer none)] := rfl
@[simp] theorem tfoff123_0 : tab.foff 123 0 = some (0, 2) := rfl
@[simp] theorem tfoff123_1 : tab.foff 123 1 = some (2, 1) := rfl
@[simp] theorem tfoff123_2 : tab.foff 123 2 = some (3, 1) := rfl
@[simp] theorem tsok123 : structOk tab 123 = true := rfl
@[simp] theorem tsize125 : tab.size 125 = some 1 := rfl
@[simp] theorem tbytes125 : tab.bytes 125 = some 8 := rfl
@[simp] theorem tagg125 : tab.agg 125 = some false := rfl
@[simp] theorem tkind125 : tab.kind 125 = some (.func) := rfl
@[simp] theorem tzero125 : tab.zero 125 = some [.raw .nilFunc] := rfl
@[simp] theorem tsize126 : tab.size 126 = some 1 := rfl
@[simp] theorem tbytes126 : tab.bytes 126 = some 8 := rfl
@[simp] theorem tagg126 : tab.agg 126 = some false := rfl
@[simp] theorem tkind126 : tab.kind 126 = some (.func) := rfl
@[simp] theorem tzero126 : tab.zero 126 = some [.raw .nilFunc] := rfl
@[simp] theorem tsize128 : tab.size 128 = some 1 := rfl
@[simp] theorem tbytes128 : tab.bytes 128 = some 8 := rfl
@[simp] theorem tagg128 : tab.agg 128 = some false := rfl
@[simp] theorem tkind128 : tab.kind 128 = some (.func) := rfl
@[simp] theorem tzero128 : tab.zero 128 = some [.raw .nilFunc] := rfl
@[simp] theorem tsize129 : tab.size 129 = some 1 := rfl
@[simp] theorem tbytes129 : tab.bytes 129 = some 8 := rfl
@[simp] theorem tagg129 : tab.agg 129 = some false := rfl
@[simp] theorem tkind129 : tab.kind 129 = some (.func) := rfl
@[simp] theorem tzero129 : tab.zero 129 = some [.raw .nilFunc] := rfl
@[simp] theorem tsize130 : tab.size 130 = some 1 := rfl
@[simp] theorem tbytes130 : tab.bytes 130 = some 8 := rfl
@[simp] theorem tagg130 : tab.agg 130 = some false := rfl
@[simp] theorem tkind130 : tab.kind 130 = some (.func) := rfl
@[simp] theorem tzero130 : tab.zero 130 = some [.raw .nilFunc] := rfl
@[simp] theorem tsize131 : tab.size 131 = some 1 := rfl
@[simp] theorem tbytes131 : tab.bytes 131 = some 8 := rfl
@[simp] theorem tagg131 : tab.agg 131 = some false := rfl
@[simp] theorem tkind131 : tab.kind 131 = some (.func) := rfl
@[simp] theorem tzero131 : tab.zero 131 = some [.raw .nilFunc] := rfl
@[simp] theorem tsize132 : tab.size 132 = some 1 := rfl
@[simp] theorem tbytes132 : tab.bytes 132 = some 8 := rfl
@[simp] theorem tagg132 : tab.agg 132 = some false := rfl
@[simp] theorem tkind132 : tab.kind 132 = some (.int .u64) := rfl
@[simp] theorem tzero132 : tab.zero 132 = some [.int .u64 0] := rfl
@[simp] theorem tsize133 : tab.size 133 = some 1 := rfl
@[simp] theorem tbytes133 : tab.bytes 133 = some 8 := rfl
@[simp] theorem tagg133 : tab.agg 133 = some false := rfl
@[simp] theorem tkind133 : tab.kind 133 = some (.func) := rfl
@[simp] theorem tzero133 : tab.zero 133 = some [.raw .nilFunc] := rfl
@[simp] theorem tmeth134_169 : tab.meth 134 "loop.example/pergola/impl.within" = some 169 := rfl
@[simp] theorem tsize134 : tab.size 134 = some 0 := rfl
@[simp] theorem tbytes134 : tab.bytes 134 = some 0 := rfl
@[simp] theorem tagg134 : tab.agg 134 = some true := rfl
@[simp] theorem tkind134 : tab.kind 134 = some (.struct []) := rfl
@[simp] theorem tzero134 : tab.zero 134 = some [] := rfl
@[simp] theorem tsok134 : structOk tab 134 = true := rfl
@[simp] theorem tmeth135_170 : tab.meth 135 "loop.example/pergola/impl.within" = some 170 := rfl
@[simp] theorem tsize135 : tab.size 135 = some 1 := rfl
@[simp] theorem tbytes135 : tab.bytes 135 = some 1 := rfl
@[simp] theorem tagg135 : tab.agg 135 = some false := rfl
@[simp] theorem tkind135 : tab.kind 135 = some (.bool) := rfl
@[simp] theorem tzero135 : tab.zero 135 = some [.bool false] := rfl
@[simp] theorem tmeth136_171 : tab.meth 136 "loop.example/pergola/impl.within" = some 171 := rfl
@[simp] theorem tsize136 : tab.size 136 = some 1 := rfl
@[simp] theorem tbytes136 : tab.bytes 136 = some 8 := rfl
@[simp] theorem tagg136 : tab.agg 136 = some false := rfl
@[simp] theorem tkind136 : tab.kind 136 = some (.int .i64) := rfl
@[simp] theorem tzero136 : tab.zero 136 = some [.int .i64 0] := rfl
@[simp] theorem tmeth137_172 : tab.meth 137 "loop.example/pergola/impl.within" = some 172 := rfl
@[simp] theorem tsize137 : tab.size 137 = some 1 := rfl
@[simp] theorem tbytes137 : tab.bytes 137 = some 16 := rfl
@[simp] theorem tagg137 : tab.agg 137 = some false := rfl
@[simp] theorem tkind137 : tab.kind 137 = some (.string) := rfl
@[simp] theorem tzero137 : tab.zero 137 = some [.str []] := rfl
@[simp] theorem tmeth138_173 : tab.meth 138 "loop.example/pergola/impl.within" = some 173 := rfl
@[simp] theorem tsize138 : tab.size 138 = some 1 := rfl
@[simp] theorem tbytes138 : tab.bytes 138 = some 24 := rfl
@[simp] theorem tagg138 : tab.agg 138 = some false := rfl
@[simp] theorem tkind138 : tab.kind 138 = some (.slice 30) := rfl
@[simp] theorem tzero138 : tab.zero 138 = some [.nil] := rfl
@[simp] theorem telem138 : tab.elem 138 = some 30 := rfl
@[simp] theorem tsize139 : tab.size 139 = some 2 := rfl
@[simp] theorem tbytes139 : tab.bytes 139 = some 48 := rfl
@[simp] theorem tagg139 : tab.agg 139 = some true := rfl
@[simp] theorem tkind139 : tab.kind 139 = some (.struct [(0, 23), (1, 28)]) := rfl
@[simp] theorem tzero139 : tab.zero 139 = some [.nil, .nil] := rfl
@[simp] theorem tfoff139_0 : tab.foff 139 0 = some (0, 1) := rfl
@[simp] theorem tfoff139_1 : tab.foff 139 1 = some (1, 1) := rfl
@[simp] theorem tsok139 : structOk tab 139 = true := rfl
@[simp] theorem tmeth140_174 : tab.meth 140 "loop.example/pergola/impl.within" = some 174 := rfl
@[simp] theorem tsize140 : tab.size 140 = some 2 := rfl
@[simp] theorem tbytes140 : tab.bytes 140 = some 48 := rfl
@[simp] theorem tagg140 : tab.agg 140 = some true := rfl
@[simp] theorem tkind140 : tab.kind 140 = some (.struct [(0, 23), (1, 28)]) := rfl
@[simp] theorem tzero140 : tab.zero 140 = some [.nil, .nil] := rfl
@[simp] theorem tfoff140_0 : tab.foff 140 0 = some (0, 1) := rfl
@[simp] theorem tfoff140_1 : tab.foff 140 1 = some (1, 1) := rfl
@[simp] theorem tsok140 : structOk tab 140 = true := rfl
@[simp] theorem tsize141 : tab.size 141 = some 1 := rfl
@[simp] theorem tbytes141 : tab.bytes 141 = some 8 := rfl
@[simp] theorem tagg141 : tab.agg 141 = some false := rfl
@[simp] theorem tkind141 : tab.kind 141 = some (.func) := rfl
@[simp] theorem tzero141 : tab.zero 141 = some [.raw .nilFunc] := rfl
@[simp] theorem tsize142 : tab.size 142 = some 1 := rfl
@[simp] theorem tbytes142 : tab.bytes 142 = some 8 := rfl
@[simp] theorem tagg142 : tab.agg 142 = some false := rfl
@[simp] theorem tkind142 : tab.kind 142 = some (.func) := rfl
@[simp] theorem tzero142 : tab.zero 142 = some [.raw .nilFunc] := rfl
@[simp] theorem tsize143 : tab.size 143 = some 1 := rfl
@[simp] theorem tbytes143 : tab.bytes 143 = some 8 := rfl
@[simp] theorem tagg143 : tab.agg 143 = some false := rfl
@[simp] theorem tkind143 : tab.kind 143 = some (.func) := rfl
@[simp] theorem tzero143 : tab.zero 143 = some [.raw .nilFunc] := rfl
@[simp] theorem tsize144 : tab.size 144 = some 1 := rfl
@[simp] theorem tbytes144 : tab.bytes 144 = some 8 := rfl
@[simp] theorem tagg144 : tab.agg 144 = some false := rfl
@[simp] theorem tkind144 : tab.kind 144 = some (.func) := rfl
@[simp] theorem tzero144 : tab.zero 144 = some [.raw .nilFunc] := rfl
@[simp] theorem tsize145 : tab.size 145 = some 1 := rfl
@[simp] theorem tbytes145 : tab.bytes 145 = some 8 := rfl
@[simp] theorem tagg145 : tab.agg 145 = some false := rfl
@[simp] theorem tkind145 : tab.kind 145 = some (.int .i64) := rfl
@[simp] theorem tzero145 : tab.zero 145 = some [.int .i64 0] := rfl
@[simp] theorem tsize147 : tab.size 147 = some 1 := rfl
@[simp] theorem tbytes147 : tab.bytes 147 = some 8 := rfl
@[simp] theorem tagg147 : tab.agg 147 = some false := rfl
@[simp] theorem tkind147 : tab.kind 147 = some (.func) := rfl
@[simp] theorem tzero147 : tab.zero 147 = some [.raw .nilFunc] := rfl
@[simp] theorem tsize148 : tab.size 148 = some 1 := rfl
@[simp] theorem tbytes148 : tab.bytes 148 = some 8 := rfl
@[simp] theorem tagg148 : tab.agg 148 = some false := rfl
@[simp] theorem tkind148 : tab.kind 148 = some (.func) := rfl
@[simp] theorem tzero148 : tab.zero 148 = some [.raw .nilFunc] := rfl
@[simp] theorem tsize149 : tab.size 149 = some 1 := rfl
@[simp] theorem tbytes149 : tab.bytes 149 = some 8 := rfl
@[simp] theorem tagg149 : tab.agg 149 = some false := rfl
@[simp] theorem tkind149 : tab.kind 149 = some (.func) := rfl
@[simp] theorem tzero149 : tab.zero 149 = some [.raw .nilFunc] := rfl
@[simp] theorem tsize151 : tab.size 151 = some 1 := rfl
@[simp] theorem tbytes151 : tab.bytes 151 = some 8 := rfl
@[simp] theorem tagg151 : tab.agg 151 = some false := rfl
@[simp] theorem tkind151 : tab.kind 151 = some (.func) := rfl
@[simp] theorem tzero151 : tab.zero 151 = some [.raw .nilFunc] := rfl
@[simp] theorem tsize152 : tab.size 152 = some 1 := rfl
@[simp] theorem tbytes152 : tab.bytes 152 = some 8 := rfl
@[simp] theorem tagg152 : tab.agg 152 = some false := rfl
@[simp] theorem tkind152 : tab.kind 152 = some (.func) := rfl
@[simp] theorem tzero152 : tab.zero 152 = some [.raw .nilFunc] := rfl
@[simp] theorem tsize153 : tab.size 153 = some 1 := rfl
@[simp] theorem tbytes153 : tab.bytes 153 = some 4 := rfl
@[simp] theorem tagg153 : tab.agg 153 = some false := rfl
@[simp] theorem tkind153 : tab.kind 153 = some (.int .u32) := rfl
@[simp] theorem tzero153 : tab.zero 153 = some [.int .u32 0] := rfl
@[simp] theorem tsize154 : tab.size 154 = some 1 := rfl
@[simp] theorem tbytes154 : tab.bytes 154 = some 8 := rfl
@[simp] theorem tagg154 : tab.agg 154 = some false := rfl
@[simp] theorem tkind154 : tab.kind 154 = some (.func) := rfl
@[simp] theorem tzero154 : tab.zero 154 = some [.raw .nilFunc] := rfl
@[simp] theorem tsize155 : tab.size 155 = some 1 := rfl
@[simp] theorem tbytes155 : tab.bytes 155 = some 8 := rfl
@[simp] theorem tagg155 : tab.agg 155 = some false := rfl
@[simp] theorem tkind155 : tab.kind 155 = some (.int .u64) := rfl
@[simp] theorem tzero155 : tab.zero 155 = some [.int .u64 0] := rfl
@[simp] theorem tsize156 : tab.size 156 = some 1 := rfl
@[simp] theorem tbytes156 : tab.bytes 156 = some 8 := rfl
@[simp] theorem tagg156 : tab.agg 156 = some false := rfl
@[simp] theorem tkind156 : tab.kind 156 = some (.int .u64) := rfl
@[simp] theorem tzero156 : tab.zero 156 = some [.int .u64 0] := rfl
@[simp] theorem tsize157 : tab.size 157 = some 1 := rfl
@[simp] theorem tbytes157 : tab.bytes 157 = some 8 := rfl
@[simp] theorem tagg157 : tab.agg 157 = some false := rfl
@[simp] theorem tkind157 : tab.kind 157 = some (.func) := rfl
@[simp] theorem tzero157 : tab.zero 157 = some [.raw .nilFunc] := rfl
@[simp] theorem tsize158 : tab.size 158 = some 1 := rfl
@[simp] theorem tbytes158 : tab.bytes 158 = some 8 := rfl
@[simp] theorem tagg158 : tab.agg 158 = some false := rfl
@[simp] theorem tkind158 : tab.kind 158 = some (.func) := rfl
@[simp] theorem tzero158 : tab.zero 158 = some [.raw .nilFunc] := rfl
@[simp] theorem tsize159 : tab.size 159 = some 1 := rfl
@[simp] theorem tbytes159 : tab.bytes 159 = some 8 := rfl
@[simp] theorem tagg159 : tab.agg 159 = some false := rfl
@[simp] theorem tkind159 : tab.kind 159 = some (.func) := rfl
@[simp] theorem tzero159 : tab.zero 159 = some [.raw .nilFunc] := rfl
@[simp] theorem tsize160 : tab.size 160 = some 1 := rfl
@[simp] theorem tbytes160 : tab.bytes 160 = some 8 := rfl
@[simp] theorem tagg160 : tab.agg 160 = some false := rfl
@[simp] theorem tkind160 : tab.kind 160 = some (.ptr 3) := rfl
@[simp] theorem tzero160 : tab.zero 160 = some [.raw (.pointer none)] := rfl
@[simp] theorem tsize161 : tab.size 161 = some 1 := rfl
@[simp] theorem tbytes161 : tab.bytes 161 = some 8 := rfl
@[simp] theorem tagg161 : tab.agg 161 = some false := rfl
@[simp] theorem tkind161 : tab.kind 161 = some (.func) := rfl
@[simp] theorem tzero161 : tab.zero 161 = some [.raw .nilFunc] := rfl
@[simp] theorem tsize162 : tab.size 162 = some 1 := rfl
@[simp] theorem tbytes162 : tab.bytes 162 = some 8 := rfl
@[simp] theorem tagg162 : tab.agg 162 = some false := rfl
@[simp] theorem tkind162 : tab.kind 162 = some (.ptr 156) := rfl
@[simp] theorem tzero162 : tab.zero 162 = some [.raw (.pointer none)] := rfl
@[simp] theorem tsize164 : tab.size 164 = some 1 := rfl
@[simp] theorem tbytes164 : tab.bytes 164 = some 8 := rfl
@[simp] theorem tagg164 : tab.agg 164 = some false := rfl
@[simp] theorem tkind164 : tab.kind 164 = some (.func) := rfl
@[simp] theorem tzero164 : tab.zero 164 = some [.raw .nilFunc] := rfl
@[simp] theorem tsize165 : tab.size 165 = some 1 := rfl
@[simp] theorem tbytes165 : tab.bytes 165 = some 8 := rfl
@[simp] theorem tagg165 : tab.agg 165 = some false := rfl
@[simp] theorem tkind165 : tab.kind 165 = some (.func) := rfl
@[simp] theorem tzero165 : tab.zero 165 = some [.raw .nilFunc] := rfl
@[simp] theorem tsize166 : tab.size 166 = some 4 := rfl
@[simp] theorem tbytes166 : tab.bytes 166 = some 40 := rfl
@[simp] theorem tagg166 : tab.agg 166 = some true := rfl
@[simp] theorem tkind166 : tab.kind 166 = some (.struct [(0, 17), (1, 17), (2, 17), (3, 9)]) := rfl
@[simp] theorem tzero166 : tab.zero 166 = some [.raw (.pointer none), .raw (.pointer none), .raw (.pointer none), .str []] := rfl
@[simp] theorem tfoff166_0 : tab.foff 166 0 = some (0, 1) := rfl
@[simp] theorem tfoff166_1 : tab.foff 166 1 = some (1, 1) := rfl
@[simp] theorem tfoff166_2 : tab.foff 166 2 = some (2, 1) := rfl
@[simp] theorem tfoff166_3 : tab.foff 166 3 = some (3, 1) := rfl
@[simp] theorem tsok166 : structOk tab 166 = true := rfl
@[simp] theorem tsize167 : tab.size 167 = some 4 := rfl
@[simp] theorem tbytes167 : tab.bytes 167 = some 40 := rfl
@[simp] theorem tagg167 : tab.agg 167 = some true := rfl
@[simp] theorem tkind167 : tab.kind 167 = some (.struct [(0, 17), (1, 17), (2, 17), (3, 9)]) := rfl
@[simp] theorem tzero167 : tab.zero 167 = some [.raw (.pointer none), .raw (.pointer none), .raw (.pointer none), .str []] := rfl
@[simp] theorem tfoff167_0 : tab.foff 167 0 = some (0, 1) := rfl
@[simp] theorem tfoff167_1 : tab.foff 167 1 = some (1, 1) := rfl
@[simp] theorem tfoff167_2 : tab.foff 167 2 = some (2, 1) := rfl
@[simp] theorem tfoff167_3 : tab.foff 167 3 = some (3, 1) := rfl
@[simp] theorem tsok167 : structOk tab 167 = true := rfl
@[simp] theorem tsize169 : tab.size 169 = some 0 := rfl
@[simp] theorem tbytes169 : tab.bytes 169 = some 0 := rfl
@[simp] theorem tagg169 : tab.agg 169 = some true := rfl
@[simp] theorem tkind169 : tab.kind 169 = some (.struct [(0, 168)]) := rfl
@[simp] theorem tzero169 : tab.zero 169 = some [] := rfl
@[simp] theorem tsize170 : tab.size 170 = some 0 := rfl
@[simp] theorem tbytes170 : tab.bytes 170 = some 0 := rfl
@[simp] theorem tagg170 : tab.agg 170 = some true := rfl
@[simp] theorem tkind170 : tab.kind 170 = some (.struct [(0, 168)]) := rfl
@[simp] theorem tzero170 : tab.zero 170 = some [] := rfl
@[simp] theorem tsize171 : tab.size 171 = some 1 := rfl
@[simp] theorem tbytes171 : tab.bytes 171 = some 8 := rfl
@[simp] theorem tagg171 : tab.agg 171 = some false := rfl
@[simp] theorem tkind171 : tab.kind 171 = some (.func) := rfl
@[simp] theorem tzero171 : tab.zero 171 = some [.raw .nilFunc] := rfl
@[simp] theorem tsize172 : tab.size 172 = some 1 := rfl
@[simp] theorem tbytes172 : tab.bytes 172 = some 1 := rfl
@[simp] theorem tagg172 : tab.agg 172 = some false := rfl
@[simp] theorem tkind172 : tab.kind 172 = some (.int .u8) := rfl
@[simp] theorem tzero172 : tab.zero 172 = some [.int .u8 0] := rfl
@[simp] theorem tmeth173_175 : tab.meth 173 "String" = some 175 := rfl
@[simp] theorem tsize173 : tab.size 173 = some 1 := rfl
@[simp] theorem tbytes173 : tab.bytes 173 = some 1 := rfl
@[simp] theorem tagg173 : tab.agg 173 = some false := rfl
@[simp] theorem tkind173 : tab.kind 173 = some (.int .u8) := rfl
@[simp] theorem tzero173 : tab.zero 173 = some [.int .u8 0] := rfl
@[simp] theorem tsize174 : tab.size 174 = some 1 := rfl
@[simp] theorem tbytes174 : tab.bytes 174 = some 8 := rfl
@[simp] theorem tagg174 : tab.agg 174 = some false := rfl
@[simp] theorem tkind174 : tab.kind 174 = some (.func) := rfl
@[simp] theorem tzero174 : tab.zero 174 = some [.raw .nilFunc] := rfl
@[simp] theorem tsize175 : tab.size 175 = some 1 := rfl
@[simp] theorem tbytes175 : tab.bytes 175 = some 8 := rfl
@[simp] theorem tagg175 : tab.agg 175 = some false := rfl
@[simp] theorem tkind175 : tab.kind 175 = some (.ptr 5) := rfl
@[simp] theorem tzero175 : tab.zero 175 = some [.raw (.pointer none)] := rfl
@[simp] theorem tsize176 : tab.size 176 = some 1 := rfl
@[simp] theorem tbytes176 : tab.bytes 176 = some 4 := rfl
@[simp] theorem tagg176 : tab.agg 176 = some false := rfl
@[simp] theorem tkind176 : tab.kind 176 = some (.int .i32) := rfl
@[simp] theorem tzero176 : tab.zero 176 = some [.int .i32 0] := rfl
@[simp] theorem tsize177 : tab.size 177 = some 1 := rfl
@[simp] theorem tbytes177 : tab.bytes 177 = some 4 := rfl
@[simp] theorem tagg177 : tab.agg 177 = some false := rfl
@[simp] theorem tkind177 : tab.kind 177 = some (.int .i32) := rfl
@[simp] theorem tzero177 : tab.zero 177 = some [.int .i32 0] := rfl
@[simp] theorem tsize178 : tab.size 178 = some 11 := rfl
@[simp] theorem tbytes178 : tab.bytes 178 = some 48 := rfl
@[simp] theorem tagg178 : tab.agg 178 = some true := rfl
@[simp] theorem tkind178 : tab.kind 178 = some (.struct [(0, 12), (1, 12), (2, 153), (3, 172), (4, 5), (5, 5), (6, 173), (7, 174), (8, 175), (9, 176), (10, 177)]) := rfl
@[simp] theorem tzero178 : tab.zero 178 = some [.int .u64 0, .int .u64 0, .int .u32 0, .int .u8 0, .int .u8 0, .int .u8 0, .int .u8 0, .raw .nilFunc, .raw (.pointer none), .int .i32 0, .int .i32 0] := rfl
@[simp] theorem tfoff178_0 : tab.foff 178 0 = some (0, 1) := rfl
@[simp] theorem tfoff178_1 : tab.foff 178 1 = some (1, 1) := rfl
@[simp] theorem tfoff178_2 : tab.foff 178 2 = some (2, 1) := rfl
@[simp] theorem tfoff178_3 : tab.foff 178 3 = some (3, 1) := rfl
@[simp] theorem tfoff178_4 : tab.foff 178 4 = some (4, 1) := rfl
@[simp] theorem tfoff178_5 : tab.foff 178 5 = some (5, 1) := rfl
@[simp] theorem tfoff178_6 : tab.foff 178 6 = some (6, 1) := rfl
@[simp] theorem tfoff178_7 : tab.foff 178 7 = some (7, 1) := rfl
@[simp] theorem tfoff178_8 : tab.foff 178 8 = some (8, 1) := rfl
@[simp] theorem tfoff178_9 : tab.foff 178 9 = some (9, 1) := rfl
@[simp] theorem tfoff178_10 : tab.foff 178 10 = some (10, 1) := rfl
@[simp] theorem tsok178 : structOk tab 178 = true := rfl
@[simp] theorem tsize179 : tab.size 179 = some 11 := rfl
@[simp] theorem tbytes179 : tab.bytes 179 = some 48 := rfl
@[simp] theorem tagg179 : tab.agg 179 = some true := rfl
@[simp] theorem tkind179 : tab.kind 179 = some (.struct [(0, 12), (1, 12), (2, 153), (3, 172), (4, 5), (5, 5), (6, 173), (7, 174), (8, 175), (9, 176), (10, 177)]) := rfl
@[simp] theorem tzero179 : tab.zero 179 = some [.int .u64 0, .int .u64 0, .int .u32 0, .int .u8 0, .int .u8 0, .int .u8 0, .int .u8 0, .raw .nilFunc, .raw (.pointer none), .int .i32 0, .int .i32 0] := rfl
@[simp] theorem tfoff179_0 : tab.foff 179 0 = some (0, 1) := rfl
@[simp] theorem tfoff179_1 : tab.foff 179 1 = some (1, 1) := rfl
@[simp] theorem tfoff179_2 : tab.foff 179 2 = some (2, 1) := rfl
@[simp] theorem tfoff179_3 : tab.foff 179 3 = some (3, 1) := rfl
@[simp] theorem tfoff179_4 : tab.foff 179 4 = some (4, 1) := rfl
@[simp] theorem tfoff179_5 : tab.foff 179 5 = some (5, 1) := rfl
@[simp] theorem tfoff179_6 : tab.foff 179 6 = some (6, 1) := rfl
@[simp] theorem tfoff179_7 : tab.foff 179 7 = some (7, 1) := rfl
@[simp] theorem tfoff179_8 : tab.foff 179 8 = some (8, 1) := rfl
@[simp] theorem tfoff179_9 : tab.foff 179 9 = some (9, 1) := rfl
@[simp] theorem tfoff179_10 : tab.foff 179 10 = some (10, 1) := rfl
@[simp] theorem tsok179 : structOk tab 179 = true := rfl
end Go.Proofs.Ytiaigcdckmpepaa
