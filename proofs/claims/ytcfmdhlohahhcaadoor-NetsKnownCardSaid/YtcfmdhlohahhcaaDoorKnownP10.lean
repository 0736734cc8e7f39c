/- Texts for the law of the last part, part 10. -/
import Derived.Test.YtcfmdhlohahhcaaDoorKnownP09
import Derived.Test.YtcfmdhlohahhcaaDoorRows
import Derived.DeepKeys5
set_option linter.unusedSimpArgs false
set_option linter.unusedVariables false
namespace Go.Proofs.YtcfmdhlohahhcaaDoor
open Go Go.Sx
set_option maxRecDepth 100000
def tyTab : List (Nat × TI) := [
 (1, ⟨.func, 1, 8, [.nilf]⟩),
 (2, ⟨(.int .i64), 1, 8, [.int .i64 0]⟩),
 (3, ⟨(.int .i64), 1, 8, [.int .i64 0]⟩),
 (4, ⟨.bool, 1, 1, [.ff]⟩),
 (5, ⟨(.int .u8), 1, 1, [.int .u8 0]⟩),
 (6, ⟨(.int .u8), 1, 1, [.int .u8 0]⟩),
 (7, ⟨(.struct [(0, 2), (1, 3), (2, 4), (3, 6)]), 4, 24, [.int .i64 0, .int .i64 0, .ff, .int .u8 0]⟩),
 (8, ⟨(.struct [(0, 2), (1, 3), (2, 4), (3, 6)]), 4, 24, [.int .i64 0, .int .i64 0, .ff, .int .u8 0]⟩),
 (9, ⟨.str, 1, 16, [.str ⟨#[]⟩]⟩),
 (10, ⟨.str, 1, 16, [.str ⟨#[]⟩]⟩),
 (11, ⟨.str, 1, 16, [.str ⟨#[]⟩]⟩),
 (12, ⟨(.int .u64), 1, 8, [.int .u64 0]⟩),
 (15, ⟨.ptr, 1, 8, [.nilp]⟩),
 (16, ⟨.ptr, 1, 8, [.nilp]⟩),
 (17, ⟨.ptr, 1, 8, [.nilp]⟩),
 (21, ⟨(.int .i32), 1, 4, [.int .i32 0]⟩),
 (22, ⟨(.slice 44), 1, 24, [.nils]⟩),
 (23, ⟨(.slice 68), 1, 24, [.nils]⟩),
 (24, ⟨(.struct [(0, 22), (1, 22), (2, 3), (3, 23)]), 4, 80, [.nils, .nils, .int .i64 0, .nils]⟩),
 (25, ⟨(.struct [(0, 22), (1, 22), (2, 3), (3, 23)]), 4, 80, [.nils, .nils, .int .i64 0, .nils]⟩),
 (26, ⟨(.slice 3), 1, 24, [.nils]⟩),
 (27, ⟨(.struct [(0, 26), (1, 26), (2, 26), (3, 26)]), 4, 96, [.nils, .nils, .nils, .nils]⟩),
 (28, ⟨(.struct [(0, 26), (1, 26), (2, 26), (3, 26)]), 4, 96, [.nils, .nils, .nils, .nils]⟩),
 (29, ⟨(.array 2 3), 2, 16, [.int .i64 0, .int .i64 0]⟩),
 (30, ⟨(.struct [(0, 3), (1, 3)]), 2, 16, [.int .i64 0, .int .i64 0]⟩),
 (31, ⟨(.struct [(0, 3), (1, 3)]), 2, 16, [.int .i64 0, .int .i64 0]⟩),
 (32, ⟨(.int .i64), 1, 8, [.int .i64 0]⟩),
 (34, ⟨.func, 1, 8, [.nilf]⟩),
 (35, ⟨.func, 1, 8, [.nilf]⟩),
 (36, ⟨(.struct [(0, 3), (1, 3), (2, 3)]), 3, 24, [.int .i64 0, .int .i64 0, .int .i64 0]⟩),
 (37, ⟨(.struct [(0, 3), (1, 3), (2, 3)]), 3, 24, [.int .i64 0, .int .i64 0, .int .i64 0]⟩),
 (39, ⟨.func, 1, 8, [.nilf]⟩),
 (40, ⟨.func, 1, 8, [.nilf]⟩),
 (41, ⟨.func, 1, 8, [.nilf]⟩),
 (42, ⟨(.array 3 3), 3, 24, [.int .i64 0, .int .i64 0, .int .i64 0]⟩),
 (43, ⟨(.struct [(0, 3), (1, 3)]), 2, 16, [.int .i64 0, .int .i64 0]⟩),
 (44, ⟨(.struct [(0, 3), (1, 3)]), 2, 16, [.int .i64 0, .int .i64 0]⟩),
 (46, ⟨.func, 1, 8, [.nilf]⟩),
 (47, ⟨.func, 1, 8, [.nilf]⟩),
 (48, ⟨.func, 1, 8, [.nilf]⟩),
 (50, ⟨.func, 1, 8, [.nilf]⟩),
 (51, ⟨.func, 1, 8, [.nilf]⟩),
 (52, ⟨(.slice 88), 1, 24, [.nils]⟩),
 (53, ⟨(.struct [(0, 3), (1, 3), (2, 52), (3, 3), (4, 3)]), 5, 56, [.int .i64 0, .int .i64 0, .nils, .int .i64 0, .int .i64 0]⟩),
 (54, ⟨(.struct [(0, 3), (1, 3), (2, 52), (3, 3), (4, 3)]), 5, 56, [.int .i64 0, .int .i64 0, .nils, .int .i64 0, .int .i64 0]⟩),
 (55, ⟨(.slice 26), 1, 24, [.nils]⟩),
 (57, ⟨.func, 1, 8, [.nilf]⟩),
 (58, ⟨.func, 1, 8, [.nilf]⟩),
 (59, ⟨.func, 1, 8, [.nilf]⟩),
 (61, ⟨.func, 1, 8, [.nilf]⟩),
 (62, ⟨.func, 1, 8, [.nilf]⟩),
 (63, ⟨.func, 1, 8, [.nilf]⟩),
 (64, ⟨.func, 1, 8, [.nilf]⟩),
 (65, ⟨.func, 1, 8, [.nilf]⟩),
 (66, ⟨.func, 1, 8, [.nilf]⟩),
 (67, ⟨(.struct [(0, 31), (2, 3), (3, 3), (4, 3), (5, 3), (6, 44), (8, 44)]), 10, 80, List.replicate 10 (.int .i64 0)⟩),
 (68, ⟨(.struct [(0, 31), (2, 3), (3, 3), (4, 3), (5, 3), (6, 44), (8, 44)]), 10, 80, List.replicate 10 (.int .i64 0)⟩),
 (69, ⟨.func, 1, 8, [.nilf]⟩),
 (71, ⟨.func, 1, 8, [.nilf]⟩),
 (72, ⟨.func, 1, 8, [.nilf]⟩),
 (73, ⟨.func, 1, 8, [.nilf]⟩),
 (74, ⟨.func, 1, 8, [.nilf]⟩),
 (75, ⟨(.slice 28), 1, 24, [.nils]⟩),
 (76, ⟨.func, 1, 8, [.nilf]⟩),
 (77, ⟨.func, 1, 8, [.nilf]⟩),
 (79, ⟨.func, 1, 8, [.nilf]⟩),
 (80, ⟨(.array 4 3), 4, 32, [.int .i64 0, .int .i64 0, .int .i64 0, .int .i64 0]⟩),
 (81, ⟨.func, 1, 8, [.nilf]⟩),
 (82, ⟨.func, 1, 8, [.nilf]⟩),
 (83, ⟨.func, 1, 8, [.nilf]⟩),
 (84, ⟨.func, 1, 8, [.nilf]⟩),
 (85, ⟨.func, 1, 8, [.nilf]⟩),
 (86, ⟨.func, 1, 8, [.nilf]⟩),
 (87, ⟨(.struct [(0, 3), (1, 3)]), 2, 16, [.int .i64 0, .int .i64 0]⟩),
 (88, ⟨(.struct [(0, 3), (1, 3)]), 2, 16, [.int .i64 0, .int .i64 0]⟩),
 (89, ⟨.func, 1, 8, [.nilf]⟩),
 (90, ⟨.func, 1, 8, [.nilf]⟩),
 (91, ⟨(.slice 25), 1, 24, [.nils]⟩),
 (92, ⟨.func, 1, 8, [.nilf]⟩),
 (93, ⟨.func, 1, 8, [.nilf]⟩),
 (94, ⟨(.slice 54), 1, 24, [.nils]⟩),
 (95, ⟨(.slice 55), 1, 24, [.nils]⟩),
 (96, ⟨(.struct [(0, 25)]), 4, 80, [.nils, .nils, .int .i64 0, .nils]⟩),
 (97, ⟨(.struct [(0, 25)]), 4, 80, [.nils, .nils, .int .i64 0, .nils]⟩),
 (99, ⟨.func, 1, 8, [.nilf]⟩),
 (100, ⟨(.struct [(0, 68)]), 10, 80, List.replicate 10 (.int .i64 0)⟩),
 (101, ⟨(.struct [(0, 68)]), 10, 80, List.replicate 10 (.int .i64 0)⟩),
 (102, ⟨.func, 1, 8, [.nilf]⟩),
 (103, ⟨.func, 1, 8, [.nilf]⟩),
 (104, ⟨.func, 1, 8, [.nilf]⟩),
 (105, ⟨.func, 1, 8, [.nilf]⟩),
 (106, ⟨.func, 1, 8, [.nilf]⟩),
 (107, ⟨.func, 1, 8, [.nilf]⟩),
 (108, ⟨(.struct [(0, 105), (1, 105), (2, 106), (3, 107)]), 4, 32, [.nilf, .nilf, .nilf, .nilf]⟩),
 (109, ⟨(.struct [(0, 105), (1, 105), (2, 106), (3, 107)]), 4, 32, [.nilf, .nilf, .nilf, .nilf]⟩),
 (110, ⟨.func, 1, 8, [.nilf]⟩),
 (111, ⟨.func, 1, 8, [.nilf]⟩),
 (112, ⟨.func, 1, 8, [.nilf]⟩),
 (113, ⟨.func, 1, 8, [.nilf]⟩),
 (114, ⟨.func, 1, 8, [.nilf]⟩),
 (115, ⟨.func, 1, 8, [.nilf]⟩),
 (116, ⟨.func, 1, 8, [.nilf]⟩),
 (117, ⟨.func, 1, 8, [.nilf]⟩),
 (118, ⟨.func, 1, 8, [.nilf]⟩),
 (119, ⟨(.struct [(0, 3), (1, 3)]), 2, 16, [.int .i64 0, .int .i64 0]⟩),
 (120, ⟨(.struct [(0, 3), (1, 3)]), 2, 16, [.int .i64 0, .int .i64 0]⟩),
 (121, ⟨.func, 1, 8, [.nilf]⟩),
 (123, ⟨.func, 1, 8, [.nilf]⟩),
 (124, ⟨.func, 1, 8, [.nilf]⟩),
 (125, ⟨.func, 1, 8, [.nilf]⟩),
 (126, ⟨(.struct [(0, 54)]), 5, 56, [.int .i64 0, .int .i64 0, .nils, .int .i64 0, .int .i64 0]⟩),
 (127, ⟨(.struct [(0, 54)]), 5, 56, [.int .i64 0, .int .i64 0, .nils, .int .i64 0, .int .i64 0]⟩),
 (128, ⟨(.array 72 4), 72, 72, List.replicate 72 (.ff)⟩),
 (129, ⟨(.array 72 4), 72, 72, List.replicate 72 (.ff)⟩),
 (130, ⟨(.map 88 3), 1, 8, [.nilm]⟩),
 (132, ⟨.func, 1, 8, [.nilf]⟩),
 (134, ⟨.func, 1, 8, [.nilf]⟩),
 (136, ⟨.func, 1, 8, [.nilf]⟩),
 (138, ⟨.func, 1, 8, [.nilf]⟩),
 (139, ⟨.func, 1, 8, [.nilf]⟩),
 (140, ⟨(.map 88 4), 1, 8, [.nilm]⟩),
 (141, ⟨.func, 1, 8, [.nilf]⟩),
 (142, ⟨.func, 1, 8, [.nilf]⟩),
 (144, ⟨.func, 1, 8, [.nilf]⟩),
 (145, ⟨.func, 1, 8, [.nilf]⟩),
 (146, ⟨(.slice 173), 1, 24, [.nils]⟩),
 (147, ⟨.func, 1, 8, [.nilf]⟩),
 (148, ⟨.ptr, 1, 8, [.nilp]⟩),
 (149, ⟨.func, 1, 8, [.nilf]⟩),
 (150, ⟨(.slice 4), 1, 24, [.nils]⟩),
 (151, ⟨.func, 1, 8, [.nilf]⟩),
 (152, ⟨.func, 1, 8, [.nilf]⟩),
 (153, ⟨(.struct [(0, 28)]), 4, 96, [.nils, .nils, .nils, .nils]⟩),
 (154, ⟨(.struct [(0, 28)]), 4, 96, [.nils, .nils, .nils, .nils]⟩),
 (155, ⟨.ptr, 1, 8, [.nilp]⟩),
 (156, ⟨.func, 1, 8, [.nilf]⟩),
 (157, ⟨.ptr, 1, 8, [.nilp]⟩),
 (158, ⟨(.struct [(0, 109), (4, 151), (5, 156), (6, 157)]), 7, 56, [.nilf, .nilf, .nilf, .nilf, .nilf, .nilf, .nilp]⟩),
 (159, ⟨(.slice 158), 1, 24, [.nils]⟩),
 (160, ⟨.func, 1, 8, [.nilf]⟩),
 (161, ⟨.func, 1, 8, [.nilf]⟩),
 (162, ⟨.func, 1, 8, [.nilf]⟩),
 (163, ⟨.func, 1, 8, [.nilf]⟩),
 (164, ⟨.func, 1, 8, [.nilf]⟩),
 (165, ⟨.func, 1, 8, [.nilf]⟩),
 (166, ⟨.func, 1, 8, [.nilf]⟩),
 (167, ⟨.func, 1, 8, [.nilf]⟩),
 (168, ⟨.func, 1, 8, [.nilf]⟩),
 (169, ⟨.func, 1, 8, [.nilf]⟩),
 (170, ⟨.func, 1, 8, [.nilf]⟩),
 (171, ⟨(.map 3 4), 1, 8, [.nilm]⟩),
 (172, ⟨(.struct [(0, 88), (2, 3), (3, 3)]), 4, 32, [.int .i64 0, .int .i64 0, .int .i64 0, .int .i64 0]⟩),
 (173, ⟨(.struct [(0, 88), (2, 3), (3, 3)]), 4, 32, [.int .i64 0, .int .i64 0, .int .i64 0, .int .i64 0]⟩),
 (174, ⟨(.map 3 3), 1, 8, [.nilm]⟩),
 (175, ⟨.func, 1, 8, [.nilf]⟩),
 (176, ⟨.func, 1, 8, [.nilf]⟩),
 (177, ⟨.func, 1, 8, [.nilf]⟩),
 (178, ⟨.func, 1, 8, [.nilf]⟩),
 (179, ⟨.func, 1, 8, [.nilf]⟩),
 (182, ⟨(.array 0 16), 0, 0, []⟩),
 (185, ⟨.func, 1, 8, [.nilf]⟩),
 (186, ⟨(.int .u32), 1, 4, [.int .u32 0]⟩),
 (187, ⟨(.int .u8), 1, 1, [.int .u8 0]⟩),
 (188, ⟨(.int .u8), 1, 1, [.int .u8 0]⟩),
 (189, ⟨.func, 1, 8, [.nilf]⟩),
 (190, ⟨.ptr, 1, 8, [.nilp]⟩),
 (191, ⟨(.int .i32), 1, 4, [.int .i32 0]⟩),
 (192, ⟨(.int .i32), 1, 4, [.int .i32 0]⟩)]
def lookFn : List (Nat × Func) → Nat → Option Func
 | [], _ => none
 | (t, i) :: l, n => match Nat.beq n t with | true => some i | false => lookFn l n
noncomputable def fnTab : List (Nat × Func) := [(3, Tryd.f3), (4, Tryd.f4), (5, Tryd.f5), (6, Tryd.f6), (7, Tryd.f7), (8, Tryd.f8), (9, Tryd.f9), (10, Tryd.f10), (11, Tryd.f11), (12, Tryd.f12), (13, Tryd.f13), (14, Tryd.f14), (15, Tryd.f15), (16, Tryd.f16), (17, Tryd.f17), (18, Tryd.f18), (19, Tryd.f19), (20, Tryd.f20), (21, Tryd.f21), (22, Tryd.f22), (23, Tryd.f23), (24, Tryd.f24), (25, Tryd.f25), (26, Tryd.f26), (27, Tryd.f27), (28, Tryd.f28), (29, Tryd.f29), (30, Tryd.f30), (31, Tryd.f31), (32, Tryd.f32), (33, Tryd.f33), (34, Tryd.f34), (35, Tryd.f35), (36, Tryd.f36), (37, Tryd.f37), (38, Tryd.f38), (39, Tryd.f39), (40, Tryd.f40), (41, Tryd.f41), (42, Tryd.f42), (43, Tryd.f43), (44, Tryd.f44), (45, Tryd.f45), (46, Tryd.f46), (47, Tryd.f47), (48, Tryd.f48), (49, Tryd.f49), (50, Tryd.f50), (51, Tryd.f51), (52, Tryd.f52), (53, Tryd.f53), (54, Tryd.f54), (55, Tryd.f55), (56, Tryd.f56), (57, Tryd.f57), (58, Tryd.f58), (59, Tryd.f59), (60, Tryd.f60), (61, Tryd.f61), (62, Tryd.f62), (63, Tryd.f63), (64, Tryd.f64), (65, Tryd.f65), (66, Tryd.f66), (67, Tryd.f67), (68, Tryd.f68), (69, Tryd.f69), (70, Tryd.f70), (71, Tryd.f71), (72, Tryd.f72), (73, Tryd.f73), (74, Tryd.f74), (75, Tryd.f75), (76, Tryd.f76), (77, Tryd.f77), (78, Tryd.f78), (79, Tryd.f79), (80, Tryd.f80), (81, Tryd.f81), (82, Tryd.f82), (83, Tryd.f83), (84, Tryd.f84), (85, Tryd.f85), (86, Tryd.f86), (87, Tryd.f87), (88, Tryd.f88), (89, Tryd.f89), (90, Tryd.f90), (91, Tryd.f91), (92, Tryd.f92), (93, Tryd.f93), (94, Tryd.f94), (95, Tryd.f95), (96, Tryd.f96), (97, Tryd.f97), (98, Tryd.f98), (99, Tryd.f99), (100, Tryd.f100), (101, Tryd.f101), (102, Tryd.f102), (119, Tryd.f119), (120, Tryd.f120), (121, Tryd.f121), (122, Tryd.f122), (123, Tryd.f123), (124, Tryd.f124), (125, Tryd.f125), (126, Tryd.f126), (127, Tryd.f127)]
def fnC (f : Nat) : CV := .fn f [] (fun _ _ => .any) 0 (fun _ => .any)
def gl0 : Nat → Option (Nat × (Nat → CV))
 | 0 => some (4, fun | 0 => fnC 119 | 1 => fnC 120 | 2 => fnC 122 | _ => fnC 123)
 | 1 => some (4, fun | 0 => fnC 124 | 1 => fnC 125 | 2 => fnC 126 | _ => fnC 127)
 | 2 => some (2, fun _ => .int .i64 (-1))
 | _ => none
def MI : MapT := ⟨88, 3, true, 2, false⟩
def MB : MapT := ⟨88, 4, true, 2, true⟩
def MK : MapT := ⟨3, 4, false, 1, true⟩
def MJ : MapT := ⟨3, 3, false, 1, false⟩
def mps0 : Nat → Option MapT
 | 130 => some MI
 | 140 => some MB
 | 171 => some MK
 | 174 => some MJ
 | _ => none
noncomputable def E0 : Env := { ty := lookTy tyTab, gl := gl0, sig := fun _ => none, fn := lookFn fnTab, lam := fun _ _ => none, mps := mps0, stm := fun t => Nat.beq t 174 }
def fldsOf : Option TypeDesc → Option (List (Nat × Nat × Bool))
 | some (.struct fs) => some (fs.toList.map (fun f => (f.type, f.offset, f.name != "_")))
 | _ => none
theorem m88_flds : fldsOf (Tryd.prog.underlying 88) = some [(3, 0, true), (3, 1, true)] := by kernel_rfl
theorem m88_und : ∃ fs, Tryd.prog.underlying 88 = some (.struct fs) ∧ fs.toList.map (fun f => (f.type, f.offset, f.name != "_")) = [(3, 0, true), (3, 1, true)] := by
 have h := m88_flds
 unfold fldsOf at h
 split at h
 · rename_i fs hu
   exact ⟨fs, hu, by injection h⟩
 · cases h
theorem m88_key : Tryd.prog.keyType 88 = true := by kernel_rfl
theorem m88_size : Tryd.prog.cellsOf 88 = 2 := by kernel_rfl
theorem m3_size : Tryd.prog.cellsOf 3 = 1 := by kernel_rfl
theorem m3_und : Tryd.prog.underlying 3 = some (.int .i64) := by kernel_rfl
theorem m_small : Tryd.prog.types.size + 2 ≤ 10000 := Nat.le_of_ble_eq_true (by kernel_rfl)
theorem m_row : 88 < Tryd.prog.types.size := Nat.le_of_ble_eq_true (by kernel_rfl)
theorem m_laid : laidOutB Tryd.prog = true := by kernel_rfl
theorem m3_lit (d : Nat) {a : Int} (h : inRange .i64 a) : Tryd.prog.keyLits (d + 1) 3 [.int .i64 a] = some [.int .i64 a] := by
 have : (Lit.int .i64 a).wf = true := by
   obtain ⟨h1, h2⟩ := h
   simp only [Lit.wf, Bool.and_eq_true, decide_eq_true_eq]
   exact ⟨h1, h2⟩
 simp [Program.keyLits, m3_und, this]
theorem mc_lit (ks : List Int) (h : KeyIs MI ks) : ∃ l, keyOf Tryd.prog 88 (keyV true ks) = some l := by
 obtain ⟨fs, h1, h2⟩ := m88_und
 obtain ⟨hl, hr⟩ := h
 match ks, hl with
 | [a, b], _ =>
   have ha := hr a (by simp)
   have hb := hr b (by simp)
   obtain ⟨n, hn⟩ : ∃ n, Tryd.prog.types.size + 1 = n + 2 := ⟨Tryd.prog.types.size - 1, by have := m_row; omega⟩
   have hf : (Value.agg #[Value.int .i64 a, Value.int .i64 b]).formed Tryd.prog 88 = true := by simp [Value.formed, h1, m88_size]
   obtain ⟨f0, f1, hfs⟩ : ∃ f0 f1, fs.toList = [f0, f1] := by
     have hl : fs.toList.length = 2 := by
       have := congrArg List.length h2
       rwa [List.length_map] at this
     generalize fs.toList = l at hl
     match l, hl with
     | [f0, f1], _ => exact ⟨f0, f1, rfl⟩
   rw [hfs] at h2
   simp only [List.map_cons, List.map_nil, List.cons.injEq, Prod.mk.injEq, and_true] at h2
   obtain ⟨⟨t0, o0, n0⟩, ⟨t1, o1, n1⟩⟩ := h2
   obtain rfl : fs = #[f0, f1] := by cases fs; simp at hfs; subst hfs; rfl
   have hk : Tryd.prog.keyLits (n + 2) 88 [.int .i64 a, .int .i64 b] = some [.int .i64 a, .int .i64 b] := by
     unfold Program.keyLits
     simp only [h1]
     simp [m88_size, n0, n1, t0, t1, o0, o1, m3_size, m3_lit n ha, m3_lit n hb]
   refine ⟨.string (keyBytes [.int .i64 a, .int .i64 b]), ?_⟩
   unfold keyOf
   simp only [h1]
   rw [show keyV true [a, b] = Value.agg #[Value.int .i64 a, Value.int .i64 b] from rfl, m88_key, hf, hn]
   simp only [Bool.and_self, if_true, Value.cells]
   rw [hk]
   rfl
theorem mi_lit (ks : List Int) (h : KeyIs MK ks) : ∃ l, keyOf Tryd.prog 3 (keyV false ks) = some l := by
 obtain ⟨hl, hr⟩ := h
 match ks, hl with
 | [a], _ =>
   have ha := hr a (by simp)
   have : (Lit.int .i64 a).wf = true := by
     obtain ⟨h1, h2⟩ := ha
     simp only [Lit.wf, Bool.and_eq_true, decide_eq_true_eq]
     exact ⟨h1, h2⟩
   refine ⟨.int .i64 a, ?_⟩
   unfold keyOf
   simp only [m3_und]
   show mapKey Tryd.prog 3 (.int .i64 a) = _
   unfold mapKey
   simp [m3_und, this]
theorem m130 : MapFacts Tryd.prog 130 MI :=
 ⟨by kernel_rfl, Go.Maps.Keyed.of_law (deep_law_gate m_laid m_small m_row m88_key (by kernel_rfl)), mc_lit, fun w => rfl, fun h => by cases h⟩
theorem m140 : MapFacts Tryd.prog 140 MB :=
 ⟨by kernel_rfl, Go.Maps.Keyed.of_law (deep_law_gate m_laid m_small m_row m88_key (by kernel_rfl)), mc_lit, fun w => rfl, fun h => by cases h⟩
theorem m171 : MapFacts Tryd.prog 171 MK :=
 ⟨by kernel_rfl, Go.Maps.int_keyed m3_und, mi_lit, fun w => rfl, fun _ => rfl⟩
theorem m174 : MapFacts Tryd.prog 174 MJ :=
 ⟨by kernel_rfl, Go.Maps.int_keyed m3_und, mi_lit, fun w => rfl, fun _ => rfl⟩
theorem maps_ok : MapsOk Tryd.prog E0 := fun t T h => by
 have h' : mps0 t = some T := h
 unfold mps0 at h'
 split at h'
 · injection h' with h'; subst h'; exact m130
 · injection h' with h'; subst h'; exact m140
 · injection h' with h'; subst h'; exact m171
 · injection h' with h'; subst h'; exact m174
 · cases h'
theorem lookFn_mem : ∀ {l : List (Nat × Func)} {t : Nat} {i : Func}, lookFn l t = some i → (t, i) ∈ l
 | [], _, _, h => by simp [lookFn] at h
 | (n, j) :: l, t, i, h => by
   simp only [lookFn] at h
   split at h
   · rename_i e
     have := Nat.eq_of_beq_eq_true e
     subst this
     simp at h; subst h; simp
   · exact List.mem_cons_of_mem _ (lookFn_mem h)
theorem fnOk : fnTab.map (fun x => Tryd.prog.funcs[x.1]?) = fnTab.map (fun x => some x.2) := by kernel_rfl
theorem fnRuns : fnTab.all (fun x => !(x.2.name == "runtime.NumGoroutine") && x.2.body.isSome) = true := by kernel_rfl
theorem tyOk : tyTab.map (fun x => tabTI Tryd.prog x.1) = tyTab.map (fun x => some x.2) := by kernel_rfl
theorem fn_of {f : Nat} {fn : Func} (h : lookFn fnTab f = some fn) : ∃ c, Tryd.prog.funcs[f]? = some fn ∧ (fn.name == "runtime.NumGoroutine") = false ∧ fn.body = some c := by
 have hm := lookFn_mem h
 have h1 := map_eq_mem fnOk _ hm
 have h2 := List.all_eq_true.1 fnRuns _ hm
 simp only [Bool.and_eq_true, Bool.not_eq_true'] at h2
 obtain ⟨c, hc⟩ := Option.isSome_iff_exists.1 h2.2
 exact ⟨c, h1, h2.1, hc⟩
theorem fn_runs {f : Nat} (h : (lookFn fnTab f).isSome = true) : ∃ fn c, Tryd.prog.funcs[f]? = some fn ∧ (fn.name == "runtime.NumGoroutine") = false ∧ fn.body = some c := by
 obtain ⟨fn, hf⟩ := Option.isSome_iff_exists.1 h
 obtain ⟨c, h1⟩ := fn_of hf
 exact ⟨fn, c, h1⟩
theorem E0_ok : EnvOk Tryd.prog E0 :=
 ⟨tab_ok rfl tyOk (by kernel_rfl), fun f fn h => let ⟨_, h1, _⟩ := fn_of h; h1, fun f h => fn_runs (h.elim id (fun h => by simp [E0] at h)), fun f s x h => by simp [E0] at h, by kernel_rfl, maps_ok, fun _ _ _ h => (by cases h), fun _ _ _ h => (by cases h), fun _ _ _ h => by cases h⟩
end Go.Proofs.YtcfmdhlohahhcaaDoor
namespace Nm
open Go Go.Sx
def intC (n : Int) : TV := .c (.int .i64 n)
def allB : Nat → (Nat → Bool) → Bool
 | 0, _ => true
 | n + 1, p => allB n p && p n
theorem allB_iff {n : Nat} {p : Nat → Bool} : allB n p = true ↔ ∀ i, i < n → p i = true := by
 induction n with
 | zero => simp [allB]
 | succ n ih =>
   simp only [allB, Bool.and_eq_true, ih]
   constructor
   · rintro ⟨h1, h2⟩ i hi
     by_cases e : i = n
     · subst e; exact h2
     · exact h1 i (by omega)
   · intro h
     exact ⟨fun i hi => h i (by omega), h n (by omega)⟩
def within (n lo hi : Int) : Bool := decide (lo ≤ n) && decide (n ≤ hi)
theorem within_iff {n lo hi : Int} : within n lo hi = true ↔ lo ≤ n ∧ n ≤ hi := by simp [within]
def spanned (l h lo hi : Int) : Bool := decide (lo ≤ l) && decide (l ≤ h) && decide (h ≤ hi)
structure Fleet where
 hE : Nat
 e : Nat → Nat → Int
 hN : Nat
 n : Nat → Nat → Int
 gap : Int
 k : Nat
 net : Nat → Nat → Int
def Fleet.wf (x : Fleet) : Prop := x.hE < 4611686018427387904 ∧ x.hN < 4611686018427387904 ∧ x.k < 4611686018427387904
def hourOk (x : Fleet) (i : Nat) : Bool := spanned (x.e i 0) (x.e i 1) (-200) 200 && spanned (x.n i 0) (x.n i 1) (-200) 200
def net1 (m : Nat → Int) : Bool := within (m 0) (-10000) 10000 && within (m 1) (-10000) 10000 && within (m 2) 0 2000
def net2 (h : Int) (m : Nat → Int) : Bool := within (m 3) 0 1 && within (m 4) 0 (h - 1) && within (m 5) (m 4) h
def net3 (m : Nat → Int) : Bool := spanned (m 6) (m 7) (-50) 50 && spanned (m 8) (m 9) (-50) 50
def netOk (h : Int) (m : Nat → Int) : Bool := net1 m && net2 h m && net3 m
def chk0 (x : Fleet) : Bool := within x.hE 1 24 && decide ((x.hN : Int) = x.hE) && within x.gap 0 500 && within x.k 1 6
def chk (x : Fleet) : Bool := chk0 x && allB x.hE (hourOk x) && allB x.k (fun i => netOk x.hE (x.net i))
def chkE (x : Fleet) : Int := if chk x then 0 else 20
def fleetTV (x : Fleet) : TV := .a 4 (ofList [.vs 2 x.hE (fun i j => .int .i64 (x.e i j)), .vs 2 x.hN (fun i j => .int .i64 (x.n i j)), .int .i64 x.gap, .vs 10 x.k (fun i j => .int .i64 (x.net i j))])
def spanTV (a b : Int) : TV := .a 2 (fun j => .int .i64 (if j = 0 then a else b))
end Nm
namespace Nm
abbrev flq (x y : Fleet) : Prop := (((True ∧ True ∧ True ∧ x.hE = y.hE ∧ ∀ (i : Nat), i < x.hE → (True ∧ x.e i 0 = y.e i 0) ∧ x.e i 1 = y.e i 1) ∧ True ∧ True ∧ x.hN = y.hN ∧ ∀ (i : Nat), i < x.hN → (True ∧ x.n i 0 = y.n i 0) ∧ x.n i 1 = y.n i 1) ∧ True ∧ x.gap = y.gap) ∧ True ∧ True ∧ x.k = y.k ∧ ∀ (i : Nat), i < x.k → (((((((((True ∧ x.net i 0 = y.net i 0) ∧ x.net i 1 = y.net i 1) ∧ x.net i 2 = y.net i 2) ∧ x.net i 3 = y.net i 3) ∧ x.net i 4 = y.net i 4) ∧ x.net i 5 = y.net i 5) ∧ x.net i 6 = y.net i 6) ∧ x.net i 7 = y.net i 7) ∧ x.net i 8 = y.net i 8) ∧ x.net i 9 = y.net i 9
end Nm
namespace Go.Sx
theorem inR (n : Int) : inRange .i64 n ↔ -9223372036854775808 ≤ n ∧ n ≤ 9223372036854775807 := Iff.rfl
theorem exs1 {g : Nat} : (∃ a : Nat, (g : Int) = (a : Int)) ↔ True := ⟨fun ⟨a, e⟩ => by obtain rfl : a = g := (by omega); exact trivial, fun h => ⟨g, by omega⟩⟩
theorem exn1 {g : Nat} : (∃ a : Nat, (g : Int) + 1 = (a : Int)) ↔ True := ⟨fun ⟨a, e⟩ => by obtain rfl : a = g + 1 := (by omega); exact trivial, fun h => ⟨g + 1, by omega⟩⟩
theorem exz1 : (∃ a : Nat, (0 : Int) = (a : Int)) ↔ True := ⟨fun ⟨a, e⟩ => by obtain rfl : a = 0 := (by omega); exact trivial, fun h => ⟨0, by omega⟩⟩
theorem exo1 : (∃ a : Nat, (1 : Int) = (a : Int)) ↔ True := ⟨fun ⟨a, e⟩ => by obtain rfl : a = 1 := (by omega); exact trivial, fun h => ⟨1, by omega⟩⟩
theorem exs2 {p1 : Nat → Prop} {g : Nat} : (∃ a : Nat, p1 a ∧ (g : Int) = (a : Int)) ↔ p1 g := ⟨fun ⟨a, h1, e⟩ => by obtain rfl : a = g := (by omega); exact h1, fun h => ⟨g, h, by omega⟩⟩
theorem exn2 {p1 : Nat → Prop} {g : Nat} : (∃ a : Nat, p1 a ∧ (g : Int) + 1 = (a : Int)) ↔ p1 (g + 1) := ⟨fun ⟨a, h1, e⟩ => by obtain rfl : a = g + 1 := (by omega); exact h1, fun h => ⟨g + 1, h, by omega⟩⟩
theorem exz2 {p1 : Nat → Prop} : (∃ a : Nat, p1 a ∧ (0 : Int) = (a : Int)) ↔ p1 0 := ⟨fun ⟨a, h1, e⟩ => by obtain rfl : a = 0 := (by omega); exact h1, fun h => ⟨0, h, by omega⟩⟩
theorem exo2 {p1 : Nat → Prop} : (∃ a : Nat, p1 a ∧ (1 : Int) = (a : Int)) ↔ p1 1 := ⟨fun ⟨a, h1, e⟩ => by obtain rfl : a = 1 := (by omega); exact h1, fun h => ⟨1, h, by omega⟩⟩
theorem exs3 {p1 p2 : Nat → Prop} {g : Nat} : (∃ a : Nat, p1 a ∧ p2 a ∧ (g : Int) = (a : Int)) ↔ p1 g ∧ p2 g := ⟨fun ⟨a, h1, h2, e⟩ => by obtain rfl : a = g := (by omega); exact ⟨h1, h2⟩, fun h => ⟨g, h.1, h.2, by omega⟩⟩
theorem exn3 {p1 p2 : Nat → Prop} {g : Nat} : (∃ a : Nat, p1 a ∧ p2 a ∧ (g : Int) + 1 = (a : Int)) ↔ p1 (g + 1) ∧ p2 (g + 1) := ⟨fun ⟨a, h1, h2, e⟩ => by obtain rfl : a = g + 1 := (by omega); exact ⟨h1, h2⟩, fun h => ⟨g + 1, h.1, h.2, by omega⟩⟩
theorem exz3 {p1 p2 : Nat → Prop} : (∃ a : Nat, p1 a ∧ p2 a ∧ (0 : Int) = (a : Int)) ↔ p1 0 ∧ p2 0 := ⟨fun ⟨a, h1, h2, e⟩ => by obtain rfl : a = 0 := (by omega); exact ⟨h1, h2⟩, fun h => ⟨0, h.1, h.2, by omega⟩⟩
theorem exo3 {p1 p2 : Nat → Prop} : (∃ a : Nat, p1 a ∧ p2 a ∧ (1 : Int) = (a : Int)) ↔ p1 1 ∧ p2 1 := ⟨fun ⟨a, h1, h2, e⟩ => by obtain rfl : a = 1 := (by omega); exact ⟨h1, h2⟩, fun h => ⟨1, h.1, h.2, by omega⟩⟩
theorem exs4 {p1 p2 p3 : Nat → Prop} {g : Nat} : (∃ a : Nat, p1 a ∧ p2 a ∧ p3 a ∧ (g : Int) = (a : Int)) ↔ p1 g ∧ p2 g ∧ p3 g := ⟨fun ⟨a, h1, h2, h3, e⟩ => by obtain rfl : a = g := (by omega); exact ⟨h1, h2, h3⟩, fun h => ⟨g, h.1, h.2.1, h.2.2, by omega⟩⟩
theorem exn4 {p1 p2 p3 : Nat → Prop} {g : Nat} : (∃ a : Nat, p1 a ∧ p2 a ∧ p3 a ∧ (g : Int) + 1 = (a : Int)) ↔ p1 (g + 1) ∧ p2 (g + 1) ∧ p3 (g + 1) := ⟨fun ⟨a, h1, h2, h3, e⟩ => by obtain rfl : a = g + 1 := (by omega); exact ⟨h1, h2, h3⟩, fun h => ⟨g + 1, h.1, h.2.1, h.2.2, by omega⟩⟩
theorem exz4 {p1 p2 p3 : Nat → Prop} : (∃ a : Nat, p1 a ∧ p2 a ∧ p3 a ∧ (0 : Int) = (a : Int)) ↔ p1 0 ∧ p2 0 ∧ p3 0 := ⟨fun ⟨a, h1, h2, h3, e⟩ => by obtain rfl : a = 0 := (by omega); exact ⟨h1, h2, h3⟩, fun h => ⟨0, h.1, h.2.1, h.2.2, by omega⟩⟩
theorem exo4 {p1 p2 p3 : Nat → Prop} : (∃ a : Nat, p1 a ∧ p2 a ∧ p3 a ∧ (1 : Int) = (a : Int)) ↔ p1 1 ∧ p2 1 ∧ p3 1 := ⟨fun ⟨a, h1, h2, h3, e⟩ => by obtain rfl : a = 1 := (by omega); exact ⟨h1, h2, h3⟩, fun h => ⟨1, h.1, h.2.1, h.2.2, by omega⟩⟩
theorem exs5 {p1 p2 p3 p4 : Nat → Prop} {g : Nat} : (∃ a : Nat, p1 a ∧ p2 a ∧ p3 a ∧ p4 a ∧ (g : Int) = (a : Int)) ↔ p1 g ∧ p2 g ∧ p3 g ∧ p4 g := ⟨fun ⟨a, h1, h2, h3, h4, e⟩ => by obtain rfl : a = g := (by omega); exact ⟨h1, h2, h3, h4⟩, fun h => ⟨g, h.1, h.2.1, h.2.2.1, h.2.2.2, by omega⟩⟩
theorem exn5 {p1 p2 p3 p4 : Nat → Prop} {g : Nat} : (∃ a : Nat, p1 a ∧ p2 a ∧ p3 a ∧ p4 a ∧ (g : Int) + 1 = (a : Int)) ↔ p1 (g + 1) ∧ p2 (g + 1) ∧ p3 (g + 1) ∧ p4 (g + 1) := ⟨fun ⟨a, h1, h2, h3, h4, e⟩ => by obtain rfl : a = g + 1 := (by omega); exact ⟨h1, h2, h3, h4⟩, fun h => ⟨g + 1, h.1, h.2.1, h.2.2.1, h.2.2.2, by omega⟩⟩
theorem exz5 {p1 p2 p3 p4 : Nat → Prop} : (∃ a : Nat, p1 a ∧ p2 a ∧ p3 a ∧ p4 a ∧ (0 : Int) = (a : Int)) ↔ p1 0 ∧ p2 0 ∧ p3 0 ∧ p4 0 := ⟨fun ⟨a, h1, h2, h3, h4, e⟩ => by obtain rfl : a = 0 := (by omega); exact ⟨h1, h2, h3, h4⟩, fun h => ⟨0, h.1, h.2.1, h.2.2.1, h.2.2.2, by omega⟩⟩
theorem exo5 {p1 p2 p3 p4 : Nat → Prop} : (∃ a : Nat, p1 a ∧ p2 a ∧ p3 a ∧ p4 a ∧ (1 : Int) = (a : Int)) ↔ p1 1 ∧ p2 1 ∧ p3 1 ∧ p4 1 := ⟨fun ⟨a, h1, h2, h3, h4, e⟩ => by obtain rfl : a = 1 := (by omega); exact ⟨h1, h2, h3, h4⟩, fun h => ⟨1, h.1, h.2.1, h.2.2.1, h.2.2.2, by omega⟩⟩
theorem exs6 {p1 p2 p3 p4 p5 : Nat → Prop} {g : Nat} : (∃ a : Nat, p1 a ∧ p2 a ∧ p3 a ∧ p4 a ∧ p5 a ∧ (g : Int) = (a : Int)) ↔ p1 g ∧ p2 g ∧ p3 g ∧ p4 g ∧ p5 g := ⟨fun ⟨a, h1, h2, h3, h4, h5, e⟩ => by obtain rfl : a = g := (by omega); exact ⟨h1, h2, h3, h4, h5⟩, fun h => ⟨g, h.1, h.2.1, h.2.2.1, h.2.2.2.1, h.2.2.2.2, by omega⟩⟩
theorem exn6 {p1 p2 p3 p4 p5 : Nat → Prop} {g : Nat} : (∃ a : Nat, p1 a ∧ p2 a ∧ p3 a ∧ p4 a ∧ p5 a ∧ (g : Int) + 1 = (a : Int)) ↔ p1 (g + 1) ∧ p2 (g + 1) ∧ p3 (g + 1) ∧ p4 (g + 1) ∧ p5 (g + 1) := ⟨fun ⟨a, h1, h2, h3, h4, h5, e⟩ => by obtain rfl : a = g + 1 := (by omega); exact ⟨h1, h2, h3, h4, h5⟩, fun h => ⟨g + 1, h.1, h.2.1, h.2.2.1, h.2.2.2.1, h.2.2.2.2, by omega⟩⟩
theorem exz6 {p1 p2 p3 p4 p5 : Nat → Prop} : (∃ a : Nat, p1 a ∧ p2 a ∧ p3 a ∧ p4 a ∧ p5 a ∧ (0 : Int) = (a : Int)) ↔ p1 0 ∧ p2 0 ∧ p3 0 ∧ p4 0 ∧ p5 0 := ⟨fun ⟨a, h1, h2, h3, h4, h5, e⟩ => by obtain rfl : a = 0 := (by omega); exact ⟨h1, h2, h3, h4, h5⟩, fun h => ⟨0, h.1, h.2.1, h.2.2.1, h.2.2.2.1, h.2.2.2.2, by omega⟩⟩
theorem exo6 {p1 p2 p3 p4 p5 : Nat → Prop} : (∃ a : Nat, p1 a ∧ p2 a ∧ p3 a ∧ p4 a ∧ p5 a ∧ (1 : Int) = (a : Int)) ↔ p1 1 ∧ p2 1 ∧ p3 1 ∧ p4 1 ∧ p5 1 := ⟨fun ⟨a, h1, h2, h3, h4, h5, e⟩ => by obtain rfl : a = 1 := (by omega); exact ⟨h1, h2, h3, h4, h5⟩, fun h => ⟨1, h.1, h.2.1, h.2.2.1, h.2.2.2.1, h.2.2.2.2, by omega⟩⟩
theorem exs7 {p1 p2 p3 p4 p5 p6 : Nat → Prop} {g : Nat} : (∃ a : Nat, p1 a ∧ p2 a ∧ p3 a ∧ p4 a ∧ p5 a ∧ p6 a ∧ (g : Int) = (a : Int)) ↔ p1 g ∧ p2 g ∧ p3 g ∧ p4 g ∧ p5 g ∧ p6 g := ⟨fun ⟨a, h1, h2, h3, h4, h5, h6, e⟩ => by obtain rfl : a = g := (by omega); exact ⟨h1, h2, h3, h4, h5, h6⟩, fun h => ⟨g, h.1, h.2.1, h.2.2.1, h.2.2.2.1, h.2.2.2.2.1, h.2.2.2.2.2, by omega⟩⟩
theorem exn7 {p1 p2 p3 p4 p5 p6 : Nat → Prop} {g : Nat} : (∃ a : Nat, p1 a ∧ p2 a ∧ p3 a ∧ p4 a ∧ p5 a ∧ p6 a ∧ (g : Int) + 1 = (a : Int)) ↔ p1 (g + 1) ∧ p2 (g + 1) ∧ p3 (g + 1) ∧ p4 (g + 1) ∧ p5 (g + 1) ∧ p6 (g + 1) := ⟨fun ⟨a, h1, h2, h3, h4, h5, h6, e⟩ => by obtain rfl : a = g + 1 := (by omega); exact ⟨h1, h2, h3, h4, h5, h6⟩, fun h => ⟨g + 1, h.1, h.2.1, h.2.2.1, h.2.2.2.1, h.2.2.2.2.1, h.2.2.2.2.2, by omega⟩⟩
theorem exz7 {p1 p2 p3 p4 p5 p6 : Nat → Prop} : (∃ a : Nat, p1 a ∧ p2 a ∧ p3 a ∧ p4 a ∧ p5 a ∧ p6 a ∧ (0 : Int) = (a : Int)) ↔ p1 0 ∧ p2 0 ∧ p3 0 ∧ p4 0 ∧ p5 0 ∧ p6 0 := ⟨fun ⟨a, h1, h2, h3, h4, h5, h6, e⟩ => by obtain rfl : a = 0 := (by omega); exact ⟨h1, h2, h3, h4, h5, h6⟩, fun h => ⟨0, h.1, h.2.1, h.2.2.1, h.2.2.2.1, h.2.2.2.2.1, h.2.2.2.2.2, by omega⟩⟩
theorem exo7 {p1 p2 p3 p4 p5 p6 : Nat → Prop} : (∃ a : Nat, p1 a ∧ p2 a ∧ p3 a ∧ p4 a ∧ p5 a ∧ p6 a ∧ (1 : Int) = (a : Int)) ↔ p1 1 ∧ p2 1 ∧ p3 1 ∧ p4 1 ∧ p5 1 ∧ p6 1 := ⟨fun ⟨a, h1, h2, h3, h4, h5, h6, e⟩ => by obtain rfl : a = 1 := (by omega); exact ⟨h1, h2, h3, h4, h5, h6⟩, fun h => ⟨1, h.1, h.2.1, h.2.2.1, h.2.2.2.1, h.2.2.2.2.1, h.2.2.2.2.2, by omega⟩⟩
theorem exs8 {p1 p2 p3 p4 p5 p6 p7 : Nat → Prop} {g : Nat} : (∃ a : Nat, p1 a ∧ p2 a ∧ p3 a ∧ p4 a ∧ p5 a ∧ p6 a ∧ p7 a ∧ (g : Int) = (a : Int)) ↔ p1 g ∧ p2 g ∧ p3 g ∧ p4 g ∧ p5 g ∧ p6 g ∧ p7 g := ⟨fun ⟨a, h1, h2, h3, h4, h5, h6, h7, e⟩ => by obtain rfl : a = g := (by omega); exact ⟨h1, h2, h3, h4, h5, h6, h7⟩, fun h => ⟨g, h.1, h.2.1, h.2.2.1, h.2.2.2.1, h.2.2.2.2.1, h.2.2.2.2.2.1, h.2.2.2.2.2.2, by omega⟩⟩
theorem exn8 {p1 p2 p3 p4 p5 p6 p7 : Nat → Prop} {g : Nat} : (∃ a : Nat, p1 a ∧ p2 a ∧ p3 a ∧ p4 a ∧ p5 a ∧ p6 a ∧ p7 a ∧ (g : Int) + 1 = (a : Int)) ↔ p1 (g + 1) ∧ p2 (g + 1) ∧ p3 (g + 1) ∧ p4 (g + 1) ∧ p5 (g + 1) ∧ p6 (g + 1) ∧ p7 (g + 1) := ⟨fun ⟨a, h1, h2, h3, h4, h5, h6, h7, e⟩ => by obtain rfl : a = g + 1 := (by omega); exact ⟨h1, h2, h3, h4, h5, h6, h7⟩, fun h => ⟨g + 1, h.1, h.2.1, h.2.2.1, h.2.2.2.1, h.2.2.2.2.1, h.2.2.2.2.2.1, h.2.2.2.2.2.2, by omega⟩⟩
theorem exz8 {p1 p2 p3 p4 p5 p6 p7 : Nat → Prop} : (∃ a : Nat, p1 a ∧ p2 a ∧ p3 a ∧ p4 a ∧ p5 a ∧ p6 a ∧ p7 a ∧ (0 : Int) = (a : Int)) ↔ p1 0 ∧ p2 0 ∧ p3 0 ∧ p4 0 ∧ p5 0 ∧ p6 0 ∧ p7 0 := ⟨fun ⟨a, h1, h2, h3, h4, h5, h6, h7, e⟩ => by obtain rfl : a = 0 := (by omega); exact ⟨h1, h2, h3, h4, h5, h6, h7⟩, fun h => ⟨0, h.1, h.2.1, h.2.2.1, h.2.2.2.1, h.2.2.2.2.1, h.2.2.2.2.2.1, h.2.2.2.2.2.2, by omega⟩⟩
theorem exo8 {p1 p2 p3 p4 p5 p6 p7 : Nat → Prop} : (∃ a : Nat, p1 a ∧ p2 a ∧ p3 a ∧ p4 a ∧ p5 a ∧ p6 a ∧ p7 a ∧ (1 : Int) = (a : Int)) ↔ p1 1 ∧ p2 1 ∧ p3 1 ∧ p4 1 ∧ p5 1 ∧ p6 1 ∧ p7 1 := ⟨fun ⟨a, h1, h2, h3, h4, h5, h6, h7, e⟩ => by obtain rfl : a = 1 := (by omega); exact ⟨h1, h2, h3, h4, h5, h6, h7⟩, fun h => ⟨1, h.1, h.2.1, h.2.2.1, h.2.2.2.1, h.2.2.2.2.1, h.2.2.2.2.2.1, h.2.2.2.2.2.2, by omega⟩⟩
theorem exs9 {p1 p2 p3 p4 p5 p6 p7 p8 : Nat → Prop} {g : Nat} : (∃ a : Nat, p1 a ∧ p2 a ∧ p3 a ∧ p4 a ∧ p5 a ∧ p6 a ∧ p7 a ∧ p8 a ∧ (g : Int) = (a : Int)) ↔ p1 g ∧ p2 g ∧ p3 g ∧ p4 g ∧ p5 g ∧ p6 g ∧ p7 g ∧ p8 g := ⟨fun ⟨a, h1, h2, h3, h4, h5, h6, h7, h8, e⟩ => by obtain rfl : a = g := (by omega); exact ⟨h1, h2, h3, h4, h5, h6, h7, h8⟩, fun h => ⟨g, h.1, h.2.1, h.2.2.1, h.2.2.2.1, h.2.2.2.2.1, h.2.2.2.2.2.1, h.2.2.2.2.2.2.1, h.2.2.2.2.2.2.2, by omega⟩⟩
theorem exn9 {p1 p2 p3 p4 p5 p6 p7 p8 : Nat → Prop} {g : Nat} : (∃ a : Nat, p1 a ∧ p2 a ∧ p3 a ∧ p4 a ∧ p5 a ∧ p6 a ∧ p7 a ∧ p8 a ∧ (g : Int) + 1 = (a : Int)) ↔ p1 (g + 1) ∧ p2 (g + 1) ∧ p3 (g + 1) ∧ p4 (g + 1) ∧ p5 (g + 1) ∧ p6 (g + 1) ∧ p7 (g + 1) ∧ p8 (g + 1) := ⟨fun ⟨a, h1, h2, h3, h4, h5, h6, h7, h8, e⟩ => by obtain rfl : a = g + 1 := (by omega); exact ⟨h1, h2, h3, h4, h5, h6, h7, h8⟩, fun h => ⟨g + 1, h.1, h.2.1, h.2.2.1, h.2.2.2.1, h.2.2.2.2.1, h.2.2.2.2.2.1, h.2.2.2.2.2.2.1, h.2.2.2.2.2.2.2, by omega⟩⟩
theorem exz9 {p1 p2 p3 p4 p5 p6 p7 p8 : Nat → Prop} : (∃ a : Nat, p1 a ∧ p2 a ∧ p3 a ∧ p4 a ∧ p5 a ∧ p6 a ∧ p7 a ∧ p8 a ∧ (0 : Int) = (a : Int)) ↔ p1 0 ∧ p2 0 ∧ p3 0 ∧ p4 0 ∧ p5 0 ∧ p6 0 ∧ p7 0 ∧ p8 0 := ⟨fun ⟨a, h1, h2, h3, h4, h5, h6, h7, h8, e⟩ => by obtain rfl : a = 0 := (by omega); exact ⟨h1, h2, h3, h4, h5, h6, h7, h8⟩, fun h => ⟨0, h.1, h.2.1, h.2.2.1, h.2.2.2.1, h.2.2.2.2.1, h.2.2.2.2.2.1, h.2.2.2.2.2.2.1, h.2.2.2.2.2.2.2, by omega⟩⟩
theorem exo9 {p1 p2 p3 p4 p5 p6 p7 p8 : Nat → Prop} : (∃ a : Nat, p1 a ∧ p2 a ∧ p3 a ∧ p4 a ∧ p5 a ∧ p6 a ∧ p7 a ∧ p8 a ∧ (1 : Int) = (a : Int)) ↔ p1 1 ∧ p2 1 ∧ p3 1 ∧ p4 1 ∧ p5 1 ∧ p6 1 ∧ p7 1 ∧ p8 1 := ⟨fun ⟨a, h1, h2, h3, h4, h5, h6, h7, h8, e⟩ => by obtain rfl : a = 1 := (by omega); exact ⟨h1, h2, h3, h4, h5, h6, h7, h8⟩, fun h => ⟨1, h.1, h.2.1, h.2.2.1, h.2.2.2.1, h.2.2.2.2.1, h.2.2.2.2.2.1, h.2.2.2.2.2.2.1, h.2.2.2.2.2.2.2, by omega⟩⟩
theorem exhs {P : Nat → Prop} {g : Nat} : (∃ a : Nat, (g : Int) = (a : Int) ∧ P a) ↔ P g := ⟨fun ⟨a, e, h⟩ => by obtain rfl : a = g := (by omega); exact h, fun h => ⟨g, by omega, h⟩⟩
theorem exhn {P : Nat → Prop} {g : Nat} : (∃ a : Nat, (g : Int) + 1 = (a : Int) ∧ P a) ↔ P (g + 1) := ⟨fun ⟨a, e, h⟩ => by obtain rfl : a = g + 1 := (by omega); exact h, fun h => ⟨g + 1, by omega, h⟩⟩
theorem exhz {P : Nat → Prop} : (∃ a : Nat, (0 : Int) = (a : Int) ∧ P a) ↔ P 0 := ⟨fun ⟨a, e, h⟩ => by obtain rfl : a = 0 := (by omega); exact h, fun h => ⟨0, by omega, h⟩⟩
theorem exho {P : Nat → Prop} : (∃ a : Nat, (1 : Int) = (a : Int) ∧ P a) ↔ P 1 := ⟨fun ⟨a, e, h⟩ => by obtain rfl : a = 1 := (by omega); exact h, fun h => ⟨1, by omega, h⟩⟩
section
variable {α : Sort _} {p q r s t u v : α → Prop} {a' : α}
theorem ex1 : (∃ a, a = a') ↔ True := ⟨fun _ => trivial, fun _ => ⟨a', rfl⟩⟩
theorem ex2 : (∃ a, p a ∧ a = a') ↔ p a' := ⟨fun ⟨_, h, e⟩ => e ▸ h, fun h => ⟨a', h, rfl⟩⟩
theorem ex3 : (∃ a, p a ∧ q a ∧ a = a') ↔ p a' ∧ q a' := ⟨fun ⟨_, h, h2, e⟩ => e ▸ ⟨h, h2⟩, fun ⟨h, h2⟩ => ⟨a', h, h2, rfl⟩⟩
theorem ex4 : (∃ a, p a ∧ q a ∧ r a ∧ a = a') ↔ p a' ∧ q a' ∧ r a' := ⟨fun ⟨_, h, h2, h3, e⟩ => e ▸ ⟨h, h2, h3⟩, fun ⟨h, h2, h3⟩ => ⟨a', h, h2, h3, rfl⟩⟩
theorem ex5 : (∃ a, p a ∧ q a ∧ r a ∧ s a ∧ a = a') ↔ p a' ∧ q a' ∧ r a' ∧ s a' := ⟨fun ⟨_, h, h2, h3, h4, e⟩ => e ▸ ⟨h, h2, h3, h4⟩, fun ⟨h, h2, h3, h4⟩ => ⟨a', h, h2, h3, h4, rfl⟩⟩
end
theorem loopN {n : Nat} {A B : Nat → Prop} : (∀ g : Nat, g ≤ n → ((g : Int) < (n : Int) → A g) ∧ (¬ (g : Int) < (n : Int) → B g)) ↔ (∀ g, g < n → A g) ∧ B n :=
 ⟨fun h => ⟨fun g hg => (h g (by omega)).1 (by omega), (h n (by omega)).2 (by omega)⟩, fun h g hg => ⟨fun hl => h.1 g (by omega), fun hl => by obtain rfl : g = n := (by omega); exact h.2⟩⟩
theorem loopM {n : Nat} {M A B : Nat → Prop} : (∀ g : Nat, g ≤ n ∧ M g → ((g : Int) < (n : Int) → A g) ∧ (¬ (g : Int) < (n : Int) → B g)) ↔ (∀ g, g < n → M g → A g) ∧ (M n → B n) :=
 ⟨fun h => ⟨fun g hg hm => (h g ⟨by omega, hm⟩).1 (by omega), fun hm => (h n ⟨by omega, hm⟩).2 (by omega)⟩, fun h g hg => ⟨fun hl => h.1 g (by omega) hg.2, fun hl => by obtain rfl : g = n := (by omega); exact h.2 hg.2⟩⟩
theorem beqI {a b : Int} : (a == b) = decide (a = b) := rfl
theorem bneI {a b : Int} : (a != b) = decide (a ≠ b) := by by_cases h : a = b <;> simp [h]
theorem fas {g : Nat} {P : Nat → Prop} : (∀ a : Nat, (g : Int) = (a : Int) → P a) ↔ P g := ⟨fun h => h g rfl, fun h a e => by obtain rfl : g = a := (by omega); exact h⟩
theorem fas2 {β : Type} {g : Nat} {P : Nat → β → Prop} {Q : Nat → β → Prop} : (∀ (a : Nat) (b : β), (g : Int) = (a : Int) ∧ P a b → Q a b) ↔ ∀ b, P g b → Q g b := ⟨fun h b hp => h g b ⟨rfl, hp⟩, fun h a b ⟨e, hp⟩ => by obtain rfl : g = a := (by omega); exact h b hp⟩
theorem fa2 {α β : Type} {g : α} {P : α → β → Prop} {Q : α → β → Prop} : (∀ a b, a = g ∧ P a b → Q a b) ↔ ∀ b, P g b → Q g b := ⟨fun h b hp => h g b ⟨rfl, hp⟩, fun h a b ⟨e, hp⟩ => by subst e; exact h b hp⟩
theorem dup1 {c X Y : Prop} : (c → (c → X) ∧ (¬c → Y)) ↔ (c → X) := ⟨fun h hc => (h hc).1 hc, fun h hc => ⟨h, fun n => absurd hc n⟩⟩
theorem dup2 {c X Y : Prop} : (¬c → (c → X) ∧ (¬c → Y)) ↔ (¬c → Y) := ⟨fun h hc => (h hc).2 hc, fun h hc => ⟨fun c => absurd c hc, h⟩⟩
theorem dup3 {b : Bool} {X Y : Prop} : (b = true → (b = true → X) ∧ (b = false → Y)) ↔ (b = true → X) := ⟨fun h hc => (h hc).1 hc, fun h hc => ⟨h, fun n => by (rw [hc] at n; cases n)⟩⟩
theorem dup4 {b : Bool} {X Y : Prop} : (b = false → (b = true → X) ∧ (b = false → Y)) ↔ (b = false → Y) := ⟨fun h hc => (h hc).2 hc, fun h hc => ⟨fun n => by (rw [hc] at n; cases n), h⟩⟩
def isI (v : AV) (n : Int) : Prop := match v with | .t (.c (.int _ m)) => m = n | _ => False
end Go.Sx
namespace Go.Sx
def osN (v : AV) : Nat := match v with | .t (.c (.os n _ _)) => n | .t (.c (.ptr n _)) => n | .t (.c (.mp n)) => n | _ => 0
def oT : List (Nat × List Nat) → St → List (Nat × List Nat)
 | [], _ => []
 | (t, ws) :: l, st => (osN (st.tm t), ws) :: oT l st
def isB (b : Option Blk) (off : Nat) (n : Int) : Prop := match b with | some (.box _ get) => isI (.t (.c (get off))) n | _ => False
end Go.Sx
namespace Go.Sx
abbrev exA := And.intro @exs1 <| And.intro @exn1 <| And.intro @exz1 <| And.intro @exo1 <| And.intro @exs2 <| And.intro @exn2 <| And.intro @exz2 <| And.intro @exo2 <| And.intro @exs3 <| And.intro @exn3 <| And.intro @exz3 <| And.intro @exo3 <| And.intro @exs4 <| And.intro @exn4 <| And.intro @exz4 <| And.intro @exo4 <| And.intro @exs5 <| And.intro @exn5 <| And.intro @exz5 <| And.intro @exo5 <| And.intro @exs6 <| And.intro @exn6 <| And.intro @exz6 <| And.intro @exo6 <| And.intro @exs7 <| And.intro @exn7 <| And.intro @exz7 <| And.intro @exo7 <| And.intro @exs8 <| And.intro @exn8 <| And.intro @exz8 <| And.intro @exo8 <| And.intro @exs9 <| And.intro @exn9 <| And.intro @exz9 <| @exo9
end Go.Sx
namespace Go.Proofs.YtcfmdhlohahhcaaDoor
open Go Go.Sx Nm
set_option maxRecDepth 100000
theorem runs (f : Nat) (h : (lookFn fnTab f).isSome = true) : ∃ fn c, Tryd.prog.funcs[f]? = some fn ∧ (fn.name == "runtime.NumGoroutine") = false ∧ fn.body = some c := fn_runs h
abbrev u15 := runs 15 (by kernel_rfl)
abbrev u17 := runs 17 (by kernel_rfl)
abbrev u19 := runs 19 (by kernel_rfl)
abbrev u21 := runs 21 (by kernel_rfl)
abbrev u22 := runs 22 (by kernel_rfl)
abbrev u24 := runs 24 (by kernel_rfl)
abbrev u26 := runs 26 (by kernel_rfl)
abbrev u28 := runs 28 (by kernel_rfl)
abbrev u30 := runs 30 (by kernel_rfl)
abbrev u32 := runs 32 (by kernel_rfl)
abbrev u34 := runs 34 (by kernel_rfl)
abbrev u41 := runs 41 (by kernel_rfl)
abbrev u46 := runs 46 (by kernel_rfl)
abbrev u50 := runs 50 (by kernel_rfl)
abbrev u51 := runs 51 (by kernel_rfl)
abbrev u52 := runs 52 (by kernel_rfl)
abbrev u53 := runs 53 (by kernel_rfl)
abbrev u54 := runs 54 (by kernel_rfl)
abbrev u55 := runs 55 (by kernel_rfl)
abbrev u56 := runs 56 (by kernel_rfl)
abbrev u57 := runs 57 (by kernel_rfl)
abbrev u61 := runs 61 (by kernel_rfl)
abbrev u65 := runs 65 (by kernel_rfl)
abbrev u67 := runs 67 (by kernel_rfl)
abbrev u68 := runs 68 (by kernel_rfl)
abbrev u74 := runs 74 (by kernel_rfl)
abbrev u75 := runs 75 (by kernel_rfl)
abbrev u78 := runs 78 (by kernel_rfl)
abbrev u94 := runs 94 (by kernel_rfl)
abbrev u97 := runs 97 (by kernel_rfl)
abbrev u119 := runs 119 (by kernel_rfl)
abbrev u120 := runs 120 (by kernel_rfl)
abbrev u121 := runs 121 (by kernel_rfl)
abbrev u122 := runs 122 (by kernel_rfl)
abbrev u123 := runs 123 (by kernel_rfl)
abbrev u124 := runs 124 (by kernel_rfl)
abbrev u125 := runs 125 (by kernel_rfl)
abbrev u126 := runs 126 (by kernel_rfl)
abbrev u127 := runs 127 (by kernel_rfl)
def sIn : Sig := ⟨Int × Int × Int, fun x => [intC x.1, intC x.2.1, intC x.2.2], fun _ => True, fun x => [.v (.c (.bool (within x.1 x.2.1 x.2.2)))]⟩
theorem q54 (x : sIn.α) : CallQ Tryd.prog E0 54 (sIn.arg x) (sIn.res x) := by
 refine bare_tight E0_ok [] SigsOk.nil [] EvensOk.nil runs [] [] [] [] [] [] (fuel := 5) ?_
 refine of_red (q := (decide (x.snd.fst≤x.fst) = true→True∧decide (x.fst≤x.snd.snd) = within x.fst x.snd.fst x.snd.snd)∧(decide (x.snd.fst≤x.fst) = false→True∧within x.fst x.snd.fst x.snd.snd = false)) (by kernel_rfl) ?_
 simp [within]
 try omega
def sSpan : Sig := ⟨(Int × Int) × Int × Int, fun x => [spanTV x.1.1 x.1.2, intC x.2.1, intC x.2.2], fun _ => True, fun x => [.v (.c (.bool (spanned x.1.1 x.1.2 x.2.1 x.2.2)))]⟩
theorem q61 (x : sSpan.α) : CallQ Tryd.prog E0 61 (sSpan.arg x) (sSpan.res x) := by
 refine bare_tight E0_ok [] SigsOk.nil [] EvensOk.nil runs [] [] [] [] [] [] (fuel := 5) ?_
 refine of_red (q := (decide (x.snd.fst≤x.fst.fst) = true→(decide (x.fst.fst≤x.fst.snd) = true→True∧decide (x.fst.snd≤x.snd.snd) = spanned x.fst.fst x.fst.snd x.snd.fst x.snd.snd)∧(decide (x.fst.fst≤x.fst.snd) = false→True∧spanned x.fst.fst x.fst.snd x.snd.fst x.snd.snd = false))∧(decide (x.snd.fst≤x.fst.fst) = false→True∧spanned x.fst.fst x.fst.snd x.snd.fst x.snd.snd = false)) (by kernel_rfl) ?_
 simp [spanned]
 try omega
def sTwo : Sig := ⟨Int × Int, fun x => [intC x.1, intC x.2], fun _ => True, fun x => [.v (spanTV x.1 x.2)]⟩
theorem q41 (x : sTwo.α) : CallQ Tryd.prog E0 41 (sTwo.arg x) (sTwo.res x) := by
 refine bare_tight E0_ok [] SigsOk.nil [] EvensOk.nil runs [] [] [] [] [] [] (fuel := 5) ?_
 refine of_red (q := True∧(True∧True∧x.fst = x.fst)∧True∧x.snd = x.snd) (by kernel_rfl) ?_
 simp only [true_and, and_true, inR, Prod.exists, Prod.forall, and_assoc, exists_and_left, exists_eq_left', exists_eq_left, forall_eq, exists_const, forall_const, loopN, loopM, fa2, fas, fas2, dup1, dup2, dup3, dup4, ite_true, exhs, exhn, exhz, exho, exA, ex1, ex2, ex3, ex4, ex5, beqI, bneI, decide_true, Bool.true_and, decide_eq_true_eq, decide_eq_false_iff_not, ne_eq, Decidable.not_not]
theorem q46 (x : sTwo.α) : CallQ Tryd.prog E0 46 (sTwo.arg x) (sTwo.res x) := by
 refine bare_tight E0_ok [] SigsOk.nil [] EvensOk.nil runs [] [] [] [] [] [] (fuel := 5) ?_
 refine of_red (q := True∧(True∧True∧x.fst = x.fst)∧True∧x.snd = x.snd) (by kernel_rfl) ?_
 simp only [true_and, and_true, inR, Prod.exists, Prod.forall, and_assoc, exists_and_left, exists_eq_left', exists_eq_left, forall_eq, exists_const, forall_const, loopN, loopM, fa2, fas, fas2, dup1, dup2, dup3, dup4, ite_true, exhs, exhn, exhz, exho, exA, ex1, ex2, ex3, ex4, ex5, beqI, bneI, decide_true, Bool.true_and, decide_eq_true_eq, decide_eq_false_iff_not, ne_eq, Decidable.not_not]
end Go.Proofs.YtcfmdhlohahhcaaDoor
namespace Go.Proofs.YtcfmdhlohahhcaaDoor
open Go Go.Sx Nm
set_option maxRecDepth 100000
def sChk : Sig := ⟨Fleet, fun x => [fleetTV x], fun x => x.wf, fun x => [.v (intC (chkE x))]⟩
def aB (t : Nat) (b : Bool) : Ann := { G := Unit, ok := fun _ _ => True, dom := fun _ => [], tm := fun _ _ => [(t, .t (.c (.bool b)))], hp := fun _ _ => [], mu := fun _ _ => 0 }
def aC0 (x : Fleet) : Ann := aB 4 (chk0 x)
def aC1 (x : Fleet) : Ann := { G := Nat, ok := fun _ i => i ≤ x.hE, dom := fun _ => [], tm := fun _ i => [(4, .t (.c (.bool (chk0 x && allB i (hourOk x))))), (5, .t (intC i))], hp := fun _ _ => [], mu := fun _ i => x.hE - i }
def aC2 (x : Fleet) : Ann := { G := Nat, ok := fun _ i => i ≤ x.k, dom := fun _ => [], tm := fun _ i => [(4, .t (.c (.bool (chk0 x && allB x.hE (hourOk x) && allB i (fun i => netOk x.hE (x.net i)))))), (56, .t (intC i))], hp := fun _ _ => [], mu := fun _ i => x.k - i }
theorem q17 (x : Fleet) (h : x.wf) : CallQ Tryd.prog E0 17 (sChk.arg x) (sChk.res x) := by
 refine bare_tight E0_ok [(61, sSpan), (54, sIn)] (show SigsOk Tryd.prog E0 [(61, sSpan), (54, sIn)] from ((SigsOk.nil.cons u54 fun x _ => q54 x).cons u61 fun x _ => q61 x)) [] EvensOk.nil runs [(17, 4, aC1 x), (17, 8, aC2 x)] [(17, 3, aC0 x), (17, 7, aB 4 (chk0 x && allB x.hE (hourOk x)))] [] [] [] [] (fuel := 5) ?_
 refine of_red (q := (∃ (x_1 : Int × Int × Int), ((True∧(↑x.hE : Int) = x_1.fst)∧(True∧(1 : Int) = x_1.snd.fst)∧(True∧(24 : Int) = x_1.snd.snd)∧True)∧True∧(within x_1.fst x_1.snd.fst x_1.snd.snd = true→(((↑x.hN : Int) == (↑x.hE : Int)) = true→∃ (x_2 : Int × Int × Int), ((True∧x.gap = x_2.fst)∧(True∧(0 : Int) = x_2.snd.fst)∧(True∧(500 : Int) = x_2.snd.snd)∧True)∧True∧(within x_2.fst x_2.snd.fst x_2.snd.snd = true→∃ (x_3 : Int × Int × Int), ((True∧(↑x.k : Int) = x_3.fst)∧(True∧(1 : Int) = x_3.snd.fst)∧(True∧(6 : Int) = x_3.snd.snd)∧True)∧True∧∃ (g : Unit), True∧True∧((True∧within x_3.fst x_3.snd.fst x_3.snd.snd = chk0 x)∧True)∧True)∧(within x_2.fst x_2.snd.fst x_2.snd.snd = false→∃ (g : Unit), True∧True∧((True∧chk0 x = false)∧True)∧True))∧(((↑x.hN : Int) == (↑x.hE : Int)) = false→∃ (g : Unit), True∧True∧((True∧chk0 x = false)∧True)∧True))∧(within x_1.fst x_1.snd.fst x_1.snd.snd = false→∃ (g : Unit), True∧True∧((True∧chk0 x = false)∧True)∧True))∧∀ (g : Unit), True→((∃ (g : Nat), g≤x.hE∧True∧((True∧chk0 x = (chk0 x && allB g (hourOk x)))∧(True∧(0 : Int) = (↑g : Int))∧True)∧True)∧∀ (g : Nat), g≤x.hE→((chk0 x && allB g (hourOk x)) = true→(decide ((↑g : Int) < (↑x.hE : Int)) = true→(0 : Int)≤(↑g : Int)∧(↑g : Int) < (↑x.hE : Int)∧∃ (x_1 : (Int × Int) × Int × Int), ((True∧(True∧True∧x.e g 0 = x_1.fst.fst)∧True∧x.e g 1 = x_1.fst.snd)∧(True∧(-200 : Int) = x_1.snd.fst)∧(True∧(200 : Int) = x_1.snd.snd)∧True)∧True∧(spanned x_1.fst.fst x_1.fst.snd x_1.snd.fst x_1.snd.snd = true→(0 : Int)≤(↑g : Int)∧(↑g : Int) < (↑x.hN : Int)∧∃ (x_2 : (Int × Int) × Int × Int), ((True∧(True∧True∧x.n g 0 = x_2.fst.fst)∧True∧x.n g 1 = x_2.fst.snd)∧(True∧(-200 : Int) = x_2.snd.fst)∧(True∧(200 : Int) = x_2.snd.snd)∧True)∧True∧inRange IntKind.i64 ((↑g : Int) + (1 : Int))∧∃ (g' : Nat), g'≤x.hE∧x.hE - g' < x.hE - g∧True∧((True∧spanned x_2.fst.fst x_2.fst.snd x_2.snd.fst x_2.snd.snd = (chk0 x && allB g' (hourOk x)))∧(True∧(↑g : Int) + (1 : Int) = (↑g' : Int))∧True)∧True)∧(spanned x_1.fst.fst x_1.fst.snd x_1.snd.fst x_1.snd.snd = false→inRange IntKind.i64 ((↑g : Int) + (1 : Int))∧∃ (g' : Nat), g'≤x.hE∧x.hE - g' < x.hE - g∧True∧((True∧(chk0 x && allB g' (hourOk x)) = false)∧(True∧(↑g : Int) + (1 : Int) = (↑g' : Int))∧True)∧True))∧(decide ((↑g : Int) < (↑x.hE : Int)) = false→∃ (g_1 : Unit), True∧True∧((True∧(chk0 x && allB g (hourOk x)) = (chk0 x && allB x.hE (hourOk x)))∧True)∧True))∧((chk0 x && allB g (hourOk x)) = false→∃ (g_1 : Unit), True∧True∧((True∧(chk0 x && allB g (hourOk x)) = (chk0 x && allB x.hE (hourOk x)))∧True)∧True))∧∀ (g : Unit), True→(∃ (g : Nat), g≤x.k∧True∧((True∧(chk0 x && allB x.hE (hourOk x)) = (chk0 x && allB x.hE (hourOk x) && allB g fun (i : Nat) => netOk (↑x.hE : Int) (x.net i)))∧(True∧(0 : Int) = (↑g : Int))∧True)∧True)∧∀ (g : Nat), g≤x.k→(decide ((↑g : Int) < (↑x.k : Int)) = true→(0 : Int)≤(↑g : Int)∧(↑g : Int) < (↑x.k : Int)∧((chk0 x && allB x.hE (hourOk x) && allB g fun (i : Nat) => netOk (↑x.hE : Int) (x.net i)) = true→∃ (x_1 : Int × Int × Int), ((True∧x.net g (0 : Nat) = x_1.fst)∧(True∧(-10000 : Int) = x_1.snd.fst)∧(True∧(10000 : Int) = x_1.snd.snd)∧True)∧True∧(within x_1.fst x_1.snd.fst x_1.snd.snd = true→∃ (x_2 : Int × Int × Int), ((True∧x.net g ((0 : Nat) + (nat_lit 0 + (1 : Nat))) = x_2.fst)∧(True∧(-10000 : Int) = x_2.snd.fst)∧(True∧(10000 : Int) = x_2.snd.snd)∧True)∧True∧(within x_2.fst x_2.snd.fst x_2.snd.snd = true→∃ (x_3 : Int × Int × Int), ((True∧x.net g ((0 : Nat) + (nat_lit 1 + (1 : Nat))) = x_3.fst)∧(True∧(0 : Int) = x_3.snd.fst)∧(True∧(2000 : Int) = x_3.snd.snd)∧True)∧True∧(within x_3.fst x_3.snd.fst x_3.snd.snd = true→∃ (x_4 : Int × Int × Int), ((True∧x.net g ((0 : Nat) + (nat_lit 2 + (1 : Nat))) = x_4.fst)∧(True∧(0 : Int) = x_4.snd.fst)∧(True∧(1 : Int) = x_4.snd.snd)∧True)∧True∧(within x_4.fst x_4.snd.fst x_4.snd.snd = true→inRange IntKind.i64 ((↑x.hE : Int) - (1 : Int))∧∃ (x_5 : Int × Int × Int), ((True∧x.net g ((0 : Nat) + (nat_lit 3 + (1 : Nat))) = x_5.fst)∧(True∧(0 : Int) = x_5.snd.fst)∧(True∧(↑x.hE : Int) - (1 : Int) = x_5.snd.snd)∧True)∧True∧(within x_5.fst x_5.snd.fst x_5.snd.snd = true→∃ (x_6 : Int × Int × Int), ((True∧x.net g ((0 : Nat) + (nat_lit 4 + (1 : Nat))) = x_6.fst)∧(True∧x.net g ((0 : Nat) + (nat_lit 3 + (1 : Nat))) = x_6.snd.fst)∧(True∧(↑x.hE : Int) = x_6.snd.snd)∧True)∧True∧(within x_6.fst x_6.snd.fst x_6.snd.snd = true→∃ (x_7 : (Int × Int) × Int × Int), ((True∧(True∧True∧x.net g (nat_lit 0 + (nat_lit 5 + (1 : Nat))) = x_7.fst.fst)∧True∧x.net g (nat_lit 1 + (nat_lit 5 + (1 : Nat))) = x_7.fst.snd)∧(True∧(-50 : Int) = x_7.snd.fst)∧(True∧(50 : Int) = x_7.snd.snd)∧True)∧True∧(spanned x_7.fst.fst x_7.fst.snd x_7.snd.fst x_7.snd.snd = true→∃ (x_8 : (Int × Int) × Int × Int), ((True∧(True∧True∧x.net g (nat_lit 0 + (nat_lit 7 + (1 : Nat))) = x_8.fst.fst)∧True∧x.net g (nat_lit 1 + (nat_lit 7 + (1 : Nat))) = x_8.fst.snd)∧(True∧(-50 : Int) = x_8.snd.fst)∧(True∧(50 : Int) = x_8.snd.snd)∧True)∧True∧inRange IntKind.i64 ((↑g : Int) + (1 : Int))∧∃ (g' : Nat), g'≤x.k∧x.k - g' < x.k - g∧True∧((True∧spanned x_8.fst.fst x_8.fst.snd x_8.snd.fst x_8.snd.snd = (chk0 x && allB x.hE (hourOk x) && allB g' fun (i : Nat) => netOk (↑x.hE : Int) (x.net i)))∧(True∧(↑g : Int) + (1 : Int) = (↑g' : Int))∧True)∧True)∧(spanned x_7.fst.fst x_7.fst.snd x_7.snd.fst x_7.snd.snd = false→inRange IntKind.i64 ((↑g : Int) + (1 : Int))∧∃ (g' : Nat), g'≤x.k∧x.k - g' < x.k - g∧True∧((True∧(chk0 x && allB x.hE (hourOk x) && allB g' fun (i : Nat) => netOk (↑x.hE : Int) (x.net i)) = false)∧(True∧(↑g : Int) + (1 : Int) = (↑g' : Int))∧True)∧True))∧(within x_6.fst x_6.snd.fst x_6.snd.snd = false→inRange IntKind.i64 ((↑g : Int) + (1 : Int))∧∃ (g' : Nat), g'≤x.k∧x.k - g' < x.k - g∧True∧((True∧(chk0 x && allB x.hE (hourOk x) && allB g' fun (i : Nat) => netOk (↑x.hE : Int) (x.net i)) = false)∧(True∧(↑g : Int) + (1 : Int) = (↑g' : Int))∧True)∧True))∧(within x_5.fst x_5.snd.fst x_5.snd.snd = false→inRange IntKind.i64 ((↑g : Int) + (1 : Int))∧∃ (g' : Nat), g'≤x.k∧x.k - g' < x.k - g∧True∧((True∧(chk0 x && allB x.hE (hourOk x) && allB g' fun (i : Nat) => netOk (↑x.hE : Int) (x.net i)) = false)∧(True∧(↑g : Int) + (1 : Int) = (↑g' : Int))∧True)∧True))∧(within x_4.fst x_4.snd.fst x_4.snd.snd = false→inRange IntKind.i64 ((↑g : Int) + (1 : Int))∧∃ (g' : Nat), g'≤x.k∧x.k - g' < x.k - g∧True∧((True∧(chk0 x && allB x.hE (hourOk x) && allB g' fun (i : Nat) => netOk (↑x.hE : Int) (x.net i)) = false)∧(True∧(↑g : Int) + (1 : Int) = (↑g' : Int))∧True)∧True))∧(within x_3.fst x_3.snd.fst x_3.snd.snd = false→inRange IntKind.i64 ((↑g : Int) + (1 : Int))∧∃ (g' : Nat), g'≤x.k∧x.k - g' < x.k - g∧True∧((True∧(chk0 x && allB x.hE (hourOk x) && allB g' fun (i : Nat) => netOk (↑x.hE : Int) (x.net i)) = false)∧(True∧(↑g : Int) + (1 : Int) = (↑g' : Int))∧True)∧True))∧(within x_2.fst x_2.snd.fst x_2.snd.snd = false→inRange IntKind.i64 ((↑g : Int) + (1 : Int))∧∃ (g' : Nat), g'≤x.k∧x.k - g' < x.k - g∧True∧((True∧(chk0 x && allB x.hE (hourOk x) && allB g' fun (i : Nat) => netOk (↑x.hE : Int) (x.net i)) = false)∧(True∧(↑g : Int) + (1 : Int) = (↑g' : Int))∧True)∧True))∧(within x_1.fst x_1.snd.fst x_1.snd.snd = false→inRange IntKind.i64 ((↑g : Int) + (1 : Int))∧∃ (g' : Nat), g'≤x.k∧x.k - g' < x.k - g∧True∧((True∧(chk0 x && allB x.hE (hourOk x) && allB g' fun (i : Nat) => netOk (↑x.hE : Int) (x.net i)) = false)∧(True∧(↑g : Int) + (1 : Int) = (↑g' : Int))∧True)∧True))∧((chk0 x && allB x.hE (hourOk x) && allB g fun (i : Nat) => netOk (↑x.hE : Int) (x.net i)) = false→inRange IntKind.i64 ((↑g : Int) + (1 : Int))∧∃ (g' : Nat), g'≤x.k∧x.k - g' < x.k - g∧True∧((True∧(chk0 x && allB x.hE (hourOk x) && allB g' fun (i : Nat) => netOk (↑x.hE : Int) (x.net i)) = false)∧(True∧(↑g : Int) + (1 : Int) = (↑g' : Int))∧True)∧True))∧(decide ((↑g : Int) < (↑x.k : Int)) = false→((!(chk0 x && allB x.hE (hourOk x) && allB g fun (i : Nat) => netOk (↑x.hE : Int) (x.net i))) = true→True∧(20 : Int) = chkE x)∧((!(chk0 x && allB x.hE (hourOk x) && allB g fun (i : Nat) => netOk (↑x.hE : Int) (x.net i))) = false→True∧(0 : Int) = chkE x))) (by kernel_rfl) ?_
 simp only [true_and, and_true, inR, Prod.exists, Prod.forall, and_assoc, exists_and_left, exists_eq_left', exists_eq_left, forall_eq, exists_const, forall_const, loopN, loopM, fa2, fas, fas2, dup1, dup2, dup3, dup4, ite_true, exhs, exhn, exhz, exho, exA, ex1, ex2, ex3, ex4, ex5, beqI, bneI, decide_true, Bool.true_and, decide_eq_true_eq, decide_eq_false_iff_not, ne_eq, Decidable.not_not]
 simp only [Nat.reduceAdd, Nat.reduceMul]
 obtain ⟨h1, h2, h3⟩ := h
 have a1 : ∀ g, allB (g + 1) (hourOk x) = (allB g (hourOk x) && hourOk x g) := fun _ => rfl
 have a2 : ∀ g, (chk0 x && allB x.hE (hourOk x) && allB (g + 1) fun i => netOk x.hE (x.net i)) = ((chk0 x && allB x.hE (hourOk x) && allB g fun i => netOk x.hE (x.net i)) && netOk x.hE (x.net g)) := fun g => by
   rw [allB, ← Bool.and_assoc]
 refine ⟨fun a => ⟨fun b => ⟨fun c => by simp [chk0, a, b, c], fun c => by simp [chk0, a, b, c]⟩, fun b => by simp [chk0, b]⟩, fun a => by simp [chk0, a], by omega, by simp [allB], fun g hg => ⟨fun hb => ⟨fun hlt => ?_, fun hge => ?_⟩, fun hb => ?_⟩, by omega, by simp [allB], fun g hg => ?_, fun hb => ?_, fun hb => ?_⟩
 · have hc : chk0 x = true := by
     rw [Bool.and_eq_true] at hb; exact hb.1
   have hn := hc
   simp only [chk0, Bool.and_eq_true, decide_eq_true_eq] at hn
   refine ⟨by omega, by omega, fun w0 => ⟨by omega, by omega, by omega, by omega, by omega, by omega, ?_⟩, fun w0 => ⟨by omega, by omega, by omega, by omega, ?_⟩⟩
   · rw [a1, ← Bool.and_assoc, hb, hourOk, w0]; simp
   · rw [a1, ← Bool.and_assoc, hb, hourOk, w0]; simp
 · obtain rfl : g = x.hE := by omega
   rfl
 · rw [hb]
   cases hc : chk0 x with
   | false => rfl
   | true =>
     rw [hc, Bool.true_and] at hb
     rw [Bool.true_and]
     symm
     cases ha : allB x.hE (hourOk x) with
     | false => rfl
     | true =>
       have : allB g (hourOk x) = true := allB_iff.2 fun i hi => allB_iff.1 ha i (by omega)
       rw [this] at hb; cases hb
 · refine ⟨by omega, by omega, fun hb => ?_, fun hb => ⟨by omega, by omega, by omega, by omega, by rw [a2, hb]; rfl⟩⟩
   have hc : chk0 x = true := by
     rw [Bool.and_eq_true, Bool.and_eq_true] at hb; exact hb.1.1
   have hn := hc
   simp only [chk0, Bool.and_eq_true, decide_eq_true_eq, within_iff] at hn
   have nk : netOk x.hE (x.net g) = (within (x.net g 0) (-10000) 10000 && within (x.net g 1) (-10000) 10000 && within (x.net g 2) 0 2000 && (within (x.net g 3) 0 1 && within (x.net g 4) 0 ((x.hE : Int) - 1) && within (x.net g 5) (x.net g 4) x.hE) && (spanned (x.net g 6) (x.net g 7) (-50) 50 && spanned (x.net g 8) (x.net g 9) (-50) 50)) := rfl
   refine ⟨fun w0 => ⟨fun w1 => ⟨fun w2 => ⟨fun w3 => ⟨by omega, by omega, fun w4 => ⟨fun w5 => ⟨fun w6 => ⟨by omega, by omega, by omega, by omega, by rw [a2, hb, Bool.true_and, nk]; simp [w0, w1, w2, w3, w4, w5, w6]⟩, fun w6 => ⟨by omega, by omega, by omega, by omega, by rw [a2, hb, Bool.true_and, nk]; simp [w6]⟩⟩, fun w5 => ⟨by omega, by omega, by omega, by omega, by rw [a2, hb, Bool.true_and, nk]; simp [w5]⟩⟩, fun w4 => ⟨by omega, by omega, by omega, by omega, by rw [a2, hb, Bool.true_and, nk]; simp [w4]⟩⟩, fun w3 => ⟨by omega, by omega, by omega, by omega, by rw [a2, hb, Bool.true_and, nk]; simp [w3]⟩⟩, fun w2 => ⟨by omega, by omega, by omega, by omega, by rw [a2, hb, Bool.true_and, nk]; simp [w2]⟩⟩, fun w1 => ⟨by omega, by omega, by omega, by omega, by rw [a2, hb, Bool.true_and, nk]; simp [w1]⟩⟩, fun w0 => ⟨by omega, by omega, by omega, by omega, by rw [a2, hb, Bool.true_and, nk]; simp [w0]⟩⟩
 · have : Nm.chk x = false := by rw [Bool.not_eq_true'] at hb; exact hb
   unfold chkE; rw [this]; rfl
 · have : Nm.chk x = true := by rw [Bool.not_eq_false'] at hb; exact hb
   unfold chkE; rw [this]; rfl
end Go.Proofs.YtcfmdhlohahhcaaDoor
namespace Go.Proofs.YtcfmdhlohahhcaaDoor
open Go Go.Sx Nm
set_option maxRecDepth 100000
end Go.Proofs.YtcfmdhlohahhcaaDoor
namespace Nm
open Go Go.Sx
def arrTV (n : Nat) (b : Nat → Int) : TV := .a n (fun j => .int .i64 (b j))
def sm (n : Int) : Prop := -1000000000 ≤ n ∧ n ≤ 1000000000
theorem sm_mul {a b : Int} (ha : sm a) (hb : sm b) : -1000000000000000000 ≤ a * b ∧ a * b ≤ 1000000000000000000 := by
 have h1 : a.natAbs * b.natAbs ≤ 1000000000 * 1000000000 := Nat.mul_le_mul (by have := ha.1; have := ha.2; omega) (by have := hb.1; have := hb.2; omega)
 rw [← Int.natAbs_mul] at h1
 omega
def tLo (l h n : Int) : Int := if n < 0 then h * n else l * n
def tHi (l h n : Int) : Int := if n < 0 then l * n else h * n
theorem t_min {l h n : Int} (hlh : l ≤ h) : imin (l * n) (h * n) = tLo l h n ∧ imax (l * n) (h * n) = tHi l h n := by
 unfold imin imax tLo tHi
 by_cases hn : n < 0
 · have := Int.mul_le_mul_of_nonpos_right hlh (show n ≤ 0 by omega)
   rw [if_pos hn, if_pos hn]
   constructor <;> split <;> omega
 · have := Int.mul_le_mul_of_nonneg_right hlh (show 0 ≤ n by omega)
   rw [if_neg hn, if_neg hn]
   constructor <;> split <;> omega
end Nm
namespace Go.Proofs.YtcfmdhlohahhcaaDoor
open Go Go.Sx Nm
set_option maxRecDepth 100000
def sNet : Sig := ⟨Fleet × Int, fun x => [fleetTV x.1, intC x.2], fun x => x.1.wf ∧ 0 ≤ x.2 ∧ x.2 < x.1.k, fun x => [.v (arrTV 10 (x.1.net x.2.toNat))]⟩
theorem q55 (x : sNet.α) (h : sNet.pre x) : CallQ Tryd.prog E0 55 (sNet.arg x) (sNet.res x) := by
 obtain ⟨x, k⟩ := x
 refine bare_tight E0_ok [] (show SigsOk Tryd.prog E0 [] from SigsOk.nil) [] EvensOk.nil runs [] [] [] [] [] [] (fuel := 5) ?_
 refine of_red (q := (0 : Int)≤k∧k < (↑x.k : Int)∧True∧(((((((((True∧True∧x.net k.toNat 0 = x.net k.toNat 0)∧True∧x.net k.toNat 1 = x.net k.toNat 1)∧True∧x.net k.toNat 2 = x.net k.toNat 2)∧True∧x.net k.toNat 3 = x.net k.toNat 3)∧True∧x.net k.toNat 4 = x.net k.toNat 4)∧True∧x.net k.toNat 5 = x.net k.toNat 5)∧True∧x.net k.toNat 6 = x.net k.toNat 6)∧True∧x.net k.toNat 7 = x.net k.toNat 7)∧True∧x.net k.toNat 8 = x.net k.toNat 8)∧True∧x.net k.toNat 9 = x.net k.toNat 9) (by kernel_rfl) ?_
 simp only [true_and, and_true, inR, Prod.exists, Prod.forall, and_assoc, exists_and_left, exists_eq_left', exists_eq_left, forall_eq, exists_const, forall_const, loopN, loopM, fa2, fas, fas2, dup1, dup2, dup3, dup4, ite_true, exhs, exhn, exhz, exho, exA, ex1, ex2, ex3, ex4, ex5, beqI, bneI, decide_true, Bool.true_and, decide_eq_true_eq, decide_eq_false_iff_not, ne_eq, Decidable.not_not]
 exact ⟨h.2.1, h.2.2⟩
def sLie : Sig := ⟨(Nat → Int) × Int, fun x => [arrTV 10 x.1, intC x.2], fun _ => True, fun x => [.v (.c (.bool (within x.2 (x.1 4) (x.1 5))))]⟩
theorem q56 (x : sLie.α) : CallQ Tryd.prog E0 56 (sLie.arg x) (sLie.res x) := by
 obtain ⟨m, h⟩ := x
 refine bare_tight E0_ok [(54, sIn)] (show SigsOk Tryd.prog E0 [(54, sIn)] from (SigsOk.nil.cons u54 fun x _ => q54 x)) [] EvensOk.nil runs [] [] [] [] [] [] (fuel := 5) ?_
 refine of_red (q := ∃ (x : Int × Int × Int), ((True∧h = x.fst)∧(True∧m ((0 : Nat) + (nat_lit 3 + (1 : Nat))) = x.snd.fst)∧(True∧m ((0 : Nat) + (nat_lit 4 + (1 : Nat))) = x.snd.snd)∧True)∧True∧True∧within x.fst x.snd.fst x.snd.snd = within h (m (4 : Nat)) (m (5 : Nat))) (by kernel_rfl) ?_
 simp only [true_and, and_true, inR, Prod.exists, Prod.forall, and_assoc, exists_and_left, exists_eq_left', exists_eq_left, forall_eq, exists_const, forall_const, loopN, loopM, fa2, fas, fas2, dup1, dup2, dup3, dup4, ite_true, exhs, exhn, exhz, exho, exA, ex1, ex2, ex3, ex4, ex5, beqI, bneI, decide_true, Bool.true_and, decide_eq_true_eq, decide_eq_false_iff_not, ne_eq, Decidable.not_not]
def sLong : Sig := ⟨(Nat → Int) × Int, fun x => [arrTV 10 x.1, intC x.2], fun _ => True, fun x => [.v (intC (if x.1 3 = x.2 then x.1 2 else 0))]⟩
theorem q121 (x : sLong.α) : CallQ Tryd.prog E0 121 (sLong.arg x) (sLong.res x) := by
 obtain ⟨m, h⟩ := x
 refine bare_tight E0_ok [] (show SigsOk Tryd.prog E0 [] from SigsOk.nil) [] EvensOk.nil runs [] [] [] [] [] [] (fuel := 5) ?_
 refine of_red (q := ((m ((0 : Nat) + (nat_lit 2 + (1 : Nat))) == h) = true→True∧m ((0 : Nat) + (nat_lit 1 + (1 : Nat))) = if m (3 : Nat) = h then m (2 : Nat) else (0 : Int))∧((m ((0 : Nat) + (nat_lit 2 + (1 : Nat))) == h) = false→True∧(0 : Int) = if m (3 : Nat) = h then m (2 : Nat) else (0 : Int))) (by kernel_rfl) ?_
 simp only [true_and, and_true, inR, Prod.exists, Prod.forall, and_assoc, exists_and_left, exists_eq_left', exists_eq_left, forall_eq, exists_const, forall_const, loopN, loopM, fa2, fas, fas2, dup1, dup2, dup3, dup4, ite_true, exhs, exhn, exhz, exho, exA, ex1, ex2, ex3, ex4, ex5, beqI, bneI, decide_true, Bool.true_and, decide_eq_true_eq, decide_eq_false_iff_not, ne_eq, Decidable.not_not]
 exact ⟨fun e => by rw [if_pos e], fun e => by rw [if_neg e]⟩
def sEnds : Sig := ⟨Int × Int, fun x => [intC x.1, .c (.vs 1 1 (fun _ _ => .int .i64 x.2))], fun _ => True, fun x => [.v (intC (imin x.1 x.2)), .v (intC (imax x.1 x.2))]⟩
def aEn (a b : Int) : Ann := { G := Nat, ok := fun _ i => i ≤ 1, dom := fun _ => [], tm := fun _ i => [(4, .t (intC (if i = 0 then a else imin a b))), (5, .t (intC (if i = 0 then a else imax a b))), (12, .t (intC i))], hp := fun _ _ => [], mu := fun _ i => 1 - i }
theorem q74 (x : sEnds.α) : CallQ Tryd.prog E0 74 (sEnds.arg x) (sEnds.res x) := by
 obtain ⟨a, b⟩ := x
 refine bare_tight E0_ok [] (show SigsOk Tryd.prog E0 [] from SigsOk.nil) [] EvensOk.nil runs [(74, 3, aEn a b)] [] [] [] [] [] (fuel := 5) ?_
 refine of_red (q := (∃ (g : Nat), g≤(1 : Nat)∧True∧((True∧a = if g = (0 : Nat) then a else imin a b)∧(True∧a = if g = (0 : Nat) then a else imax a b)∧(True∧(0 : Int) = (↑g : Int))∧True)∧True)∧∀ (g : Nat), g≤(1 : Nat)→(decide ((↑g : Int) < (↑(1 : Nat) : Int)) = true→(0 : Int)≤(↑g : Int)∧(↑g : Int) < (↑(1 : Nat) : Int)∧inRange IntKind.i64 ((↑g : Int) + (1 : Int))∧∃ (g' : Nat), g'≤(1 : Nat)∧(1 : Nat) - g' < (1 : Nat) - g∧True∧((True∧imin (if g = (0 : Nat) then a else imin a b) b = if g' = (0 : Nat) then a else imin a b)∧(True∧imax (if g = (0 : Nat) then a else imax a b) b = if g' = (0 : Nat) then a else imax a b)∧(True∧(↑g : Int) + (1 : Int) = (↑g' : Int))∧True)∧True)∧(decide ((↑g : Int) < (↑(1 : Nat) : Int)) = false→(True∧(if g = (0 : Nat) then a else imin a b) = imin a b)∧(True∧(if g = (0 : Nat) then a else imax a b) = imax a b)∧True)) (by kernel_rfl) ?_
 simp only [true_and, and_true, inR, Prod.exists, Prod.forall, and_assoc, exists_and_left, exists_eq_left', exists_eq_left, forall_eq, exists_const, forall_const, loopN, loopM, fa2, fas, fas2, dup1, dup2, dup3, dup4, ite_true, exhs, exhn, exhz, exho, exA, ex1, ex2, ex3, ex4, ex5, beqI, bneI, decide_true, Bool.true_and, decide_eq_true_eq, decide_eq_false_iff_not, ne_eq, Decidable.not_not]
 refine ⟨by omega, fun g hg => ?_, rfl, rfl⟩
 obtain rfl : g = 0 := by omega
 exact ⟨by omega, by omega, by omega, by omega, by omega, by omega, rfl, rfl⟩
def sFar : Sig := ⟨(Int × Int) × (Int × Int) × Int, fun x => [spanTV x.1.1 x.1.2, spanTV x.2.1.1 x.2.1.2, intC x.2.2], fun x => sm x.1.1 ∧ sm x.1.2 ∧ sm x.2.1.1 ∧ sm x.2.1.2 ∧ sm x.2.2 ∧ x.2.1.1 ≤ x.2.1.2, fun x => [.v (spanTV (x.1.1 + tLo x.2.1.1 x.2.1.2 x.2.2) (x.1.2 + tHi x.2.1.1 x.2.1.2 x.2.2))]⟩
theorem q97 (x : sFar.α) (h : sFar.pre x) : CallQ Tryd.prog E0 97 (sFar.arg x) (sFar.res x) := by
 obtain ⟨⟨a, b⟩, ⟨l, u⟩, n⟩ := x
 refine bare_tight E0_ok [(74, sEnds)] (show SigsOk Tryd.prog E0 [(74, sEnds)] from (SigsOk.nil.cons u74 fun x _ => q74 x)) [] EvensOk.nil runs [] [] [] [] [] [] (fuel := 5) ?_
 refine of_red (q := inRange IntKind.i64 (l * n)∧inRange IntKind.i64 (u * n)∧∃ (x : Int × Int), ((True∧l * n = x.fst)∧(True∧True∧(1 : Nat) = (1 : Nat)∧∀ (i : Nat), i < (1 : Nat)→True∧(if i = (0 : Nat) then u * n else (0 : Int)) = x.snd)∧True)∧True∧inRange IntKind.i64 (a + imin x.fst x.snd)∧inRange IntKind.i64 (b + imax x.fst x.snd)∧True∧(True∧True∧a + imin x.fst x.snd = (a, b).fst + tLo ((l, u), n).fst.fst ((l, u), n).fst.snd ((l, u), n).snd)∧True∧b + imax x.fst x.snd = (a, b).snd + tHi ((l, u), n).fst.fst ((l, u), n).fst.snd ((l, u), n).snd) (by kernel_rfl) ?_
 simp only [true_and, and_true, inR, Prod.exists, Prod.forall, and_assoc, exists_and_left, exists_eq_left', exists_eq_left, forall_eq, exists_const, forall_const, loopN, loopM, fa2, fas, fas2, dup1, dup2, dup3, dup4, ite_true, exhs, exhn, exhz, exho, exA, ex1, ex2, ex3, ex4, ex5, beqI, bneI, decide_true, Bool.true_and, decide_eq_true_eq, decide_eq_false_iff_not, ne_eq, Decidable.not_not]
 obtain ⟨h1, h2, h3, h4, h5, h6⟩ := (show sm a ∧ sm b ∧ sm l ∧ sm u ∧ sm n ∧ l ≤ u from h)
 have b1 := sm_mul h3 h5
 have b2 := sm_mul h4 h5
 obtain ⟨e1, e2⟩ := t_min (n := n) h6
 have b3 : -1000000000000000000 ≤ tLo l u n ∧ tLo l u n ≤ 1000000000000000000 := by unfold tLo; split <;> assumption
 have b4 : -1000000000000000000 ≤ tHi l u n ∧ tHi l u n ≤ 1000000000000000000 := by unfold tHi; split <;> assumption
 obtain ⟨c1, c2⟩ := h1
 obtain ⟨c3, c4⟩ := h2
 obtain ⟨c5, c6⟩ := b1
 obtain ⟨c7, c8⟩ := b2
 obtain ⟨c9, d1⟩ := b3
 obtain ⟨d2, d3⟩ := b4
 have c1 : -1000000000 ≤ a := c1
 have c2 : a ≤ 1000000000 := c2
 have c3 : -1000000000 ≤ b := c3
 have c4 : b ≤ 1000000000 := c4
 have c5 : -1000000000000000000 ≤ l * n := c5
 have c6 : l * n ≤ 1000000000000000000 := c6
 have c7 : -1000000000000000000 ≤ u * n := c7
 have c8 : u * n ≤ 1000000000000000000 := c8
 refine ⟨by omega, by omega, by omega, by omega, u * n, fun i hi => by rw [if_pos (by omega)], ?_⟩
 rw [e1, e2]
 exact ⟨by omega, by omega, by omega, by omega, rfl, rfl⟩
end Go.Proofs.YtcfmdhlohahhcaaDoor
namespace Go.Proofs.YtcfmdhlohahhcaaDoor
open Go Go.Sx Nm
set_option maxRecDepth 100000
def sAt (s : Nat) : Sig := ⟨Nat → Int, fun m => [arrTV 10 m], fun _ => True, fun m => [.v (intC (m s))]⟩
theorem q119 (m : Nat → Int) : CallQ Tryd.prog E0 119 ((sAt 0).arg m) ((sAt 0).res m) := by
 refine bare_tight E0_ok [] (show SigsOk Tryd.prog E0 [] from SigsOk.nil) [] EvensOk.nil runs [] [] [] [] [] [] (fuel := 5) ?_
 refine of_red (q := True∧m (0 : Nat) = m (0 : Nat)) (by kernel_rfl) ?_
 simp only [true_and, and_true, inR, Prod.exists, Prod.forall, and_assoc, exists_and_left, exists_eq_left', exists_eq_left, forall_eq, exists_const, forall_const, loopN, loopM, fa2, fas, fas2, dup1, dup2, dup3, dup4, ite_true, exhs, exhn, exhz, exho, exA, ex1, ex2, ex3, ex4, ex5, beqI, bneI, decide_true, Bool.true_and, decide_eq_true_eq, decide_eq_false_iff_not, ne_eq, Decidable.not_not]
theorem q124 (m : Nat → Int) : CallQ Tryd.prog E0 124 ((sAt 1).arg m) ((sAt 1).res m) := by
 refine bare_tight E0_ok [] (show SigsOk Tryd.prog E0 [] from SigsOk.nil) [] EvensOk.nil runs [] [] [] [] [] [] (fuel := 5) ?_
 refine of_red (q := True∧m ((0 : Nat) + (nat_lit 0 + (1 : Nat))) = m (1 : Nat)) (by kernel_rfl) ?_
 simp only [true_and, and_true, inR, Prod.exists, Prod.forall, and_assoc, exists_and_left, exists_eq_left', exists_eq_left, forall_eq, exists_const, forall_const, loopN, loopM, fa2, fas, fas2, dup1, dup2, dup3, dup4, ite_true, exhs, exhn, exhz, exho, exA, ex1, ex2, ex3, ex4, ex5, beqI, bneI, decide_true, Bool.true_and, decide_eq_true_eq, decide_eq_false_iff_not, ne_eq, Decidable.not_not]
def sLg (s : Int) : Sig := ⟨Nat → Int, fun m => [arrTV 10 m], fun _ => True, fun m => [.v (intC (if m 3 = s then m 2 else 0))]⟩
theorem q120 (m : Nat → Int) : CallQ Tryd.prog E0 120 ((sLg 0).arg m) ((sLg 0).res m) := by
 refine bare_tight E0_ok [(121, sLong)] (show SigsOk Tryd.prog E0 [(121, sLong)] from (SigsOk.nil.cons u121 fun x _ => q121 x)) [] EvensOk.nil runs [] [] [] [] [] [] (fuel := 5) ?_
 refine of_red (q := ∃ (x : (Nat→Int) × Int), ((True∧(((((((((True∧True∧m 0 = x.fst 0)∧True∧m 1 = x.fst 1)∧True∧m 2 = x.fst 2)∧True∧m 3 = x.fst 3)∧True∧m 4 = x.fst 4)∧True∧m 5 = x.fst 5)∧True∧m 6 = x.fst 6)∧True∧m 7 = x.fst 7)∧True∧m 8 = x.fst 8)∧True∧m 9 = x.fst 9)∧(True∧(0 : Int) = x.snd)∧True)∧True∧True∧(if x.fst (3 : Nat) = x.snd then x.fst (2 : Nat) else (0 : Int)) = if m (3 : Nat) = (0 : Int) then m (2 : Nat) else (0 : Int)) (by kernel_rfl) ?_
 simp only [true_and, and_true, inR, Prod.exists, Prod.forall, and_assoc, exists_and_left, exists_eq_left', exists_eq_left, forall_eq, exists_const, forall_const, loopN, loopM, fa2, fas, fas2, dup1, dup2, dup3, dup4, ite_true, exhs, exhn, exhz, exho, exA, ex1, ex2, ex3, ex4, ex5, beqI, bneI, decide_true, Bool.true_and, decide_eq_true_eq, decide_eq_false_iff_not, ne_eq, Decidable.not_not]
 try exact ⟨m, rfl, rfl, rfl, rfl, rfl, rfl, rfl, rfl, rfl, rfl, rfl⟩
theorem q125 (m : Nat → Int) : CallQ Tryd.prog E0 125 ((sLg 1).arg m) ((sLg 1).res m) := by
 refine bare_tight E0_ok [(121, sLong)] (show SigsOk Tryd.prog E0 [(121, sLong)] from (SigsOk.nil.cons u121 fun x _ => q121 x)) [] EvensOk.nil runs [] [] [] [] [] [] (fuel := 5) ?_
 refine of_red (q := ∃ (x : (Nat→Int) × Int), ((True∧(((((((((True∧True∧m 0 = x.fst 0)∧True∧m 1 = x.fst 1)∧True∧m 2 = x.fst 2)∧True∧m 3 = x.fst 3)∧True∧m 4 = x.fst 4)∧True∧m 5 = x.fst 5)∧True∧m 6 = x.fst 6)∧True∧m 7 = x.fst 7)∧True∧m 8 = x.fst 8)∧True∧m 9 = x.fst 9)∧(True∧(1 : Int) = x.snd)∧True)∧True∧True∧(if x.fst (3 : Nat) = x.snd then x.fst (2 : Nat) else (0 : Int)) = if m (3 : Nat) = (1 : Int) then m (2 : Nat) else (0 : Int)) (by kernel_rfl) ?_
 simp only [true_and, and_true, inR, Prod.exists, Prod.forall, and_assoc, exists_and_left, exists_eq_left', exists_eq_left, forall_eq, exists_const, forall_const, loopN, loopM, fa2, fas, fas2, dup1, dup2, dup3, dup4, ite_true, exhs, exhn, exhz, exho, exA, ex1, ex2, ex3, ex4, ex5, beqI, bneI, decide_true, Bool.true_and, decide_eq_true_eq, decide_eq_false_iff_not, ne_eq, Decidable.not_not]
 try exact ⟨m, rfl, rfl, rfl, rfl, rfl, rfl, rfl, rfl, rfl, rfl, rfl⟩
def sSl (j : Nat) : Sig := ⟨Nat → Int, fun m => [arrTV 10 m], fun _ => True, fun m => [.v (spanTV (m j) (m (j + 1)))]⟩
theorem q122 (m : Nat → Int) : CallQ Tryd.prog E0 122 ((sSl 6).arg m) ((sSl 6).res m) := by
 refine bare_tight E0_ok [] (show SigsOk Tryd.prog E0 [] from SigsOk.nil) [] EvensOk.nil runs [] [] [] [] [] [] (fuel := 5) ?_
 refine of_red (q := True∧(True∧True∧m (nat_lit 0 + (nat_lit 5 + (1 : Nat))) = m (6 : Nat))∧True∧m (nat_lit 1 + (nat_lit 5 + (1 : Nat))) = m ((6 : Nat) + (1 : Nat))) (by kernel_rfl) ?_
 simp only [true_and, and_true, inR, Prod.exists, Prod.forall, and_assoc, exists_and_left, exists_eq_left', exists_eq_left, forall_eq, exists_const, forall_const, loopN, loopM, fa2, fas, fas2, dup1, dup2, dup3, dup4, ite_true, exhs, exhn, exhz, exho, exA, ex1, ex2, ex3, ex4, ex5, beqI, bneI, decide_true, Bool.true_and, decide_eq_true_eq, decide_eq_false_iff_not, ne_eq, Decidable.not_not]
theorem q126 (m : Nat → Int) : CallQ Tryd.prog E0 126 ((sSl 8).arg m) ((sSl 8).res m) := by
 refine bare_tight E0_ok [] (show SigsOk Tryd.prog E0 [] from SigsOk.nil) [] EvensOk.nil runs [] [] [] [] [] [] (fuel := 5) ?_
 refine of_red (q := True∧(True∧True∧m (nat_lit 0 + (nat_lit 7 + (1 : Nat))) = m (8 : Nat))∧True∧m (nat_lit 1 + (nat_lit 7 + (1 : Nat))) = m ((8 : Nat) + (1 : Nat))) (by kernel_rfl) ?_
 simp only [true_and, and_true, inR, Prod.exists, Prod.forall, and_assoc, exists_and_left, exists_eq_left', exists_eq_left, forall_eq, exists_const, forall_const, loopN, loopM, fa2, fas, fas2, dup1, dup2, dup3, dup4, ite_true, exhs, exhn, exhz, exho, exA, ex1, ex2, ex3, ex4, ex5, beqI, bneI, decide_true, Bool.true_and, decide_eq_true_eq, decide_eq_false_iff_not, ne_eq, Decidable.not_not]
def spansCV (n : Nat) (f : Nat → Nat → Int) : CV := .vs 2 n (fun i j => .int .i64 (f i j))
def sTdE : Sig := ⟨Fleet, fun x => [fleetTV x], fun x => x.wf, fun x => [.v (.c (spansCV x.hE x.e))]⟩
theorem q123 (x : Fleet) (h : x.wf) : CallQ Tryd.prog E0 123 (sTdE.arg x) (sTdE.res x) := by
 refine bare_tight E0_ok [] (show SigsOk Tryd.prog E0 [] from SigsOk.nil) [] EvensOk.nil runs [] [] [] [] [] [] (fuel := 5) ?_
 refine of_red (q := True∧True∧x.hE = x.hE∧∀ (i : Nat), i < x.hE→(True∧x.e i 0 = x.e i 0)∧x.e i 1 = x.e i 1) (by kernel_rfl) ?_
 simp only [true_and, and_true, inR, Prod.exists, Prod.forall, and_assoc, exists_and_left, exists_eq_left', exists_eq_left, forall_eq, exists_const, forall_const, loopN, loopM, fa2, fas, fas2, dup1, dup2, dup3, dup4, ite_true, exhs, exhn, exhz, exho, exA, ex1, ex2, ex3, ex4, ex5, beqI, bneI, decide_true, Bool.true_and, decide_eq_true_eq, decide_eq_false_iff_not, ne_eq, Decidable.not_not]
 exact fun _ _ => trivial
def sTdN : Sig := ⟨Fleet, fun x => [fleetTV x], fun x => x.wf, fun x => [.v (.c (spansCV x.hN x.n))]⟩
theorem q127 (x : Fleet) (h : x.wf) : CallQ Tryd.prog E0 127 (sTdN.arg x) (sTdN.res x) := by
 refine bare_tight E0_ok [] (show SigsOk Tryd.prog E0 [] from SigsOk.nil) [] EvensOk.nil runs [] [] [] [] [] [] (fuel := 5) ?_
 refine of_red (q := True∧True∧x.hN = x.hN∧∀ (i : Nat), i < x.hN→(True∧x.n i 0 = x.n i 0)∧x.n i 1 = x.n i 1) (by kernel_rfl) ?_
 simp only [true_and, and_true, inR, Prod.exists, Prod.forall, and_assoc, exists_and_left, exists_eq_left', exists_eq_left, forall_eq, exists_const, forall_const, loopN, loopM, fa2, fas, fas2, dup1, dup2, dup3, dup4, ite_true, exhs, exhn, exhz, exho, exA, ex1, ex2, ex3, ex4, ex5, beqI, bneI, decide_true, Bool.true_and, decide_eq_true_eq, decide_eq_false_iff_not, ne_eq, Decidable.not_not]
 exact fun _ _ => trivial
end Go.Proofs.YtcfmdhlohahhcaaDoor
namespace Nm
open Go Go.Sx
def sumN (g : Nat → Int) : Nat → Int
 | 0 => 0
 | n + 1 => sumN g n + g n
theorem sumN_bd {g : Nat → Int} {c : Int} {n : Nat} (h : ∀ j, j < n → -c ≤ g j ∧ g j ≤ c) : -(c * n) ≤ sumN g n ∧ sumN g n ≤ c * n := by
 induction n with
 | zero => simp [sumN]
 | succ n ih =>
   have h1 := ih (fun j hj => h j (by omega))
   have h2 := h n (by omega)
   have e : c * ((n + 1 : Nat) : Int) = c * n + c := by rw [Int.natCast_add, Int.mul_add]; simp
   rw [e]
   unfold sumN
   omega
def dLo (f : Nat → Nat → Int) (a : Int) (t : Int) (n : Nat) : Int := sumN (fun j => tLo (f (a.toNat + j) 0) (f (a.toNat + j) 1) t) n
def dHi (f : Nat → Nat → Int) (a : Int) (t : Int) (n : Nat) : Int := sumN (fun j => tHi (f (a.toNat + j) 0) (f (a.toNat + j) 1) t) n
def bLo (x : Fleet) (f : Nat → Nat → Int) (p : Nat) (i k : Nat) : Int := x.net i p - x.net k p + dLo f (x.net i 4) 1 (x.net k 4 - x.net i 4).toNat
def bHi (x : Fleet) (f : Nat → Nat → Int) (p : Nat) (i k : Nat) : Int := x.net i p - x.net k p + dHi f (x.net i 4) 1 (x.net k 4 - x.net i 4).toNat
def cLo (x : Fleet) (f : Nat → Nat → Int) (p : Nat) (i k : Nat) : Int := bLo x f p i k + dLo f (x.net k 4) (-1) (x.net i 4 - x.net k 4).toNat
def cHi (x : Fleet) (f : Nat → Nat → Int) (p : Nat) (i k : Nat) : Int := bHi x f p i k + dHi f (x.net k 4) (-1) (x.net i 4 - x.net k 4).toNat
def apLo (x : Fleet) (f : Nat → Nat → Int) (p s : Nat) (i k : Nat) (h : Int) : Int := cLo x f p i k + tLo (x.net i s) (x.net i (s + 1)) (h - x.net i 4) + tLo (x.net k s) (x.net k (s + 1)) (x.net k 4 - h)
def apHi (x : Fleet) (f : Nat → Nat → Int) (p s : Nat) (i k : Nat) (h : Int) : Int := cHi x f p i k + tHi (x.net i s) (x.net i (s + 1)) (h - x.net i 4) + tHi (x.net k s) (x.net k (s + 1)) (x.net k 4 - h)
end Nm
namespace Nm
open Go Go.Sx
theorem chk_parts {x : Fleet} (h : Nm.chk x = true) : chk0 x = true ∧ (∀ j, j < x.hE → hourOk x j = true) ∧ ∀ i, i < x.k → netOk x.hE (x.net i) = true := by
 unfold Nm.chk at h
 rw [Bool.and_eq_true, Bool.and_eq_true, allB_iff, allB_iff] at h
 exact ⟨h.1.1, h.1.2, h.2⟩
theorem chk_size {x : Fleet} (h : Nm.chk x = true) : 1 ≤ x.hE ∧ x.hE ≤ 24 ∧ x.hN = x.hE ∧ 0 ≤ x.gap ∧ x.gap ≤ 500 ∧ 1 ≤ x.k ∧ x.k ≤ 6 := by
 have := (chk_parts h).1
 simp only [chk0, Bool.and_eq_true, decide_eq_true_eq, within_iff] at this
 omega
theorem chk_hour {x : Fleet} (h : Nm.chk x = true) {j : Nat} (hj : j < x.hE) : (-200 ≤ x.e j 0 ∧ x.e j 0 ≤ x.e j 1 ∧ x.e j 1 ≤ 200) ∧ -200 ≤ x.n j 0 ∧ x.n j 0 ≤ x.n j 1 ∧ x.n j 1 ≤ 200 := by
 have := (chk_parts h).2.1 j hj
 simp only [hourOk, spanned, Bool.and_eq_true, decide_eq_true_eq] at this
 omega
theorem chk_net {x : Fleet} (h : Nm.chk x = true) {i : Nat} (hi : i < x.k) : (-10000 ≤ x.net i 0 ∧ x.net i 0 ≤ 10000) ∧ (-10000 ≤ x.net i 1 ∧ x.net i 1 ≤ 10000) ∧ (0 ≤ x.net i 2 ∧ x.net i 2 ≤ 2000) ∧ (0 ≤ x.net i 3 ∧ x.net i 3 ≤ 1) ∧ (0 ≤ x.net i 4 ∧ x.net i 4 ≤ (x.hE : Int) - 1) ∧ (x.net i 4 ≤ x.net i 5 ∧ x.net i 5 ≤ x.hE) ∧ (-50 ≤ x.net i 6 ∧ x.net i 6 ≤ x.net i 7 ∧ x.net i 7 ≤ 50) ∧ -50 ≤ x.net i 8 ∧ x.net i 8 ≤ x.net i 9 ∧ x.net i 9 ≤ 50 := by
 have := (chk_parts h).2.2 i hi
 simp only [netOk, net1, net2, net3, spanned, Bool.and_eq_true, decide_eq_true_eq, within_iff] at this
 omega
theorem d_bd {f : Nat → Nat → Int} {H : Nat} (hf : ∀ j, j < H → -200 ≤ f j 0 ∧ f j 0 ≤ f j 1 ∧ f j 1 ≤ 200) {a t : Int} {n : Nat} (ht : t = 1 ∨ t = -1) (ha : a.toNat + n ≤ H) (hn : n ≤ 24) :
   (-4800 ≤ dLo f a t n ∧ dLo f a t n ≤ 4800) ∧ -4800 ≤ dHi f a t n ∧ dHi f a t n ≤ 4800 := by
 have h1 := sumN_bd (g := fun j => tLo (f (a.toNat + j) 0) (f (a.toNat + j) 1) t) (c := 200) (n := n) (fun j hj => by
   have := hf (a.toNat + j) (by omega)
   show -200 ≤ tLo (f (a.toNat + j) 0) (f (a.toNat + j) 1) t ∧ tLo (f (a.toNat + j) 0) (f (a.toNat + j) 1) t ≤ 200
   unfold tLo
   rcases ht with rfl | rfl <;> simp <;> omega)
 have h2 := sumN_bd (g := fun j => tHi (f (a.toNat + j) 0) (f (a.toNat + j) 1) t) (c := 200) (n := n) (fun j hj => by
   have := hf (a.toNat + j) (by omega)
   show -200 ≤ tHi (f (a.toNat + j) 0) (f (a.toNat + j) 1) t ∧ tHi (f (a.toNat + j) 0) (f (a.toNat + j) 1) t ≤ 200
   unfold tHi
   rcases ht with rfl | rfl <;> simp <;> omega)
 have e1 : sumN (fun j => tLo (f (a.toNat + j) 0) (f (a.toNat + j) 1) t) n = dLo f a t n := rfl
 have e2 : sumN (fun j => tHi (f (a.toNat + j) 0) (f (a.toNat + j) 1) t) n = dHi f a t n := rfl
 rw [e1] at h1
 rw [e2] at h2
 omega
theorem t_bd {l h n : Int} (h1 : -50 ≤ l) (h2 : l ≤ h) (h3 : h ≤ 50) (n1 : -24 ≤ n) (n2 : n ≤ 24) : (-1200 ≤ tLo l h n ∧ tLo l h n ≤ 1200) ∧ -1200 ≤ tHi l h n ∧ tHi l h n ≤ 1200 := by
 have m : ∀ {a : Int}, -50 ≤ a → a ≤ 50 → -1200 ≤ a * n ∧ a * n ≤ 1200 := fun {a} a1 a2 => by
   have q : a.natAbs * n.natAbs ≤ 50 * 24 := Nat.mul_le_mul (by omega) (by omega)
   rw [← Int.natAbs_mul] at q
   omega
 have m1 := m (a := l) h1 (by omega)
 have m2 := m (a := h) (by omega) h3
 unfold tLo tHi
 split <;> omega
structure ChkW (x : Fleet) : Prop where
 size : 1 ≤ x.hE ∧ x.hE ≤ 24 ∧ x.hN = x.hE ∧ 0 ≤ x.gap ∧ x.gap ≤ 500 ∧ 1 ≤ x.k ∧ x.k ≤ 6
 hour : ∀ j, j < x.hE → (-200 ≤ x.e j 0 ∧ x.e j 0 ≤ x.e j 1 ∧ x.e j 1 ≤ 200) ∧ -200 ≤ x.n j 0 ∧ x.n j 0 ≤ x.n j 1 ∧ x.n j 1 ≤ 200
 net : ∀ i, i < x.k → (-20000 ≤ x.net i 0 ∧ x.net i 0 ≤ 20000) ∧ (-20000 ≤ x.net i 1 ∧ x.net i 1 ≤ 20000) ∧ (0 ≤ x.net i 2 ∧ x.net i 2 ≤ 2000) ∧ (0 ≤ x.net i 3 ∧ x.net i 3 ≤ 1) ∧ (0 ≤ x.net i 4 ∧ x.net i 4 ≤ (x.hE : Int) - 1) ∧ (x.net i 4 ≤ x.net i 5 ∧ x.net i 5 ≤ x.hE) ∧ (-50 ≤ x.net i 6 ∧ x.net i 6 ≤ x.net i 7 ∧ x.net i 7 ≤ 50) ∧ -50 ≤ x.net i 8 ∧ x.net i 8 ≤ x.net i 9 ∧ x.net i 9 ≤ 50
theorem chkW_of {x : Fleet} (h : Nm.chk x = true) : ChkW x :=
 ⟨chk_size h, fun j hj => chk_hour h hj, fun i hi => by have := chk_net h hi; omega⟩
theorem chkW_size {x : Fleet} (h : ChkW x) : 1 ≤ x.hE ∧ x.hE ≤ 24 ∧ x.hN = x.hE ∧ 0 ≤ x.gap ∧ x.gap ≤ 500 ∧ 1 ≤ x.k ∧ x.k ≤ 6 := h.size
theorem chkW_hour {x : Fleet} (h : ChkW x) {j : Nat} (hj : j < x.hE) : (-200 ≤ x.e j 0 ∧ x.e j 0 ≤ x.e j 1 ∧ x.e j 1 ≤ 200) ∧ -200 ≤ x.n j 0 ∧ x.n j 0 ≤ x.n j 1 ∧ x.n j 1 ≤ 200 := h.hour j hj
theorem chkW_net {x : Fleet} (h : ChkW x) {i : Nat} (hi : i < x.k) : (-20000 ≤ x.net i 0 ∧ x.net i 0 ≤ 20000) ∧ (-20000 ≤ x.net i 1 ∧ x.net i 1 ≤ 20000) ∧ (0 ≤ x.net i 2 ∧ x.net i 2 ≤ 2000) ∧ (0 ≤ x.net i 3 ∧ x.net i 3 ≤ 1) ∧ (0 ≤ x.net i 4 ∧ x.net i 4 ≤ (x.hE : Int) - 1) ∧ (x.net i 4 ≤ x.net i 5 ∧ x.net i 5 ≤ x.hE) ∧ (-50 ≤ x.net i 6 ∧ x.net i 6 ≤ x.net i 7 ∧ x.net i 7 ≤ 50) ∧ -50 ≤ x.net i 8 ∧ x.net i 8 ≤ x.net i 9 ∧ x.net i 9 ≤ 50 := h.net i hi
end Nm
