/- Texts for the law of the last part, part 10. -/
import Derived.Test.YtpigkgoooekcgaaTopEqualsP09
import Derived.Test.YtpigkgoooekcgaaRows
import Derived.DeepKeys5
set_option linter.unusedSimpArgs false
set_option linter.unusedVariables false
namespace Go.Proofs.Ytpigkgoooekcgaa
open Go Go.Sx
set_option maxRecDepth 100000
def tyTab : List (Nat × TI) := [
 (1, ⟨.func, 1, 8, [.nilf]⟩),
 (2, ⟨(.int .i64), 1, 8, [.int .i64 0]⟩),
 (3, ⟨(.int .i64), 1, 8, [.int .i64 0]⟩),
 (4, ⟨.bool, 1, 1, [.ff]⟩),
 (5, ⟨(.int .u8), 1, 1, [.int .u8 0]⟩),
 (6, ⟨(.int .u8), 1, 1, [.int .u8 0]⟩),
 (7, ⟨(.struct [(0, 2), (1, 3), (2, 4), (3, 6)]), 4, 24, [.int .i64 0, .int .i64 0, .ff, .int .u8 0]⟩),
 (8, ⟨(.struct [(0, 2), (1, 3), (2, 4), (3, 6)]), 4, 24, [.int .i64 0, .int .i64 0, .ff, .int .u8 0]⟩),
 (9, ⟨.str, 1, 16, [.str ⟨#[]⟩]⟩),
 (10, ⟨.str, 1, 16, [.str ⟨#[]⟩]⟩),
 (11, ⟨.str, 1, 16, [.str ⟨#[]⟩]⟩),
 (12, ⟨(.int .u64), 1, 8, [.int .u64 0]⟩),
 (15, ⟨.ptr, 1, 8, [.nilp]⟩),
 (16, ⟨.ptr, 1, 8, [.nilp]⟩),
 (17, ⟨.ptr, 1, 8, [.nilp]⟩),
 (21, ⟨(.int .i32), 1, 4, [.int .i32 0]⟩),
 (22, ⟨(.slice 37), 1, 24, [.nils]⟩),
 (23, ⟨(.struct [(0, 3), (1, 3)]), 2, 16, [.int .i64 0, .int .i64 0]⟩),
 (24, ⟨(.struct [(0, 3), (1, 3)]), 2, 16, [.int .i64 0, .int .i64 0]⟩),
 (25, ⟨(.struct [(0, 3), (1, 24), (3, 3), (4, 24)]), 6, 48, [.int .i64 0, .int .i64 0, .int .i64 0, .int .i64 0, .int .i64 0, .int .i64 0]⟩),
 (26, ⟨(.struct [(0, 3), (1, 24), (3, 3), (4, 24)]), 6, 48, [.int .i64 0, .int .i64 0, .int .i64 0, .int .i64 0, .int .i64 0, .int .i64 0]⟩),
 (27, ⟨(.slice 3), 1, 24, [.nils]⟩),
 (28, ⟨(.int .i64), 1, 8, [.int .i64 0]⟩),
 (30, ⟨.func, 1, 8, [.nilf]⟩),
 (31, ⟨.func, 1, 8, [.nilf]⟩),
 (33, ⟨.func, 1, 8, [.nilf]⟩),
 (34, ⟨.func, 1, 8, [.nilf]⟩),
 (35, ⟨.func, 1, 8, [.nilf]⟩),
 (36, ⟨(.struct [(0, 3), (1, 3)]), 2, 16, [.int .i64 0, .int .i64 0]⟩),
 (37, ⟨(.struct [(0, 3), (1, 3)]), 2, 16, [.int .i64 0, .int .i64 0]⟩),
 (38, ⟨(.slice 41), 1, 24, [.nils]⟩),
 (39, ⟨.func, 1, 8, [.nilf]⟩),
 (40, ⟨(.array 4 3), 4, 32, [.int .i64 0, .int .i64 0, .int .i64 0, .int .i64 0]⟩),
 (41, ⟨(.array 4 3), 4, 32, [.int .i64 0, .int .i64 0, .int .i64 0, .int .i64 0]⟩),
 (42, ⟨.func, 1, 8, [.nilf]⟩),
 (43, ⟨(.array 4 37), 8, 64, List.replicate 8 (.int .i64 0)⟩),
 (44, ⟨(.array 4 37), 8, 64, List.replicate 8 (.int .i64 0)⟩),
 (45, ⟨(.slice 44), 1, 24, [.nils]⟩),
 (47, ⟨.func, 1, 8, [.nilf]⟩),
 (48, ⟨.func, 1, 8, [.nilf]⟩),
 (49, ⟨(.struct [(0, 3), (1, 3)]), 2, 16, [.int .i64 0, .int .i64 0]⟩),
 (50, ⟨(.struct [(0, 3), (1, 3)]), 2, 16, [.int .i64 0, .int .i64 0]⟩),
 (52, ⟨.func, 1, 8, [.nilf]⟩),
 (53, ⟨.func, 1, 8, [.nilf]⟩),
 (54, ⟨(.slice 59), 1, 24, [.nils]⟩),
 (55, ⟨.func, 1, 8, [.nilf]⟩),
 (56, ⟨(.slice 27), 1, 24, [.nils]⟩),
 (57, ⟨.func, 1, 8, [.nilf]⟩),
 (58, ⟨(.struct [(0, 3), (1, 3), (2, 3), (3, 37)]), 5, 40, [.int .i64 0, .int .i64 0, .int .i64 0, .int .i64 0, .int .i64 0]⟩),
 (59, ⟨(.struct [(0, 3), (1, 3), (2, 3), (3, 37)]), 5, 40, [.int .i64 0, .int .i64 0, .int .i64 0, .int .i64 0, .int .i64 0]⟩),
 (60, ⟨.func, 1, 8, [.nilf]⟩),
 (62, ⟨.func, 1, 8, [.nilf]⟩),
 (63, ⟨.func, 1, 8, [.nilf]⟩),
 (64, ⟨(.struct [(0, 3), (1, 27)]), 2, 32, [.int .i64 0, .nils]⟩),
 (65, ⟨(.struct [(0, 3), (1, 27)]), 2, 32, [.int .i64 0, .nils]⟩),
 (66, ⟨(.slice 69), 1, 24, [.nils]⟩),
 (67, ⟨.func, 1, 8, [.nilf]⟩),
 (68, ⟨(.struct [(0, 9), (1, 3)]), 2, 24, [.str ⟨#[]⟩, .int .i64 0]⟩),
 (69, ⟨(.struct [(0, 9), (1, 3)]), 2, 24, [.str ⟨#[]⟩, .int .i64 0]⟩),
 (70, ⟨.func, 1, 8, [.nilf]⟩),
 (71, ⟨.func, 1, 8, [.nilf]⟩),
 (72, ⟨.func, 1, 8, [.nilf]⟩),
 (73, ⟨.func, 1, 8, [.nilf]⟩),
 (74, ⟨.func, 1, 8, [.nilf]⟩),
 (75, ⟨.func, 1, 8, [.nilf]⟩),
 (77, ⟨.func, 1, 8, [.nilf]⟩),
 (78, ⟨.func, 1, 8, [.nilf]⟩),
 (79, ⟨.func, 1, 8, [.nilf]⟩),
 (80, ⟨.func, 1, 8, [.nilf]⟩),
 (81, ⟨(.array 4 37), 8, 64, List.replicate 8 (.int .i64 0)⟩),
 (82, ⟨(.map 163 3), 1, 8, [.nilm]⟩),
 (83, ⟨(.map 163 3), 1, 8, [.nilm]⟩),
 (84, ⟨(.struct [(0, 3), (1, 83)]), 2, 16, [.int .i64 0, .nilm]⟩),
 (85, ⟨(.struct [(0, 3), (1, 83)]), 2, 16, [.int .i64 0, .nilm]⟩),
 (87, ⟨.func, 1, 8, [.nilf]⟩),
 (88, ⟨.func, 1, 8, [.nilf]⟩),
 (89, ⟨.func, 1, 8, [.nilf]⟩),
 (90, ⟨.func, 1, 8, [.nilf]⟩),
 (91, ⟨.func, 1, 8, [.nilf]⟩),
 (92, ⟨.func, 1, 8, [.nilf]⟩),
 (93, ⟨(.map 97 4), 1, 8, [.nilm]⟩),
 (94, ⟨.func, 1, 8, [.nilf]⟩),
 (95, ⟨(.array 4 3), 4, 32, [.int .i64 0, .int .i64 0, .int .i64 0, .int .i64 0]⟩),
 (96, ⟨(.struct [(0, 3), (1, 95)]), 5, 40, [.int .i64 0, .int .i64 0, .int .i64 0, .int .i64 0, .int .i64 0]⟩),
 (97, ⟨(.struct [(0, 3), (1, 95)]), 5, 40, [.int .i64 0, .int .i64 0, .int .i64 0, .int .i64 0, .int .i64 0]⟩),
 (99, ⟨.func, 1, 8, [.nilf]⟩),
 (100, ⟨(.struct [(0, 34)]), 1, 8, [.nilf]⟩),
 (101, ⟨(.struct [(0, 34)]), 1, 8, [.nilf]⟩),
 (102, ⟨.func, 1, 8, [.nilf]⟩),
 (104, ⟨.func, 1, 8, [.nilf]⟩),
 (105, ⟨.func, 1, 8, [.nilf]⟩),
 (106, ⟨(.struct [(0, 65)]), 2, 32, [.int .i64 0, .nils]⟩),
 (107, ⟨(.struct [(0, 65)]), 2, 32, [.int .i64 0, .nils]⟩),
 (108, ⟨.func, 1, 8, [.nilf]⟩),
 (109, ⟨.func, 1, 8, [.nilf]⟩),
 (110, ⟨.func, 1, 8, [.nilf]⟩),
 (111, ⟨.func, 1, 8, [.nilf]⟩),
 (112, ⟨.func, 1, 8, [.nilf]⟩),
 (113, ⟨.func, 1, 8, [.nilf]⟩),
 (114, ⟨(.struct [(0, 27), (1, 27), (2, 27), (3, 3), (4, 3)]), 5, 88, [.nils, .nils, .nils, .int .i64 0, .int .i64 0]⟩),
 (115, ⟨(.struct [(0, 27), (1, 27), (2, 27), (3, 3), (4, 3)]), 5, 88, [.nils, .nils, .nils, .int .i64 0, .int .i64 0]⟩),
 (116, ⟨.func, 1, 8, [.nilf]⟩),
 (117, ⟨.func, 1, 8, [.nilf]⟩),
 (118, ⟨.func, 1, 8, [.nilf]⟩),
 (119, ⟨(.struct [(0, 24)]), 2, 16, [.int .i64 0, .int .i64 0]⟩),
 (120, ⟨(.struct [(0, 24)]), 2, 16, [.int .i64 0, .int .i64 0]⟩),
 (121, ⟨.func, 1, 8, [.nilf]⟩),
 (122, ⟨.func, 1, 8, [.nilf]⟩),
 (123, ⟨.func, 1, 8, [.nilf]⟩),
 (124, ⟨.func, 1, 8, [.nilf]⟩),
 (125, ⟨(.struct [(0, 59)]), 5, 40, [.int .i64 0, .int .i64 0, .int .i64 0, .int .i64 0, .int .i64 0]⟩),
 (126, ⟨(.struct [(0, 59)]), 5, 40, [.int .i64 0, .int .i64 0, .int .i64 0, .int .i64 0, .int .i64 0]⟩),
 (127, ⟨.func, 1, 8, [.nilf]⟩),
 (128, ⟨.func, 1, 8, [.nilf]⟩),
 (129, ⟨.func, 1, 8, [.nilf]⟩),
 (130, ⟨.func, 1, 8, [.nilf]⟩),
 (131, ⟨.func, 1, 8, [.nilf]⟩),
 (132, ⟨.func, 1, 8, [.nilf]⟩),
 (133, ⟨(.slice 135), 1, 24, [.nils]⟩),
 (134, ⟨(.struct [(0, 69), (2, 3), (3, 3), (4, 3)]), 5, 48, [.str ⟨#[]⟩, .int .i64 0, .int .i64 0, .int .i64 0, .int .i64 0]⟩),
 (135, ⟨(.struct [(0, 69), (2, 3), (3, 3), (4, 3)]), 5, 48, [.str ⟨#[]⟩, .int .i64 0, .int .i64 0, .int .i64 0, .int .i64 0]⟩),
 (136, ⟨.func, 1, 8, [.nilf]⟩),
 (137, ⟨.func, 1, 8, [.nilf]⟩),
 (138, ⟨(.struct [(0, 115)]), 5, 88, [.nils, .nils, .nils, .int .i64 0, .int .i64 0]⟩),
 (139, ⟨(.struct [(0, 115)]), 5, 88, [.nils, .nils, .nils, .int .i64 0, .int .i64 0]⟩),
 (140, ⟨.func, 1, 8, [.nilf]⟩),
 (141, ⟨.func, 1, 8, [.nilf]⟩),
 (142, ⟨(.array 6 3), 6, 48, [.int .i64 0, .int .i64 0, .int .i64 0, .int .i64 0, .int .i64 0, .int .i64 0]⟩),
 (143, ⟨(.array 6 3), 6, 48, [.int .i64 0, .int .i64 0, .int .i64 0, .int .i64 0, .int .i64 0, .int .i64 0]⟩),
 (144, ⟨.func, 1, 8, [.nilf]⟩),
 (146, ⟨.func, 1, 8, [.nilf]⟩),
 (147, ⟨.func, 1, 8, [.nilf]⟩),
 (148, ⟨.func, 1, 8, [.nilf]⟩),
 (149, ⟨.func, 1, 8, [.nilf]⟩),
 (150, ⟨(.slice 5), 1, 24, [.nils]⟩),
 (151, ⟨.func, 1, 8, [.nilf]⟩),
 (152, ⟨.func, 1, 8, [.nilf]⟩),
 (153, ⟨.func, 1, 8, [.nilf]⟩),
 (154, ⟨.func, 1, 8, [.nilf]⟩),
 (155, ⟨(.struct [(0, 154)]), 1, 8, [.nilf]⟩),
 (156, ⟨(.struct [(0, 154)]), 1, 8, [.nilf]⟩),
 (157, ⟨.func, 1, 8, [.nilf]⟩),
 (158, ⟨.func, 1, 8, [.nilf]⟩),
 (159, ⟨.func, 1, 8, [.nilf]⟩),
 (160, ⟨(.int .u64), 1, 8, [.int .u64 0]⟩),
 (161, ⟨.func, 1, 8, [.nilf]⟩),
 (162, ⟨(.struct [(0, 3), (1, 3)]), 2, 16, [.int .i64 0, .int .i64 0]⟩),
 (163, ⟨(.struct [(0, 3), (1, 3)]), 2, 16, [.int .i64 0, .int .i64 0]⟩),
 (165, ⟨.func, 1, 8, [.nilf]⟩),
 (166, ⟨(.int .i64), 1, 8, [.int .i64 0]⟩),
 (168, ⟨.func, 1, 8, [.nilf]⟩),
 (169, ⟨.func, 1, 8, [.nilf]⟩),
 (170, ⟨.func, 1, 8, [.nilf]⟩),
 (171, ⟨.func, 1, 8, [.nilf]⟩),
 (173, ⟨(.int .u32), 1, 4, [.int .u32 0]⟩),
 (175, ⟨(.int .u64), 1, 8, [.int .u64 0]⟩)]
def lookFn : List (Nat × Func) → Nat → Option Func
 | [], _ => none
 | (t, i) :: l, n => match Nat.beq n t with | true => some i | false => lookFn l n
noncomputable def fnTab : List (Nat × Func) := [(3, Try.f3), (4, Try.f4), (5, Try.f5), (6, Try.f6), (7, Try.f7), (8, Try.f8), (9, Try.f9), (10, Try.f10), (11, Try.f11), (12, Try.f12), (13, Try.f13), (14, Try.f14), (15, Try.f15), (16, Try.f16), (17, Try.f17), (18, Try.f18), (19, Try.f19), (20, Try.f20), (21, Try.f21), (22, Try.f22), (23, Try.f23), (24, Try.f24), (25, Try.f25), (26, Try.f26), (27, Try.f27), (28, Try.f28), (29, Try.f29), (30, Try.f30), (31, Try.f31), (32, Try.f32), (33, Try.f33), (34, Try.f34), (35, Try.f35), (36, Try.f36), (37, Try.f37), (38, Try.f38), (39, Try.f39), (40, Try.f40), (41, Try.f41), (42, Try.f42), (43, Try.f43), (44, Try.f44), (45, Try.f45), (46, Try.f46), (47, Try.f47), (48, Try.f48), (49, Try.f49), (50, Try.f50), (51, Try.f51), (52, Try.f52), (53, Try.f53), (54, Try.f54), (55, Try.f55), (56, Try.f56), (57, Try.f57), (58, Try.f58), (59, Try.f59), (60, Try.f60), (61, Try.f61), (62, Try.f62), (63, Try.f63), (64, Try.f64), (65, Try.f65), (66, Try.f66), (67, Try.f67), (68, Try.f68), (69, Try.f69), (70, Try.f70), (71, Try.f71), (72, Try.f72), (73, Try.f73), (74, Try.f74), (75, Try.f75), (76, Try.f76), (77, Try.f77), (78, Try.f78), (79, Try.f79), (80, Try.f80), (81, Try.f81), (82, Try.f82), (83, Try.f83), (84, Try.f84), (85, Try.f85), (86, Try.f86), (87, Try.f87), (88, Try.f88), (89, Try.f89), (90, Try.f90), (94, Try.f94), (91, Try.f91), (92, Try.f92), (93, Try.f93), (96, Try.f96), (105, Try.f105)]
def MC : MapT := ⟨163, 3, true, 2, false⟩
def MK : MapT := ⟨97, 4, true, 5, true⟩
def mps0 : Nat → Option MapT
 | 82 => some MC
 | 83 => some MC
 | 93 => some MK
 | _ => none
noncomputable def E0 : Env := { ty := lookTy tyTab, gl := fun _ => none, sig := fun _ => none, fn := lookFn fnTab, lam := fun _ _ => none, mps := mps0, any := fun _ _ => false }
theorem m82_und : Try.prog.underlying 82 = some (.map 163 3) := by kernel_rfl
theorem m83_und : Try.prog.underlying 83 = some (.map 163 3) := by kernel_rfl
def fldsOf : Option TypeDesc → Option (List (Nat × Nat × Bool))
 | some (.struct fs) => some (fs.toList.map (fun f => (f.type, f.offset, f.name != "_")))
 | _ => none
theorem m163_flds : fldsOf (Try.prog.underlying 163) = some [(3, 0, true), (3, 1, true)] := by kernel_rfl
theorem m163_und : ∃ fs, Try.prog.underlying 163 = some (.struct fs) ∧ fs.toList.map (fun f => (f.type, f.offset, f.name != "_")) = [(3, 0, true), (3, 1, true)] := by
 have h := m163_flds
 unfold fldsOf at h
 split at h
 · rename_i fs hu
   exact ⟨fs, hu, by injection h⟩
 · cases h
theorem m163_key : Try.prog.keyType 163 = true := by kernel_rfl
theorem m163_size : Try.prog.cellsOf 163 = 2 := by kernel_rfl
theorem m3_size : Try.prog.cellsOf 3 = 1 := by kernel_rfl
theorem m3_und : Try.prog.underlying 3 = some (.int .i64) := by kernel_rfl
theorem m_small : Try.prog.types.size + 2 ≤ 10000 := Nat.le_of_ble_eq_true (by kernel_rfl)
theorem m_row : 163 < Try.prog.types.size := Nat.le_of_ble_eq_true (by kernel_rfl)
theorem m_laid : laidOutB Try.prog = true := by kernel_rfl
theorem m3_lit (d : Nat) {a : Int} (h : inRange .i64 a) : Try.prog.keyLits (d + 1) 3 [.int .i64 a] = some [.int .i64 a] := by
 have : (Lit.int .i64 a).wf = true := by
   obtain ⟨h1, h2⟩ := h
   simp only [Lit.wf, Bool.and_eq_true, decide_eq_true_eq]
   exact ⟨h1, h2⟩
 simp [Program.keyLits, m3_und, this]
theorem mc_lit (ks : List Int) (h : KeyIs MC ks) : ∃ l, keyOf Try.prog 163 (keyV true ks) = some l := by
 obtain ⟨fs, h1, h2⟩ := m163_und
 obtain ⟨hl, hr⟩ := h
 match ks, hl with
 | [a, b], _ =>
   have ha := hr a (by simp)
   have hb := hr b (by simp)
   obtain ⟨n, hn⟩ : ∃ n, Try.prog.types.size + 1 = n + 2 := ⟨Try.prog.types.size - 1, by have := m_row; omega⟩
   have hf : (Value.agg #[Value.int .i64 a, Value.int .i64 b]).formed Try.prog 163 = true := by simp [Value.formed, h1, m163_size]
   obtain ⟨f0, f1, hfs⟩ : ∃ f0 f1, fs.toList = [f0, f1] := by
     have hl : fs.toList.length = 2 := by
       have := congrArg List.length h2
       rwa [List.length_map] at this
     generalize fs.toList = l at hl
     match l, hl with
     | [f0, f1], _ => exact ⟨f0, f1, rfl⟩
   rw [hfs] at h2
   simp only [List.map_cons, List.map_nil, List.cons.injEq, Prod.mk.injEq, and_true] at h2
   obtain ⟨⟨t0, o0, n0⟩, ⟨t1, o1, n1⟩⟩ := h2
   obtain rfl : fs = #[f0, f1] := by cases fs; simp at hfs; subst hfs; rfl
   have hk : Try.prog.keyLits (n + 2) 163 [.int .i64 a, .int .i64 b] = some [.int .i64 a, .int .i64 b] := by
     unfold Program.keyLits
     simp only [h1]
     simp [m163_size, n0, n1, t0, t1, o0, o1, m3_size, m3_lit n ha, m3_lit n hb]
   refine ⟨.string (keyBytes [.int .i64 a, .int .i64 b]), ?_⟩
   unfold keyOf
   simp only [h1]
   rw [show keyV true [a, b] = Value.agg #[Value.int .i64 a, Value.int .i64 b] from rfl, m163_key, hf, hn]
   simp only [Bool.and_self, if_true, Value.cells]
   rw [hk]
   rfl
theorem m82 : MapFacts Try.prog 82 MC :=
 ⟨m82_und, Go.Maps.Keyed.of_law (deep_law_gate m_laid m_small m_row m163_key (by kernel_rfl)), mc_lit, fun w => rfl, fun h => by cases h⟩
theorem m83 : MapFacts Try.prog 83 MC :=
 ⟨m83_und, Go.Maps.Keyed.of_law (deep_law_gate m_laid m_small m_row m163_key (by kernel_rfl)), mc_lit, fun w => rfl, fun h => by cases h⟩
theorem m93_und : Try.prog.underlying 93 = some (.map 97 4) := by kernel_rfl
theorem m97_flds : fldsOf (Try.prog.underlying 97) = some [(3, 0, true), (95, 1, true)] := by kernel_rfl
theorem m97_und : ∃ fs, Try.prog.underlying 97 = some (.struct fs) ∧ fs.toList.map (fun f => (f.type, f.offset, f.name != "_")) = [(3, 0, true), (95, 1, true)] := by
 have h := m97_flds
 unfold fldsOf at h
 split at h
 · rename_i fs hu
   exact ⟨fs, hu, by injection h⟩
 · cases h
theorem m97_key : Try.prog.keyType 97 = true := by kernel_rfl
theorem m97_size : Try.prog.cellsOf 97 = 5 := by kernel_rfl
theorem m95_size : Try.prog.cellsOf 95 = 4 := by kernel_rfl
theorem m95_und : Try.prog.underlying 95 = some (.array 4 3) := by kernel_rfl
theorem m97_row : 97 < Try.prog.types.size := Nat.le_of_ble_eq_true (by kernel_rfl)
theorem m95_lit (d : Nat) {a b c e : Int} (ha : inRange .i64 a) (hb : inRange .i64 b) (hc : inRange .i64 c) (he : inRange .i64 e) : Try.prog.keyLits (d + 2) 95 [.int .i64 a, .int .i64 b, .int .i64 c, .int .i64 e] = some [.int .i64 a, .int .i64 b, .int .i64 c, .int .i64 e] := by
 unfold Program.keyLits
 simp only [m95_und]
 rw [if_pos (by rw [m95_size]; rfl), m3_size, show List.range 4 = [0, 1, 2, 3] from rfl]
 simp [m3_lit d ha, m3_lit d hb, m3_lit d hc, m3_lit d he]
theorem mk_lit (ks : List Int) (h : KeyIs MK ks) : ∃ l, keyOf Try.prog 97 (keyV true ks) = some l := by
 obtain ⟨fs, h1, h2⟩ := m97_und
 obtain ⟨hl, hr⟩ := h
 match ks, hl with
 | [x, a, b, c, e], _ =>
   have hx := hr x (by simp)
   have ha := hr a (by simp)
   have hb := hr b (by simp)
   have hc := hr c (by simp)
   have he := hr e (by simp)
   obtain ⟨n, hn⟩ : ∃ n, Try.prog.types.size + 1 = n + 3 := ⟨Try.prog.types.size - 2, by have := m97_row; omega⟩
   have hf : (Value.agg #[Value.int .i64 x, Value.int .i64 a, Value.int .i64 b, Value.int .i64 c, Value.int .i64 e]).formed Try.prog 97 = true := by simp [Value.formed, h1, m97_size]
   obtain ⟨f0, f1, hfs⟩ : ∃ f0 f1, fs.toList = [f0, f1] := by
     have hl : fs.toList.length = 2 := by
       have := congrArg List.length h2
       rwa [List.length_map] at this
     generalize fs.toList = l at hl
     match l, hl with
     | [f0, f1], _ => exact ⟨f0, f1, rfl⟩
   rw [hfs] at h2
   simp only [List.map_cons, List.map_nil, List.cons.injEq, Prod.mk.injEq, and_true] at h2
   obtain ⟨⟨t0, o0, n0⟩, ⟨t1, o1, n1⟩⟩ := h2
   obtain rfl : fs = #[f0, f1] := by cases fs; simp at hfs; subst hfs; rfl
   have hk : Try.prog.keyLits (n + 3) 97 [.int .i64 x, .int .i64 a, .int .i64 b, .int .i64 c, .int .i64 e] = some [.int .i64 x, .int .i64 a, .int .i64 b, .int .i64 c, .int .i64 e] := by
     have l1 := m3_lit (n + 1) hx
     have l2 := m95_lit n ha hb hc he
     unfold Program.keyLits
     simp only [h1]
     simp [m97_size, n0, n1, t0, t1, o0, o1, m3_size, m95_size, l1, l2]
   refine ⟨.string (keyBytes [.int .i64 x, .int .i64 a, .int .i64 b, .int .i64 c, .int .i64 e]), ?_⟩
   unfold keyOf
   simp only [h1]
   rw [show keyV true [x, a, b, c, e] = Value.agg #[Value.int .i64 x, Value.int .i64 a, Value.int .i64 b, Value.int .i64 c, Value.int .i64 e] from rfl, m97_key, hf, hn]
   simp only [Bool.and_self, if_true, Value.cells]
   rw [hk]
   rfl
theorem m93 : MapFacts Try.prog 93 MK :=
 ⟨m93_und, Go.Maps.Keyed.of_law (deep_law_gate m_laid m_small m97_row m97_key (by kernel_rfl)), mk_lit, fun w => rfl, fun h => by cases h⟩
theorem maps_ok : MapsOk Try.prog E0 := fun t T h => by
 have h' : mps0 t = some T := h
 unfold mps0 at h'
 split at h'
 · injection h' with h'; subst h'; exact m82
 · injection h' with h'; subst h'; exact m83
 · injection h' with h'; subst h'; exact m93
 · cases h'
theorem lookFn_mem : ∀ {l : List (Nat × Func)} {t : Nat} {i : Func}, lookFn l t = some i → (t, i) ∈ l
 | [], _, _, h => by simp [lookFn] at h
 | (n, j) :: l, t, i, h => by
   simp only [lookFn] at h
   split at h
   · rename_i e
     have := Nat.eq_of_beq_eq_true e
     subst this
     simp at h; subst h; simp
   · exact List.mem_cons_of_mem _ (lookFn_mem h)
theorem fnOk : fnTab.map (fun x => Try.prog.funcs[x.1]?) = fnTab.map (fun x => some x.2) := by kernel_rfl
theorem fnRuns : fnTab.all (fun x => !(x.2.name == "runtime.NumGoroutine") && x.2.body.isSome) = true := by kernel_rfl
theorem tyOk : tyTab.map (fun x => tabTI Try.prog x.1) = tyTab.map (fun x => some x.2) := by kernel_rfl
theorem fn_of {f : Nat} {fn : Func} (h : lookFn fnTab f = some fn) : ∃ c, Try.prog.funcs[f]? = some fn ∧ (fn.name == "runtime.NumGoroutine") = false ∧ fn.body = some c := by
 have hm := lookFn_mem h
 have h1 := map_eq_mem fnOk _ hm
 have h2 := List.all_eq_true.1 fnRuns _ hm
 simp only [Bool.and_eq_true, Bool.not_eq_true'] at h2
 obtain ⟨c, hc⟩ := Option.isSome_iff_exists.1 h2.2
 exact ⟨c, h1, h2.1, hc⟩
theorem fn_runs {f : Nat} (h : (lookFn fnTab f).isSome = true) : ∃ fn c, Try.prog.funcs[f]? = some fn ∧ (fn.name == "runtime.NumGoroutine") = false ∧ fn.body = some c := by
 obtain ⟨fn, hf⟩ := Option.isSome_iff_exists.1 h
 obtain ⟨c, h1⟩ := fn_of hf
 exact ⟨fn, c, h1⟩
theorem E0_ok : EnvOk Try.prog E0 :=
 ⟨tab_ok rfl tyOk (by kernel_rfl), fun f fn h => let ⟨_, h1, _⟩ := fn_of h; h1, fun f h => fn_runs (h.elim id (fun h => by simp [E0] at h)), fun f s x h => by simp [E0] at h, by kernel_rfl, maps_ok, fun _ _ _ h => (by cases h), fun _ _ _ h => (by cases h), fun _ _ _ h => by cases h⟩
end Go.Proofs.Ytpigkgoooekcgaa
namespace Bm
end Bm
namespace Bm
end Bm
namespace Bm
end Bm
namespace Bm
end Bm
namespace Go.Sx
theorem inR (n : Int) : inRange .i64 n ↔ -9223372036854775808 ≤ n ∧ n ≤ 9223372036854775807 := Iff.rfl
theorem exs1 {g : Nat} : (∃ a : Nat, (g : Int) = (a : Int)) ↔ True := ⟨fun ⟨a, e⟩ => by obtain rfl : a = g := (by omega); exact trivial, fun h => ⟨g, by omega⟩⟩
theorem exn1 {g : Nat} : (∃ a : Nat, (g : Int) + 1 = (a : Int)) ↔ True := ⟨fun ⟨a, e⟩ => by obtain rfl : a = g + 1 := (by omega); exact trivial, fun h => ⟨g + 1, by omega⟩⟩
theorem exz1 : (∃ a : Nat, (0 : Int) = (a : Int)) ↔ True := ⟨fun ⟨a, e⟩ => by obtain rfl : a = 0 := (by omega); exact trivial, fun h => ⟨0, by omega⟩⟩
theorem exo1 : (∃ a : Nat, (1 : Int) = (a : Int)) ↔ True := ⟨fun ⟨a, e⟩ => by obtain rfl : a = 1 := (by omega); exact trivial, fun h => ⟨1, by omega⟩⟩
theorem exs2 {p1 : Nat → Prop} {g : Nat} : (∃ a : Nat, p1 a ∧ (g : Int) = (a : Int)) ↔ p1 g := ⟨fun ⟨a, h1, e⟩ => by obtain rfl : a = g := (by omega); exact h1, fun h => ⟨g, h, by omega⟩⟩
theorem exn2 {p1 : Nat → Prop} {g : Nat} : (∃ a : Nat, p1 a ∧ (g : Int) + 1 = (a : Int)) ↔ p1 (g + 1) := ⟨fun ⟨a, h1, e⟩ => by obtain rfl : a = g + 1 := (by omega); exact h1, fun h => ⟨g + 1, h, by omega⟩⟩
theorem exz2 {p1 : Nat → Prop} : (∃ a : Nat, p1 a ∧ (0 : Int) = (a : Int)) ↔ p1 0 := ⟨fun ⟨a, h1, e⟩ => by obtain rfl : a = 0 := (by omega); exact h1, fun h => ⟨0, h, by omega⟩⟩
theorem exo2 {p1 : Nat → Prop} : (∃ a : Nat, p1 a ∧ (1 : Int) = (a : Int)) ↔ p1 1 := ⟨fun ⟨a, h1, e⟩ => by obtain rfl : a = 1 := (by omega); exact h1, fun h => ⟨1, h, by omega⟩⟩
theorem exs3 {p1 p2 : Nat → Prop} {g : Nat} : (∃ a : Nat, p1 a ∧ p2 a ∧ (g : Int) = (a : Int)) ↔ p1 g ∧ p2 g := ⟨fun ⟨a, h1, h2, e⟩ => by obtain rfl : a = g := (by omega); exact ⟨h1, h2⟩, fun h => ⟨g, h.1, h.2, by omega⟩⟩
theorem exn3 {p1 p2 : Nat → Prop} {g : Nat} : (∃ a : Nat, p1 a ∧ p2 a ∧ (g : Int) + 1 = (a : Int)) ↔ p1 (g + 1) ∧ p2 (g + 1) := ⟨fun ⟨a, h1, h2, e⟩ => by obtain rfl : a = g + 1 := (by omega); exact ⟨h1, h2⟩, fun h => ⟨g + 1, h.1, h.2, by omega⟩⟩
theorem exz3 {p1 p2 : Nat → Prop} : (∃ a : Nat, p1 a ∧ p2 a ∧ (0 : Int) = (a : Int)) ↔ p1 0 ∧ p2 0 := ⟨fun ⟨a, h1, h2, e⟩ => by obtain rfl : a = 0 := (by omega); exact ⟨h1, h2⟩, fun h => ⟨0, h.1, h.2, by omega⟩⟩
theorem exo3 {p1 p2 : Nat → Prop} : (∃ a : Nat, p1 a ∧ p2 a ∧ (1 : Int) = (a : Int)) ↔ p1 1 ∧ p2 1 := ⟨fun ⟨a, h1, h2, e⟩ => by obtain rfl : a = 1 := (by omega); exact ⟨h1, h2⟩, fun h => ⟨1, h.1, h.2, by omega⟩⟩
theorem exs4 {p1 p2 p3 : Nat → Prop} {g : Nat} : (∃ a : Nat, p1 a ∧ p2 a ∧ p3 a ∧ (g : Int) = (a : Int)) ↔ p1 g ∧ p2 g ∧ p3 g := ⟨fun ⟨a, h1, h2, h3, e⟩ => by obtain rfl : a = g := (by omega); exact ⟨h1, h2, h3⟩, fun h => ⟨g, h.1, h.2.1, h.2.2, by omega⟩⟩
theorem exn4 {p1 p2 p3 : Nat → Prop} {g : Nat} : (∃ a : Nat, p1 a ∧ p2 a ∧ p3 a ∧ (g : Int) + 1 = (a : Int)) ↔ p1 (g + 1) ∧ p2 (g + 1) ∧ p3 (g + 1) := ⟨fun ⟨a, h1, h2, h3, e⟩ => by obtain rfl : a = g + 1 := (by omega); exact ⟨h1, h2, h3⟩, fun h => ⟨g + 1, h.1, h.2.1, h.2.2, by omega⟩⟩
theorem exz4 {p1 p2 p3 : Nat → Prop} : (∃ a : Nat, p1 a ∧ p2 a ∧ p3 a ∧ (0 : Int) = (a : Int)) ↔ p1 0 ∧ p2 0 ∧ p3 0 := ⟨fun ⟨a, h1, h2, h3, e⟩ => by obtain rfl : a = 0 := (by omega); exact ⟨h1, h2, h3⟩, fun h => ⟨0, h.1, h.2.1, h.2.2, by omega⟩⟩
theorem exo4 {p1 p2 p3 : Nat → Prop} : (∃ a : Nat, p1 a ∧ p2 a ∧ p3 a ∧ (1 : Int) = (a : Int)) ↔ p1 1 ∧ p2 1 ∧ p3 1 := ⟨fun ⟨a, h1, h2, h3, e⟩ => by obtain rfl : a = 1 := (by omega); exact ⟨h1, h2, h3⟩, fun h => ⟨1, h.1, h.2.1, h.2.2, by omega⟩⟩
theorem exs5 {p1 p2 p3 p4 : Nat → Prop} {g : Nat} : (∃ a : Nat, p1 a ∧ p2 a ∧ p3 a ∧ p4 a ∧ (g : Int) = (a : Int)) ↔ p1 g ∧ p2 g ∧ p3 g ∧ p4 g := ⟨fun ⟨a, h1, h2, h3, h4, e⟩ => by obtain rfl : a = g := (by omega); exact ⟨h1, h2, h3, h4⟩, fun h => ⟨g, h.1, h.2.1, h.2.2.1, h.2.2.2, by omega⟩⟩
theorem exn5 {p1 p2 p3 p4 : Nat → Prop} {g : Nat} : (∃ a : Nat, p1 a ∧ p2 a ∧ p3 a ∧ p4 a ∧ (g : Int) + 1 = (a : Int)) ↔ p1 (g + 1) ∧ p2 (g + 1) ∧ p3 (g + 1) ∧ p4 (g + 1) := ⟨fun ⟨a, h1, h2, h3, h4, e⟩ => by obtain rfl : a = g + 1 := (by omega); exact ⟨h1, h2, h3, h4⟩, fun h => ⟨g + 1, h.1, h.2.1, h.2.2.1, h.2.2.2, by omega⟩⟩
theorem exz5 {p1 p2 p3 p4 : Nat → Prop} : (∃ a : Nat, p1 a ∧ p2 a ∧ p3 a ∧ p4 a ∧ (0 : Int) = (a : Int)) ↔ p1 0 ∧ p2 0 ∧ p3 0 ∧ p4 0 := ⟨fun ⟨a, h1, h2, h3, h4, e⟩ => by obtain rfl : a = 0 := (by omega); exact ⟨h1, h2, h3, h4⟩, fun h => ⟨0, h.1, h.2.1, h.2.2.1, h.2.2.2, by omega⟩⟩
theorem exo5 {p1 p2 p3 p4 : Nat → Prop} : (∃ a : Nat, p1 a ∧ p2 a ∧ p3 a ∧ p4 a ∧ (1 : Int) = (a : Int)) ↔ p1 1 ∧ p2 1 ∧ p3 1 ∧ p4 1 := ⟨fun ⟨a, h1, h2, h3, h4, e⟩ => by obtain rfl : a = 1 := (by omega); exact ⟨h1, h2, h3, h4⟩, fun h => ⟨1, h.1, h.2.1, h.2.2.1, h.2.2.2, by omega⟩⟩
theorem exs6 {p1 p2 p3 p4 p5 : Nat → Prop} {g : Nat} : (∃ a : Nat, p1 a ∧ p2 a ∧ p3 a ∧ p4 a ∧ p5 a ∧ (g : Int) = (a : Int)) ↔ p1 g ∧ p2 g ∧ p3 g ∧ p4 g ∧ p5 g := ⟨fun ⟨a, h1, h2, h3, h4, h5, e⟩ => by obtain rfl : a = g := (by omega); exact ⟨h1, h2, h3, h4, h5⟩, fun h => ⟨g, h.1, h.2.1, h.2.2.1, h.2.2.2.1, h.2.2.2.2, by omega⟩⟩
theorem exn6 {p1 p2 p3 p4 p5 : Nat → Prop} {g : Nat} : (∃ a : Nat, p1 a ∧ p2 a ∧ p3 a ∧ p4 a ∧ p5 a ∧ (g : Int) + 1 = (a : Int)) ↔ p1 (g + 1) ∧ p2 (g + 1) ∧ p3 (g + 1) ∧ p4 (g + 1) ∧ p5 (g + 1) := ⟨fun ⟨a, h1, h2, h3, h4, h5, e⟩ => by obtain rfl : a = g + 1 := (by omega); exact ⟨h1, h2, h3, h4, h5⟩, fun h => ⟨g + 1, h.1, h.2.1, h.2.2.1, h.2.2.2.1, h.2.2.2.2, by omega⟩⟩
theorem exz6 {p1 p2 p3 p4 p5 : Nat → Prop} : (∃ a : Nat, p1 a ∧ p2 a ∧ p3 a ∧ p4 a ∧ p5 a ∧ (0 : Int) = (a : Int)) ↔ p1 0 ∧ p2 0 ∧ p3 0 ∧ p4 0 ∧ p5 0 := ⟨fun ⟨a, h1, h2, h3, h4, h5, e⟩ => by obtain rfl : a = 0 := (by omega); exact ⟨h1, h2, h3, h4, h5⟩, fun h => ⟨0, h.1, h.2.1, h.2.2.1, h.2.2.2.1, h.2.2.2.2, by omega⟩⟩
theorem exo6 {p1 p2 p3 p4 p5 : Nat → Prop} : (∃ a : Nat, p1 a ∧ p2 a ∧ p3 a ∧ p4 a ∧ p5 a ∧ (1 : Int) = (a : Int)) ↔ p1 1 ∧ p2 1 ∧ p3 1 ∧ p4 1 ∧ p5 1 := ⟨fun ⟨a, h1, h2, h3, h4, h5, e⟩ => by obtain rfl : a = 1 := (by omega); exact ⟨h1, h2, h3, h4, h5⟩, fun h => ⟨1, h.1, h.2.1, h.2.2.1, h.2.2.2.1, h.2.2.2.2, by omega⟩⟩
theorem exs7 {p1 p2 p3 p4 p5 p6 : Nat → Prop} {g : Nat} : (∃ a : Nat, p1 a ∧ p2 a ∧ p3 a ∧ p4 a ∧ p5 a ∧ p6 a ∧ (g : Int) = (a : Int)) ↔ p1 g ∧ p2 g ∧ p3 g ∧ p4 g ∧ p5 g ∧ p6 g := ⟨fun ⟨a, h1, h2, h3, h4, h5, h6, e⟩ => by obtain rfl : a = g := (by omega); exact ⟨h1, h2, h3, h4, h5, h6⟩, fun h => ⟨g, h.1, h.2.1, h.2.2.1, h.2.2.2.1, h.2.2.2.2.1, h.2.2.2.2.2, by omega⟩⟩
theorem exn7 {p1 p2 p3 p4 p5 p6 : Nat → Prop} {g : Nat} : (∃ a : Nat, p1 a ∧ p2 a ∧ p3 a ∧ p4 a ∧ p5 a ∧ p6 a ∧ (g : Int) + 1 = (a : Int)) ↔ p1 (g + 1) ∧ p2 (g + 1) ∧ p3 (g + 1) ∧ p4 (g + 1) ∧ p5 (g + 1) ∧ p6 (g + 1) := ⟨fun ⟨a, h1, h2, h3, h4, h5, h6, e⟩ => by obtain rfl : a = g + 1 := (by omega); exact ⟨h1, h2, h3, h4, h5, h6⟩, fun h => ⟨g + 1, h.1, h.2.1, h.2.2.1, h.2.2.2.1, h.2.2.2.2.1, h.2.2.2.2.2, by omega⟩⟩
theorem exz7 {p1 p2 p3 p4 p5 p6 : Nat → Prop} : (∃ a : Nat, p1 a ∧ p2 a ∧ p3 a ∧ p4 a ∧ p5 a ∧ p6 a ∧ (0 : Int) = (a : Int)) ↔ p1 0 ∧ p2 0 ∧ p3 0 ∧ p4 0 ∧ p5 0 ∧ p6 0 := ⟨fun ⟨a, h1, h2, h3, h4, h5, h6, e⟩ => by obtain rfl : a = 0 := (by omega); exact ⟨h1, h2, h3, h4, h5, h6⟩, fun h => ⟨0, h.1, h.2.1, h.2.2.1, h.2.2.2.1, h.2.2.2.2.1, h.2.2.2.2.2, by omega⟩⟩
theorem exo7 {p1 p2 p3 p4 p5 p6 : Nat → Prop} : (∃ a : Nat, p1 a ∧ p2 a ∧ p3 a ∧ p4 a ∧ p5 a ∧ p6 a ∧ (1 : Int) = (a : Int)) ↔ p1 1 ∧ p2 1 ∧ p3 1 ∧ p4 1 ∧ p5 1 ∧ p6 1 := ⟨fun ⟨a, h1, h2, h3, h4, h5, h6, e⟩ => by obtain rfl : a = 1 := (by omega); exact ⟨h1, h2, h3, h4, h5, h6⟩, fun h => ⟨1, h.1, h.2.1, h.2.2.1, h.2.2.2.1, h.2.2.2.2.1, h.2.2.2.2.2, by omega⟩⟩
theorem exs8 {p1 p2 p3 p4 p5 p6 p7 : Nat → Prop} {g : Nat} : (∃ a : Nat, p1 a ∧ p2 a ∧ p3 a ∧ p4 a ∧ p5 a ∧ p6 a ∧ p7 a ∧ (g : Int) = (a : Int)) ↔ p1 g ∧ p2 g ∧ p3 g ∧ p4 g ∧ p5 g ∧ p6 g ∧ p7 g := ⟨fun ⟨a, h1, h2, h3, h4, h5, h6, h7, e⟩ => by obtain rfl : a = g := (by omega); exact ⟨h1, h2, h3, h4, h5, h6, h7⟩, fun h => ⟨g, h.1, h.2.1, h.2.2.1, h.2.2.2.1, h.2.2.2.2.1, h.2.2.2.2.2.1, h.2.2.2.2.2.2, by omega⟩⟩
theorem exn8 {p1 p2 p3 p4 p5 p6 p7 : Nat → Prop} {g : Nat} : (∃ a : Nat, p1 a ∧ p2 a ∧ p3 a ∧ p4 a ∧ p5 a ∧ p6 a ∧ p7 a ∧ (g : Int) + 1 = (a : Int)) ↔ p1 (g + 1) ∧ p2 (g + 1) ∧ p3 (g + 1) ∧ p4 (g + 1) ∧ p5 (g + 1) ∧ p6 (g + 1) ∧ p7 (g + 1) := ⟨fun ⟨a, h1, h2, h3, h4, h5, h6, h7, e⟩ => by obtain rfl : a = g + 1 := (by omega); exact ⟨h1, h2, h3, h4, h5, h6, h7⟩, fun h => ⟨g + 1, h.1, h.2.1, h.2.2.1, h.2.2.2.1, h.2.2.2.2.1, h.2.2.2.2.2.1, h.2.2.2.2.2.2, by omega⟩⟩
theorem exz8 {p1 p2 p3 p4 p5 p6 p7 : Nat → Prop} : (∃ a : Nat, p1 a ∧ p2 a ∧ p3 a ∧ p4 a ∧ p5 a ∧ p6 a ∧ p7 a ∧ (0 : Int) = (a : Int)) ↔ p1 0 ∧ p2 0 ∧ p3 0 ∧ p4 0 ∧ p5 0 ∧ p6 0 ∧ p7 0 := ⟨fun ⟨a, h1, h2, h3, h4, h5, h6, h7, e⟩ => by obtain rfl : a = 0 := (by omega); exact ⟨h1, h2, h3, h4, h5, h6, h7⟩, fun h => ⟨0, h.1, h.2.1, h.2.2.1, h.2.2.2.1, h.2.2.2.2.1, h.2.2.2.2.2.1, h.2.2.2.2.2.2, by omega⟩⟩
theorem exo8 {p1 p2 p3 p4 p5 p6 p7 : Nat → Prop} : (∃ a : Nat, p1 a ∧ p2 a ∧ p3 a ∧ p4 a ∧ p5 a ∧ p6 a ∧ p7 a ∧ (1 : Int) = (a : Int)) ↔ p1 1 ∧ p2 1 ∧ p3 1 ∧ p4 1 ∧ p5 1 ∧ p6 1 ∧ p7 1 := ⟨fun ⟨a, h1, h2, h3, h4, h5, h6, h7, e⟩ => by obtain rfl : a = 1 := (by omega); exact ⟨h1, h2, h3, h4, h5, h6, h7⟩, fun h => ⟨1, h.1, h.2.1, h.2.2.1, h.2.2.2.1, h.2.2.2.2.1, h.2.2.2.2.2.1, h.2.2.2.2.2.2, by omega⟩⟩
theorem exs9 {p1 p2 p3 p4 p5 p6 p7 p8 : Nat → Prop} {g : Nat} : (∃ a : Nat, p1 a ∧ p2 a ∧ p3 a ∧ p4 a ∧ p5 a ∧ p6 a ∧ p7 a ∧ p8 a ∧ (g : Int) = (a : Int)) ↔ p1 g ∧ p2 g ∧ p3 g ∧ p4 g ∧ p5 g ∧ p6 g ∧ p7 g ∧ p8 g := ⟨fun ⟨a, h1, h2, h3, h4, h5, h6, h7, h8, e⟩ => by obtain rfl : a = g := (by omega); exact ⟨h1, h2, h3, h4, h5, h6, h7, h8⟩, fun h => ⟨g, h.1, h.2.1, h.2.2.1, h.2.2.2.1, h.2.2.2.2.1, h.2.2.2.2.2.1, h.2.2.2.2.2.2.1, h.2.2.2.2.2.2.2, by omega⟩⟩
theorem exn9 {p1 p2 p3 p4 p5 p6 p7 p8 : Nat → Prop} {g : Nat} : (∃ a : Nat, p1 a ∧ p2 a ∧ p3 a ∧ p4 a ∧ p5 a ∧ p6 a ∧ p7 a ∧ p8 a ∧ (g : Int) + 1 = (a : Int)) ↔ p1 (g + 1) ∧ p2 (g + 1) ∧ p3 (g + 1) ∧ p4 (g + 1) ∧ p5 (g + 1) ∧ p6 (g + 1) ∧ p7 (g + 1) ∧ p8 (g + 1) := ⟨fun ⟨a, h1, h2, h3, h4, h5, h6, h7, h8, e⟩ => by obtain rfl : a = g + 1 := (by omega); exact ⟨h1, h2, h3, h4, h5, h6, h7, h8⟩, fun h => ⟨g + 1, h.1, h.2.1, h.2.2.1, h.2.2.2.1, h.2.2.2.2.1, h.2.2.2.2.2.1, h.2.2.2.2.2.2.1, h.2.2.2.2.2.2.2, by omega⟩⟩
theorem exz9 {p1 p2 p3 p4 p5 p6 p7 p8 : Nat → Prop} : (∃ a : Nat, p1 a ∧ p2 a ∧ p3 a ∧ p4 a ∧ p5 a ∧ p6 a ∧ p7 a ∧ p8 a ∧ (0 : Int) = (a : Int)) ↔ p1 0 ∧ p2 0 ∧ p3 0 ∧ p4 0 ∧ p5 0 ∧ p6 0 ∧ p7 0 ∧ p8 0 := ⟨fun ⟨a, h1, h2, h3, h4, h5, h6, h7, h8, e⟩ => by obtain rfl : a = 0 := (by omega); exact ⟨h1, h2, h3, h4, h5, h6, h7, h8⟩, fun h => ⟨0, h.1, h.2.1, h.2.2.1, h.2.2.2.1, h.2.2.2.2.1, h.2.2.2.2.2.1, h.2.2.2.2.2.2.1, h.2.2.2.2.2.2.2, by omega⟩⟩
theorem exo9 {p1 p2 p3 p4 p5 p6 p7 p8 : Nat → Prop} : (∃ a : Nat, p1 a ∧ p2 a ∧ p3 a ∧ p4 a ∧ p5 a ∧ p6 a ∧ p7 a ∧ p8 a ∧ (1 : Int) = (a : Int)) ↔ p1 1 ∧ p2 1 ∧ p3 1 ∧ p4 1 ∧ p5 1 ∧ p6 1 ∧ p7 1 ∧ p8 1 := ⟨fun ⟨a, h1, h2, h3, h4, h5, h6, h7, h8, e⟩ => by obtain rfl : a = 1 := (by omega); exact ⟨h1, h2, h3, h4, h5, h6, h7, h8⟩, fun h => ⟨1, h.1, h.2.1, h.2.2.1, h.2.2.2.1, h.2.2.2.2.1, h.2.2.2.2.2.1, h.2.2.2.2.2.2.1, h.2.2.2.2.2.2.2, by omega⟩⟩
theorem exhs {P : Nat → Prop} {g : Nat} : (∃ a : Nat, (g : Int) = (a : Int) ∧ P a) ↔ P g := ⟨fun ⟨a, e, h⟩ => by obtain rfl : a = g := (by omega); exact h, fun h => ⟨g, by omega, h⟩⟩
theorem exhn {P : Nat → Prop} {g : Nat} : (∃ a : Nat, (g : Int) + 1 = (a : Int) ∧ P a) ↔ P (g + 1) := ⟨fun ⟨a, e, h⟩ => by obtain rfl : a = g + 1 := (by omega); exact h, fun h => ⟨g + 1, by omega, h⟩⟩
theorem exhz {P : Nat → Prop} : (∃ a : Nat, (0 : Int) = (a : Int) ∧ P a) ↔ P 0 := ⟨fun ⟨a, e, h⟩ => by obtain rfl : a = 0 := (by omega); exact h, fun h => ⟨0, by omega, h⟩⟩
theorem exho {P : Nat → Prop} : (∃ a : Nat, (1 : Int) = (a : Int) ∧ P a) ↔ P 1 := ⟨fun ⟨a, e, h⟩ => by obtain rfl : a = 1 := (by omega); exact h, fun h => ⟨1, by omega, h⟩⟩
section
variable {α : Sort _} {p q r s t u v : α → Prop} {a' : α}
theorem ex1 : (∃ a, a = a') ↔ True := ⟨fun _ => trivial, fun _ => ⟨a', rfl⟩⟩
theorem ex2 : (∃ a, p a ∧ a = a') ↔ p a' := ⟨fun ⟨_, h, e⟩ => e ▸ h, fun h => ⟨a', h, rfl⟩⟩
theorem ex3 : (∃ a, p a ∧ q a ∧ a = a') ↔ p a' ∧ q a' := ⟨fun ⟨_, h, h2, e⟩ => e ▸ ⟨h, h2⟩, fun ⟨h, h2⟩ => ⟨a', h, h2, rfl⟩⟩
theorem ex4 : (∃ a, p a ∧ q a ∧ r a ∧ a = a') ↔ p a' ∧ q a' ∧ r a' := ⟨fun ⟨_, h, h2, h3, e⟩ => e ▸ ⟨h, h2, h3⟩, fun ⟨h, h2, h3⟩ => ⟨a', h, h2, h3, rfl⟩⟩
theorem ex5 : (∃ a, p a ∧ q a ∧ r a ∧ s a ∧ a = a') ↔ p a' ∧ q a' ∧ r a' ∧ s a' := ⟨fun ⟨_, h, h2, h3, h4, e⟩ => e ▸ ⟨h, h2, h3, h4⟩, fun ⟨h, h2, h3, h4⟩ => ⟨a', h, h2, h3, h4, rfl⟩⟩
end
theorem loopN {n : Nat} {A B : Nat → Prop} : (∀ g : Nat, g ≤ n → ((g : Int) < (n : Int) → A g) ∧ (¬ (g : Int) < (n : Int) → B g)) ↔ (∀ g, g < n → A g) ∧ B n :=
 ⟨fun h => ⟨fun g hg => (h g (by omega)).1 (by omega), (h n (by omega)).2 (by omega)⟩, fun h g hg => ⟨fun hl => h.1 g (by omega), fun hl => by obtain rfl : g = n := (by omega); exact h.2⟩⟩
theorem loopM {n : Nat} {M A B : Nat → Prop} : (∀ g : Nat, g ≤ n ∧ M g → ((g : Int) < (n : Int) → A g) ∧ (¬ (g : Int) < (n : Int) → B g)) ↔ (∀ g, g < n → M g → A g) ∧ (M n → B n) :=
 ⟨fun h => ⟨fun g hg hm => (h g ⟨by omega, hm⟩).1 (by omega), fun hm => (h n ⟨by omega, hm⟩).2 (by omega)⟩, fun h g hg => ⟨fun hl => h.1 g (by omega) hg.2, fun hl => by obtain rfl : g = n := (by omega); exact h.2 hg.2⟩⟩
theorem beqI {a b : Int} : (a == b) = decide (a = b) := rfl
theorem bneI {a b : Int} : (a != b) = decide (a ≠ b) := by by_cases h : a = b <;> simp [h]
theorem fas {g : Nat} {P : Nat → Prop} : (∀ a : Nat, (g : Int) = (a : Int) → P a) ↔ P g := ⟨fun h => h g rfl, fun h a e => by obtain rfl : g = a := (by omega); exact h⟩
theorem fas2 {β : Type} {g : Nat} {P : Nat → β → Prop} {Q : Nat → β → Prop} : (∀ (a : Nat) (b : β), (g : Int) = (a : Int) ∧ P a b → Q a b) ↔ ∀ b, P g b → Q g b := ⟨fun h b hp => h g b ⟨rfl, hp⟩, fun h a b ⟨e, hp⟩ => by obtain rfl : g = a := (by omega); exact h b hp⟩
theorem fa2 {α β : Type} {g : α} {P : α → β → Prop} {Q : α → β → Prop} : (∀ a b, a = g ∧ P a b → Q a b) ↔ ∀ b, P g b → Q g b := ⟨fun h b hp => h g b ⟨rfl, hp⟩, fun h a b ⟨e, hp⟩ => by subst e; exact h b hp⟩
theorem dup1 {c X Y : Prop} : (c → (c → X) ∧ (¬c → Y)) ↔ (c → X) := ⟨fun h hc => (h hc).1 hc, fun h hc => ⟨h, fun n => absurd hc n⟩⟩
theorem dup2 {c X Y : Prop} : (¬c → (c → X) ∧ (¬c → Y)) ↔ (¬c → Y) := ⟨fun h hc => (h hc).2 hc, fun h hc => ⟨fun c => absurd c hc, h⟩⟩
theorem dup3 {b : Bool} {X Y : Prop} : (b = true → (b = true → X) ∧ (b = false → Y)) ↔ (b = true → X) := ⟨fun h hc => (h hc).1 hc, fun h hc => ⟨h, fun n => by (rw [hc] at n; cases n)⟩⟩
theorem dup4 {b : Bool} {X Y : Prop} : (b = false → (b = true → X) ∧ (b = false → Y)) ↔ (b = false → Y) := ⟨fun h hc => (h hc).2 hc, fun h hc => ⟨fun n => by (rw [hc] at n; cases n), h⟩⟩
end Go.Sx
namespace Go.Sx
def osN (v : AV) : Nat := match v with | .t (.c (.os n _ _)) => n | .t (.c (.ptr n _)) => n | .t (.c (.mp n)) => n | _ => 0
def oT : List (Nat × List Nat) → St → List (Nat × List Nat)
 | [], _ => []
 | (t, ws) :: l, st => (osN (st.tm t), ws) :: oT l st
end Go.Sx
namespace Go.Sx
abbrev exA := And.intro @exs1 <| And.intro @exn1 <| And.intro @exz1 <| And.intro @exo1 <| And.intro @exs2 <| And.intro @exn2 <| And.intro @exz2 <| And.intro @exo2 <| And.intro @exs3 <| And.intro @exn3 <| And.intro @exz3 <| And.intro @exo3 <| And.intro @exs4 <| And.intro @exn4 <| And.intro @exz4 <| And.intro @exo4 <| And.intro @exs5 <| And.intro @exn5 <| And.intro @exz5 <| And.intro @exo5 <| And.intro @exs6 <| And.intro @exn6 <| And.intro @exz6 <| And.intro @exo6 <| And.intro @exs7 <| And.intro @exn7 <| And.intro @exz7 <| And.intro @exo7 <| And.intro @exs8 <| And.intro @exn8 <| And.intro @exz8 <| And.intro @exo8 <| And.intro @exs9 <| And.intro @exn9 <| And.intro @exz9 <| @exo9
end Go.Sx
namespace Bm
open Go Go.Sx
def intC (n : Int) : TV := .c (.int .i64 n)
def allB : Nat → (Nat → Bool) → Bool
 | 0, _ => true
 | n + 1, p => allB n p && p n
theorem allB_iff {n : Nat} {p : Nat → Bool} : allB n p = true ↔ ∀ i, i < n → p i = true := by
 induction n with
 | zero => simp [allB]
 | succ n ih =>
   simp only [allB, Bool.and_eq_true, ih]
   constructor
   · rintro ⟨h1, h2⟩ i hi
     by_cases e : i = n
     · subst e; exact h2
     · exact h1 i (by omega)
   · exact fun h => ⟨fun i hi => h i (by omega), h n (by omega)⟩
def fst (p : Nat → Bool) : Nat → Nat
 | 0 => 0
 | n + 1 => if fst p n < n then fst p n else if p n then n else n + 1
def within (n lo hi : Int) : Bool := decide (lo ≤ n) && decide (n ≤ hi)
theorem within_iff {n lo hi : Int} : within n lo hi = true ↔ lo ≤ n ∧ n ≤ hi := by simp [within]
def oddsOk (o i : Int) : Bool := within i 1 1000 && within o 0 i
def ruleOk (N : Int) (r : Nat → Int) : Bool := decide (0 ≤ r 0) && decide (r 0 < r 3) && decide (r 3 ≤ N) && oddsOk (r 1) (r 2) && oddsOk (r 4) (r 5)
end Bm
namespace Bm
open Go Go.Sx
end Bm
namespace Bm
end Bm
namespace Bm
end Bm
namespace Bm
open Go Go.Sx
end Bm
namespace Go.Proofs.Ytpigkgoooekcgaa
open Go Go.Sx Bm
set_option maxRecDepth 100000
theorem runs (f : Nat) (h : (lookFn fnTab f).isSome = true) : ∃ fn c, Try.prog.funcs[f]? = some fn ∧ (fn.name == "runtime.NumGoroutine") = false ∧ fn.body = some c := fn_runs h
end Go.Proofs.Ytpigkgoooekcgaa
namespace Go.Proofs.Ytpigkgoooekcgaa
open Go Go.Sx Bm
set_option maxRecDepth 100000
def sIn : Sig := ⟨Int × Int × Int, fun x => [intC x.1, intC x.2.1, intC x.2.2], fun _ => True, fun x => [.v (.c (.bool (within x.1 x.2.1 x.2.2)))]⟩
end Go.Proofs.Ytpigkgoooekcgaa
namespace Bm
open Go Go.Sx
def intsCV (n : Nat) (f : Nat → Int) : CV := .vs 1 n (fun i _ => .int .i64 (f i))
theorem imax_ge {a b : Int} : a ≤ imax a b ∧ b ≤ imax a b := by unfold imax; split <;> omega
theorem imax_cases {a b : Int} : imax a b = a ∨ imax a b = b := by unfold imax; split <;> simp
end Bm
namespace Go.Proofs.Ytpigkgoooekcgaa
open Go Go.Sx Bm
set_option maxRecDepth 100000
theorem allB_no {n i : Nat} {p : Nat → Bool} (hi : i < n) (h : p i = false) : allB n p = false := by
 cases e : allB n p with
 | false => rfl
 | true => have := allB_iff.1 e i hi; rw [h] at this; cases this
end Go.Proofs.Ytpigkgoooekcgaa
namespace Go.Proofs.Ytpigkgoooekcgaa
open Go Go.Sx Bm
set_option maxRecDepth 100000
structure KeepIn where
 N : Nat
 o : Nat
 a : Nat
 r : Nat → Int
structure KeepIn.wf (g : KeepIn) : Prop where
 N : g.N ≤ 40
 o : g.o ≤ g.N
 a : g.a ≤ g.o
 rule : ruleOk g.N g.r = true
end Go.Proofs.Ytpigkgoooekcgaa
namespace Go.Proofs.Ytpigkgoooekcgaa
open Go Go.Sx Bm
set_option maxRecDepth 100000
end Go.Proofs.Ytpigkgoooekcgaa
namespace Bm
def lst (p : Nat → Bool) : Nat → Nat
 | 0 => 0
 | j + 1 => if p j then j else lst p j
structure BInv (p : Nat → Bool) (j c : Nat) (f : Nat → Int) : Prop where
 none : c = 0 → ∀ i, i < j → p i = false
 some : 0 < c → fst p j < j ∧ f 0 = fst p j ∧ f (c - 1) = lst p j ∧ ∀ i, i < c → f i ≤ lst p j
 le : c ≤ j
theorem BInv.no {p : Nat → Bool} {j c : Nat} {f : Nat → Int} (h : BInv p j c f) (hp : p j = false) : BInv p (j + 1) c f := by
 refine ⟨fun h0 i hi => ?_, fun h0 => ?_, by have := h.le; omega⟩
 · by_cases e : i = j
   · subst e; exact hp
   · exact h.none h0 i (by omega)
 · obtain ⟨h1, h2, h3, h4⟩ := h.some h0
   have e1 : fst p (j + 1) = fst p j := by show (if fst p j < j then fst p j else _) = _; rw [if_pos h1]
   have e2 : lst p (j + 1) = lst p j := by show (if p j then j else lst p j) = _; rw [hp]; rfl
   rw [e1, e2]
   exact ⟨by omega, h2, h3, h4⟩
end Bm
namespace Bm
end Bm
namespace Bm
end Bm
namespace Bm
open Go Go.Sx
end Bm
namespace Go.Proofs.Ytpigkgoooekcgaa
open Go Go.Sx Bm
set_option maxRecDepth 100000
end Go.Proofs.Ytpigkgoooekcgaa
namespace Go.Proofs.Ytpigkgoooekcgaa
open Go Go.Sx Bm
set_option maxRecDepth 100000
end Go.Proofs.Ytpigkgoooekcgaa
namespace Go.Sx
open Go
variable {P : Program} {E : Env}
end Go.Sx
namespace Go.Proofs.Ytpigkgoooekcgaa
open Go Go.Sx Bm
set_option maxRecDepth 100000
set_option maxHeartbeats 4000000
structure LdIn where
 n : Nat
 y : Nat → Nat → Int
 l : Nat → Int
 m : Int
structure LdIn.ok (x : LdIn) (lk : Nat → Int) : Prop where
 n4 : x.n ≤ 4
 l : ∀ j, j < x.n → 0 ≤ x.l j ∧ x.l j ≤ 1000
 k : ∀ j, j < x.n → 0 ≤ lk j ∧ lk j ≤ 1000
end Go.Proofs.Ytpigkgoooekcgaa
namespace Go.Proofs.Ytpigkgoooekcgaa
open Go Go.Sx Bm
set_option maxRecDepth 100000
set_option maxHeartbeats 4000000
structure TwoL where
 n : Nat
 f : Nat → Int
 m : Nat
 g : Nat → Int
def sameB (n : Nat) (f : Nat → Int) (m : Nat) (g : Nat → Int) : Bool := decide (n = m) && allB n (fun i => decide (f i = g i))
def sSame : Sig := ⟨TwoL, fun x => [.c (intsCV x.n x.f), .c (intsCV x.m x.g)], fun x => x.n < 4611686018427387904 ∧ x.m < 4611686018427387904, fun x => [.v (.c (.bool (sameB x.n x.f x.m x.g)))]⟩
def aSame (n : Nat) (f g : Nat → Int) : Ann := { G := Nat, ok := fun _ i => i ≤ n ∧ allB i (fun i => decide (f i = g i)) = true, dom := fun _ => [], tm := fun _ i => [(5, .t (intC i))], hp := fun _ _ => [], mu := fun _ i => n - i }
theorem q23 (x : sSame.α) (h : sSame.pre x) : CallQ Try.prog E0 23 (sSame.arg x) (sSame.res x) := by
 obtain ⟨n, f, m, g⟩ := x
 refine bare_say E0_ok [] SigsOk.nil [] EvensOk.nil runs { l := [(23, 4, aSame n f g)] } (fuel := 5) ?_
 refine of_red (q := (((↑n : Int) != (↑m : Int)) = true→True∧sameB n f m g = false)∧(((↑n : Int) != (↑m : Int)) = false→(∃ (g_1 : Nat), (g_1≤n∧(allB g_1 fun (i : Nat) => decide (f i = g i)) = true)∧True∧((True∧(0 : Int) = (↑g_1 : Int))∧True)∧True)∧∀ (g_1 : Nat), g_1≤n∧(allB g_1 fun (i : Nat) => decide (f i = g i)) = true→(decide ((↑g_1 : Int) < (↑n : Int)) = true→(0 : Int)≤(↑g_1 : Int)∧(↑g_1 : Int) < (↑n : Int)∧(0 : Int)≤(↑g_1 : Int)∧(↑g_1 : Int) < (↑m : Int)∧((f g_1 != g g_1) = true→True∧sameB n f m g = false)∧((f g_1 != g g_1) = false→inRange IntKind.i64 ((↑g_1 : Int) + (1 : Int))∧∃ (g' : Nat), (g'≤n∧(allB g' fun (i : Nat) => decide (f i = g i)) = true)∧n - g' < n - g_1∧True∧((True∧(↑g_1 : Int) + (1 : Int) = (↑g' : Int))∧True)∧True))∧(decide ((↑g_1 : Int) < (↑n : Int)) = false→True∧sameB n f m g = true))) (by kernel_rfl) ?_
 simp only [true_and, and_true, inR, Prod.exists, Prod.forall, and_assoc, exists_and_left, exists_eq_left', exists_eq_left, forall_eq, exists_const, forall_const, loopN, loopM, fa2, fas, fas2, dup1, dup2, dup3, dup4, ite_true, exhs, exhn, exhz, exho, exA, ex1, ex2, ex3, ex4, ex5, beqI, bneI, decide_true, Bool.true_and, decide_eq_true_eq, decide_eq_false_iff_not, ne_eq, Decidable.not_not]
 obtain ⟨h1, h2⟩ : n < 4611686018427387904 ∧ m < 4611686018427387904 := h
 refine ⟨fun e => by unfold sameB; rw [decide_eq_false (by omega)]; rfl, fun e => ?_⟩
 have e : n = m := by omega
 have e0 : decide (n = m) = true := decide_eq_true e
 refine ⟨Nat.zero_le _, rfl, fun i hi ha => ⟨by omega, by omega, by omega, by omega, fun c => ?_, fun c => ⟨by omega, by omega, by omega, ?_, by omega⟩⟩, fun ha => ?_⟩
 · unfold sameB
   rw [allB_no hi (decide_eq_false c), Bool.and_false]
 · show (allB i (fun i => decide (f i = g i)) && decide (f i = g i)) = true
   rw [ha, decide_eq_true c]; rfl
 · unfold sameB
   rw [e0, ha]; rfl
def sMod : Sig := ⟨Int × Int, fun x => [intC x.1, intC x.2], fun x => 0 < x.2 ∧ x.2 ≤ 4611686018427387904, fun x => [.v (intC (x.1 % x.2))]⟩
theorem q9 (x : sMod.α) (h : sMod.pre x) : CallQ Try.prog E0 9 (sMod.arg x) (sMod.res x) := by
 obtain ⟨a, b⟩ := x
 refine bare_say E0_ok [] SigsOk.nil [] EvensOk.nil runs {} (fuel := 5) ?_
 refine of_red (q := b ≠ (0 : Int)∧(decide (a.tmod b < (0 : Int)) = true→inRange IntKind.i64 (a.tmod b + b)∧True∧a.tmod b + b = a % b)∧(decide (a.tmod b < (0 : Int)) = false→True∧a.tmod b = a % b)) (by kernel_rfl) ?_
 simp only [true_and, and_true, inR, Prod.exists, Prod.forall, and_assoc, exists_and_left, exists_eq_left', exists_eq_left, forall_eq, exists_const, forall_const, loopN, loopM, fa2, fas, fas2, dup1, dup2, dup3, dup4, ite_true, exhs, exhn, exhz, exho, exA, ex1, ex2, ex3, ex4, ex5, beqI, bneI, decide_true, Bool.true_and, decide_eq_true_eq, decide_eq_false_iff_not, ne_eq, Decidable.not_not]
 obtain ⟨h1, h2⟩ : 0 < b ∧ b ≤ 4611686018427387904 := h
 have e0 := Int.tmod_eq_emod (a := a) (b := b)
 have b1 := Int.emod_nonneg a (show b ≠ 0 by omega)
 have b2 := Int.emod_lt_of_pos a (show 0 < b by omega)
 have n1 : ((b.natAbs : Nat) : Int) = b := by omega
 rw [e0]
 split <;> (try rw [n1]) <;> exact ⟨by omega, fun h => ⟨by omega, by omega, by omega⟩, fun h => by omega⟩
end Go.Proofs.Ytpigkgoooekcgaa
namespace Bm
open Go Go.Sx
end Bm
namespace Go.Proofs.Ytpigkgoooekcgaa
open Go Go.Sx Bm
set_option maxRecDepth 100000
set_option maxHeartbeats 4000000
end Go.Proofs.Ytpigkgoooekcgaa
namespace Bm
open Go Go.Sx
def sm (f : Nat → Int) : Nat → Int
 | 0 => 0
 | i + 1 => sm f i + f i
theorem sm_bd {f : Nat → Int} {K : Int} : ∀ {n : Nat}, (∀ i, i < n → 0 ≤ f i ∧ f i ≤ K) → 0 ≤ sm f n ∧ sm f n ≤ n * K
 | 0, _ => by unfold sm; simp
 | n + 1, h => by
   have h1 := sm_bd (f := f) (K := K) (n := n) fun i hi => h i (by omega)
   have h2 := h n (by omega)
   unfold sm
   have e : ((n + 1 : Nat) : Int) * K = n * K + K := by rw [Int.natCast_succ, Int.add_mul, Int.one_mul]
   rw [e]
   omega
theorem sm_le {f g : Nat → Int} : ∀ {n : Nat}, (∀ i, i < n → f i ≤ g i) → sm f n ≤ sm g n
 | 0, _ => Int.le_refl _
 | n + 1, h => by
   have := sm_le (n := n) fun i hi => h i (by omega)
   have := h n (by omega)
   unfold sm; omega
theorem sm_const {a : Int} : ∀ {n : Nat}, sm (fun _ => a) n = n * a
 | 0 => by unfold sm; simp
 | n + 1 => by
   unfold sm
   rw [sm_const (n := n), Int.natCast_succ, Int.add_mul, Int.one_mul]
def atI (f : Nat → Int) (L : Int) (i : Nat) : Int := imin (f i) L
def lvS (n : Nat) (f : Nat → Int) (L : Int) : Int := sm (atI f L) n
theorem imin_mono {a b c : Int} (h : b ≤ c) : imin a b ≤ imin a c := by
 unfold imin; split <;> split <;> omega
theorem lvS_mono {n : Nat} {f : Nat → Int} {L M : Int} (h : L ≤ M) : lvS n f L ≤ lvS n f M := sm_le fun _ _ => imin_mono h
theorem imin_b3 {a b : Int} : imin a b ≤ a ∧ imin a b ≤ b ∧ (imin a b = a ∨ imin a b = b) := by
 unfold imin; split <;> omega
theorem atI_bd {f : Nat → Int} {L : Int} {i : Nat} (h0 : 0 ≤ f i) (h1 : f i ≤ 100000) (hL : 0 ≤ L) : 0 ≤ atI f L i ∧ atI f L i ≤ 100000 := by
 have h := imin_b3 (a := f i) (b := L)
 show 0 ≤ imin (f i) L ∧ imin (f i) L ≤ 100000
 rcases h.2.2 with e | e <;> omega
def lvT (n : Nat) (f : Nat → Int) (q : Int) : Nat → Nat
 | 0 => 0
 | k + 1 => if lvS n f ((k + 1 : Nat) : Int) ≤ q then k + 1 else lvT n f q k
theorem lvT_eq {n : Nat} {f : Nat → Int} {q : Int} {L : Nat} (h1 : lvS n f L ≤ q) : ∀ {k : Nat}, L ≤ k → (L = k ∨ q < lvS n f ((L + 1 : Nat) : Int)) → lvT n f q k = L
 | 0, hk, _ => by show 0 = L; omega
 | k + 1, hk, h => by
   unfold lvT
   by_cases e : L = k + 1
   · subst e; rw [if_pos h1]
   · have h2 : q < lvS n f ((L + 1 : Nat) : Int) := h.elim (fun h => absurd h e) id
     have h3 := lvS_mono (n := n) (f := f) (L := ((L + 1 : Nat) : Int)) (M := ((k + 1 : Nat) : Int)) (by omega)
     rw [if_neg (by omega)]
     exact lvT_eq h1 (by omega) (.inr h2)
def gtN (f : Nat → Int) (L : Int) : Nat → Nat
 | 0 => 0
 | i + 1 => gtN f L i + if L < f i then 1 else 0
def shL (n : Nat) (f : Nat → Int) (q : Int) : Nat := lvT n f q 100000
def shR (n : Nat) (f : Nat → Int) (q : Int) : Int := q - lvS n f (shL n f q)
def shI (n : Nat) (f : Nat → Int) (q : Int) (i : Nat) : Int := atI f (shL n f q) i + (if (shL n f q : Int) < f i ∧ (gtN f (shL n f q) i : Int) < shR n f q then 1 else 0)
end Bm
namespace Go.Proofs.Ytpigkgoooekcgaa
open Go Go.Sx Bm
set_option maxRecDepth 100000
set_option maxHeartbeats 4000000
def sSm : Sig := ⟨Nat × (Nat → Int), fun x => [.c (intsCV x.1 x.2)], fun x => x.1 ≤ 10 ∧ ∀ i, i < x.1 → 0 ≤ x.2 i ∧ x.2 i ≤ 10000000, fun x => [.v (intC (sm x.2 x.1))]⟩
def aSm (n : Nat) (f : Nat → Int) : Ann := { G := Nat, ok := fun _ i => i ≤ n, dom := fun _ => [], tm := fun _ i => [(7, .t (intC i)), (2, .t (intC (sm f i)))], hp := fun _ _ => [], mu := fun _ i => n - i }
theorem q46 (x : sSm.α) (h : sSm.pre x) : CallQ Try.prog E0 46 (sSm.arg x) (sSm.res x) := by
 obtain ⟨n, f⟩ := x
 refine bare_say E0_ok [] SigsOk.nil [] EvensOk.nil runs { l := [(46, 2, aSm n f)] } (fuel := 5) ?_
 refine of_red (q := (∃ (g : Nat), g≤n∧True∧((True∧(0 : Int) = (↑g : Int))∧(True∧(0 : Int) = sm f g)∧True)∧True)∧∀ (g : Nat), g≤n→(decide ((↑g : Int) < (↑n : Int)) = true→(0 : Int)≤(↑g : Int)∧(↑g : Int) < (↑n : Int)∧inRange IntKind.i64 (sm f g + f g)∧inRange IntKind.i64 ((↑g : Int) + (1 : Int))∧∃ (g' : Nat), g'≤n∧n - g' < n - g∧True∧((True∧(↑g : Int) + (1 : Int) = (↑g' : Int))∧(True∧sm f g + f g = sm f g')∧True)∧True)∧(decide ((↑g : Int) < (↑n : Int)) = false→True∧sm f g = sm f n)) (by kernel_rfl) ?_
 simp only [true_and, and_true, inR, Prod.exists, Prod.forall, and_assoc, exists_and_left, exists_eq_left', exists_eq_left, forall_eq, exists_const, forall_const, loopN, loopM, fa2, fas, fas2, dup1, dup2, dup3, dup4, ite_true, exhs, exhn, exhz, exho, exA, ex1, ex2, ex3, ex4, ex5, beqI, bneI, decide_true, Bool.true_and, decide_eq_true_eq, decide_eq_false_iff_not, ne_eq, Decidable.not_not]
 obtain ⟨hn, hf⟩ : n ≤ 10 ∧ ∀ i, i < n → 0 ≤ f i ∧ f i ≤ 10000000 := h
 refine ⟨⟨0, Nat.zero_le _, rfl, rfl⟩, fun g hg => ?_⟩
 have b := sm_bd (f := f) (K := 10000000) (n := g + 1) fun i hi => hf i (by omega)
 have e : sm f (g + 1) = sm f g + f g := rfl
 exact ⟨by omega, by omega, by omega, by omega, by omega, by omega, g + 1, by omega, by omega, by omega, rfl⟩
theorem q65 (x : sIn.α) : CallQ Try.prog E0 65 (sIn.arg x) (sIn.res x) := by
 refine bare_all E0_ok [] SigsOk.nil [] EvensOk.nil runs [] [] [] [] (fuel := 5) ?_
 refine of_red (q := (decide (x.snd.fst≤x.fst) = true→True∧decide (x.fst≤x.snd.snd) = within x.fst x.snd.fst x.snd.snd)∧(decide (x.snd.fst≤x.fst) = false→True∧within x.fst x.snd.fst x.snd.snd = false)) (by kernel_rfl) ?_
 simp [within]
 try omega
def TSA0 : List (Nat × Sig) := (46, sSm) :: (65, sIn) :: []
theorem TSA0_ok : SigsOk Try.prog E0 TSA0 := (SigsOk.nil.cons (runs 65 (by kernel_rfl)) fun x _ => q65 x).cons (runs 46 (by kernel_rfl)) q46
structure ClIn where
 n : Nat
 f : Nat → Int
 q : Int
structure ClIn.ok (x : ClIn) : Prop where
 n1 : 1 ≤ x.n
 n8 : x.n ≤ 8
 f : ∀ i, i < x.n → 0 ≤ x.f i ∧ x.f i ≤ 100000
 q0 : 0 ≤ x.q
 q1 : x.q ≤ sm x.f x.n
def clTV (x : ClIn) : TV := .a 2 (ofList [.int .i64 x.q, intsCV x.n x.f])
def sGet : Sig := ⟨ClIn × Int × Int, fun x => [clTV x.1, intC x.2.1, intC x.2.2], fun x => 0 ≤ x.2.1 ∧ x.2.1 < x.1.n, fun x => [.v (intC (atI x.1.f x.2.2 x.2.1.toNat))]⟩
theorem q68 (x : sGet.α) (h : sGet.pre x) : CallQ Try.prog E0 68 (sGet.arg x) (sGet.res x) := by
 obtain ⟨c, i, L⟩ := x
 refine bare_say E0_ok [] SigsOk.nil [] EvensOk.nil runs {} (fuel := 5) ?_
 refine of_red (q := (0 : Int)≤i∧i < (↑c.n : Int)∧True∧imin (c.f i.toNat) L = atI c.f (i, L).snd (i, L).fst.toNat) (by kernel_rfl) ?_
 simp only [true_and, and_true, inR, Prod.exists, Prod.forall, and_assoc, exists_and_left, exists_eq_left', exists_eq_left, forall_eq, exists_const, forall_const, loopN, loopM, fa2, fas, fas2, dup1, dup2, dup3, dup4, ite_true, exhs, exhn, exhz, exho, exA, ex1, ex2, ex3, ex4, ex5, beqI, bneI, decide_true, Bool.true_and, decide_eq_true_eq, decide_eq_false_iff_not, ne_eq, Decidable.not_not]
 exact ⟨h.1, h.2, rfl⟩
def sOut : Sig := ⟨Int, fun x => [intC x], fun _ => True, fun x => [.v (.c (.bool (!within x 0 100000)))]⟩
theorem q67 (x : sOut.α) : CallQ Try.prog E0 67 (sOut.arg x) (sOut.res x) := by
 refine bare_say E0_ok TSA0 TSA0_ok [] EvensOk.nil runs {} (fuel := 5) ?_
 refine of_red (q := ∃ (x_1 : Int × Int × Int), ((True∧x = x_1.fst)∧(True∧(0 : Int) = x_1.snd.fst)∧(True∧(100000 : Int) = x_1.snd.snd)∧True)∧True∧True∧(!within x_1.fst x_1.snd.fst x_1.snd.snd) = !within x (0 : Int) (100000 : Int)) (by kernel_rfl) ?_
 simp only [true_and, and_true, inR, Prod.exists, Prod.forall, and_assoc, exists_and_left, exists_eq_left', exists_eq_left, forall_eq, exists_const, forall_const, loopN, loopM, fa2, fas, fas2, dup1, dup2, dup3, dup4, ite_true, exhs, exhn, exhz, exho, exA, ex1, ex2, ex3, ex4, ex5, beqI, bneI, decide_true, Bool.true_and, decide_eq_true_eq, decide_eq_false_iff_not, ne_eq, Decidable.not_not]
 exact ⟨x, rfl, rfl⟩
def outC : CV := .fn 67 [] (fun _ _ => .any) 0 (fun _ => .any)
def TSA1 : List (Nat × Sig) := (67, sOut) :: (68, sGet) :: TSA0
theorem TSA1_ok : SigsOk Try.prog E0 TSA1 := (TSA0_ok.cons (runs 68 (by kernel_rfl)) q68).cons (runs 67 (by kernel_rfl)) fun x _ => q67 x
def sIx : Sig := ⟨Nat × (Nat → Int), fun x => [.c (intsCV x.1 x.2), .c outC], fun x => x.1 ≤ 10 ∧ ∀ i, i < x.1 → 0 ≤ x.2 i ∧ x.2 i ≤ 100000, fun _ => [.v (intC (-1))]⟩
def aIx (n : Nat) : Ann := { G := Nat, ok := fun _ i => i ≤ n, dom := fun _ => [], tm := fun _ i => [(8, .t (intC i))], hp := fun _ _ => [], mu := fun _ i => n - i }
theorem q80 (x : sIx.α) (h : sIx.pre x) : CallQ Try.prog E0 80 (sIx.arg x) (sIx.res x) := by
 obtain ⟨n, f⟩ := x
 refine bare_say E0_ok TSA1 TSA1_ok [] EvensOk.nil runs { l := [(80, 2, aIx n)] } (fuel := 5) ?_
 refine of_red (q := (∃ (g : Nat), g≤n∧True∧((True∧(0 : Int) = (↑g : Int))∧True)∧True)∧∀ (g : Nat), g≤n→(decide ((↑g : Int) < (↑n : Int)) = true→(0 : Int)≤(↑g : Int)∧(↑g : Int) < (↑n : Int)∧∃ (x : Int), ((True∧f g = x)∧True)∧True∧((!within x (0 : Int) (100000 : Int)) = true→True∧(↑g : Int) = (-1 : Int))∧((!within x (0 : Int) (100000 : Int)) = false→inRange IntKind.i64 ((↑g : Int) + (1 : Int))∧∃ (g' : Nat), g'≤n∧n - g' < n - g∧True∧((True∧(↑g : Int) + (1 : Int) = (↑g' : Int))∧True)∧True))∧(decide ((↑g : Int) < (↑n : Int)) = false→True∧(-1 : Int) = (-1 : Int))) (by kernel_rfl) ?_
 simp only [true_and, and_true, inR, Prod.exists, Prod.forall, and_assoc, exists_and_left, exists_eq_left', exists_eq_left, forall_eq, exists_const, forall_const, loopN, loopM, fa2, fas, fas2, dup1, dup2, dup3, dup4, ite_true, exhs, exhn, exhz, exho, exA, ex1, ex2, ex3, ex4, ex5, beqI, bneI, decide_true, Bool.true_and, decide_eq_true_eq, decide_eq_false_iff_not, ne_eq, Decidable.not_not]
 obtain ⟨hn, hf⟩ : n ≤ 10 ∧ ∀ i, i < n → 0 ≤ f i ∧ f i ≤ 100000 := h
 refine ⟨Nat.zero_le _, fun g hg => ⟨by omega, by omega, fun h => ?_, fun _ => ⟨by omega, by omega, by omega, by omega⟩⟩⟩
 rw [Bm.within_iff.2 (hf g hg)] at h; cases h
def sCtn : Sig := ⟨Nat × (Nat → Int), fun x => [.c (intsCV x.1 x.2), .c outC], fun x => x.1 ≤ 10 ∧ ∀ i, i < x.1 → 0 ≤ x.2 i ∧ x.2 i ≤ 100000, fun _ => [.v (.c (.bool false))]⟩
def TSA2 : List (Nat × Sig) := (80, sIx) :: TSA1
theorem TSA2_ok : SigsOk Try.prog E0 TSA2 := TSA1_ok.cons (runs 80 (by kernel_rfl)) q80
theorem q66 (x : sCtn.α) (h : sCtn.pre x) : CallQ Try.prog E0 66 (sCtn.arg x) (sCtn.res x) := by
 obtain ⟨n, f⟩ := x
 refine bare_say E0_ok TSA2 TSA2_ok [] EvensOk.nil runs {} (fuel := 5) ?_
 refine of_red (q := ∃ (x : Nat × (Nat→Int)), ((True∧True∧n = x.fst∧∀ (i : Nat), i < n→True∧f i = x.snd i)∧(True∧(CV.fn (67 : FuncId) [] (fun (x x_1 : Nat) => CV.any) (0 : Nat) fun (x : Nat) => CV.any) = CV.fn (67 : FuncId) [] (fun (x x_1 : Nat) => CV.any) (0 : Nat) fun (x : Nat) => CV.any)∧True)∧(x.fst≤(10 : Nat)∧∀ (i : Nat), i < x.fst→(0 : Int)≤x.snd i∧x.snd i≤(100000 : Int))∧True∧decide ((0 : Int)≤(-1 : Int)) = false) (by kernel_rfl) ?_
 simp only [true_and, and_true, inR, Prod.exists, Prod.forall, and_assoc, exists_and_left, exists_eq_left', exists_eq_left, forall_eq, exists_const, forall_const, loopN, loopM, fa2, fas, fas2, dup1, dup2, dup3, dup4, ite_true, exhs, exhn, exhz, exho, exA, ex1, ex2, ex3, ex4, ex5, beqI, bneI, decide_true, Bool.true_and, decide_eq_true_eq, decide_eq_false_iff_not, ne_eq, Decidable.not_not]
 exact ⟨f, fun _ _ => rfl, h.1, h.2, by decide⟩
def TSA3 : List (Nat × Sig) := (66, sCtn) :: TSA2
theorem TSA3_ok : SigsOk Try.prog E0 TSA3 := TSA2_ok.cons (runs 66 (by kernel_rfl)) q66
def sClk : Sig := ⟨ClIn, fun x => [clTV x], fun x => x.ok, fun _ => [.v (intC 0)]⟩
theorem q45 (x : sClk.α) (h : sClk.pre x) : CallQ Try.prog E0 45 (sClk.arg x) (sClk.res x) := by
 refine bare_say E0_ok TSA3 TSA3_ok [] EvensOk.nil runs {} (fuel := 5) ?_
 refine of_red (q := ∃ (x_1 : Int × Int × Int), ((True∧(↑x.n : Int) = x_1.fst)∧(True∧(1 : Int) = x_1.snd.fst)∧(True∧(8 : Int) = x_1.snd.snd)∧True)∧True∧((!within x_1.fst x_1.snd.fst x_1.snd.snd) = true→True∧(100 : Int) = (0 : Int))∧((!within x_1.fst x_1.snd.fst x_1.snd.snd) = false→∃ (x_2 : Nat × (Nat→Int)), ((True∧True∧x.n = x_2.fst∧∀ (i : Nat), i < x.n→True∧x.f i = x_2.snd i)∧(True∧(CV.fn (67 : Nat) [] (fun (x x_3 : Nat) => CV.any) (0 : Nat) fun (x : Nat) => CV.any) = CV.fn (67 : FuncId) [] (fun (x x_3 : Nat) => CV.any) (0 : Nat) fun (x : Nat) => CV.any)∧True)∧(x_2.fst≤(10 : Nat)∧∀ (i : Nat), i < x_2.fst→(0 : Int)≤x_2.snd i∧x_2.snd i≤(100000 : Int))∧(false = true→True∧(100 : Int) = (0 : Int))∧(false = false→∃ (x_3 : Nat × (Nat→Int)), ((True∧True∧x.n = x_3.fst∧∀ (i : Nat), i < x.n→True∧x.f i = x_3.snd i)∧True)∧(x_3.fst≤(10 : Nat)∧∀ (i : Nat), i < x_3.fst→(0 : Int)≤x_3.snd i∧x_3.snd i≤(10000000 : Int))∧∃ (x_4 : Int × Int × Int), ((True∧x.q = x_4.fst)∧(True∧(0 : Int) = x_4.snd.fst)∧(True∧sm x_3.snd x_3.fst = x_4.snd.snd)∧True)∧True∧((!within x_4.fst x_4.snd.fst x_4.snd.snd) = true→True∧(100 : Int) = (0 : Int))∧((!within x_4.fst x_4.snd.fst x_4.snd.snd) = false→True∧(0 : Int) = (0 : Int))))) (by kernel_rfl) ?_
 simp only [true_and, and_true, inR, Prod.exists, Prod.forall, and_assoc, exists_and_left, exists_eq_left', exists_eq_left, forall_eq, exists_const, forall_const, loopN, loopM, fa2, fas, fas2, dup1, dup2, dup3, dup4, ite_true, exhs, exhn, exhz, exho, exA, ex1, ex2, ex3, ex4, ex5, beqI, bneI, decide_true, Bool.true_and, decide_eq_true_eq, decide_eq_false_iff_not, ne_eq, Decidable.not_not]
 obtain ⟨n1, n8, hf, q0, q1⟩ : x.ok := h
 refine ⟨fun h => ?_, fun _ => ⟨x.f, fun _ _ => rfl, by omega, hf, fun h => Bool.noConfusion h, x.f, fun _ _ => rfl, by omega, fun i hi => ?_, fun h => ?_, fun _ => trivial⟩⟩
 · rw [Bm.within_iff.2 ⟨by omega, by omega⟩] at h; cases h
 · have := hf i hi; omega
 · rw [Bm.within_iff.2 ⟨q0, q1⟩] at h; cases h
def sAt : Sig := ⟨ClIn × Int, fun x => [clTV x.1, intC x.2], fun x => x.1.n ≤ 8, fun x => [.own 3 1 x.1.n (fun i _ => .int .i64 (atI x.1.f x.2 i))]⟩
def aAt (c : ClIn) (L : Int) : Ann := { G := Nat, ok := fun _ i => i ≤ c.n, dom := fun st => [st.nx], tm := fun st i => [(12, .t (intC i)), (6, .t (.c (.os st.nx 1 i)))], hp := fun st i => [(st.nx, .slot 6, some (.row 3 1 i (fun j _ => .int .i64 (atI c.f L j))))], mu := fun _ i => c.n - i }
theorem q47 (x : sAt.α) (h : sAt.pre x) : CallQ Try.prog E0 47 (sAt.arg x) (sAt.res x) := by
 obtain ⟨c, L⟩ := x
 refine bare_say E0_ok TSA3 TSA3_ok [] EvensOk.nil runs { l := [(47, 4, aAt c L)] } (fuel := 5) ?_
 refine of_red (q := (∃ (g : Nat), g≤c.n∧True∧((True∧(0 : Int) = (↑g : Int))∧(True∧g = (0 : Nat))∧True)∧g = (0 : Nat)∧True)∧∀ (g : Nat), g≤c.n→(decide ((↑g : Int) < (↑c.n : Int)) = true→∃ (x : ClIn × Int × Int), ((True∧(True∧True∧c.q = x.fst.q)∧True∧True∧c.n = x.fst.n∧∀ (i : Nat), i < c.n→True∧c.f i = x.fst.f i)∧(True∧(↑g : Int) = x.snd.fst)∧(True∧L = x.snd.snd)∧True)∧((0 : Int)≤x.snd.fst∧x.snd.fst < (↑x.fst.n : Int))∧(g + (1 : Nat)) * (8 : Nat)≤(140737488355328 : Nat)∧g + (1 : Nat) < (4611686018427387904 : Nat)∧inRange IntKind.i64 ((↑g : Int) + (1 : Int))∧∃ (g' : Nat), g'≤c.n∧c.n - g' < c.n - g∧True∧((True∧(↑g : Int) + (1 : Int) = (↑g' : Int))∧(True∧True∧g + (1 : Nat) = g')∧True)∧(True∧True∧g + (1 : Nat) = g'∧∀ (i : Nat), i < g + (1 : Nat)→True∧(if i < g then atI c.f L i else if i - g = (0 : Nat) then atI x.fst.f x.snd.snd x.snd.fst.toNat else (0 : Int)) = atI c.f L i)∧True)∧(decide ((↑g : Int) < (↑c.n : Int)) = false→True∧g = c.n∧True∧True∧g = c.n∧∀ (i : Nat), i < g→True∧atI c.f L i = atI c.f L i)) (by kernel_rfl) ?_
 simp only [true_and, and_true, inR, Prod.exists, Prod.forall, and_assoc, exists_and_left, exists_eq_left', exists_eq_left, forall_eq, exists_const, forall_const, loopN, loopM, fa2, fas, fas2, dup1, dup2, dup3, dup4, ite_true, exhs, exhn, exhz, exho, exA, ex1, ex2, ex3, ex4, ex5, beqI, bneI, decide_true, Bool.true_and, decide_eq_true_eq, decide_eq_false_iff_not, ne_eq, Decidable.not_not]
 have h8 : c.n ≤ 8 := h
 refine ⟨Nat.zero_le _, rfl, fun g hg => ⟨c, rfl, rfl, fun _ _ => rfl, by omega, by omega, by omega, by omega, by omega, by omega, g + 1, by omega, by omega, by omega, rfl, rfl, fun i hi => ?_⟩, fun _ _ => trivial⟩
 by_cases e : i < g
 · rw [if_pos e]
 · rw [if_neg e, if_pos (by omega), show ((g : Int)).toNat = i by omega]
def TSA4 : List (Nat × Sig) := (47, sAt) :: (45, sClk) :: TSA3
theorem TSA4_ok : SigsOk Try.prog E0 TSA4 := (TSA3_ok.cons (runs 45 (by kernel_rfl)) q45).cons (runs 47 (by kernel_rfl)) q47
def sShs : Sig := ⟨ClIn, fun x => [clTV x], fun x => x.ok, fun x => [.own 3 1 x.n (fun i _ => .int .i64 (shI x.n x.f x.q i)), .v (intC 0)]⟩
def aSh1 (c : ClIn) : Ann := { G := Nat × Nat, ok := fun _ g => g.1 < g.2 ∧ g.2 ≤ 100001 ∧ lvS c.n c.f g.1 ≤ c.q ∧ (g.2 = 100001 ∨ c.q < lvS c.n c.f g.2), dom := fun _ => [], tm := fun _ g => [(6, .t (intC g.1)), (7, .t (intC g.2))], hp := fun _ _ => [], mu := fun _ g => g.2 - g.1 }
def lfI (c : ClIn) (i : Nat) : Int := imax 0 (shR c.n c.f c.q - gtN c.f (shL c.n c.f c.q) i)
def aSh2 (c : ClIn) : Ann := { G := Nat, ok := fun _ i => i ≤ c.n, dom := fun st => [osN (st.tm 9)], tm := fun _ i => [(48, .t (intC i)), (10, .t (intC (lfI c i)))], hp := fun st i => [(osN (st.tm 9), .self, some (.row 3 1 c.n (fun j _ => .int .i64 (if j < i then shI c.n c.f c.q j else atI c.f (shL c.n c.f c.q) j))))], mu := fun _ i => c.n - i }
theorem lf_yes {c : ClIn} {g : Nat} (h : 0 < lfI c g) (hv : (shL c.n c.f c.q : Int) < c.f g) : lfI c g - 1 = lfI c (g + 1) ∧ shI c.n c.f c.q g = atI c.f (shL c.n c.f c.q) g + 1 := by
 have e1 : lfI c g = imax 0 (shR c.n c.f c.q - gtN c.f (shL c.n c.f c.q) g) := rfl
 have e2 : lfI c (g + 1) = imax 0 (shR c.n c.f c.q - ((gtN c.f (shL c.n c.f c.q) g + if (shL c.n c.f c.q : Int) < c.f g then 1 else 0 : Nat) : Int)) := rfl
 rw [if_pos hv] at e2
 have a1 := imax_cases (a := 0) (b := shR c.n c.f c.q - gtN c.f (shL c.n c.f c.q) g)
 have a2 := imax_cases (a := 0) (b := shR c.n c.f c.q - ((gtN c.f (shL c.n c.f c.q) g + 1 : Nat) : Int))
 have a3 := imax_ge (a := 0) (b := shR c.n c.f c.q - ((gtN c.f (shL c.n c.f c.q) g + 1 : Nat) : Int))
 refine ⟨by omega, ?_⟩
 unfold shI
 rw [if_pos ⟨hv, by omega⟩]
theorem lf_no {c : ClIn} {g : Nat} (h : ¬ 0 < lfI c g ∨ ¬ (shL c.n c.f c.q : Int) < c.f g) : lfI c g = lfI c (g + 1) ∧ shI c.n c.f c.q g = atI c.f (shL c.n c.f c.q) g := by
 have e1 : lfI c g = imax 0 (shR c.n c.f c.q - gtN c.f (shL c.n c.f c.q) g) := rfl
 have e2 : lfI c (g + 1) = imax 0 (shR c.n c.f c.q - ((gtN c.f (shL c.n c.f c.q) g + if (shL c.n c.f c.q : Int) < c.f g then 1 else 0 : Nat) : Int)) := rfl
 have a1 := imax_cases (a := 0) (b := shR c.n c.f c.q - gtN c.f (shL c.n c.f c.q) g)
 have a4 := imax_ge (a := 0) (b := shR c.n c.f c.q - gtN c.f (shL c.n c.f c.q) g)
 by_cases hv : (shL c.n c.f c.q : Int) < c.f g
 · have hp := h.resolve_right (fun q => q hv)
   rw [if_pos hv] at e2
   have a2 := imax_cases (a := 0) (b := shR c.n c.f c.q - ((gtN c.f (shL c.n c.f c.q) g + 1 : Nat) : Int))
   have a3 := imax_ge (a := 0) (b := shR c.n c.f c.q - ((gtN c.f (shL c.n c.f c.q) g + 1 : Nat) : Int))
   refine ⟨by omega, ?_⟩
   unfold shI
   rw [if_neg (fun q => by have := q.2; omega), Int.add_zero]
 · rw [if_neg hv] at e2
   refine ⟨by rw [e1, e2, Nat.add_zero], ?_⟩
   unfold shI
   rw [if_neg (fun q => hv q.1), Int.add_zero]
theorem q21 (x : sShs.α) (h : sShs.pre x) : CallQ Try.prog E0 21 (sShs.arg x) (sShs.res x) := by
 refine bare_say E0_ok TSA4 TSA4_ok [] EvensOk.nil runs { l := [(21, 6, aSh1 x), (21, 14, aSh2 x)] } (fuel := 5) ?_
 refine of_red (q := ∃ (x_1 : ClIn), ((True∧(True∧True∧x.q = x_1.q)∧True∧True∧x.n = x_1.n∧∀ (i : Nat), i < x.n→True∧x.f i = x_1.f i)∧True)∧x_1.ok∧(((0 : Int) != (0 : Int)) = true→x.n = (0 : Nat)∧True∧True∧(0 : Int) = (0 : Int))∧(((0 : Int) != (0 : Int)) = false→(∃ (g : Nat × Nat), (g.fst < g.snd∧g.snd≤(100001 : Nat)∧lvS x.n x.f (↑g.fst : Int)≤x.q∧(g.snd = (100001 : Nat)∨x.q < lvS x.n x.f (↑g.snd : Int)))∧True∧((True∧(0 : Int) = (↑g.fst : Int))∧(True∧(100001 : Int) = (↑g.snd : Int))∧True)∧True)∧∀ (g : Nat × Nat), g.fst < g.snd∧g.snd≤(100001 : Nat)∧lvS x.n x.f (↑g.fst : Int)≤x.q∧(g.snd = (100001 : Nat)∨x.q < lvS x.n x.f (↑g.snd : Int))→inRange IntKind.i64 ((↑g.snd : Int) - (↑g.fst : Int))∧(decide ((1 : Int) < (↑g.snd : Int) - (↑g.fst : Int)) = true→inRange IntKind.i64 ((↑g.fst : Int) + (↑g.snd : Int))∧(2 : Int) ≠ (0 : Int)∧inRange IntKind.i64 (((↑g.fst : Int) + (↑g.snd : Int)).tdiv (2 : Int))∧∃ (x_2 : ClIn × Int), ((True∧(True∧True∧x.q = x_2.fst.q)∧True∧True∧x.n = x_2.fst.n∧∀ (i : Nat), i < x.n→True∧x.f i = x_2.fst.f i)∧(True∧((↑g.fst : Int) + (↑g.snd : Int)).tdiv (2 : Int) = x_2.snd)∧True)∧x_2.fst.n≤(8 : Nat)∧∃ (x_3 : Nat × (Nat→Int)), ((True∧True∧x_2.fst.n = x_3.fst∧∀ (i : Nat), i < x_2.fst.n→True∧atI x_2.fst.f x_2.snd i = x_3.snd i)∧True)∧(x_3.fst≤(10 : Nat)∧∀ (i : Nat), i < x_3.fst→(0 : Int)≤x_3.snd i∧x_3.snd i≤(10000000 : Int))∧(decide (sm x_3.snd x_3.fst≤x.q) = true→∃ (g' : Nat × Nat), (g'.fst < g'.snd∧g'.snd≤(100001 : Nat)∧lvS x.n x.f (↑g'.fst : Int)≤x.q∧(g'.snd = (100001 : Nat)∨x.q < lvS x.n x.f (↑g'.snd : Int)))∧g'.snd - g'.fst < g.snd - g.fst∧True∧((True∧((↑g.fst : Int) + (↑g.snd : Int)).tdiv (2 : Int) = (↑g'.fst : Int))∧(True∧(↑g.snd : Int) = (↑g'.snd : Int))∧True)∧True)∧(decide (sm x_3.snd x_3.fst≤x.q) = false→∃ (g' : Nat × Nat), (g'.fst < g'.snd∧g'.snd≤(100001 : Nat)∧lvS x.n x.f (↑g'.fst : Int)≤x.q∧(g'.snd = (100001 : Nat)∨x.q < lvS x.n x.f (↑g'.snd : Int)))∧g'.snd - g'.fst < g.snd - g.fst∧True∧((True∧(↑g.fst : Int) = (↑g'.fst : Int))∧(True∧((↑g.fst : Int) + (↑g.snd : Int)).tdiv (2 : Int) = (↑g'.snd : Int))∧True)∧True))∧(decide ((1 : Int) < (↑g.snd : Int) - (↑g.fst : Int)) = false→∃ (x_2 : ClIn × Int), ((True∧(True∧True∧x.q = x_2.fst.q)∧True∧True∧x.n = x_2.fst.n∧∀ (i : Nat), i < x.n→True∧x.f i = x_2.fst.f i)∧(True∧(↑g.fst : Int) = x_2.snd)∧True)∧x_2.fst.n≤(8 : Nat)∧∃ (x_3 : Nat × (Nat→Int)), ((True∧True∧x_2.fst.n = x_3.fst∧∀ (i : Nat), i < x_2.fst.n→True∧atI x_2.fst.f x_2.snd i = x_3.snd i)∧True)∧(x_3.fst≤(10 : Nat)∧∀ (i : Nat), i < x_3.fst→(0 : Int)≤x_3.snd i∧x_3.snd i≤(10000000 : Int))∧inRange IntKind.i64 (x.q - sm x_3.snd x_3.fst)∧(∃ (g : Nat), g≤x.n∧True∧((True∧(0 : Int) = (↑g : Int))∧(True∧x.q - sm x_3.snd x_3.fst = lfI x g)∧True)∧(True∧True∧x_2.fst.n = x.n∧∀ (i : Nat), i < x_2.fst.n→True∧atI x_2.fst.f x_2.snd i = if i < g then shI x.n x.f x.q i else atI x.f (↑(shL x.n x.f x.q) : Int) i)∧True)∧∀ (g_1 : Nat), g_1≤x.n→(decide ((↑g_1 : Int) < (↑x_2.fst.n : Int)) = true→(decide ((0 : Int) < lfI x g_1) = true→(0 : Int)≤(↑g_1 : Int)∧(↑g_1 : Int) < (↑x.n : Int)∧(decide ((↑g.fst : Int) < x.f g_1) = true→(0 : Int)≤(↑g_1 : Int)∧(↑g_1 : Int) < (↑x_2.fst.n : Int)∧inRange IntKind.i64 ((if g_1 < g_1 then shI x.n x.f x.q g_1 else atI x.f (↑(shL x.n x.f x.q) : Int) g_1) + (1 : Int))∧(0 : Int)≤(↑g_1 : Int)∧(↑g_1 : Int) < (↑x_2.fst.n : Int)∧inRange IntKind.i64 (lfI x g_1 - (1 : Int))∧inRange IntKind.i64 ((↑g_1 : Int) + (1 : Int))∧∃ (g' : Nat), g'≤x.n∧x.n - g' < x.n - g_1∧True∧((True∧(↑g_1 : Int) + (1 : Int) = (↑g' : Int))∧(True∧lfI x g_1 - (1 : Int) = lfI x g')∧True)∧(True∧True∧x.n = x.n∧∀ (i : Nat), i < x.n→True∧(if i = g_1 then (if g_1 < g_1 then shI x.n x.f x.q g_1 else atI x.f (↑(shL x.n x.f x.q) : Int) g_1) + (1 : Int) else if i < g_1 then shI x.n x.f x.q i else atI x.f (↑(shL x.n x.f x.q) : Int) i) = if i < g' then shI x.n x.f x.q i else atI x.f (↑(shL x.n x.f x.q) : Int) i)∧True)∧(decide ((↑g.fst : Int) < x.f g_1) = false→inRange IntKind.i64 ((↑g_1 : Int) + (1 : Int))∧∃ (g' : Nat), g'≤x.n∧x.n - g' < x.n - g_1∧True∧((True∧(↑g_1 : Int) + (1 : Int) = (↑g' : Int))∧(True∧lfI x g_1 = lfI x g')∧True)∧(True∧True∧x.n = x.n∧∀ (i : Nat), i < x.n→True∧(if i < g_1 then shI x.n x.f x.q i else atI x.f (↑(shL x.n x.f x.q) : Int) i) = if i < g' then shI x.n x.f x.q i else atI x.f (↑(shL x.n x.f x.q) : Int) i)∧True))∧(decide ((0 : Int) < lfI x g_1) = false→inRange IntKind.i64 ((↑g_1 : Int) + (1 : Int))∧∃ (g' : Nat), g'≤x.n∧x.n - g' < x.n - g_1∧True∧((True∧(↑g_1 : Int) + (1 : Int) = (↑g' : Int))∧(True∧lfI x g_1 = lfI x g')∧True)∧(True∧True∧x.n = x.n∧∀ (i : Nat), i < x.n→True∧(if i < g_1 then shI x.n x.f x.q i else atI x.f (↑(shL x.n x.f x.q) : Int) i) = if i < g' then shI x.n x.f x.q i else atI x.f (↑(shL x.n x.f x.q) : Int) i)∧True))∧(decide ((↑g_1 : Int) < (↑x_2.fst.n : Int)) = false→(True∧x_2.fst.n = x.n∧True∧True∧x.n = x.n∧∀ (i : Nat), i < x.n→True∧(if i < g_1 then shI x.n x.f x.q i else atI x.f (↑(shL x.n x.f x.q) : Int) i) = shI x.n x.f x.q i)∧True∧True∧(0 : Int) = (0 : Int))))) (by kernel_rfl) ?_
 simp only [true_and, and_true, inR, Prod.exists, Prod.forall, and_assoc, exists_and_left, exists_eq_left', exists_eq_left, forall_eq, exists_const, forall_const, loopN, loopM, fa2, fas, fas2, dup1, dup2, dup3, dup4, ite_true, exhs, exhn, exhz, exho, exA, ex1, ex2, ex3, ex4, ex5, beqI, bneI, decide_true, Bool.true_and, decide_eq_true_eq, decide_eq_false_iff_not, ne_eq, Decidable.not_not]
 have hok : x.ok := h
 obtain ⟨n1, n8, hf, q0, q1⟩ : x.ok := h
 have hq := sm_bd (f := x.f) (K := 100000) (n := x.n) hf
 have hS : ∀ L : Int, 0 ≤ L → 0 ≤ lvS x.n x.f L ∧ lvS x.n x.f L ≤ x.n * 100000 := fun L hL => sm_bd fun i hi => atI_bd (hf i hi).1 (hf i hi).2 hL
 refine ⟨x, rfl, rfl, fun _ _ => rfl, hok, fun h => absurd trivial h, ⟨0, 100001, by decide, Nat.le_refl _, ?_, .inl rfl, rfl, rfl⟩, fun a b hab => ?_⟩
 · have h0 : sm (atI x.f ((0 : Nat) : Int)) x.n ≤ sm (fun _ => 0) x.n := sm_le fun i _ => (imin_b3 (a := x.f i) (b := 0)).2.1
   rw [sm_const] at h0
   show sm (atI x.f ((0 : Nat) : Int)) x.n ≤ x.q
   omega
 obtain ⟨h1, h2, h3, h4⟩ := hab
 have et : ((a : Int) + (b : Int)).tdiv 2 = (((a + b) / 2 : Nat) : Int) := by
   rw [Int.tdiv_eq_ediv_of_nonneg (by omega)]; omega
 refine ⟨by omega, by omega, fun hm => ?_, fun hm => ?_⟩
 · rw [et]
   refine ⟨by omega, by omega, by decide, by omega, by omega, x, rfl, rfl, fun _ _ => rfl, n8, atI x.f (((a + b) / 2 : Nat) : Int), fun _ _ => rfl, by omega, fun i hi => ?_, fun hs => ⟨(a + b) / 2, by omega, h2, hs, h4, by omega, rfl⟩, fun hs => ⟨a, (a + b) / 2, by omega, by omega, h3, .inr ?_, by omega, rfl, rfl⟩⟩
   · have := atI_bd (L := (((a + b) / 2 : Nat) : Int)) (hf i hi).1 (hf i hi).2 (by omega)
     omega
   · have hs : ¬ lvS x.n x.f (((a + b) / 2 : Nat) : Int) ≤ x.q := hs
     omega
 have hL : shL x.n x.f x.q = a := lvT_eq h3 (by omega) (h4.elim (fun e => .inl (by omega)) fun e => .inr (by rw [show a + 1 = b by omega]; exact e))
 subst hL
 have hb := hS (shL x.n x.f x.q) (by omega)
 have lf0 : lfI x 0 = x.q - lvS x.n x.f (shL x.n x.f x.q) := by
   have e1 : lfI x 0 = imax 0 (x.q - lvS x.n x.f (shL x.n x.f x.q) - ((0 : Nat) : Int)) := rfl
   have a1 := imax_cases (a := 0) (b := x.q - lvS x.n x.f (shL x.n x.f x.q) - ((0 : Nat) : Int))
   have a2 := imax_ge (a := 0) (b := x.q - lvS x.n x.f (shL x.n x.f x.q) - ((0 : Nat) : Int))
   omega
 have lfb : ∀ g, 0 ≤ lfI x g ∧ lfI x g ≤ 1000000 := fun g => by
   have e1 : lfI x g = imax 0 (x.q - lvS x.n x.f (shL x.n x.f x.q) - gtN x.f (shL x.n x.f x.q) g) := rfl
   have a1 := imax_cases (a := 0) (b := x.q - lvS x.n x.f (shL x.n x.f x.q) - gtN x.f (shL x.n x.f x.q) g)
   have a2 := imax_ge (a := 0) (b := x.q - lvS x.n x.f (shL x.n x.f x.q) - gtN x.f (shL x.n x.f x.q) g)
   omega
 have keep : ∀ g i, shI x.n x.f x.q g = atI x.f (shL x.n x.f x.q) g → (if i < g then shI x.n x.f x.q i else atI x.f (shL x.n x.f x.q) i) = if i < g + 1 then shI x.n x.f x.q i else atI x.f (shL x.n x.f x.q) i := fun g i e => by
   by_cases c : i < g
   · rw [if_pos c, if_pos (by omega)]
   · rw [if_neg c]
     by_cases d : i = g
     · subst d; rw [if_pos (by omega), e]
     · rw [if_neg (by omega)]
 refine ⟨x, rfl, rfl, fun _ _ => rfl, n8, atI x.f (shL x.n x.f x.q), fun _ _ => rfl, by omega, fun i hi => ?_, ?_, ?_, ⟨0, Nat.zero_le _, rfl, lf0.symm, rfl, fun i _ => (if_neg (Nat.not_lt_zero i)).symm⟩, fun g hg => ⟨fun hlt => ⟨fun hp => ⟨by omega, by omega, fun hv => ?_, fun hv => ?_⟩, fun hp => ?_⟩, fun hge => ⟨rfl, fun i hi => if_pos (by omega)⟩⟩⟩
 · have := atI_bd (L := (shL x.n x.f x.q : Int)) (hf i hi).1 (hf i hi).2 (by omega)
   omega
 · show -9223372036854775808 ≤ x.q - lvS x.n x.f (shL x.n x.f x.q); omega
 · show x.q - lvS x.n x.f (shL x.n x.f x.q) ≤ 9223372036854775807; omega
 · obtain ⟨y1, y2⟩ := lf_yes hp hv
   have ab := atI_bd (L := (shL x.n x.f x.q : Int)) (hf g (by omega)).1 (hf g (by omega)).2 (by omega)
   have lb := lfb g
   rw [if_neg (Nat.lt_irrefl g)]
   refine ⟨by omega, by omega, by omega, by omega, by omega, by omega, by omega, by omega, by omega, by omega, g + 1, by omega, by omega, by omega, y1, fun i hi => ?_⟩
   by_cases d : i = g
   · subst d; rw [if_pos rfl, if_pos (by omega), y2]
   · rw [if_neg d]
     by_cases c : i < g
     · rw [if_pos c, if_pos (by omega)]
     · rw [if_neg c, if_neg (by omega)]
 · obtain ⟨y1, y2⟩ := lf_no (c := x) (g := g) (.inr hv)
   exact ⟨by omega, by omega, g + 1, by omega, by omega, by omega, y1, fun i _ => keep g i y2⟩
 · obtain ⟨y1, y2⟩ := lf_no (c := x) (g := g) (.inl hp)
   exact ⟨by omega, by omega, g + 1, by omega, by omega, by omega, y1, fun i _ => keep g i y2⟩
end Go.Proofs.Ytpigkgoooekcgaa
namespace Go.Proofs.Ytpigkgoooekcgaa
open Go Go.Sx Bm
set_option maxRecDepth 100000
set_option maxHeartbeats 4000000
theorem q48 (x : sIn.α) : CallQ Try.prog E0 48 (sIn.arg x) (sIn.res x) := by
 refine bare_all E0_ok [] SigsOk.nil [] EvensOk.nil runs [] [] [] [] (fuel := 5) ?_
 refine of_red (q := (decide (x.snd.fst≤x.fst) = true→True∧decide (x.fst≤x.snd.snd) = within x.fst x.snd.fst x.snd.snd)∧(decide (x.snd.fst≤x.fst) = false→True∧within x.fst x.snd.fst x.snd.snd = false)) (by kernel_rfl) ?_
 simp [within]
 try omega
def dig (i : Nat) : ByteArray := Utf8.encode (48 + i) ++ ⟨#[]⟩
def sTxt : Sig := ⟨Nat, fun i => [intC i], fun i => i ≤ 9, fun i => [.v (.c (.str (dig i)))]⟩
def aTxt (i : Nat) : Ann := { G := Unit, ok := fun _ _ => True, dom := fun _ => [], tm := fun _ _ => [(0, .t (intC i)), (3, .t (.c (.str ⟨#[]⟩)))], hp := fun _ _ => [], mu := fun _ _ => 0 }
theorem dig_size : ∀ i, i < 10 → (Utf8.encode (48 + ((i : Nat) : Int))).size = 1 := by decide +kernel
theorem q20 (i : Nat) (h : i ≤ 9) : CallQ Try.prog E0 20 (sTxt.arg i) (sTxt.res i) := by
 refine bare_say E0_ok [] SigsOk.nil [] EvensOk.nil runs { l := [(20, 2, aTxt i)] } (fuel := 5) ?_
 refine of_red (q := (∃ (g : Unit), True∧True∧((True∧(↑i : Int) = (↑i : Int))∧(True∧ByteArray.mk #[] = ByteArray.mk #[])∧True)∧True)∧∀ (g : Unit), True→(decide ((9 : Int) < (↑i : Int)) = true→(10 : Int) ≠ (0 : Int)∧inRange IntKind.i64 ((48 : Int) + (↑i : Int).tmod (10 : Int))∧inRange IntKind.i32 ((48 : Int) + (↑i : Int).tmod (10 : Int))∧(↑((Utf8.encode ((48 : Int) + (↑i : Int).tmod (10 : Int))).size + (ByteArray.mk #[]).size) : Int)≤(9223372036854775807 : Int)∧(10 : Int) ≠ (0 : Int)∧inRange IntKind.i64 ((↑i : Int).tdiv (10 : Int))∧∃ (g' : Unit), True∧(0 : Nat) < (0 : Nat)∧True∧((True∧(↑i : Int).tdiv (10 : Int) = (↑i : Int))∧(True∧Utf8.encode ((48 : Int) + (↑i : Int).tmod (10 : Int)) ++ ByteArray.mk #[] = ByteArray.mk #[])∧True)∧True)∧(decide ((9 : Int) < (↑i : Int)) = false→inRange IntKind.i64 ((48 : Int) + (↑i : Int))∧inRange IntKind.i32 ((48 : Int) + (↑i : Int))∧(↑((Utf8.encode ((48 : Int) + (↑i : Int))).size + (ByteArray.mk #[]).size) : Int)≤(9223372036854775807 : Int)∧True∧Utf8.encode ((48 : Int) + (↑i : Int)) ++ ByteArray.mk #[] = dig i)) (by kernel_rfl) ?_
 simp only [true_and, and_true, inR, Prod.exists, Prod.forall, and_assoc, exists_and_left, exists_eq_left', exists_eq_left, forall_eq, exists_const, forall_const, loopN, loopM, fa2, fas, fas2, dup1, dup2, dup3, dup4, ite_true, exhs, exhn, exhz, exho, exA, ex1, ex2, ex3, ex4, ex5, beqI, bneI, decide_true, Bool.true_and, decide_eq_true_eq, decide_eq_false_iff_not, ne_eq, Decidable.not_not]
 have hs := dig_size i (by omega)
 refine ⟨fun h => by omega, fun _ => ⟨by omega, by omega, ⟨?_, ?_⟩, ?_, rfl⟩⟩
 · show -2147483648 ≤ 48 + (i : Int); omega
 · show 48 + (i : Int) ≤ 2147483647; omega
 · show (((Utf8.encode (48 + (i : Int))).size + 0 : Nat) : Int) ≤ 9223372036854775807
   omega
def byt (s : ByteArray) (i : Nat) : Nat := (s.data.toList.getD i 0).toNat
structure NameOk (s : ByteArray) : Prop where
 n1 : 1 ≤ s.size
 n16 : s.size ≤ 16
 b0 : 97 ≤ byt s 0
 all : ∀ i, i < s.size → (97 ≤ byt s i ∧ byt s i ≤ 122) ∨ (48 ≤ byt s i ∧ byt s i ≤ 57) ∨ byt s i = 45
def sNam : Sig := ⟨ByteArray, fun s => [.c (.str s)], NameOk, fun _ => [.v (.c (.bool true))]⟩
def aNm (s : ByteArray) : Ann := { G := Nat, ok := fun _ i => i ≤ s.size, dom := fun _ => [], tm := fun _ i => [(17, .t (intC i))], hp := fun _ _ => [], mu := fun _ i => s.size - i }
def TSB0 : List (Nat × Sig) := (48, sIn) :: []
theorem TSB0_ok : SigsOk Try.prog E0 TSB0 := SigsOk.nil.cons (runs 48 (by kernel_rfl)) fun x _ => q48 x
theorem q69 (s : sNam.α) (h : sNam.pre s) : CallQ Try.prog E0 69 (sNam.arg s) (sNam.res s) := by
 refine bare_say E0_ok TSB0 TSB0_ok [] EvensOk.nil runs { l := [(69, 4, aNm s)] } (fuel := 5) ?_
 refine of_red (q := ∃ (x : Int × Int × Int), ((True∧(↑(ByteArray.size s) : Int) = x.fst)∧(True∧(1 : Int) = x.snd.fst)∧(True∧(16 : Int) = x.snd.snd)∧True)∧True∧((!within x.fst x.snd.fst x.snd.snd) = true→True∧true = false)∧((!within x.fst x.snd.fst x.snd.snd) = false→(0 : Int)≤(0 : Int)∧(0 : Int) < (↑(ByteArray.size s) : Int)∧(decide ((↑(s.data.toList.getD (0 : Nat) (0 : UInt8)).toNat : Int) < (97 : Int)) = true→True∧true = false)∧(decide ((↑(s.data.toList.getD (0 : Nat) (0 : UInt8)).toNat : Int) < (97 : Int)) = false→(∃ (g : Nat), g≤ByteArray.size s∧True∧((True∧(0 : Int) = (↑g : Int))∧True)∧True)∧∀ (g : Nat), g≤ByteArray.size s→(decide ((↑g : Int) < (↑(ByteArray.size s) : Int)) = true→(0 : Int)≤(↑g : Int)∧(↑g : Int) < (↑(ByteArray.size s) : Int)∧inRange IntKind.i64 (↑(s.data.toList.getD g (0 : UInt8)).toNat : Int)∧∃ (x : Int × Int × Int), ((True∧(↑(s.data.toList.getD g (0 : UInt8)).toNat : Int) = x.fst)∧(True∧(97 : Int) = x.snd.fst)∧(True∧(122 : Int) = x.snd.snd)∧True)∧True∧((!within x.fst x.snd.fst x.snd.snd) = true→inRange IntKind.i64 (↑(s.data.toList.getD g (0 : UInt8)).toNat : Int)∧∃ (x : Int × Int × Int), ((True∧(↑(s.data.toList.getD g (0 : UInt8)).toNat : Int) = x.fst)∧(True∧(48 : Int) = x.snd.fst)∧(True∧(57 : Int) = x.snd.snd)∧True)∧True∧((!within x.fst x.snd.fst x.snd.snd) = true→(((↑(s.data.toList.getD g (0 : UInt8)).toNat : Int) != (45 : Int)) = true→True∧true = false)∧(((↑(s.data.toList.getD g (0 : UInt8)).toNat : Int) != (45 : Int)) = false→inRange IntKind.i64 ((↑g : Int) + (1 : Int))∧∃ (g' : Nat), g'≤ByteArray.size s∧ByteArray.size s - g' < ByteArray.size s - g∧True∧((True∧(↑g : Int) + (1 : Int) = (↑g' : Int))∧True)∧True))∧((!within x.fst x.snd.fst x.snd.snd) = false→inRange IntKind.i64 ((↑g : Int) + (1 : Int))∧∃ (g' : Nat), g'≤ByteArray.size s∧ByteArray.size s - g' < ByteArray.size s - g∧True∧((True∧(↑g : Int) + (1 : Int) = (↑g' : Int))∧True)∧True))∧((!within x.fst x.snd.fst x.snd.snd) = false→inRange IntKind.i64 ((↑g : Int) + (1 : Int))∧∃ (g' : Nat), g'≤ByteArray.size s∧ByteArray.size s - g' < ByteArray.size s - g∧True∧((True∧(↑g : Int) + (1 : Int) = (↑g' : Int))∧True)∧True))∧(decide ((↑g : Int) < (↑(ByteArray.size s) : Int)) = false→True∧true = true)))) (by kernel_rfl) ?_
 simp only [true_and, and_true, inR, Prod.exists, Prod.forall, and_assoc, exists_and_left, exists_eq_left', exists_eq_left, forall_eq, exists_const, forall_const, loopN, loopM, fa2, fas, fas2, dup1, dup2, dup3, dup4, ite_true, exhs, exhn, exhz, exho, exA, ex1, ex2, ex3, ex4, ex5, beqI, bneI, decide_true, Bool.true_and, decide_eq_true_eq, decide_eq_false_iff_not, ne_eq, Decidable.not_not]
 obtain ⟨n1, n16, b0, all⟩ : NameOk s := h
 have bt : ∀ i, (s.data.toList.getD i 0).toNat = byt s i := fun _ => rfl
 have b9 : ∀ i, byt s i < 256 := fun i => UInt8.toNat_lt _
 simp only [bt]
 refine ⟨fun h => ?_, fun _ => ⟨by omega, by omega, fun h => by omega, fun _ => ⟨Nat.zero_le _, fun g hg => ?_⟩⟩⟩
 · rw [Bm.within_iff.2 ⟨by omega, by omega⟩] at h; cases h
 have hb := b9 g
 refine ⟨by omega, by omega, by omega, by omega, fun h1 => ⟨by omega, by omega, fun h2 => ⟨fun h3 => ?_, fun _ => ⟨by omega, by omega, by omega, by omega⟩⟩, fun _ => ⟨by omega, by omega, by omega, by omega⟩⟩, fun _ => ⟨by omega, by omega, by omega, by omega⟩⟩
 have k1 : ¬ (97 ≤ byt s g ∧ byt s g ≤ 122) := fun q => by rw [Bm.within_iff.2 ⟨by omega, by omega⟩] at h1; cases h1
 have k2 : ¬ (48 ≤ byt s g ∧ byt s g ≤ 57) := fun q => by rw [Bm.within_iff.2 ⟨by omega, by omega⟩] at h2; cases h2
 have := all g hg
 omega
def nm (i : Nat) : ByteArray := ⟨#[110]⟩ ++ dig i
theorem nm_size : ∀ i, i < 8 → (nm i).size = 2 := by decide +kernel
theorem nm_0 : ∀ i, i < 8 → byt (nm i) 0 = 110 := by decide +kernel
theorem nm_1 : ∀ i, i < 8 → byt (nm i) 1 = 48 + i := by decide +kernel
theorem nm_ne : ∀ i, i < 8 → ∀ j, j < 8 → ((nm i).toList == (nm j).toList) = decide (i = j) := by decide +kernel
theorem nm_ok {i : Nat} (h : i < 8) : NameOk (nm i) := by
 have h0 := nm_0 i h
 have h1 := nm_1 i h
 have h2 := nm_size i h
 refine ⟨by omega, by omega, by omega, fun k hk => ?_⟩
 by_cases e : k = 0
 · subst e; omega
 · obtain rfl : k = 1 := by omega
   omega
end Go.Proofs.Ytpigkgoooekcgaa
