/- The seat's environment: types, functions, package variables. -/
import Derived.Test.YthcplmlkgaiggaaRows
import Derived.Test.YthcplmlkgaiggaaSxEnv
import Derived.DeepKeys5
set_option linter.unusedSimpArgs false
set_option linter.unusedVariables false
namespace Go.Proofs.Ythcplmlkgaiggaa
open Go Go.Sx
set_option maxRecDepth 100000
def tyTab : List (Nat × TI) := [
  (1, ⟨.func, 1, 8, [.nilf]⟩),
  (2, ⟨(.int .i64), 1, 8, [.int .i64 0]⟩),
  (3, ⟨(.int .i64), 1, 8, [.int .i64 0]⟩),
  (4, ⟨.bool, 1, 1, [.ff]⟩),
  (5, ⟨(.int .u8), 1, 1, [.int .u8 0]⟩),
  (6, ⟨(.int .u8), 1, 1, [.int .u8 0]⟩),
  (7, ⟨(.struct [(0, 2), (1, 3), (2, 4), (3, 6)]), 4, 24, [.int .i64 0, .int .i64 0, .ff, .int .u8 0]⟩),
  (8, ⟨(.struct [(0, 2), (1, 3), (2, 4), (3, 6)]), 4, 24, [.int .i64 0, .int .i64 0, .ff, .int .u8 0]⟩),
  (9, ⟨.str, 1, 16, [.str ⟨#[]⟩]⟩),
  (10, ⟨.str, 1, 16, [.str ⟨#[]⟩]⟩),
  (11, ⟨.str, 1, 16, [.str ⟨#[]⟩]⟩),
  (12, ⟨(.int .u64), 1, 8, [.int .u64 0]⟩),
  (15, ⟨.ptr, 1, 8, [.nilp]⟩),
  (16, ⟨.ptr, 1, 8, [.nilp]⟩),
  (17, ⟨.ptr, 1, 8, [.nilp]⟩),
  (21, ⟨(.int .i32), 1, 4, [.int .i32 0]⟩),
  (22, ⟨(.slice 70), 1, 24, [.nils]⟩),
  (23, ⟨(.array 4 3), 4, 32, [.int .i64 0, .int .i64 0, .int .i64 0, .int .i64 0]⟩),
  (24, ⟨(.array 4 3), 4, 32, [.int .i64 0, .int .i64 0, .int .i64 0, .int .i64 0]⟩),
  (25, ⟨(.int .i64), 1, 8, [.int .i64 0]⟩),
  (27, ⟨.func, 1, 8, [.nilf]⟩),
  (28, ⟨.func, 1, 8, [.nilf]⟩),
  (29, ⟨.func, 1, 8, [.nilf]⟩),
  (30, ⟨(.array 2 3), 2, 16, [.int .i64 0, .int .i64 0]⟩),
  (31, ⟨(.struct [(0, 3), (1, 3)]), 2, 16, [.int .i64 0, .int .i64 0]⟩),
  (32, ⟨(.struct [(0, 3), (1, 3)]), 2, 16, [.int .i64 0, .int .i64 0]⟩),
  (33, ⟨(.struct [(0, 3), (1, 3)]), 2, 16, [.int .i64 0, .int .i64 0]⟩),
  (34, ⟨(.struct [(0, 3), (1, 3)]), 2, 16, [.int .i64 0, .int .i64 0]⟩),
  (36, ⟨.func, 1, 8, [.nilf]⟩),
  (37, ⟨.func, 1, 8, [.nilf]⟩),
  (38, ⟨(.struct [(0, 3), (1, 34), (3, 3), (4, 34)]), 6, 48, [.int .i64 0, .int .i64 0, .int .i64 0, .int .i64 0, .int .i64 0, .int .i64 0]⟩),
  (39, ⟨(.struct [(0, 3), (1, 34), (3, 3), (4, 34)]), 6, 48, [.int .i64 0, .int .i64 0, .int .i64 0, .int .i64 0, .int .i64 0, .int .i64 0]⟩),
  (41, ⟨.func, 1, 8, [.nilf]⟩),
  (43, ⟨.func, 1, 8, [.nilf]⟩),
  (44, ⟨.func, 1, 8, [.nilf]⟩),
  (45, ⟨(.array 3 3), 3, 24, [.int .i64 0, .int .i64 0, .int .i64 0]⟩),
  (46, ⟨(.struct [(0, 3), (1, 3)]), 2, 16, [.int .i64 0, .int .i64 0]⟩),
  (47, ⟨(.struct [(0, 3), (1, 3)]), 2, 16, [.int .i64 0, .int .i64 0]⟩),
  (49, ⟨.func, 1, 8, [.nilf]⟩),
  (50, ⟨.func, 1, 8, [.nilf]⟩),
  (51, ⟨(.slice 24), 1, 24, [.nils]⟩),
  (52, ⟨(.struct [(0, 22), (1, 3), (2, 39), (8, 51)]), 9, 104, [.nils, .int .i64 0, .int .i64 0, .int .i64 0, .int .i64 0, .int .i64 0, .int .i64 0, .int .i64 0, .nils]⟩),
  (53, ⟨(.struct [(0, 22), (1, 3), (2, 39), (8, 51)]), 9, 104, [.nils, .int .i64 0, .int .i64 0, .int .i64 0, .int .i64 0, .int .i64 0, .int .i64 0, .int .i64 0, .nils]⟩),
  (55, ⟨.func, 1, 8, [.nilf]⟩),
  (56, ⟨.func, 1, 8, [.nilf]⟩),
  (57, ⟨.func, 1, 8, [.nilf]⟩),
  (58, ⟨.func, 1, 8, [.nilf]⟩),
  (59, ⟨.func, 1, 8, [.nilf]⟩),
  (60, ⟨.func, 1, 8, [.nilf]⟩),
  (61, ⟨.func, 1, 8, [.nilf]⟩),
  (62, ⟨.func, 1, 8, [.nilf]⟩),
  (63, ⟨.func, 1, 8, [.nilf]⟩),
  (64, ⟨.func, 1, 8, [.nilf]⟩),
  (65, ⟨.func, 1, 8, [.nilf]⟩),
  (66, ⟨.func, 1, 8, [.nilf]⟩),
  (67, ⟨.func, 1, 8, [.nilf]⟩),
  (68, ⟨.func, 1, 8, [.nilf]⟩),
  (69, ⟨(.array 4 47), 8, 64, List.replicate 8 (.int .i64 0)⟩),
  (70, ⟨(.array 4 47), 8, 64, List.replicate 8 (.int .i64 0)⟩),
  (71, ⟨.func, 1, 8, [.nilf]⟩),
  (72, ⟨.func, 1, 8, [.nilf]⟩),
  (73, ⟨(.slice 22), 1, 24, [.nils]⟩),
  (74, ⟨.func, 1, 8, [.nilf]⟩),
  (75, ⟨(.slice 39), 1, 24, [.nils]⟩),
  (76, ⟨.func, 1, 8, [.nilf]⟩),
  (77, ⟨.func, 1, 8, [.nilf]⟩),
  (78, ⟨.func, 1, 8, [.nilf]⟩),
  (79, ⟨.func, 1, 8, [.nilf]⟩),
  (80, ⟨.func, 1, 8, [.nilf]⟩),
  (81, ⟨.func, 1, 8, [.nilf]⟩),
  (82, ⟨(.array 4 47), 8, 64, List.replicate 8 (.int .i64 0)⟩),
  (83, ⟨.func, 1, 8, [.nilf]⟩),
  (84, ⟨(.map 118 3), 1, 8, [.nilm]⟩),
  (85, ⟨(.map 118 3), 1, 8, [.nilm]⟩),
  (86, ⟨(.struct [(0, 3), (1, 85)]), 2, 16, [.int .i64 0, .nilm]⟩),
  (87, ⟨(.struct [(0, 3), (1, 85)]), 2, 16, [.int .i64 0, .nilm]⟩),
  (88, ⟨.func, 1, 8, [.nilf]⟩),
  (89, ⟨.func, 1, 8, [.nilf]⟩),
  (90, ⟨(.struct [(0, 34)]), 2, 16, [.int .i64 0, .int .i64 0]⟩),
  (91, ⟨(.struct [(0, 34)]), 2, 16, [.int .i64 0, .int .i64 0]⟩),
  (92, ⟨.func, 1, 8, [.nilf]⟩),
  (93, ⟨.func, 1, 8, [.nilf]⟩),
  (94, ⟨.func, 1, 8, [.nilf]⟩),
  (95, ⟨.func, 1, 8, [.nilf]⟩),
  (97, ⟨.func, 1, 8, [.nilf]⟩),
  (98, ⟨.func, 1, 8, [.nilf]⟩),
  (99, ⟨.func, 1, 8, [.nilf]⟩),
  (100, ⟨.func, 1, 8, [.nilf]⟩),
  (101, ⟨.func, 1, 8, [.nilf]⟩),
  (102, ⟨(.slice 3), 1, 24, [.nils]⟩),
  (103, ⟨(.slice 107), 1, 24, [.nils]⟩),
  (104, ⟨.func, 1, 8, [.nilf]⟩),
  (105, ⟨.func, 1, 8, [.nilf]⟩),
  (106, ⟨(.struct [(0, 105)]), 1, 8, [.nilf]⟩),
  (107, ⟨(.struct [(0, 105)]), 1, 8, [.nilf]⟩),
  (109, ⟨.func, 1, 8, [.nilf]⟩),
  (110, ⟨.func, 1, 8, [.nilf]⟩),
  (111, ⟨.func, 1, 8, [.nilf]⟩),
  (112, ⟨.func, 1, 8, [.nilf]⟩),
  (113, ⟨.func, 1, 8, [.nilf]⟩),
  (114, ⟨.func, 1, 8, [.nilf]⟩),
  (115, ⟨.func, 1, 8, [.nilf]⟩),
  (116, ⟨.func, 1, 8, [.nilf]⟩),
  (117, ⟨(.struct [(0, 3), (1, 3)]), 2, 16, [.int .i64 0, .int .i64 0]⟩),
  (118, ⟨(.struct [(0, 3), (1, 3)]), 2, 16, [.int .i64 0, .int .i64 0]⟩),
  (120, ⟨.func, 1, 8, [.nilf]⟩),
  (123, ⟨(.array 0 16), 0, 0, []⟩),
  (126, ⟨.func, 1, 8, [.nilf]⟩),
  (127, ⟨(.int .u32), 1, 4, [.int .u32 0]⟩),
  (128, ⟨(.int .u8), 1, 1, [.int .u8 0]⟩),
  (129, ⟨(.int .u8), 1, 1, [.int .u8 0]⟩),
  (130, ⟨.func, 1, 8, [.nilf]⟩),
  (131, ⟨.ptr, 1, 8, [.nilp]⟩),
  (132, ⟨(.int .i32), 1, 4, [.int .i32 0]⟩),
  (133, ⟨(.int .i32), 1, 4, [.int .i32 0]⟩)]

def lookFn : List (Nat × Func) → Nat → Option Func
  | [], _ => none
  | (t, i) :: l, n => match Nat.beq n t with | true => some i | false => lookFn l n

noncomputable def fnTab : List (Nat × Func) := [(3, Try.f3), (4, Try.f4), (5, Try.f5), (6, Try.f6), (7, Try.f7), (8, Try.f8), (9, Try.f9), (10, Try.f10), (11, Try.f11), (12, Try.f12), (13, Try.f13), (14, Try.f14), (15, Try.f15), (16, Try.f16), (17, Try.f17), (18, Try.f18), (19, Try.f19), (20, Try.f20), (21, Try.f21), (22, Try.f22), (23, Try.f23), (24, Try.f24), (25, Try.f25), (26, Try.f26), (27, Try.f27), (28, Try.f28), (29, Try.f29), (30, Try.f30), (31, Try.f31), (32, Try.f32), (33, Try.f33), (34, Try.f34), (35, Try.f35), (36, Try.f36), (37, Try.f37), (38, Try.f38), (39, Try.f39), (40, Try.f40), (41, Try.f41), (42, Try.f42), (43, Try.f43), (44, Try.f44), (45, Try.f45), (46, Try.f46), (47, Try.f47), (48, Try.f48), (49, Try.f49), (50, Try.f50), (51, Try.f51), (52, Try.f52), (53, Try.f53), (54, Try.f54), (55, Try.f55), (56, Try.f56), (57, Try.f57), (58, Try.f58), (59, Try.f59), (60, Try.f60), (61, Try.f61), (62, Try.f62), (63, Try.f63), (64, Try.f64), (65, Try.f65), (66, Try.f66), (67, Try.f67), (68, Try.f68), (69, Try.f69), (70, Try.f70), (71, Try.f71), (72, Try.f72), (73, Try.f73), (74, Try.f74), (75, Try.f75), (76, Try.f76), (77, Try.f77), (78, Try.f78), (79, Try.f79), (80, Try.f80)]

/-- The map of choices. -/
def MC : MapT := ⟨118, 3, true, 2, false⟩
def mps0 : Nat → Option MapT
  | 84 => some MC
  | 85 => some MC
  | _ => none

noncomputable def E0 : Env := { ty := lookTy tyTab, gl := fun _ => none, sig := fun _ => none, fn := lookFn fnTab, lam := fun _ _ => none, mps := mps0, any := fun _ _ => false }

theorem m84_und : Try.prog.underlying 84 = some (.map 118 3) := by kernel_rfl
theorem m85_und : Try.prog.underlying 85 = some (.map 118 3) := by kernel_rfl
def fldsOf : Option TypeDesc → Option (List (Nat × Nat × Bool))
  | some (.struct fs) => some (fs.toList.map (fun f => (f.type, f.offset, f.name != "_")))
  | _ => none
theorem m118_flds : fldsOf (Try.prog.underlying 118) = some [(3, 0, true), (3, 1, true)] := by kernel_rfl
theorem m118_und : ∃ fs, Try.prog.underlying 118 = some (.struct fs) ∧ fs.toList.map (fun f => (f.type, f.offset, f.name != "_")) = [(3, 0, true), (3, 1, true)] := by
  have h := m118_flds
  unfold fldsOf at h
  split at h
  · rename_i fs hu
    exact ⟨fs, hu, by injection h⟩
  · cases h
theorem m118_key : Try.prog.keyType 118 = true := by kernel_rfl
theorem m118_size : Try.prog.cellsOf 118 = 2 := by kernel_rfl
theorem m3_size : Try.prog.cellsOf 3 = 1 := by kernel_rfl
theorem m3_und : Try.prog.underlying 3 = some (.int .i64) := by kernel_rfl
theorem m_small : Try.prog.types.size + 2 ≤ 10000 := Nat.le_of_ble_eq_true (by kernel_rfl)
theorem m_row : 118 < Try.prog.types.size := Nat.le_of_ble_eq_true (by kernel_rfl)
theorem m_laid : laidOutB Try.prog = true := by kernel_rfl

theorem m3_lit (d : Nat) {a : Int} (h : inRange .i64 a) : Try.prog.keyLits (d + 1) 3 [.int .i64 a] = some [.int .i64 a] := by
  have : (Lit.int .i64 a).wf = true := by
    obtain ⟨h1, h2⟩ := h
    simp only [Lit.wf, Bool.and_eq_true, decide_eq_true_eq]
    exact ⟨h1, h2⟩
  simp [Program.keyLits, m3_und, this]

theorem mc_lit (ks : List Int) (h : KeyIs MC ks) : ∃ l, keyOf Try.prog 118 (keyV true ks) = some l := by
  obtain ⟨fs, h1, h2⟩ := m118_und
  obtain ⟨hl, hr⟩ := h
  match ks, hl with
  | [a, b], _ =>
    have ha := hr a (by simp)
    have hb := hr b (by simp)
    obtain ⟨n, hn⟩ : ∃ n, Try.prog.types.size + 1 = n + 2 := ⟨Try.prog.types.size - 1, by have := m_row; omega⟩
    have hf : (Value.agg #[Value.int .i64 a, Value.int .i64 b]).formed Try.prog 118 = true := by simp [Value.formed, h1, m118_size]
    obtain ⟨f0, f1, hfs⟩ : ∃ f0 f1, fs.toList = [f0, f1] := by
      have hl : fs.toList.length = 2 := by
        have := congrArg List.length h2
        rwa [List.length_map] at this
      generalize fs.toList = l at hl
      match l, hl with
      | [f0, f1], _ => exact ⟨f0, f1, rfl⟩
    rw [hfs] at h2
    simp only [List.map_cons, List.map_nil, List.cons.injEq, Prod.mk.injEq, and_true] at h2
    obtain ⟨⟨t0, o0, n0⟩, ⟨t1, o1, n1⟩⟩ := h2
    obtain rfl : fs = #[f0, f1] := by cases fs; simp at hfs; subst hfs; rfl
    have hk : Try.prog.keyLits (n + 2) 118 [.int .i64 a, .int .i64 b] = some [.int .i64 a, .int .i64 b] := by
      unfold Program.keyLits
      simp only [h1]
      simp [m118_size, n0, n1, t0, t1, o0, o1, m3_size, m3_lit n ha, m3_lit n hb]
    refine ⟨.string (keyBytes [.int .i64 a, .int .i64 b]), ?_⟩
    unfold keyOf
    simp only [h1]
    rw [show keyV true [a, b] = Value.agg #[Value.int .i64 a, Value.int .i64 b] from rfl, m118_key, hf, hn]
    simp only [Bool.and_self, if_true, Value.cells]
    rw [hk]
    rfl

theorem m84 : MapFacts Try.prog 84 MC :=
  ⟨m84_und, Go.Maps.Keyed.of_law (deep_law_gate m_laid m_small m_row m118_key (by kernel_rfl)), mc_lit, fun w => rfl, fun h => by cases h⟩
theorem m85 : MapFacts Try.prog 85 MC :=
  ⟨m85_und, Go.Maps.Keyed.of_law (deep_law_gate m_laid m_small m_row m118_key (by kernel_rfl)), mc_lit, fun w => rfl, fun h => by cases h⟩

theorem maps_ok : MapsOk Try.prog E0 := fun t T h => by
  have h' : mps0 t = some T := h
  unfold mps0 at h'
  split at h'
  · injection h' with h'; subst h'; exact m84
  · injection h' with h'; subst h'; exact m85
  · cases h'

theorem lookFn_mem : ∀ {l : List (Nat × Func)} {t : Nat} {i : Func}, lookFn l t = some i → (t, i) ∈ l
  | [], _, _, h => by simp [lookFn] at h
  | (n, j) :: l, t, i, h => by
    simp only [lookFn] at h
    split at h
    · rename_i e
      have := Nat.eq_of_beq_eq_true e
      subst this
      simp at h; subst h; simp
    · exact List.mem_cons_of_mem _ (lookFn_mem h)

theorem fnOk : fnTab.map (fun x => Try.prog.funcs[x.1]?) = fnTab.map (fun x => some x.2) := by kernel_rfl
theorem fnRuns : fnTab.all (fun x => !(x.2.name == "runtime.NumGoroutine") && x.2.body.isSome) = true := by kernel_rfl
theorem tyOk : tyTab.map (fun x => tabTI Try.prog x.1) = tyTab.map (fun x => some x.2) := by kernel_rfl

theorem fn_of {f : Nat} {fn : Func} (h : lookFn fnTab f = some fn) : ∃ c, Try.prog.funcs[f]? = some fn ∧ (fn.name == "runtime.NumGoroutine") = false ∧ fn.body = some c := by
  have hm := lookFn_mem h
  have h1 := map_eq_mem fnOk _ hm
  have h2 := List.all_eq_true.1 fnRuns _ hm
  simp only [Bool.and_eq_true, Bool.not_eq_true'] at h2
  obtain ⟨c, hc⟩ := Option.isSome_iff_exists.1 h2.2
  exact ⟨c, h1, h2.1, hc⟩

theorem fn_runs {f : Nat} (h : (lookFn fnTab f).isSome = true) : ∃ fn c, Try.prog.funcs[f]? = some fn ∧ (fn.name == "runtime.NumGoroutine") = false ∧ fn.body = some c := by
  obtain ⟨fn, hf⟩ := Option.isSome_iff_exists.1 h
  obtain ⟨c, h1⟩ := fn_of hf
  exact ⟨fn, c, h1⟩

theorem E0_ok : EnvOk Try.prog E0 :=
  ⟨tab_ok rfl tyOk (by kernel_rfl), fun f fn h => let ⟨_, h1, _⟩ := fn_of h; h1, fun f h => fn_runs (h.elim id (fun h => by simp [E0] at h)), fun f s x h => by simp [E0] at h, by kernel_rfl, maps_ok, fun _ _ _ h => (by cases h), fun _ _ _ h => (by cases h), fun _ _ _ h => by cases h⟩
end Go.Proofs.Ythcplmlkgaiggaa
