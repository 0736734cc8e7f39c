/- The seat's environment: types, functions, package variables. -/
import Derived.Test.YthofpbnbjkdpaaaDoorRows
import Derived.Test.YthofpbnbjkdpaaaDoorSxEnv
import Derived.DeepKeys5
set_option linter.unusedSimpArgs false
set_option linter.unusedVariables false
namespace Go.Proofs.YthofpbnbjkdpaaaDoor
open Go Go.Sx
def tyTab : List (Nat × TI) := [
  (1, ⟨.func, 1, 8, [.nilf]⟩),
  (2, ⟨(.int .i64), 1, 8, [.int .i64 0]⟩),
  (3, ⟨(.int .i64), 1, 8, [.int .i64 0]⟩),
  (4, ⟨.bool, 1, 1, [.ff]⟩),
  (5, ⟨(.int .u8), 1, 1, [.int .u8 0]⟩),
  (6, ⟨(.int .u8), 1, 1, [.int .u8 0]⟩),
  (7, ⟨(.struct [(0, 2), (1, 3), (2, 4), (3, 6)]), 4, 24, [.int .i64 0, .int .i64 0, .ff, .int .u8 0]⟩),
  (8, ⟨(.struct [(0, 2), (1, 3), (2, 4), (3, 6)]), 4, 24, [.int .i64 0, .int .i64 0, .ff, .int .u8 0]⟩),
  (9, ⟨.str, 1, 16, [.str ⟨#[]⟩]⟩),
  (10, ⟨.str, 1, 16, [.str ⟨#[]⟩]⟩),
  (11, ⟨.str, 1, 16, [.str ⟨#[]⟩]⟩),
  (12, ⟨(.int .u64), 1, 8, [.int .u64 0]⟩),
  (15, ⟨.ptr, 1, 8, [.nilp]⟩),
  (16, ⟨.ptr, 1, 8, [.nilp]⟩),
  (17, ⟨.ptr, 1, 8, [.nilp]⟩),
  (21, ⟨(.int .i32), 1, 4, [.int .i32 0]⟩),
  (22, ⟨(.slice 3), 1, 24, [.nils]⟩),
  (23, ⟨(.slice 45), 1, 24, [.nils]⟩),
  (24, ⟨(.slice 51), 1, 24, [.nils]⟩),
  (25, ⟨(.struct [(0, 22), (1, 23), (2, 24)]), 3, 72, [.nils, .nils, .nils]⟩),
  (26, ⟨(.struct [(0, 22), (1, 23), (2, 24)]), 3, 72, [.nils, .nils, .nils]⟩),
  (27, ⟨(.int .i64), 1, 8, [.int .i64 0]⟩),
  (29, ⟨.func, 1, 8, [.nilf]⟩),
  (30, ⟨.func, 1, 8, [.nilf]⟩),
  (31, ⟨.func, 1, 8, [.nilf]⟩),
  (32, ⟨.func, 1, 8, [.nilf]⟩),
  (33, ⟨.func, 1, 8, [.nilf]⟩),
  (35, ⟨.func, 1, 8, [.nilf]⟩),
  (36, ⟨.func, 1, 8, [.nilf]⟩),
  (37, ⟨.func, 1, 8, [.nilf]⟩),
  (38, ⟨(.array 2 3), 2, 16, [.int .i64 0, .int .i64 0]⟩),
  (39, ⟨.func, 1, 8, [.nilf]⟩),
  (40, ⟨.func, 1, 8, [.nilf]⟩),
  (41, ⟨.func, 1, 8, [.nilf]⟩),
  (42, ⟨.func, 1, 8, [.nilf]⟩),
  (43, ⟨.func, 1, 8, [.nilf]⟩),
  (44, ⟨(.struct [(0, 3), (1, 3), (2, 3)]), 3, 24, [.int .i64 0, .int .i64 0, .int .i64 0]⟩),
  (45, ⟨(.struct [(0, 3), (1, 3), (2, 3)]), 3, 24, [.int .i64 0, .int .i64 0, .int .i64 0]⟩),
  (46, ⟨.func, 1, 8, [.nilf]⟩),
  (47, ⟨.func, 1, 8, [.nilf]⟩),
  (48, ⟨.func, 1, 8, [.nilf]⟩),
  (49, ⟨(.array 4 3), 4, 32, [.int .i64 0, .int .i64 0, .int .i64 0, .int .i64 0]⟩),
  (50, ⟨(.struct [(0, 3), (1, 22)]), 2, 32, [.int .i64 0, .nils]⟩),
  (51, ⟨(.struct [(0, 3), (1, 22)]), 2, 32, [.int .i64 0, .nils]⟩),
  (52, ⟨.func, 1, 8, [.nilf]⟩),
  (53, ⟨.func, 1, 8, [.nilf]⟩),
  (54, ⟨.func, 1, 8, [.nilf]⟩),
  (55, ⟨(.array 3 3), 3, 24, [.int .i64 0, .int .i64 0, .int .i64 0]⟩),
  (56, ⟨.func, 1, 8, [.nilf]⟩),
  (57, ⟨.func, 1, 8, [.nilf]⟩),
  (58, ⟨(.slice 26), 1, 24, [.nils]⟩),
  (59, ⟨(.struct [(0, 26)]), 3, 72, [.nils, .nils, .nils]⟩),
  (60, ⟨(.struct [(0, 26)]), 3, 72, [.nils, .nils, .nils]⟩),
  (62, ⟨.func, 1, 8, [.nilf]⟩),
  (63, ⟨(.array 12 3), 12, 96, List.replicate 12 (.int .i64 0)⟩),
  (64, ⟨(.array 12 3), 12, 96, List.replicate 12 (.int .i64 0)⟩),
  (66, ⟨.func, 1, 8, [.nilf]⟩),
  (67, ⟨.func, 1, 8, [.nilf]⟩),
  (68, ⟨.func, 1, 8, [.nilf]⟩),
  (70, ⟨.func, 1, 8, [.nilf]⟩),
  (71, ⟨.func, 1, 8, [.nilf]⟩),
  (72, ⟨.func, 1, 8, [.nilf]⟩),
  (73, ⟨.func, 1, 8, [.nilf]⟩),
  (74, ⟨(.struct [(0, 73)]), 1, 8, [.nilf]⟩),
  (75, ⟨(.struct [(0, 73)]), 1, 8, [.nilf]⟩),
  (76, ⟨.func, 1, 8, [.nilf]⟩),
  (77, ⟨.func, 1, 8, [.nilf]⟩),
  (78, ⟨(.map 45 3), 1, 8, [.nilm]⟩),
  (79, ⟨.func, 1, 8, [.nilf]⟩),
  (81, ⟨.func, 1, 8, [.nilf]⟩),
  (82, ⟨.func, 1, 8, [.nilf]⟩),
  (83, ⟨.func, 1, 8, [.nilf]⟩),
  (84, ⟨.func, 1, 8, [.nilf]⟩),
  (85, ⟨.func, 1, 8, [.nilf]⟩),
  (86, ⟨.func, 1, 8, [.nilf]⟩),
  (87, ⟨.func, 1, 8, [.nilf]⟩),
  (88, ⟨.func, 1, 8, [.nilf]⟩),
  (89, ⟨.func, 1, 8, [.nilf]⟩),
  (90, ⟨.func, 1, 8, [.nilf]⟩),
  (93, ⟨(.array 0 16), 0, 0, []⟩),
  (96, ⟨.func, 1, 8, [.nilf]⟩),
  (97, ⟨(.int .u32), 1, 4, [.int .u32 0]⟩),
  (98, ⟨(.int .u8), 1, 1, [.int .u8 0]⟩),
  (99, ⟨(.int .u8), 1, 1, [.int .u8 0]⟩),
  (100, ⟨.func, 1, 8, [.nilf]⟩),
  (101, ⟨.ptr, 1, 8, [.nilp]⟩),
  (102, ⟨(.int .i32), 1, 4, [.int .i32 0]⟩),
  (103, ⟨(.int .i32), 1, 4, [.int .i32 0]⟩)]

def lookFn : List (Nat × Func) → Nat → Option Func
  | [], _ => none
  | (t, i) :: l, n => match Nat.beq n t with | true => some i | false => lookFn l n

noncomputable def fnTab : List (Nat × Func) := [(3, Tryd.f3), (4, Tryd.f4), (5, Tryd.f5), (6, Tryd.f6), (7, Tryd.f7), (8, Tryd.f8), (9, Tryd.f9), (10, Tryd.f10), (11, Tryd.f11), (12, Tryd.f12), (13, Tryd.f13), (14, Tryd.f14), (15, Tryd.f15), (16, Tryd.f16), (17, Tryd.f17), (18, Tryd.f18), (19, Tryd.f19), (20, Tryd.f20), (21, Tryd.f21), (22, Tryd.f22), (23, Tryd.f23), (24, Tryd.f24), (25, Tryd.f25), (26, Tryd.f26), (27, Tryd.f27), (28, Tryd.f28), (29, Tryd.f29), (30, Tryd.f30), (31, Tryd.f31), (32, Tryd.f32), (33, Tryd.f33), (34, Tryd.f34), (35, Tryd.f35), (36, Tryd.f36), (37, Tryd.f37), (38, Tryd.f38), (39, Tryd.f39), (40, Tryd.f40), (41, Tryd.f41), (42, Tryd.f42), (43, Tryd.f43), (44, Tryd.f44), (45, Tryd.f45), (46, Tryd.f46), (47, Tryd.f47), (48, Tryd.f48), (49, Tryd.f49), (50, Tryd.f50), (51, Tryd.f51), (52, Tryd.f52), (53, Tryd.f53), (54, Tryd.f54), (55, Tryd.f55), (56, Tryd.f56), (57, Tryd.f57), (58, Tryd.f58), (59, Tryd.f59), (60, Tryd.f60), (77, Tryd.f77), (78, Tryd.f78)]

def gl0 : Nat → Option (Nat × (Nat → CV))
  | 0 => some (1, fun _ => .fn 77 [] (fun _ _ => .any) 0 (fun _ => .any))
  | 1 => some (1, fun _ => .fn 78 [] (fun _ _ => .any) 0 (fun _ => .any))
  | _ => none

/-- The map of debts that were gone through. -/
def M78 : MapT := ⟨45, 3, true, 3, false⟩
def mps0 : Nat → Option MapT
  | 78 => some M78
  | _ => none

noncomputable def E0 : Env := { ty := lookTy tyTab, gl := gl0, sig := fun _ => none, fn := lookFn fnTab, lam := fun _ _ => none, mps := mps0, any := fun f r => Nat.beq f 50 && Nat.beq r 9 }

theorem m78_und : Tryd.prog.underlying 78 = some (.map 45 3) := by kernel_rfl
def fldsOf : Option TypeDesc → Option (List (Nat × Nat × Bool))
  | some (.struct fs) => some (fs.toList.map (fun f => (f.type, f.offset, f.name != "_")))
  | _ => none
theorem m45_flds : fldsOf (Tryd.prog.underlying 45) = some [(3, 0, true), (3, 1, true), (3, 2, true)] := by kernel_rfl
theorem m45_und : ∃ fs, Tryd.prog.underlying 45 = some (.struct fs) ∧ fs.toList.map (fun f => (f.type, f.offset, f.name != "_")) = [(3, 0, true), (3, 1, true), (3, 2, true)] := by
  have h := m45_flds
  unfold fldsOf at h
  split at h
  · rename_i fs hu
    exact ⟨fs, hu, by injection h⟩
  · cases h
theorem m45_key : Tryd.prog.keyType 45 = true := by kernel_rfl
theorem m45_size : Tryd.prog.cellsOf 45 = 3 := by kernel_rfl
theorem m3_size : Tryd.prog.cellsOf 3 = 1 := by kernel_rfl
theorem m3_und : Tryd.prog.underlying 3 = some (.int .i64) := by kernel_rfl
theorem m_small : Tryd.prog.types.size + 2 ≤ 10000 := Nat.le_of_ble_eq_true (by kernel_rfl)
theorem m_row : 45 < Tryd.prog.types.size := Nat.le_of_ble_eq_true (by kernel_rfl)
theorem m_laid : laidOutB Tryd.prog = true := by kernel_rfl

theorem m3_lit (d : Nat) {a : Int} (h : inRange .i64 a) : Tryd.prog.keyLits (d + 1) 3 [.int .i64 a] = some [.int .i64 a] := by
  have : (Lit.int .i64 a).wf = true := by
    obtain ⟨h1, h2⟩ := h
    simp only [Lit.wf, Bool.and_eq_true, decide_eq_true_eq]
    exact ⟨h1, h2⟩
  simp [Program.keyLits, m3_und, this]

theorem m78_lit (ks : List Int) (h : KeyIs M78 ks) : ∃ l, keyOf Tryd.prog 45 (keyV true ks) = some l := by
  obtain ⟨fs, h1, h2⟩ := m45_und
  obtain ⟨hl, hr⟩ := h
  match ks, hl with
  | [a, b, c], _ =>
    have ha := hr a (by simp)
    have hb := hr b (by simp)
    have hc := hr c (by simp)
    obtain ⟨n, hn⟩ : ∃ n, Tryd.prog.types.size + 1 = n + 2 := ⟨Tryd.prog.types.size - 1, by have := m_row; omega⟩
    have hf : (Value.agg #[Value.int .i64 a, Value.int .i64 b, Value.int .i64 c]).formed Tryd.prog 45 = true := by simp [Value.formed, h1, m45_size]
    obtain ⟨f0, f1, f2, hfs⟩ : ∃ f0 f1 f2, fs.toList = [f0, f1, f2] := by
      have hl : fs.toList.length = 3 := by
        have := congrArg List.length h2
        rwa [List.length_map] at this
      generalize fs.toList = l at hl
      match l, hl with
      | [f0, f1, f2], _ => exact ⟨f0, f1, f2, rfl⟩
    rw [hfs] at h2
    simp only [List.map_cons, List.map_nil, List.cons.injEq, Prod.mk.injEq, and_true] at h2
    obtain ⟨⟨t0, o0, n0⟩, ⟨t1, o1, n1⟩, ⟨t2, o2, n2⟩⟩ := h2
    obtain rfl : fs = #[f0, f1, f2] := by cases fs; simp at hfs; subst hfs; rfl
    have hk : Tryd.prog.keyLits (n + 2) 45 [.int .i64 a, .int .i64 b, .int .i64 c] = some [.int .i64 a, .int .i64 b, .int .i64 c] := by
      unfold Program.keyLits
      simp only [h1]
      simp [ m45_size, n0, n1, n2, t0, t1, t2, o0, o1, o2, m3_size, m3_lit n ha, m3_lit n hb, m3_lit n hc]
    refine ⟨.string (keyBytes [.int .i64 a, .int .i64 b, .int .i64 c]), ?_⟩
    unfold keyOf
    simp only [h1]
    rw [show keyV true [a, b, c] = Value.agg #[Value.int .i64 a, Value.int .i64 b, Value.int .i64 c] from rfl, m45_key, hf, hn]
    simp only [Bool.and_self, if_true, Value.cells]
    rw [hk]
    rfl

theorem m78 : MapFacts Tryd.prog 78 M78 :=
  ⟨m78_und, Go.Maps.Keyed.of_law (deep_law_gate m_laid m_small m_row m45_key (by kernel_rfl)), m78_lit, fun w => rfl, fun h => by cases h⟩

theorem maps_ok : MapsOk Tryd.prog E0 := fun t T h => by
  have h' : mps0 t = some T := h
  unfold mps0 at h'
  split at h'
  · injection h' with h'; subst h'; exact m78
  · cases h'

theorem lookFn_mem : ∀ {l : List (Nat × Func)} {t : Nat} {i : Func}, lookFn l t = some i → (t, i) ∈ l
  | [], _, _, h => by simp [lookFn] at h
  | (n, j) :: l, t, i, h => by
    simp only [lookFn] at h
    split at h
    · rename_i e
      have := Nat.eq_of_beq_eq_true e
      subst this
      simp at h; subst h; simp
    · exact List.mem_cons_of_mem _ (lookFn_mem h)

theorem fnOk : fnTab.map (fun x => Tryd.prog.funcs[x.1]?) = fnTab.map (fun x => some x.2) := by kernel_rfl
theorem fnRuns : fnTab.all (fun x => !(x.2.name == "runtime.NumGoroutine") && x.2.body.isSome) = true := by kernel_rfl
theorem tyOk : tyTab.map (fun x => tabTI Tryd.prog x.1) = tyTab.map (fun x => some x.2) := by kernel_rfl

theorem fn_of {f : Nat} {fn : Func} (h : lookFn fnTab f = some fn) : ∃ c, Tryd.prog.funcs[f]? = some fn ∧ (fn.name == "runtime.NumGoroutine") = false ∧ fn.body = some c := by
  have hm := lookFn_mem h
  have h1 := map_eq_mem fnOk _ hm
  have h2 := List.all_eq_true.1 fnRuns _ hm
  simp only [Bool.and_eq_true, Bool.not_eq_true'] at h2
  obtain ⟨c, hc⟩ := Option.isSome_iff_exists.1 h2.2
  exact ⟨c, h1, h2.1, hc⟩

theorem fn_runs {f : Nat} (h : (lookFn fnTab f).isSome = true) : ∃ fn c, Tryd.prog.funcs[f]? = some fn ∧ (fn.name == "runtime.NumGoroutine") = false ∧ fn.body = some c := by
  obtain ⟨fn, hf⟩ := Option.isSome_iff_exists.1 h
  obtain ⟨c, h1⟩ := fn_of hf
  exact ⟨fn, c, h1⟩

theorem E0_ok : EnvOk Tryd.prog E0 :=
  ⟨tab_ok rfl tyOk (by kernel_rfl), fun f fn h => let ⟨_, h1, _⟩ := fn_of h; h1, fun f h => fn_runs (h.elim id (fun h => by simp [E0] at h)), fun f s x h => by simp [E0] at h, by kernel_rfl, maps_ok, fun _ _ _ h => (by cases h), fun _ _ _ h => by cases h⟩
end Go.Proofs.YthofpbnbjkdpaaaDoor
