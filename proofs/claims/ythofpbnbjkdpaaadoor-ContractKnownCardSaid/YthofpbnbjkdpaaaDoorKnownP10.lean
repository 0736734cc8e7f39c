/- Texts for the law of the last part, part 10. -/
import Derived.Test.YthofpbnbjkdpaaaDoorKnownP09
import Derived.Test.YthofpbnbjkdpaaaDoorRows
import Derived.DeepKeys5
set_option linter.unusedSimpArgs false
set_option linter.unusedVariables false
namespace Go.Proofs.YthofpbnbjkdpaaaDoor
open Go Go.Sx
def tyTab : List (Nat × TI) := [
 (1, ⟨.func, 1, 8, [.nilf]⟩),
 (2, ⟨(.int .i64), 1, 8, [.int .i64 0]⟩),
 (3, ⟨(.int .i64), 1, 8, [.int .i64 0]⟩),
 (4, ⟨.bool, 1, 1, [.ff]⟩),
 (5, ⟨(.int .u8), 1, 1, [.int .u8 0]⟩),
 (6, ⟨(.int .u8), 1, 1, [.int .u8 0]⟩),
 (7, ⟨(.struct [(0, 2), (1, 3), (2, 4), (3, 6)]), 4, 24, [.int .i64 0, .int .i64 0, .ff, .int .u8 0]⟩),
 (8, ⟨(.struct [(0, 2), (1, 3), (2, 4), (3, 6)]), 4, 24, [.int .i64 0, .int .i64 0, .ff, .int .u8 0]⟩),
 (9, ⟨.str, 1, 16, [.str ⟨#[]⟩]⟩),
 (10, ⟨.str, 1, 16, [.str ⟨#[]⟩]⟩),
 (11, ⟨.str, 1, 16, [.str ⟨#[]⟩]⟩),
 (12, ⟨(.int .u64), 1, 8, [.int .u64 0]⟩),
 (15, ⟨.ptr, 1, 8, [.nilp]⟩),
 (16, ⟨.ptr, 1, 8, [.nilp]⟩),
 (17, ⟨.ptr, 1, 8, [.nilp]⟩),
 (21, ⟨(.int .i32), 1, 4, [.int .i32 0]⟩),
 (22, ⟨(.slice 3), 1, 24, [.nils]⟩),
 (23, ⟨(.slice 45), 1, 24, [.nils]⟩),
 (24, ⟨(.slice 51), 1, 24, [.nils]⟩),
 (25, ⟨(.struct [(0, 22), (1, 23), (2, 24)]), 3, 72, [.nils, .nils, .nils]⟩),
 (26, ⟨(.struct [(0, 22), (1, 23), (2, 24)]), 3, 72, [.nils, .nils, .nils]⟩),
 (27, ⟨(.int .i64), 1, 8, [.int .i64 0]⟩),
 (29, ⟨.func, 1, 8, [.nilf]⟩),
 (30, ⟨.func, 1, 8, [.nilf]⟩),
 (31, ⟨.func, 1, 8, [.nilf]⟩),
 (32, ⟨.func, 1, 8, [.nilf]⟩),
 (33, ⟨.func, 1, 8, [.nilf]⟩),
 (35, ⟨.func, 1, 8, [.nilf]⟩),
 (36, ⟨.func, 1, 8, [.nilf]⟩),
 (37, ⟨.func, 1, 8, [.nilf]⟩),
 (38, ⟨(.array 2 3), 2, 16, [.int .i64 0, .int .i64 0]⟩),
 (39, ⟨.func, 1, 8, [.nilf]⟩),
 (40, ⟨.func, 1, 8, [.nilf]⟩),
 (41, ⟨.func, 1, 8, [.nilf]⟩),
 (42, ⟨.func, 1, 8, [.nilf]⟩),
 (43, ⟨.func, 1, 8, [.nilf]⟩),
 (44, ⟨(.struct [(0, 3), (1, 3), (2, 3)]), 3, 24, [.int .i64 0, .int .i64 0, .int .i64 0]⟩),
 (45, ⟨(.struct [(0, 3), (1, 3), (2, 3)]), 3, 24, [.int .i64 0, .int .i64 0, .int .i64 0]⟩),
 (46, ⟨.func, 1, 8, [.nilf]⟩),
 (47, ⟨.func, 1, 8, [.nilf]⟩),
 (48, ⟨.func, 1, 8, [.nilf]⟩),
 (49, ⟨(.array 4 3), 4, 32, [.int .i64 0, .int .i64 0, .int .i64 0, .int .i64 0]⟩),
 (50, ⟨(.struct [(0, 3), (1, 22)]), 2, 32, [.int .i64 0, .nils]⟩),
 (51, ⟨(.struct [(0, 3), (1, 22)]), 2, 32, [.int .i64 0, .nils]⟩),
 (52, ⟨.func, 1, 8, [.nilf]⟩),
 (53, ⟨.func, 1, 8, [.nilf]⟩),
 (54, ⟨.func, 1, 8, [.nilf]⟩),
 (55, ⟨(.array 3 3), 3, 24, [.int .i64 0, .int .i64 0, .int .i64 0]⟩),
 (56, ⟨.func, 1, 8, [.nilf]⟩),
 (57, ⟨.func, 1, 8, [.nilf]⟩),
 (58, ⟨(.slice 26), 1, 24, [.nils]⟩),
 (59, ⟨(.struct [(0, 26)]), 3, 72, [.nils, .nils, .nils]⟩),
 (60, ⟨(.struct [(0, 26)]), 3, 72, [.nils, .nils, .nils]⟩),
 (62, ⟨.func, 1, 8, [.nilf]⟩),
 (63, ⟨(.array 12 3), 12, 96, List.replicate 12 (.int .i64 0)⟩),
 (64, ⟨(.array 12 3), 12, 96, List.replicate 12 (.int .i64 0)⟩),
 (66, ⟨.func, 1, 8, [.nilf]⟩),
 (67, ⟨.func, 1, 8, [.nilf]⟩),
 (68, ⟨.func, 1, 8, [.nilf]⟩),
 (70, ⟨.func, 1, 8, [.nilf]⟩),
 (71, ⟨.func, 1, 8, [.nilf]⟩),
 (72, ⟨.func, 1, 8, [.nilf]⟩),
 (73, ⟨.func, 1, 8, [.nilf]⟩),
 (74, ⟨(.struct [(0, 73)]), 1, 8, [.nilf]⟩),
 (75, ⟨(.struct [(0, 73)]), 1, 8, [.nilf]⟩),
 (76, ⟨.func, 1, 8, [.nilf]⟩),
 (77, ⟨.func, 1, 8, [.nilf]⟩),
 (78, ⟨(.map 45 3), 1, 8, [.nilm]⟩),
 (79, ⟨.func, 1, 8, [.nilf]⟩),
 (81, ⟨.func, 1, 8, [.nilf]⟩),
 (82, ⟨.func, 1, 8, [.nilf]⟩),
 (83, ⟨.func, 1, 8, [.nilf]⟩),
 (84, ⟨.func, 1, 8, [.nilf]⟩),
 (85, ⟨.func, 1, 8, [.nilf]⟩),
 (86, ⟨.func, 1, 8, [.nilf]⟩),
 (87, ⟨.func, 1, 8, [.nilf]⟩),
 (88, ⟨.func, 1, 8, [.nilf]⟩),
 (89, ⟨.func, 1, 8, [.nilf]⟩),
 (90, ⟨.func, 1, 8, [.nilf]⟩),
 (93, ⟨(.array 0 16), 0, 0, []⟩),
 (96, ⟨.func, 1, 8, [.nilf]⟩),
 (97, ⟨(.int .u32), 1, 4, [.int .u32 0]⟩),
 (98, ⟨(.int .u8), 1, 1, [.int .u8 0]⟩),
 (99, ⟨(.int .u8), 1, 1, [.int .u8 0]⟩),
 (100, ⟨.func, 1, 8, [.nilf]⟩),
 (101, ⟨.ptr, 1, 8, [.nilp]⟩),
 (102, ⟨(.int .i32), 1, 4, [.int .i32 0]⟩),
 (103, ⟨(.int .i32), 1, 4, [.int .i32 0]⟩)]
def lookFn : List (Nat × Func) → Nat → Option Func
 | [], _ => none
 | (t, i) :: l, n => match Nat.beq n t with | true => some i | false => lookFn l n
noncomputable def fnTab : List (Nat × Func) := [(3, Tryd.f3), (4, Tryd.f4), (5, Tryd.f5), (6, Tryd.f6), (7, Tryd.f7), (8, Tryd.f8), (9, Tryd.f9), (10, Tryd.f10), (11, Tryd.f11), (12, Tryd.f12), (13, Tryd.f13), (14, Tryd.f14), (15, Tryd.f15), (16, Tryd.f16), (17, Tryd.f17), (18, Tryd.f18), (19, Tryd.f19), (20, Tryd.f20), (21, Tryd.f21), (22, Tryd.f22), (23, Tryd.f23), (24, Tryd.f24), (25, Tryd.f25), (26, Tryd.f26), (27, Tryd.f27), (28, Tryd.f28), (29, Tryd.f29), (30, Tryd.f30), (31, Tryd.f31), (32, Tryd.f32), (33, Tryd.f33), (34, Tryd.f34), (35, Tryd.f35), (36, Tryd.f36), (37, Tryd.f37), (38, Tryd.f38), (39, Tryd.f39), (40, Tryd.f40), (41, Tryd.f41), (42, Tryd.f42), (43, Tryd.f43), (44, Tryd.f44), (45, Tryd.f45), (46, Tryd.f46), (47, Tryd.f47), (48, Tryd.f48), (49, Tryd.f49), (50, Tryd.f50), (51, Tryd.f51), (52, Tryd.f52), (53, Tryd.f53), (54, Tryd.f54), (55, Tryd.f55), (56, Tryd.f56), (57, Tryd.f57), (58, Tryd.f58), (59, Tryd.f59), (60, Tryd.f60), (77, Tryd.f77), (78, Tryd.f78)]
def gl0 : Nat → Option (Nat × (Nat → CV))
 | 0 => some (1, fun _ => .fn 77 [] (fun _ _ => .any) 0 (fun _ => .any))
 | 1 => some (1, fun _ => .fn 78 [] (fun _ _ => .any) 0 (fun _ => .any))
 | _ => none
def M78 : MapT := ⟨45, 3, true, 3, false⟩
def mps0 : Nat → Option MapT
 | 78 => some M78
 | _ => none
noncomputable def E0 : Env := { ty := lookTy tyTab, gl := gl0, sig := fun _ => none, fn := lookFn fnTab, lam := fun _ _ => none, mps := mps0, every := fun f r => Nat.beq f 50 && Nat.beq r 9 }
theorem m78_und : Tryd.prog.underlying 78 = some (.map 45 3) := by kernel_rfl
def fldsOf : Option TypeDesc → Option (List (Nat × Nat × Bool))
 | some (.struct fs) => some (fs.toList.map (fun f => (f.type, f.offset, f.name != "_")))
 | _ => none
theorem m45_flds : fldsOf (Tryd.prog.underlying 45) = some [(3, 0, true), (3, 1, true), (3, 2, true)] := by kernel_rfl
theorem m45_und : ∃ fs, Tryd.prog.underlying 45 = some (.struct fs) ∧ fs.toList.map (fun f => (f.type, f.offset, f.name != "_")) = [(3, 0, true), (3, 1, true), (3, 2, true)] := by
 have h := m45_flds
 unfold fldsOf at h
 split at h
 · rename_i fs hu
   exact ⟨fs, hu, by injection h⟩
 · cases h
theorem m45_key : Tryd.prog.keyType 45 = true := by kernel_rfl
theorem m45_size : Tryd.prog.cellsOf 45 = 3 := by kernel_rfl
theorem m3_size : Tryd.prog.cellsOf 3 = 1 := by kernel_rfl
theorem m3_und : Tryd.prog.underlying 3 = some (.int .i64) := by kernel_rfl
theorem m_small : Tryd.prog.types.size + 2 ≤ 10000 := Nat.le_of_ble_eq_true (by kernel_rfl)
theorem m_row : 45 < Tryd.prog.types.size := Nat.le_of_ble_eq_true (by kernel_rfl)
theorem m_laid : laidOutB Tryd.prog = true := by kernel_rfl
theorem m3_lit (d : Nat) {a : Int} (h : inRange .i64 a) : Tryd.prog.keyLits (d + 1) 3 [.int .i64 a] = some [.int .i64 a] := by
 have : (Lit.int .i64 a).wf = true := by
   obtain ⟨h1, h2⟩ := h
   simp only [Lit.wf, Bool.and_eq_true, decide_eq_true_eq]
   exact ⟨h1, h2⟩
 simp [Program.keyLits, m3_und, this]
theorem m78_lit (ks : List Int) (h : KeyIs M78 ks) : ∃ l, keyOf Tryd.prog 45 (keyV true ks) = some l := by
 obtain ⟨fs, h1, h2⟩ := m45_und
 obtain ⟨hl, hr⟩ := h
 match ks, hl with
 | [a, b, c], _ =>
   have ha := hr a (by simp)
   have hb := hr b (by simp)
   have hc := hr c (by simp)
   obtain ⟨n, hn⟩ : ∃ n, Tryd.prog.types.size + 1 = n + 2 := ⟨Tryd.prog.types.size - 1, by have := m_row; omega⟩
   have hf : (Value.agg #[Value.int .i64 a, Value.int .i64 b, Value.int .i64 c]).formed Tryd.prog 45 = true := by simp [Value.formed, h1, m45_size]
   obtain ⟨f0, f1, f2, hfs⟩ : ∃ f0 f1 f2, fs.toList = [f0, f1, f2] := by
     have hl : fs.toList.length = 3 := by
       have := congrArg List.length h2
       rwa [List.length_map] at this
     generalize fs.toList = l at hl
     match l, hl with
     | [f0, f1, f2], _ => exact ⟨f0, f1, f2, rfl⟩
   rw [hfs] at h2
   simp only [List.map_cons, List.map_nil, List.cons.injEq, Prod.mk.injEq, and_true] at h2
   obtain ⟨⟨t0, o0, n0⟩, ⟨t1, o1, n1⟩, ⟨t2, o2, n2⟩⟩ := h2
   obtain rfl : fs = #[f0, f1, f2] := by cases fs; simp at hfs; subst hfs; rfl
   have hk : Tryd.prog.keyLits (n + 2) 45 [.int .i64 a, .int .i64 b, .int .i64 c] = some [.int .i64 a, .int .i64 b, .int .i64 c] := by
     unfold Program.keyLits
     simp only [h1]
     simp [ m45_size, n0, n1, n2, t0, t1, t2, o0, o1, o2, m3_size, m3_lit n ha, m3_lit n hb, m3_lit n hc]
   refine ⟨.string (keyBytes [.int .i64 a, .int .i64 b, .int .i64 c]), ?_⟩
   unfold keyOf
   simp only [h1]
   rw [show keyV true [a, b, c] = Value.agg #[Value.int .i64 a, Value.int .i64 b, Value.int .i64 c] from rfl, m45_key, hf, hn]
   simp only [Bool.and_self, if_true, Value.cells]
   rw [hk]
   rfl
theorem m78 : MapFacts Tryd.prog 78 M78 :=
 ⟨m78_und, Go.Maps.Keyed.of_law (deep_law_gate m_laid m_small m_row m45_key (by kernel_rfl)), m78_lit, fun w => rfl, fun h => by cases h⟩
theorem maps_ok : MapsOk Tryd.prog E0 := fun t T h => by
 have h' : mps0 t = some T := h
 unfold mps0 at h'
 split at h'
 · injection h' with h'; subst h'; exact m78
 · cases h'
theorem lookFn_mem : ∀ {l : List (Nat × Func)} {t : Nat} {i : Func}, lookFn l t = some i → (t, i) ∈ l
 | [], _, _, h => by simp [lookFn] at h
 | (n, j) :: l, t, i, h => by
   simp only [lookFn] at h
   split at h
   · rename_i e
     have := Nat.eq_of_beq_eq_true e
     subst this
     simp at h; subst h; simp
   · exact List.mem_cons_of_mem _ (lookFn_mem h)
theorem fnOk : fnTab.map (fun x => Tryd.prog.funcs[x.1]?) = fnTab.map (fun x => some x.2) := by kernel_rfl
theorem fnRuns : fnTab.all (fun x => !(x.2.name == "runtime.NumGoroutine") && x.2.body.isSome) = true := by kernel_rfl
theorem tyOk : tyTab.map (fun x => tabTI Tryd.prog x.1) = tyTab.map (fun x => some x.2) := by kernel_rfl
theorem fn_of {f : Nat} {fn : Func} (h : lookFn fnTab f = some fn) : ∃ c, Tryd.prog.funcs[f]? = some fn ∧ (fn.name == "runtime.NumGoroutine") = false ∧ fn.body = some c := by
 have hm := lookFn_mem h
 have h1 := map_eq_mem fnOk _ hm
 have h2 := List.all_eq_true.1 fnRuns _ hm
 simp only [Bool.and_eq_true, Bool.not_eq_true'] at h2
 obtain ⟨c, hc⟩ := Option.isSome_iff_exists.1 h2.2
 exact ⟨c, h1, h2.1, hc⟩
theorem fn_runs {f : Nat} (h : (lookFn fnTab f).isSome = true) : ∃ fn c, Tryd.prog.funcs[f]? = some fn ∧ (fn.name == "runtime.NumGoroutine") = false ∧ fn.body = some c := by
 obtain ⟨fn, hf⟩ := Option.isSome_iff_exists.1 h
 obtain ⟨c, h1⟩ := fn_of hf
 exact ⟨fn, c, h1⟩
theorem E0_ok : EnvOk Tryd.prog E0 :=
 ⟨tab_ok rfl tyOk (by kernel_rfl), fun f fn h => let ⟨_, h1, _⟩ := fn_of h; h1, fun f h => fn_runs (h.elim id (fun h => by simp [E0] at h)), fun f s x h => by simp [E0] at h, by kernel_rfl, maps_ok, fun _ _ _ h => (by cases h), fun _ _ _ h => (by cases h), fun _ _ _ h => by cases h⟩
end Go.Proofs.YthofpbnbjkdpaaaDoor
namespace Go.Sx
theorem inR (n : Int) : inRange .i64 n ↔ -9223372036854775808 ≤ n ∧ n ≤ 9223372036854775807 := Iff.rfl
theorem exs1 {g : Nat} : (∃ a : Nat, (g : Int) = (a : Int)) ↔ True := ⟨fun ⟨a, e⟩ => by obtain rfl : a = g := (by omega); exact trivial, fun h => ⟨g, by omega⟩⟩
theorem exn1 {g : Nat} : (∃ a : Nat, (g : Int) + 1 = (a : Int)) ↔ True := ⟨fun ⟨a, e⟩ => by obtain rfl : a = g + 1 := (by omega); exact trivial, fun h => ⟨g + 1, by omega⟩⟩
theorem exz1 : (∃ a : Nat, (0 : Int) = (a : Int)) ↔ True := ⟨fun ⟨a, e⟩ => by obtain rfl : a = 0 := (by omega); exact trivial, fun h => ⟨0, by omega⟩⟩
theorem exo1 : (∃ a : Nat, (1 : Int) = (a : Int)) ↔ True := ⟨fun ⟨a, e⟩ => by obtain rfl : a = 1 := (by omega); exact trivial, fun h => ⟨1, by omega⟩⟩
theorem exs2 {p1 : Nat → Prop} {g : Nat} : (∃ a : Nat, p1 a ∧ (g : Int) = (a : Int)) ↔ p1 g := ⟨fun ⟨a, h1, e⟩ => by obtain rfl : a = g := (by omega); exact h1, fun h => ⟨g, h, by omega⟩⟩
theorem exn2 {p1 : Nat → Prop} {g : Nat} : (∃ a : Nat, p1 a ∧ (g : Int) + 1 = (a : Int)) ↔ p1 (g + 1) := ⟨fun ⟨a, h1, e⟩ => by obtain rfl : a = g + 1 := (by omega); exact h1, fun h => ⟨g + 1, h, by omega⟩⟩
theorem exz2 {p1 : Nat → Prop} : (∃ a : Nat, p1 a ∧ (0 : Int) = (a : Int)) ↔ p1 0 := ⟨fun ⟨a, h1, e⟩ => by obtain rfl : a = 0 := (by omega); exact h1, fun h => ⟨0, h, by omega⟩⟩
theorem exo2 {p1 : Nat → Prop} : (∃ a : Nat, p1 a ∧ (1 : Int) = (a : Int)) ↔ p1 1 := ⟨fun ⟨a, h1, e⟩ => by obtain rfl : a = 1 := (by omega); exact h1, fun h => ⟨1, h, by omega⟩⟩
theorem exs3 {p1 p2 : Nat → Prop} {g : Nat} : (∃ a : Nat, p1 a ∧ p2 a ∧ (g : Int) = (a : Int)) ↔ p1 g ∧ p2 g := ⟨fun ⟨a, h1, h2, e⟩ => by obtain rfl : a = g := (by omega); exact ⟨h1, h2⟩, fun h => ⟨g, h.1, h.2, by omega⟩⟩
theorem exn3 {p1 p2 : Nat → Prop} {g : Nat} : (∃ a : Nat, p1 a ∧ p2 a ∧ (g : Int) + 1 = (a : Int)) ↔ p1 (g + 1) ∧ p2 (g + 1) := ⟨fun ⟨a, h1, h2, e⟩ => by obtain rfl : a = g + 1 := (by omega); exact ⟨h1, h2⟩, fun h => ⟨g + 1, h.1, h.2, by omega⟩⟩
theorem exz3 {p1 p2 : Nat → Prop} : (∃ a : Nat, p1 a ∧ p2 a ∧ (0 : Int) = (a : Int)) ↔ p1 0 ∧ p2 0 := ⟨fun ⟨a, h1, h2, e⟩ => by obtain rfl : a = 0 := (by omega); exact ⟨h1, h2⟩, fun h => ⟨0, h.1, h.2, by omega⟩⟩
theorem exo3 {p1 p2 : Nat → Prop} : (∃ a : Nat, p1 a ∧ p2 a ∧ (1 : Int) = (a : Int)) ↔ p1 1 ∧ p2 1 := ⟨fun ⟨a, h1, h2, e⟩ => by obtain rfl : a = 1 := (by omega); exact ⟨h1, h2⟩, fun h => ⟨1, h.1, h.2, by omega⟩⟩
theorem exs4 {p1 p2 p3 : Nat → Prop} {g : Nat} : (∃ a : Nat, p1 a ∧ p2 a ∧ p3 a ∧ (g : Int) = (a : Int)) ↔ p1 g ∧ p2 g ∧ p3 g := ⟨fun ⟨a, h1, h2, h3, e⟩ => by obtain rfl : a = g := (by omega); exact ⟨h1, h2, h3⟩, fun h => ⟨g, h.1, h.2.1, h.2.2, by omega⟩⟩
theorem exn4 {p1 p2 p3 : Nat → Prop} {g : Nat} : (∃ a : Nat, p1 a ∧ p2 a ∧ p3 a ∧ (g : Int) + 1 = (a : Int)) ↔ p1 (g + 1) ∧ p2 (g + 1) ∧ p3 (g + 1) := ⟨fun ⟨a, h1, h2, h3, e⟩ => by obtain rfl : a = g + 1 := (by omega); exact ⟨h1, h2, h3⟩, fun h => ⟨g + 1, h.1, h.2.1, h.2.2, by omega⟩⟩
theorem exz4 {p1 p2 p3 : Nat → Prop} : (∃ a : Nat, p1 a ∧ p2 a ∧ p3 a ∧ (0 : Int) = (a : Int)) ↔ p1 0 ∧ p2 0 ∧ p3 0 := ⟨fun ⟨a, h1, h2, h3, e⟩ => by obtain rfl : a = 0 := (by omega); exact ⟨h1, h2, h3⟩, fun h => ⟨0, h.1, h.2.1, h.2.2, by omega⟩⟩
theorem exo4 {p1 p2 p3 : Nat → Prop} : (∃ a : Nat, p1 a ∧ p2 a ∧ p3 a ∧ (1 : Int) = (a : Int)) ↔ p1 1 ∧ p2 1 ∧ p3 1 := ⟨fun ⟨a, h1, h2, h3, e⟩ => by obtain rfl : a = 1 := (by omega); exact ⟨h1, h2, h3⟩, fun h => ⟨1, h.1, h.2.1, h.2.2, by omega⟩⟩
theorem exs5 {p1 p2 p3 p4 : Nat → Prop} {g : Nat} : (∃ a : Nat, p1 a ∧ p2 a ∧ p3 a ∧ p4 a ∧ (g : Int) = (a : Int)) ↔ p1 g ∧ p2 g ∧ p3 g ∧ p4 g := ⟨fun ⟨a, h1, h2, h3, h4, e⟩ => by obtain rfl : a = g := (by omega); exact ⟨h1, h2, h3, h4⟩, fun h => ⟨g, h.1, h.2.1, h.2.2.1, h.2.2.2, by omega⟩⟩
theorem exn5 {p1 p2 p3 p4 : Nat → Prop} {g : Nat} : (∃ a : Nat, p1 a ∧ p2 a ∧ p3 a ∧ p4 a ∧ (g : Int) + 1 = (a : Int)) ↔ p1 (g + 1) ∧ p2 (g + 1) ∧ p3 (g + 1) ∧ p4 (g + 1) := ⟨fun ⟨a, h1, h2, h3, h4, e⟩ => by obtain rfl : a = g + 1 := (by omega); exact ⟨h1, h2, h3, h4⟩, fun h => ⟨g + 1, h.1, h.2.1, h.2.2.1, h.2.2.2, by omega⟩⟩
theorem exz5 {p1 p2 p3 p4 : Nat → Prop} : (∃ a : Nat, p1 a ∧ p2 a ∧ p3 a ∧ p4 a ∧ (0 : Int) = (a : Int)) ↔ p1 0 ∧ p2 0 ∧ p3 0 ∧ p4 0 := ⟨fun ⟨a, h1, h2, h3, h4, e⟩ => by obtain rfl : a = 0 := (by omega); exact ⟨h1, h2, h3, h4⟩, fun h => ⟨0, h.1, h.2.1, h.2.2.1, h.2.2.2, by omega⟩⟩
theorem exo5 {p1 p2 p3 p4 : Nat → Prop} : (∃ a : Nat, p1 a ∧ p2 a ∧ p3 a ∧ p4 a ∧ (1 : Int) = (a : Int)) ↔ p1 1 ∧ p2 1 ∧ p3 1 ∧ p4 1 := ⟨fun ⟨a, h1, h2, h3, h4, e⟩ => by obtain rfl : a = 1 := (by omega); exact ⟨h1, h2, h3, h4⟩, fun h => ⟨1, h.1, h.2.1, h.2.2.1, h.2.2.2, by omega⟩⟩
theorem exs6 {p1 p2 p3 p4 p5 : Nat → Prop} {g : Nat} : (∃ a : Nat, p1 a ∧ p2 a ∧ p3 a ∧ p4 a ∧ p5 a ∧ (g : Int) = (a : Int)) ↔ p1 g ∧ p2 g ∧ p3 g ∧ p4 g ∧ p5 g := ⟨fun ⟨a, h1, h2, h3, h4, h5, e⟩ => by obtain rfl : a = g := (by omega); exact ⟨h1, h2, h3, h4, h5⟩, fun h => ⟨g, h.1, h.2.1, h.2.2.1, h.2.2.2.1, h.2.2.2.2, by omega⟩⟩
theorem exn6 {p1 p2 p3 p4 p5 : Nat → Prop} {g : Nat} : (∃ a : Nat, p1 a ∧ p2 a ∧ p3 a ∧ p4 a ∧ p5 a ∧ (g : Int) + 1 = (a : Int)) ↔ p1 (g + 1) ∧ p2 (g + 1) ∧ p3 (g + 1) ∧ p4 (g + 1) ∧ p5 (g + 1) := ⟨fun ⟨a, h1, h2, h3, h4, h5, e⟩ => by obtain rfl : a = g + 1 := (by omega); exact ⟨h1, h2, h3, h4, h5⟩, fun h => ⟨g + 1, h.1, h.2.1, h.2.2.1, h.2.2.2.1, h.2.2.2.2, by omega⟩⟩
theorem exz6 {p1 p2 p3 p4 p5 : Nat → Prop} : (∃ a : Nat, p1 a ∧ p2 a ∧ p3 a ∧ p4 a ∧ p5 a ∧ (0 : Int) = (a : Int)) ↔ p1 0 ∧ p2 0 ∧ p3 0 ∧ p4 0 ∧ p5 0 := ⟨fun ⟨a, h1, h2, h3, h4, h5, e⟩ => by obtain rfl : a = 0 := (by omega); exact ⟨h1, h2, h3, h4, h5⟩, fun h => ⟨0, h.1, h.2.1, h.2.2.1, h.2.2.2.1, h.2.2.2.2, by omega⟩⟩
theorem exo6 {p1 p2 p3 p4 p5 : Nat → Prop} : (∃ a : Nat, p1 a ∧ p2 a ∧ p3 a ∧ p4 a ∧ p5 a ∧ (1 : Int) = (a : Int)) ↔ p1 1 ∧ p2 1 ∧ p3 1 ∧ p4 1 ∧ p5 1 := ⟨fun ⟨a, h1, h2, h3, h4, h5, e⟩ => by obtain rfl : a = 1 := (by omega); exact ⟨h1, h2, h3, h4, h5⟩, fun h => ⟨1, h.1, h.2.1, h.2.2.1, h.2.2.2.1, h.2.2.2.2, by omega⟩⟩
theorem exs7 {p1 p2 p3 p4 p5 p6 : Nat → Prop} {g : Nat} : (∃ a : Nat, p1 a ∧ p2 a ∧ p3 a ∧ p4 a ∧ p5 a ∧ p6 a ∧ (g : Int) = (a : Int)) ↔ p1 g ∧ p2 g ∧ p3 g ∧ p4 g ∧ p5 g ∧ p6 g := ⟨fun ⟨a, h1, h2, h3, h4, h5, h6, e⟩ => by obtain rfl : a = g := (by omega); exact ⟨h1, h2, h3, h4, h5, h6⟩, fun h => ⟨g, h.1, h.2.1, h.2.2.1, h.2.2.2.1, h.2.2.2.2.1, h.2.2.2.2.2, by omega⟩⟩
theorem exn7 {p1 p2 p3 p4 p5 p6 : Nat → Prop} {g : Nat} : (∃ a : Nat, p1 a ∧ p2 a ∧ p3 a ∧ p4 a ∧ p5 a ∧ p6 a ∧ (g : Int) + 1 = (a : Int)) ↔ p1 (g + 1) ∧ p2 (g + 1) ∧ p3 (g + 1) ∧ p4 (g + 1) ∧ p5 (g + 1) ∧ p6 (g + 1) := ⟨fun ⟨a, h1, h2, h3, h4, h5, h6, e⟩ => by obtain rfl : a = g + 1 := (by omega); exact ⟨h1, h2, h3, h4, h5, h6⟩, fun h => ⟨g + 1, h.1, h.2.1, h.2.2.1, h.2.2.2.1, h.2.2.2.2.1, h.2.2.2.2.2, by omega⟩⟩
theorem exz7 {p1 p2 p3 p4 p5 p6 : Nat → Prop} : (∃ a : Nat, p1 a ∧ p2 a ∧ p3 a ∧ p4 a ∧ p5 a ∧ p6 a ∧ (0 : Int) = (a : Int)) ↔ p1 0 ∧ p2 0 ∧ p3 0 ∧ p4 0 ∧ p5 0 ∧ p6 0 := ⟨fun ⟨a, h1, h2, h3, h4, h5, h6, e⟩ => by obtain rfl : a = 0 := (by omega); exact ⟨h1, h2, h3, h4, h5, h6⟩, fun h => ⟨0, h.1, h.2.1, h.2.2.1, h.2.2.2.1, h.2.2.2.2.1, h.2.2.2.2.2, by omega⟩⟩
theorem exo7 {p1 p2 p3 p4 p5 p6 : Nat → Prop} : (∃ a : Nat, p1 a ∧ p2 a ∧ p3 a ∧ p4 a ∧ p5 a ∧ p6 a ∧ (1 : Int) = (a : Int)) ↔ p1 1 ∧ p2 1 ∧ p3 1 ∧ p4 1 ∧ p5 1 ∧ p6 1 := ⟨fun ⟨a, h1, h2, h3, h4, h5, h6, e⟩ => by obtain rfl : a = 1 := (by omega); exact ⟨h1, h2, h3, h4, h5, h6⟩, fun h => ⟨1, h.1, h.2.1, h.2.2.1, h.2.2.2.1, h.2.2.2.2.1, h.2.2.2.2.2, by omega⟩⟩
theorem exs8 {p1 p2 p3 p4 p5 p6 p7 : Nat → Prop} {g : Nat} : (∃ a : Nat, p1 a ∧ p2 a ∧ p3 a ∧ p4 a ∧ p5 a ∧ p6 a ∧ p7 a ∧ (g : Int) = (a : Int)) ↔ p1 g ∧ p2 g ∧ p3 g ∧ p4 g ∧ p5 g ∧ p6 g ∧ p7 g := ⟨fun ⟨a, h1, h2, h3, h4, h5, h6, h7, e⟩ => by obtain rfl : a = g := (by omega); exact ⟨h1, h2, h3, h4, h5, h6, h7⟩, fun h => ⟨g, h.1, h.2.1, h.2.2.1, h.2.2.2.1, h.2.2.2.2.1, h.2.2.2.2.2.1, h.2.2.2.2.2.2, by omega⟩⟩
theorem exn8 {p1 p2 p3 p4 p5 p6 p7 : Nat → Prop} {g : Nat} : (∃ a : Nat, p1 a ∧ p2 a ∧ p3 a ∧ p4 a ∧ p5 a ∧ p6 a ∧ p7 a ∧ (g : Int) + 1 = (a : Int)) ↔ p1 (g + 1) ∧ p2 (g + 1) ∧ p3 (g + 1) ∧ p4 (g + 1) ∧ p5 (g + 1) ∧ p6 (g + 1) ∧ p7 (g + 1) := ⟨fun ⟨a, h1, h2, h3, h4, h5, h6, h7, e⟩ => by obtain rfl : a = g + 1 := (by omega); exact ⟨h1, h2, h3, h4, h5, h6, h7⟩, fun h => ⟨g + 1, h.1, h.2.1, h.2.2.1, h.2.2.2.1, h.2.2.2.2.1, h.2.2.2.2.2.1, h.2.2.2.2.2.2, by omega⟩⟩
theorem exz8 {p1 p2 p3 p4 p5 p6 p7 : Nat → Prop} : (∃ a : Nat, p1 a ∧ p2 a ∧ p3 a ∧ p4 a ∧ p5 a ∧ p6 a ∧ p7 a ∧ (0 : Int) = (a : Int)) ↔ p1 0 ∧ p2 0 ∧ p3 0 ∧ p4 0 ∧ p5 0 ∧ p6 0 ∧ p7 0 := ⟨fun ⟨a, h1, h2, h3, h4, h5, h6, h7, e⟩ => by obtain rfl : a = 0 := (by omega); exact ⟨h1, h2, h3, h4, h5, h6, h7⟩, fun h => ⟨0, h.1, h.2.1, h.2.2.1, h.2.2.2.1, h.2.2.2.2.1, h.2.2.2.2.2.1, h.2.2.2.2.2.2, by omega⟩⟩
theorem exo8 {p1 p2 p3 p4 p5 p6 p7 : Nat → Prop} : (∃ a : Nat, p1 a ∧ p2 a ∧ p3 a ∧ p4 a ∧ p5 a ∧ p6 a ∧ p7 a ∧ (1 : Int) = (a : Int)) ↔ p1 1 ∧ p2 1 ∧ p3 1 ∧ p4 1 ∧ p5 1 ∧ p6 1 ∧ p7 1 := ⟨fun ⟨a, h1, h2, h3, h4, h5, h6, h7, e⟩ => by obtain rfl : a = 1 := (by omega); exact ⟨h1, h2, h3, h4, h5, h6, h7⟩, fun h => ⟨1, h.1, h.2.1, h.2.2.1, h.2.2.2.1, h.2.2.2.2.1, h.2.2.2.2.2.1, h.2.2.2.2.2.2, by omega⟩⟩
theorem exs9 {p1 p2 p3 p4 p5 p6 p7 p8 : Nat → Prop} {g : Nat} : (∃ a : Nat, p1 a ∧ p2 a ∧ p3 a ∧ p4 a ∧ p5 a ∧ p6 a ∧ p7 a ∧ p8 a ∧ (g : Int) = (a : Int)) ↔ p1 g ∧ p2 g ∧ p3 g ∧ p4 g ∧ p5 g ∧ p6 g ∧ p7 g ∧ p8 g := ⟨fun ⟨a, h1, h2, h3, h4, h5, h6, h7, h8, e⟩ => by obtain rfl : a = g := (by omega); exact ⟨h1, h2, h3, h4, h5, h6, h7, h8⟩, fun h => ⟨g, h.1, h.2.1, h.2.2.1, h.2.2.2.1, h.2.2.2.2.1, h.2.2.2.2.2.1, h.2.2.2.2.2.2.1, h.2.2.2.2.2.2.2, by omega⟩⟩
theorem exn9 {p1 p2 p3 p4 p5 p6 p7 p8 : Nat → Prop} {g : Nat} : (∃ a : Nat, p1 a ∧ p2 a ∧ p3 a ∧ p4 a ∧ p5 a ∧ p6 a ∧ p7 a ∧ p8 a ∧ (g : Int) + 1 = (a : Int)) ↔ p1 (g + 1) ∧ p2 (g + 1) ∧ p3 (g + 1) ∧ p4 (g + 1) ∧ p5 (g + 1) ∧ p6 (g + 1) ∧ p7 (g + 1) ∧ p8 (g + 1) := ⟨fun ⟨a, h1, h2, h3, h4, h5, h6, h7, h8, e⟩ => by obtain rfl : a = g + 1 := (by omega); exact ⟨h1, h2, h3, h4, h5, h6, h7, h8⟩, fun h => ⟨g + 1, h.1, h.2.1, h.2.2.1, h.2.2.2.1, h.2.2.2.2.1, h.2.2.2.2.2.1, h.2.2.2.2.2.2.1, h.2.2.2.2.2.2.2, by omega⟩⟩
theorem exz9 {p1 p2 p3 p4 p5 p6 p7 p8 : Nat → Prop} : (∃ a : Nat, p1 a ∧ p2 a ∧ p3 a ∧ p4 a ∧ p5 a ∧ p6 a ∧ p7 a ∧ p8 a ∧ (0 : Int) = (a : Int)) ↔ p1 0 ∧ p2 0 ∧ p3 0 ∧ p4 0 ∧ p5 0 ∧ p6 0 ∧ p7 0 ∧ p8 0 := ⟨fun ⟨a, h1, h2, h3, h4, h5, h6, h7, h8, e⟩ => by obtain rfl : a = 0 := (by omega); exact ⟨h1, h2, h3, h4, h5, h6, h7, h8⟩, fun h => ⟨0, h.1, h.2.1, h.2.2.1, h.2.2.2.1, h.2.2.2.2.1, h.2.2.2.2.2.1, h.2.2.2.2.2.2.1, h.2.2.2.2.2.2.2, by omega⟩⟩
theorem exo9 {p1 p2 p3 p4 p5 p6 p7 p8 : Nat → Prop} : (∃ a : Nat, p1 a ∧ p2 a ∧ p3 a ∧ p4 a ∧ p5 a ∧ p6 a ∧ p7 a ∧ p8 a ∧ (1 : Int) = (a : Int)) ↔ p1 1 ∧ p2 1 ∧ p3 1 ∧ p4 1 ∧ p5 1 ∧ p6 1 ∧ p7 1 ∧ p8 1 := ⟨fun ⟨a, h1, h2, h3, h4, h5, h6, h7, h8, e⟩ => by obtain rfl : a = 1 := (by omega); exact ⟨h1, h2, h3, h4, h5, h6, h7, h8⟩, fun h => ⟨1, h.1, h.2.1, h.2.2.1, h.2.2.2.1, h.2.2.2.2.1, h.2.2.2.2.2.1, h.2.2.2.2.2.2.1, h.2.2.2.2.2.2.2, by omega⟩⟩
theorem exhs {P : Nat → Prop} {g : Nat} : (∃ a : Nat, (g : Int) = (a : Int) ∧ P a) ↔ P g := ⟨fun ⟨a, e, h⟩ => by obtain rfl : a = g := (by omega); exact h, fun h => ⟨g, by omega, h⟩⟩
theorem exhn {P : Nat → Prop} {g : Nat} : (∃ a : Nat, (g : Int) + 1 = (a : Int) ∧ P a) ↔ P (g + 1) := ⟨fun ⟨a, e, h⟩ => by obtain rfl : a = g + 1 := (by omega); exact h, fun h => ⟨g + 1, by omega, h⟩⟩
theorem exhz {P : Nat → Prop} : (∃ a : Nat, (0 : Int) = (a : Int) ∧ P a) ↔ P 0 := ⟨fun ⟨a, e, h⟩ => by obtain rfl : a = 0 := (by omega); exact h, fun h => ⟨0, by omega, h⟩⟩
theorem exho {P : Nat → Prop} : (∃ a : Nat, (1 : Int) = (a : Int) ∧ P a) ↔ P 1 := ⟨fun ⟨a, e, h⟩ => by obtain rfl : a = 1 := (by omega); exact h, fun h => ⟨1, by omega, h⟩⟩
section
variable {α : Sort _} {p q r s t u v : α → Prop} {a' : α}
theorem ex1 : (∃ a, a = a') ↔ True := ⟨fun _ => trivial, fun _ => ⟨a', rfl⟩⟩
theorem ex2 : (∃ a, p a ∧ a = a') ↔ p a' := ⟨fun ⟨_, h, e⟩ => e ▸ h, fun h => ⟨a', h, rfl⟩⟩
theorem ex3 : (∃ a, p a ∧ q a ∧ a = a') ↔ p a' ∧ q a' := ⟨fun ⟨_, h, h2, e⟩ => e ▸ ⟨h, h2⟩, fun ⟨h, h2⟩ => ⟨a', h, h2, rfl⟩⟩
theorem ex4 : (∃ a, p a ∧ q a ∧ r a ∧ a = a') ↔ p a' ∧ q a' ∧ r a' := ⟨fun ⟨_, h, h2, h3, e⟩ => e ▸ ⟨h, h2, h3⟩, fun ⟨h, h2, h3⟩ => ⟨a', h, h2, h3, rfl⟩⟩
theorem ex5 : (∃ a, p a ∧ q a ∧ r a ∧ s a ∧ a = a') ↔ p a' ∧ q a' ∧ r a' ∧ s a' := ⟨fun ⟨_, h, h2, h3, h4, e⟩ => e ▸ ⟨h, h2, h3, h4⟩, fun ⟨h, h2, h3, h4⟩ => ⟨a', h, h2, h3, h4, rfl⟩⟩
end
theorem loopN {n : Nat} {A B : Nat → Prop} : (∀ g : Nat, g ≤ n → ((g : Int) < (n : Int) → A g) ∧ (¬ (g : Int) < (n : Int) → B g)) ↔ (∀ g, g < n → A g) ∧ B n :=
 ⟨fun h => ⟨fun g hg => (h g (by omega)).1 (by omega), (h n (by omega)).2 (by omega)⟩, fun h g hg => ⟨fun hl => h.1 g (by omega), fun hl => by obtain rfl : g = n := (by omega); exact h.2⟩⟩
theorem loopM {n : Nat} {M A B : Nat → Prop} : (∀ g : Nat, g ≤ n ∧ M g → ((g : Int) < (n : Int) → A g) ∧ (¬ (g : Int) < (n : Int) → B g)) ↔ (∀ g, g < n → M g → A g) ∧ (M n → B n) :=
 ⟨fun h => ⟨fun g hg hm => (h g ⟨by omega, hm⟩).1 (by omega), fun hm => (h n ⟨by omega, hm⟩).2 (by omega)⟩, fun h g hg => ⟨fun hl => h.1 g (by omega) hg.2, fun hl => by obtain rfl : g = n := (by omega); exact h.2 hg.2⟩⟩
theorem beqI {a b : Int} : (a == b) = decide (a = b) := rfl
theorem bneI {a b : Int} : (a != b) = decide (a ≠ b) := by by_cases h : a = b <;> simp [h]
theorem fas {g : Nat} {P : Nat → Prop} : (∀ a : Nat, (g : Int) = (a : Int) → P a) ↔ P g := ⟨fun h => h g rfl, fun h a e => by obtain rfl : g = a := (by omega); exact h⟩
theorem fas2 {β : Type} {g : Nat} {P : Nat → β → Prop} {Q : Nat → β → Prop} : (∀ (a : Nat) (b : β), (g : Int) = (a : Int) ∧ P a b → Q a b) ↔ ∀ b, P g b → Q g b := ⟨fun h b hp => h g b ⟨rfl, hp⟩, fun h a b ⟨e, hp⟩ => by obtain rfl : g = a := (by omega); exact h b hp⟩
theorem fa2 {α β : Type} {g : α} {P : α → β → Prop} {Q : α → β → Prop} : (∀ a b, a = g ∧ P a b → Q a b) ↔ ∀ b, P g b → Q g b := ⟨fun h b hp => h g b ⟨rfl, hp⟩, fun h a b ⟨e, hp⟩ => by subst e; exact h b hp⟩
theorem dup1 {c X Y : Prop} : (c → (c → X) ∧ (¬c → Y)) ↔ (c → X) := ⟨fun h hc => (h hc).1 hc, fun h hc => ⟨h, fun n => absurd hc n⟩⟩
theorem dup2 {c X Y : Prop} : (¬c → (c → X) ∧ (¬c → Y)) ↔ (¬c → Y) := ⟨fun h hc => (h hc).2 hc, fun h hc => ⟨fun c => absurd c hc, h⟩⟩
theorem dup3 {b : Bool} {X Y : Prop} : (b = true → (b = true → X) ∧ (b = false → Y)) ↔ (b = true → X) := ⟨fun h hc => (h hc).1 hc, fun h hc => ⟨h, fun n => by (rw [hc] at n; cases n)⟩⟩
theorem dup4 {b : Bool} {X Y : Prop} : (b = false → (b = true → X) ∧ (b = false → Y)) ↔ (b = false → Y) := ⟨fun h hc => (h hc).2 hc, fun h hc => ⟨fun n => by (rw [hc] at n; cases n), h⟩⟩
def isI (v : AV) (n : Int) : Prop := match v with | .t (.c (.int _ m)) => m = n | _ => False
end Go.Sx
namespace Go.Sx
def osN (v : AV) : Nat := match v with | .t (.c (.os n _ _)) => n | .t (.c (.ptr n _)) => n | .t (.c (.mp n)) => n | _ => 0
def isB (b : Option Blk) (off : Nat) (n : Int) : Prop := match b with | some (.box _ get) => isI (.t (.c (get off))) n | _ => False
end Go.Sx
namespace Go.Sx
abbrev exA := And.intro @exs1 <| And.intro @exn1 <| And.intro @exz1 <| And.intro @exo1 <| And.intro @exs2 <| And.intro @exn2 <| And.intro @exz2 <| And.intro @exo2 <| And.intro @exs3 <| And.intro @exn3 <| And.intro @exz3 <| And.intro @exo3 <| And.intro @exs4 <| And.intro @exn4 <| And.intro @exz4 <| And.intro @exo4 <| And.intro @exs5 <| And.intro @exn5 <| And.intro @exz5 <| And.intro @exo5 <| And.intro @exs6 <| And.intro @exn6 <| And.intro @exz6 <| And.intro @exo6 <| And.intro @exs7 <| And.intro @exn7 <| And.intro @exz7 <| And.intro @exo7 <| And.intro @exs8 <| And.intro @exn8 <| And.intro @exz8 <| And.intro @exo8 <| And.intro @exs9 <| And.intro @exn9 <| And.intro @exz9 <| @exo9
end Go.Sx
namespace Cm
def allB : Nat → (Nat → Bool) → Bool
 | 0, _ => true
 | n + 1, p => allB n p && p n
def sumN : Nat → (Nat → Int) → Int
 | 0, _ => 0
 | n + 1, f => sumN n f + f n
theorem allB_iff {n : Nat} {p : Nat → Bool} : allB n p = true ↔ ∀ i, i < n → p i = true := by
 induction n with
 | zero => simp [allB]
 | succ n ih =>
   simp only [allB, Bool.and_eq_true, ih]
   constructor
   · rintro ⟨h1, h2⟩ i hi
     by_cases e : i = n
     · subst e; exact h2
     · exact h1 i (by omega)
   · exact fun h => ⟨fun i hi => h i (by omega), h n (by omega)⟩
theorem allB_le {n m : Nat} {p : Nat → Bool} (h : allB m p = true) (hn : n ≤ m) : allB n p = true :=
 allB_iff.2 fun i hi => allB_iff.1 h i (by omega)
theorem allB_false {n m : Nat} {p : Nat → Bool} (h : allB n p = false) (hn : n ≤ m) : allB m p = false := by
 cases e : allB m p with
 | false => rfl
 | true => rw [allB_le e hn] at h; simp at h
theorem and_allB_false {x : Bool} {n m : Nat} {p : Nat → Bool} (h : (x && allB n p) = false) (hn : n ≤ m) : (x && allB m p) = false := by
 rcases Bool.and_eq_false_iff.1 h with h | h
 · rw [h]; rfl
 · rw [allB_false h hn, Bool.and_false]
theorem sumN_congr {n : Nat} {f g : Nat → Int} (h : ∀ i, i < n → f i = g i) : sumN n f = sumN n g := by
 induction n with
 | zero => rfl
 | succ n ih => simp only [sumN, ih (fun i hi => h i (by omega)), h n (by omega)]
theorem sumN_le {n : Nat} {f g : Nat → Int} (h : ∀ i, i < n → f i ≤ g i) : sumN n f ≤ sumN n g := by
 induction n with
 | zero => simp [sumN]
 | succ n ih =>
   have h1 := ih (fun i hi => h i (by omega))
   have h2 := h n (by omega)
   simp only [sumN]; omega
theorem sumN_nonneg {n : Nat} {f : Nat → Int} (h : ∀ i, i < n → 0 ≤ f i) : 0 ≤ sumN n f := by
 induction n with
 | zero => simp [sumN]
 | succ n ih =>
   have h1 := ih (fun i hi => h i (by omega))
   have h2 := h n (by omega)
   simp only [sumN]; omega
theorem sumN_bound {n : Nat} {f : Nat → Int} {M : Int} (h : ∀ i, i < n → f i ≤ M) : sumN n f ≤ n * M := by
 induction n with
 | zero => simp [sumN]
 | succ n ih =>
   have h1 := ih (fun i hi => h i (by omega))
   have h2 := h n (by omega)
   have : ((n + 1 : Nat) : Int) * M = n * M + M := by rw [Int.natCast_add, Int.add_mul]; simp
   simp only [sumN, this]; omega
theorem sumN_add {n : Nat} {f g : Nat → Int} : sumN n (fun i => f i + g i) = sumN n f + sumN n g := by
 induction n with
 | zero => rfl
 | succ n ih => simp only [sumN, ih]; omega
theorem sumN_zero {n : Nat} : sumN n (fun _ => 0) = 0 := by
 induction n with
 | zero => rfl
 | succ n ih => simp only [sumN, ih]; omega
theorem sumN_one {n : Nat} {k : Nat} {x : Int} (h : k < n) : sumN n (fun i => if i = k then x else 0) = x := by
 induction n with
 | zero => omega
 | succ n ih =>
   simp only [sumN]
   by_cases e : k = n
   · subst e
     rw [sumN_congr (g := fun _ => 0) (fun i hi => by simp; omega), sumN_zero]; simp
   · rw [ih (by omega), if_neg (fun h => e h.symm)]; omega
structure Book where
 nc : Nat
 cash : Nat → Int
 nd : Nat
 frm : Nat → Int
 to : Nat → Int
 due : Nat → Int
 ns : Nat
 price : Nat → Int
 nb : Nat → Nat
 bar : Nat → Nat → Int
structure Book.wf (b : Book) : Prop where
 nc : b.nc < 4611686018427387904
 nd : b.nd < 4611686018427387904
 ns : b.ns < 4611686018427387904
 nb : ∀ s, s < b.ns → b.nb s < 4611686018427387904
def within (n lo hi : Int) : Bool := decide (lo ≤ n) && decide (n ≤ hi)
theorem within_iff {n lo hi : Int} : within n lo hi = true ↔ lo ≤ n ∧ n ≤ hi := by simp [within]
def cashOk (b : Book) (i : Nat) : Bool := within (b.cash i) 0 10000
def debtOk (b : Book) (k : Nat) : Bool := within (b.frm k) 0 (b.nc - 1) && within (b.to k) 0 (b.nc - 1) && decide (b.frm k ≠ b.to k) && within (b.due k) 1 10000
def barOk (b : Book) (s i : Nat) : Bool := within (b.bar s i) 0 200
def seasonOk (b : Book) (s : Nat) : Bool := within (b.price s) 0 100 && decide ((b.nb s : Int) = b.nc) && allB (b.nb s) (barOk b s)
def sizesOk (b : Book) : Bool := within b.nc 1 6 && decide ((b.nd : Int) ≤ 12) && within b.ns 1 6
def chk (b : Book) : Bool := sizesOk b && allB b.nc (cashOk b) && allB b.nd (debtOk b) && allB b.ns (seasonOk b)
def errOf (b : Book) : Int := if chk b then 0 else 80
structure Good (b : Book) : Prop where
 nc1 : 1 ≤ b.nc
 nc : b.nc ≤ 6
 nd : b.nd ≤ 12
 ns1 : 1 ≤ b.ns
 ns : b.ns ≤ 6
 cash : ∀ i, i < b.nc → 0 ≤ b.cash i ∧ b.cash i ≤ 10000
 frm : ∀ k, k < b.nd → 0 ≤ b.frm k ∧ b.frm k < b.nc
 to : ∀ k, k < b.nd → 0 ≤ b.to k ∧ b.to k < b.nc
 ne : ∀ k, k < b.nd → b.frm k ≠ b.to k
 due : ∀ k, k < b.nd → 1 ≤ b.due k ∧ b.due k ≤ 10000
 price : ∀ s, s < b.ns → 0 ≤ b.price s ∧ b.price s ≤ 100
 nb : ∀ s, s < b.ns → b.nb s = b.nc
 bar : ∀ s, s < b.ns → ∀ i, i < b.nc → 0 ≤ b.bar s i ∧ b.bar s i ≤ 200
theorem good {b : Book} (h : chk b = true) : Good b := by
 simp only [chk, sizesOk, Bool.and_eq_true, allB_iff, within_iff, decide_eq_true_eq] at h
 obtain ⟨⟨⟨⟨⟨h1, h2⟩, h3⟩, h4⟩, h5⟩, h6⟩ := h
 have h6' : ∀ s, s < b.ns → (0 ≤ b.price s ∧ b.price s ≤ 100) ∧ b.nb s = b.nc ∧ ∀ i, i < b.nb s → 0 ≤ b.bar s i ∧ b.bar s i ≤ 200 := fun s hs => by
   have := h6 s hs
   simp only [seasonOk, Bool.and_eq_true, allB_iff, within_iff, decide_eq_true_eq, barOk] at this
   exact ⟨this.1.1, by omega, this.2⟩
 have h5' : ∀ k, k < b.nd → _ := fun k hk => by
   have := h5 k hk
   simp only [debtOk, Bool.and_eq_true, within_iff, decide_eq_true_eq] at this
   exact this
 refine ⟨by omega, by omega, by omega, by omega, by omega, fun i hi => ?_, fun k hk => ?_, fun k hk => ?_, fun k hk => ?_, fun k hk => ?_, fun s hs => (h6' s hs).1, fun s hs => (h6' s hs).2.1, fun s hs i hi => (h6' s hs).2.2 i (by rw [(h6' s hs).2.1]; exact hi)⟩
 · have := h4 i hi; simp only [cashOk, within_iff] at this; exact this
 · have := h5' k hk; omega
 · have := h5' k hk; omega
 · exact (h5' k hk).1.2
 · exact (h5' k hk).2
theorem err_zero {b : Book} : errOf b = 0 ↔ chk b = true := by
 unfold errOf; split <;> simp_all
def has (b : Book) (s p : Nat) : Int := b.cash p + b.bar s p * b.price s
def gets (b : Book) (p : Nat → Int) (x : Int) (k : Nat) : Int := sumN k fun i => if b.to i = x then p i else 0
def owes (b : Book) (p : Nat → Int) (x : Int) (k : Nat) : Int := sumN k fun i => if b.frm i = x then p i else 0
def left (b : Book) (s : Nat) (p : Nat → Int) (x : Int) (k : Nat) : Int :=
 max 0 (has b s x.toNat + gets b p x b.nd - owes b b.due x k)
def pay (b : Book) (s : Nat) (p : Nat → Int) (k : Nat) : Int := min (left b s p (b.frm k) k) (b.due k)
theorem has_bd {b : Book} (g : Good b) {s p : Nat} (hs : s < b.ns) (hp : p < b.nc) : 0 ≤ has b s p ∧ has b s p ≤ 30000 := by
 obtain ⟨a1, a2⟩ := g.cash p hp
 obtain ⟨b1, b2⟩ := g.bar s hs p hp
 obtain ⟨c1, c2⟩ := g.price s hs
 have h0 : 0 ≤ b.bar s p * b.price s := Int.mul_nonneg b1 c1
 have h1 : b.bar s p * b.price s ≤ 200 * 100 := Int.mul_le_mul b2 c2 c1 (by omega)
 unfold has; omega
theorem has_parts {b : Book} (g : Good b) {s p : Nat} (hs : s < b.ns) (hp : p < b.nc) : 0 ≤ b.bar s p * b.price s ∧ b.bar s p * b.price s ≤ 20000 ∧ 0 ≤ b.cash p ∧ b.cash p ≤ 10000 ∧ p < b.nb s := by
 obtain ⟨a1, a2⟩ := g.cash p hp
 obtain ⟨b1, b2⟩ := g.bar s hs p hp
 obtain ⟨c1, c2⟩ := g.price s hs
 have h0 : 0 ≤ b.bar s p * b.price s := Int.mul_nonneg b1 c1
 have h1 : b.bar s p * b.price s ≤ 200 * 100 := Int.mul_le_mul b2 c2 c1 (by omega)
 have := g.nb s hs
 omega
def Pays (b : Book) (p : Nat → Int) : Prop := ∀ k, k < b.nd → 0 ≤ p k ∧ p k ≤ b.due k
theorem gets_bd {b : Book} (g : Good b) {p : Nat → Int} (hp : Pays b p) (x : Int) (k : Nat) (hk : k ≤ b.nd) : 0 ≤ gets b p x k ∧ gets b p x k ≤ 120000 := by
 have h : ∀ i, i < k → 0 ≤ (if b.to i = x then p i else 0) ∧ (if b.to i = x then p i else 0) ≤ 10000 := fun i hi => by
   have h1 := hp i (by omega); have h2 := g.due i (by omega)
   split <;> omega
 refine ⟨sumN_nonneg fun i hi => (h i hi).1, ?_⟩
 have h1 := sumN_bound (fun i hi => (h i hi).2)
 have h2 := g.nd
 have h3 : (k : Int) * 10000 ≤ 12 * 10000 := by omega
 exact Int.le_trans h1 h3
theorem owes_bd {b : Book} (g : Good b) {p : Nat → Int} (hp : Pays b p) (x : Int) (k : Nat) (hk : k ≤ b.nd) : 0 ≤ owes b p x k ∧ owes b p x k ≤ 120000 := by
 have h : ∀ i, i < k → 0 ≤ (if b.frm i = x then p i else 0) ∧ (if b.frm i = x then p i else 0) ≤ 10000 := fun i hi => by
   have h1 := hp i (by omega); have h2 := g.due i (by omega)
   split <;> omega
 refine ⟨sumN_nonneg fun i hi => (h i hi).1, ?_⟩
 have h1 := sumN_bound (fun i hi => (h i hi).2)
 have h2 := g.nd
 have h3 : (k : Int) * 10000 ≤ 12 * 10000 := by omega
 exact Int.le_trans h1 h3
theorem pays_due {b : Book} (g : Good b) : Pays b b.due := fun k hk => by have := g.due k hk; omega
theorem pays_pay {b : Book} (g : Good b) {s : Nat} {p : Nat → Int} : Pays b (pay b s p) := fun k hk => by
 have := g.due k hk
 simp only [pay, left]; omega
theorem left_bd {b : Book} (g : Good b) {s : Nat} (hs : s < b.ns) {p : Nat → Int} (hp : Pays b p) {x : Int} (hx : 0 ≤ x ∧ x < b.nc) {k : Nat} (hk : k ≤ b.nd) : 0 ≤ left b s p x k ∧ left b s p x k ≤ 150000 := by
 have h1 := has_bd g hs (p := x.toNat) (by omega)
 have h2 := gets_bd g hp x b.nd (Nat.le_refl _)
 have h3 := owes_bd g (pays_due g) x k hk
 simp only [left]; omega
theorem left_zero {b : Book} (g : Good b) {s : Nat} (hs : s < b.ns) {p : Nat → Int} (hp : Pays b p) {x : Int} (hx : 0 ≤ x ∧ x < b.nc) : left b s p x 0 = has b s x.toNat + gets b p x b.nd := by
 have h1 := has_bd g hs (p := x.toNat) (by omega)
 have h2 := gets_bd g hp x b.nd (Nat.le_refl _)
 simp only [left, owes, sumN]; omega
theorem left_own {b : Book} (g : Good b) {s : Nat} {p : Nat → Int} {k : Nat} (hk : k < b.nd) : left b s p (b.frm k) (k + 1) = left b s p (b.frm k) k - pay b s p k := by
 have := g.due k hk
 simp only [pay, left, owes, sumN, if_pos]
 omega
theorem left_other {b : Book} {s : Nat} {p : Nat → Int} {k : Nat} {x : Int} (h : b.frm k ≠ x) : left b s p x (k + 1) = left b s p x k := by
 simp only [left, owes, sumN, if_neg h]; simp
theorem st12 {k g : Nat} {x : Int} {f : Nat → Int} (h : x = f g) : (if k = 0 + g * 1 + 0 then x else if k < g then f k else 0) = if k < g + 1 then f k else 0 := by
 by_cases e : k = g
 · subst e; rw [if_pos (by omega), if_pos (by omega), h]
 · rw [if_neg (by omega)]
   by_cases e2 : k < g
   · rw [if_pos e2, if_pos (by omega)]
   · rw [if_neg e2, if_neg (by omega)]
theorem stApp {i j : Nat} {x : Int} {f : Nat → Int} (h : x = f i) (hj : j < i + 1) : (if j < i then f j else if j - i = 0 then x else 0) = f j := by
 by_cases e : j < i
 · rw [if_pos e]
 · obtain rfl : j = i := (by omega)
   rw [if_neg e, Nat.sub_self, if_pos rfl, h]
theorem toNat_cast {x : Int} (h : 0 ≤ x) : ((x.toNat : Nat) : Int) = x := by omega
theorem gets_succ {b : Book} {p : Nat → Int} {x : Int} {k : Nat} : gets b p x (k + 1) = gets b p x k + if b.to k = x then p k else 0 := rfl
theorem owes_succ {b : Book} {p : Nat → Int} {x : Int} {k : Nat} : owes b p x (k + 1) = owes b p x k + if b.frm k = x then p k else 0 := rfl
theorem imax_eq (a c : Int) : Go.Sx.imax a c = max a c := by unfold Go.Sx.imax; split <;> omega
theorem imin_eq (a c : Int) : Go.Sx.imin a c = min a c := by unfold Go.Sx.imin; split <;> omega
end Cm
namespace Go.Sx
def nums (n : Nat) (f : Nat → Int) : CV := .vs 1 n (fun i _ => .int .i64 (f i))
def bookTV (b : Cm.Book) : TV := .a 3 (ofList [nums b.nc b.cash, .vs 3 b.nd (fun i => ofList [.int .i64 (b.frm i), .int .i64 (b.to i), .int .i64 (b.due i)]), .vs 2 b.ns (fun i => ofList [.int .i64 (b.price i), nums (b.nb i) (b.bar i)])])
def intC (n : Int) : TV := .c (.int .i64 n)
end Go.Sx
namespace Go.Proofs.YthofpbnbjkdpaaaDoor
open Go Go.Sx Cm
set_option maxRecDepth 100000
theorem runs (f : Nat) (h : (lookFn fnTab f).isSome = true) : ∃ fn c, Tryd.prog.funcs[f]? = some fn ∧ (fn.name == "runtime.NumGoroutine") = false ∧ fn.body = some c := fn_runs h
def sIn : Sig := ⟨Int × Int × Int, fun x => [intC x.1, intC x.2.1, intC x.2.2], fun _ => True, fun x => [.v (.c (.bool (within x.1 x.2.1 x.2.2)))]⟩
theorem q35 (x : sIn.α) : CallQ Tryd.prog E0 35 (sIn.arg x) (sIn.res x) := by
 refine bare_with E0_ok [] SigsOk.nil runs [] [] (fuel := 5) ?_
 refine of_red (q := (decide (x.snd.fst≤x.fst) = true→True∧decide (x.fst≤x.snd.snd) = within x.fst x.snd.fst x.snd.snd)∧(decide (x.snd.fst≤x.fst) = false→True∧within x.fst x.snd.fst x.snd.snd = false)) (by kernel_rfl) ?_
 simp [within]
 try omega
theorem q44 (x : sIn.α) : CallQ Tryd.prog E0 44 (sIn.arg x) (sIn.res x) := by
 refine bare_with E0_ok [] SigsOk.nil runs [] [] (fuel := 5) ?_
 refine of_red (q := (decide (x.snd.fst≤x.fst) = true→True∧decide (x.fst≤x.snd.snd) = within x.fst x.snd.fst x.snd.snd)∧(decide (x.snd.fst≤x.fst) = false→True∧within x.fst x.snd.fst x.snd.snd = false)) (by kernel_rfl) ?_
 simp [within]
 try omega
def sMod : Sig := ⟨Int × Int, fun x => [intC x.1, intC x.2], fun x => 0 < x.2 ∧ x.2 ≤ 9223372036854775807, fun x => [.v (intC (x.1 % x.2))]⟩
theorem q31 (x : sMod.α) (h : sMod.pre x) : CallQ Tryd.prog E0 31 (sMod.arg x) (sMod.res x) := by
 refine bare_with E0_ok [] SigsOk.nil runs [] [] (fuel := 5) ?_
 refine of_red (q := x.snd ≠ (0 : Int)∧(decide (x.fst.tmod x.snd < (0 : Int)) = true→inRange IntKind.i64 (x.fst.tmod x.snd + x.snd)∧True∧x.fst.tmod x.snd + x.snd = x.fst % x.snd)∧(decide (x.fst.tmod x.snd < (0 : Int)) = false→True∧x.fst.tmod x.snd = x.fst % x.snd)) (by kernel_rfl) ?_
 obtain ⟨h0, h1⟩ := h
 have e := Int.tmod_eq_emod (a := x.1) (b := x.2)
 have e1 := Int.emod_nonneg x.1 (b := x.2) (by omega)
 have e2 := Int.emod_lt_of_pos x.1 (b := x.2) h0
 simp only [true_and, inR, decide_eq_true_eq, decide_eq_false_iff_not]
 split at e <;> refine ⟨by omega, fun h => ?_, fun h => ?_⟩ <;> omega
def aSum (n : Nat) (f : Nat → Int) : Ann := { G := Nat, ok := fun _ i => i ≤ n, dom := fun _ => [], tm := fun _ i => [(3, .t (intC (sumN i f))), (4, .t (intC i))], hp := fun _ _ => [], mu := fun _ i => n - i }
def sSum : Sig := ⟨Nat × (Nat → Int), fun x => [.c (nums x.1 x.2)], fun x => x.1 < 4611686018427387904 ∧ ∀ k, k ≤ x.1 → inRange .i64 (sumN k x.2), fun x => [.v (intC (sumN x.1 x.2))]⟩
theorem q37 (x : sSum.α) (h : sSum.pre x) : CallQ Tryd.prog E0 37 (sSum.arg x) (sSum.res x) := by
 refine bare_with E0_ok [] SigsOk.nil runs [(37, 3, aSum x.1 x.2)] [] (fuel := 5) ?_
 refine of_red (q := (∃ (g : Nat), g≤x.fst∧True∧((True∧(0 : Int) = sumN g x.snd)∧(True∧(0 : Int) = (↑g : Int))∧True)∧True)∧∀ (g : Nat), g≤x.fst→(decide ((↑g : Int) < (↑x.fst : Int)) = true→(0 : Int)≤(↑g : Int)∧(↑g : Int) < (↑x.fst : Int)∧inRange IntKind.i64 (sumN g x.snd + x.snd g)∧inRange IntKind.i64 ((↑g : Int) + (1 : Int))∧∃ (g' : Nat), g'≤x.fst∧x.fst - g' < x.fst - g∧True∧((True∧sumN g x.snd + x.snd g = sumN g' x.snd)∧(True∧(↑g : Int) + (1 : Int) = (↑g' : Int))∧True)∧True)∧(decide ((↑g : Int) < (↑x.fst : Int)) = false→True∧sumN g x.snd = sumN x.fst x.snd)) (by kernel_rfl) ?_
 obtain ⟨h0, h1⟩ := h
 simp only [true_and, and_true, inR, decide_eq_true_eq, decide_eq_false_iff_not] at *
 refine ⟨⟨0, by omega, by simp [sumN], rfl⟩, fun i hi => ⟨fun hlt => ?_, fun hlt => ?_⟩⟩
 · have := h1 (i + 1) (by omega)
   exact ⟨by omega, hlt, this, by omega, i + 1, by omega, by omega, rfl, by omega⟩
 · obtain rfl : i = x.1 := (by omega)
   rfl
def aSum2 (n : Nat) (f : Nat → Int) : Ann := { G := Nat, ok := fun _ i => i ≤ n, dom := fun _ => [], tm := fun _ i => [(2, .t (intC (sumN i f))), (7, .t (intC i))], hp := fun _ _ => [], mu := fun _ i => n - i }
theorem q58 (x : sSum.α) (h : sSum.pre x) : CallQ Tryd.prog E0 58 (sSum.arg x) (sSum.res x) := by
 refine bare_with E0_ok [] SigsOk.nil runs [(58, 2, aSum2 x.1 x.2)] [] (fuel := 5) ?_
 refine of_red (q := (∃ (g : Nat), g≤x.fst∧True∧((True∧(0 : Int) = sumN g x.snd)∧(True∧(0 : Int) = (↑g : Int))∧True)∧True)∧∀ (g : Nat), g≤x.fst→(decide ((↑g : Int) < (↑x.fst : Int)) = true→(0 : Int)≤(↑g : Int)∧(↑g : Int) < (↑x.fst : Int)∧inRange IntKind.i64 (sumN g x.snd + x.snd g)∧inRange IntKind.i64 ((↑g : Int) + (1 : Int))∧∃ (g' : Nat), g'≤x.fst∧x.fst - g' < x.fst - g∧True∧((True∧sumN g x.snd + x.snd g = sumN g' x.snd)∧(True∧(↑g : Int) + (1 : Int) = (↑g' : Int))∧True)∧True)∧(decide ((↑g : Int) < (↑x.fst : Int)) = false→True∧sumN g x.snd = sumN x.fst x.snd)) (by kernel_rfl) ?_
 obtain ⟨h0, h1⟩ := h
 simp only [true_and, and_true, inR, decide_eq_true_eq, decide_eq_false_iff_not] at *
 refine ⟨⟨0, by omega, by simp [sumN], rfl⟩, fun i hi => ⟨fun hlt => ?_, fun hlt => ?_⟩⟩
 · have := h1 (i + 1) (by omega)
   exact ⟨by omega, hlt, this, by omega, i + 1, by omega, by omega, rfl, by omega⟩
 · obtain rfl : i = x.1 := (by omega)
   rfl
def aSame (n : Nat) (f g : Nat → Int) : Ann := { G := Nat, ok := fun _ i => i ≤ n ∧ allB i (fun i => decide (f i = g i)) = true, dom := fun _ => [], tm := fun _ i => [(5, .t (intC i))], hp := fun _ _ => [], mu := fun _ i => n - i }
def sSame : Sig := ⟨(Nat × (Nat → Int)) × Nat × (Nat → Int), fun x => [.c (nums x.1.1 x.1.2), .c (nums x.2.1 x.2.2)], fun x => x.1.1 < 4611686018427387904, fun x => [.v (.c (.bool (decide (x.1.1 = x.2.1) && allB x.1.1 (fun i => decide (x.1.2 i = x.2.2 i)))))]⟩
theorem q16 (x : sSame.α) (h : sSame.pre x) : CallQ Tryd.prog E0 16 (sSame.arg x) (sSame.res x) := by
 obtain ⟨⟨n, f⟩, m, g⟩ := x
 refine bare_with E0_ok [] SigsOk.nil runs [(16, 4, aSame n f g)] [] (fuel := 5) ?_
 refine of_red (q := (((↑((n, f), m, g).fst.fst : Int) != (↑((n, f), m, g).snd.fst : Int)) = true→True∧(decide (((n, f), m, g).fst.fst = ((n, f), m, g).snd.fst) && allB ((n, f), m, g).fst.fst fun (i : Nat) => decide (((n, f), m, g).fst.snd i = ((n, f), m, g).snd.snd i)) = false)∧(((↑((n, f), m, g).fst.fst : Int) != (↑((n, f), m, g).snd.fst : Int)) = false→(∃ (g_1 : Nat), (g_1≤n∧(allB g_1 fun (i : Nat) => decide (f i = g i)) = true)∧True∧((True∧(0 : Int) = (↑g_1 : Int))∧True)∧True)∧∀ (g_1 : Nat), g_1≤n∧(allB g_1 fun (i : Nat) => decide (f i = g i)) = true→(decide ((↑g_1 : Int) < (↑((n, f), m, g).fst.fst : Int)) = true→(0 : Int)≤(↑g_1 : Int)∧(↑g_1 : Int) < (↑((n, f), m, g).fst.fst : Int)∧(0 : Int)≤(↑g_1 : Int)∧(↑g_1 : Int) < (↑((n, f), m, g).snd.fst : Int)∧((((n, f), m, g).fst.snd g_1 != ((n, f), m, g).snd.snd g_1) = true→True∧(decide (((n, f), m, g).fst.fst = ((n, f), m, g).snd.fst) && allB ((n, f), m, g).fst.fst fun (i : Nat) => decide (((n, f), m, g).fst.snd i = ((n, f), m, g).snd.snd i)) = false)∧((((n, f), m, g).fst.snd g_1 != ((n, f), m, g).snd.snd g_1) = false→inRange IntKind.i64 ((↑g_1 : Int) + (1 : Int))∧∃ (g' : Nat), (g'≤n∧(allB g' fun (i : Nat) => decide (f i = g i)) = true)∧n - g' < n - g_1∧True∧((True∧(↑g_1 : Int) + (1 : Int) = (↑g' : Int))∧True)∧True))∧(decide ((↑g_1 : Int) < (↑((n, f), m, g).fst.fst : Int)) = false→True∧(decide (((n, f), m, g).fst.fst = ((n, f), m, g).snd.fst) && allB ((n, f), m, g).fst.fst fun (i : Nat) => decide (((n, f), m, g).fst.snd i = ((n, f), m, g).snd.snd i)) = true))) (by kernel_rfl) ?_
 have h0 : n < 4611686018427387904 := h
 simp only [true_and, and_true, inR, decide_eq_true_eq, decide_eq_false_iff_not, bne_iff_ne, bne_eq_false_iff_eq, Bool.and_eq_false_iff, Bool.and_eq_true]
 refine ⟨fun h => .inl (by omega), fun h => ⟨⟨0, ⟨by omega, rfl⟩, rfl⟩, fun i hi => ⟨fun hlt => ⟨by omega, hlt, by omega, by omega, fun hne => .inr ?_, fun he => ⟨by omega, i + 1, ⟨by omega, ?_⟩, by omega, rfl⟩⟩, fun hlt => ⟨by omega, ?_⟩⟩⟩⟩
 · exact allB_false (n := i + 1) (by simp [allB, hne]) (by omega)
 · simp [allB, hi.2, he]
 · obtain rfl : i = n := (by omega)
   exact hi.2
end Go.Proofs.YthofpbnbjkdpaaaDoor
namespace Go.Proofs.YthofpbnbjkdpaaaDoor
open Go Go.Sx Cm
set_option maxRecDepth 100000
def TA : List (Nat × Sig) := [(35, sIn), (44, sIn), (31, sMod), (37, sSum), (58, sSum), (16, sSame)]
theorem TA_ok : SigsOk Tryd.prog E0 TA :=
 (((((SigsOk.nil.cons (runs 16 (by kernel_rfl)) q16).cons (runs 58 (by kernel_rfl)) q58).cons (runs 37 (by kernel_rfl)) q37).cons (runs 31 (by kernel_rfl)) q31).cons (runs 44 (by kernel_rfl)) fun x _ => q44 x).cons (runs 35 (by kernel_rfl)) fun x _ => q35 x
def cut1 (b : Book) : Ann := { G := Bool, ok := fun _ g => g = sizesOk b, dom := fun _ => [], tm := fun _ g => [(4, .t (.c (.bool g)))], hp := fun _ _ => [], mu := fun _ _ => 0 }
def aC1 (b : Book) : Ann := { G := Nat, ok := fun _ i => i ≤ b.nc, dom := fun _ => [], tm := fun _ i => [(4, .t (.c (.bool (sizesOk b && allB i (cashOk b))))), (33, .t (intC i))], hp := fun _ _ => [], mu := fun _ i => b.nc - i }
def aC2 (b : Book) : Ann := { G := Nat, ok := fun _ i => i ≤ b.nd, dom := fun _ => [], tm := fun _ i => [(4, .t (.c (.bool (sizesOk b && allB b.nc (cashOk b) && allB i (debtOk b))))), (46, .t (intC i))], hp := fun _ _ => [], mu := fun _ i => b.nd - i }
def aC3 (b : Book) : Ann := { G := Nat, ok := fun _ i => i ≤ b.ns, dom := fun _ => [], tm := fun _ i => [(4, .t (.c (.bool (sizesOk b && allB b.nc (cashOk b) && allB b.nd (debtOk b) && allB i (seasonOk b))))), (81, .t (intC i))], hp := fun _ _ => [], mu := fun _ i => b.ns - i }
def aC4 (b : Book) : Ann := { G := Nat × Nat, ok := fun st g => isI (st.tm 81) g.1 ∧ g.2 ≤ b.nb g.1, dom := fun _ => [], tm := fun _ g => [(4, .t (.c (.bool (sizesOk b && allB b.nc (cashOk b) && allB b.nd (debtOk b) && allB g.1 (seasonOk b) && (within (b.price g.1) 0 100 && decide ((b.nb g.1 : Int) = b.nc) && allB g.2 (barOk b g.1)))))), (101, .t (intC g.2))], hp := fun _ _ => [], mu := fun _ g => b.nb g.1 - g.2 }
def sCheck : Sig := ⟨Book, fun b => [bookTV b], fun b => b.wf, fun b => [.v (intC (errOf b))]⟩
theorem q17 (b : sCheck.α) (h : sCheck.pre b) : CallQ Tryd.prog E0 17 (sCheck.arg b) (sCheck.res b) := by
 refine bare_with E0_ok TA TA_ok runs [(17, 4, aC1 b), (17, 9, aC2 b), (17, 14, aC3 b), (17, 18, aC4 b)] [(17, 3, cut1 b)] (fuel := 5) ?_
 refine of_red (q := (∃ (x : Int × Int × Int), ((True∧(↑b.nc : Int) = x.fst)∧(True∧(1 : Int) = x.snd.fst)∧(True∧(6 : Int) = x.snd.snd)∧True)∧True∧(within x.fst x.snd.fst x.snd.snd = true→(decide ((↑b.nd : Int)≤(12 : Int)) = true→∃ (x : Int × Int × Int), ((True∧(↑b.ns : Int) = x.fst)∧(True∧(1 : Int) = x.snd.fst)∧(True∧(6 : Int) = x.snd.snd)∧True)∧True∧∃ (g : Bool), g = sizesOk b∧True∧((True∧within x.fst x.snd.fst x.snd.snd = g)∧True)∧True)∧(decide ((↑b.nd : Int)≤(12 : Int)) = false→∃ (g : Bool), g = sizesOk b∧True∧((True∧g = false)∧True)∧True))∧(within x.fst x.snd.fst x.snd.snd = false→∃ (g : Bool), g = sizesOk b∧True∧((True∧g = false)∧True)∧True))∧∀ (g : Bool), g = sizesOk b→(∃ (g_1 : Nat), g_1≤b.nc∧True∧((True∧g = (sizesOk b && allB g_1 (cashOk b)))∧(True∧(0 : Int) = (↑g_1 : Int))∧True)∧True)∧∀ (g : Nat), g≤b.nc→(decide ((↑g : Int) < (↑b.nc : Int)) = true→(0 : Int)≤(↑g : Int)∧(↑g : Int) < (↑b.nc : Int)∧((sizesOk b && allB g (cashOk b)) = true→∃ (x : Int × Int × Int), ((True∧b.cash g = x.fst)∧(True∧(0 : Int) = x.snd.fst)∧(True∧(10000 : Int) = x.snd.snd)∧True)∧True∧inRange IntKind.i64 ((↑g : Int) + (1 : Int))∧∃ (g' : Nat), g'≤b.nc∧b.nc - g' < b.nc - g∧True∧((True∧within x.fst x.snd.fst x.snd.snd = (sizesOk b && allB g' (cashOk b)))∧(True∧(↑g : Int) + (1 : Int) = (↑g' : Int))∧True)∧True)∧((sizesOk b && allB g (cashOk b)) = false→inRange IntKind.i64 ((↑g : Int) + (1 : Int))∧∃ (g' : Nat), g'≤b.nc∧b.nc - g' < b.nc - g∧True∧((True∧(sizesOk b && allB g' (cashOk b)) = false)∧(True∧(↑g : Int) + (1 : Int) = (↑g' : Int))∧True)∧True))∧(decide ((↑g : Int) < (↑b.nc : Int)) = false→(∃ (g_1 : Nat), g_1≤b.nd∧True∧((True∧(sizesOk b && allB g (cashOk b)) = (sizesOk b && allB b.nc (cashOk b) && allB g_1 (debtOk b)))∧(True∧(0 : Int) = (↑g_1 : Int))∧True)∧True)∧∀ (g : Nat), g≤b.nd→(decide ((↑g : Int) < (↑b.nd : Int)) = true→(0 : Int)≤(↑g : Int)∧(↑g : Int) < (↑b.nd : Int)∧((sizesOk b && allB b.nc (cashOk b) && allB g (debtOk b)) = true→inRange IntKind.i64 ((↑b.nc : Int) - (1 : Int))∧∃ (x : Int × Int × Int), ((True∧b.frm g = x.fst)∧(True∧(0 : Int) = x.snd.fst)∧(True∧(↑b.nc : Int) - (1 : Int) = x.snd.snd)∧True)∧True∧(within x.fst x.snd.fst x.snd.snd = true→inRange IntKind.i64 ((↑b.nc : Int) - (1 : Int))∧∃ (x : Int × Int × Int), ((True∧b.to g = x.fst)∧(True∧(0 : Int) = x.snd.fst)∧(True∧(↑b.nc : Int) - (1 : Int) = x.snd.snd)∧True)∧True∧(within x.fst x.snd.fst x.snd.snd = true→((b.frm g != b.to g) = true→∃ (x : Int × Int × Int), ((True∧b.due g = x.fst)∧(True∧(1 : Int) = x.snd.fst)∧(True∧(10000 : Int) = x.snd.snd)∧True)∧True∧inRange IntKind.i64 ((↑g : Int) + (1 : Int))∧∃ (g' : Nat), g'≤b.nd∧b.nd - g' < b.nd - g∧True∧((True∧within x.fst x.snd.fst x.snd.snd = (sizesOk b && allB b.nc (cashOk b) && allB g' (debtOk b)))∧(True∧(↑g : Int) + (1 : Int) = (↑g' : Int))∧True)∧True)∧((b.frm g != b.to g) = false→inRange IntKind.i64 ((↑g : Int) + (1 : Int))∧∃ (g' : Nat), g'≤b.nd∧b.nd - g' < b.nd - g∧True∧((True∧(sizesOk b && allB b.nc (cashOk b) && allB g' (debtOk b)) = false)∧(True∧(↑g : Int) + (1 : Int) = (↑g' : Int))∧True)∧True))∧(within x.fst x.snd.fst x.snd.snd = false→inRange IntKind.i64 ((↑g : Int) + (1 : Int))∧∃ (g' : Nat), g'≤b.nd∧b.nd - g' < b.nd - g∧True∧((True∧(sizesOk b && allB b.nc (cashOk b) && allB g' (debtOk b)) = false)∧(True∧(↑g : Int) + (1 : Int) = (↑g' : Int))∧True)∧True))∧(within x.fst x.snd.fst x.snd.snd = false→inRange IntKind.i64 ((↑g : Int) + (1 : Int))∧∃ (g' : Nat), g'≤b.nd∧b.nd - g' < b.nd - g∧True∧((True∧(sizesOk b && allB b.nc (cashOk b) && allB g' (debtOk b)) = false)∧(True∧(↑g : Int) + (1 : Int) = (↑g' : Int))∧True)∧True))∧((sizesOk b && allB b.nc (cashOk b) && allB g (debtOk b)) = false→inRange IntKind.i64 ((↑g : Int) + (1 : Int))∧∃ (g' : Nat), g'≤b.nd∧b.nd - g' < b.nd - g∧True∧((True∧(sizesOk b && allB b.nc (cashOk b) && allB g' (debtOk b)) = false)∧(True∧(↑g : Int) + (1 : Int) = (↑g' : Int))∧True)∧True))∧(decide ((↑g : Int) < (↑b.nd : Int)) = false→(∃ (g_1 : Nat), g_1≤b.ns∧True∧((True∧(sizesOk b && allB b.nc (cashOk b) && allB g (debtOk b)) = (sizesOk b && allB b.nc (cashOk b) && allB b.nd (debtOk b) && allB g_1 (seasonOk b)))∧(True∧(0 : Int) = (↑g_1 : Int))∧True)∧True)∧∀ (g : Nat), g≤b.ns→(decide ((↑g : Int) < (↑b.ns : Int)) = true→(0 : Int)≤(↑g : Int)∧(↑g : Int) < (↑b.ns : Int)∧((sizesOk b && allB b.nc (cashOk b) && allB b.nd (debtOk b) && allB g (seasonOk b)) = true→∃ (x : Int × Int × Int), ((True∧b.price g = x.fst)∧(True∧(0 : Int) = x.snd.fst)∧(True∧(100 : Int) = x.snd.snd)∧True)∧True∧(within x.fst x.snd.fst x.snd.snd = true→(∃ (g_1 : Nat × Nat), ((↑g : Int) = (↑g_1.fst : Int)∧g_1.snd≤b.nb g_1.fst)∧True∧((True∧((↑(b.nb g) : Int) == (↑b.nc : Int)) = (sizesOk b && allB b.nc (cashOk b) && allB b.nd (debtOk b) && allB g_1.fst (seasonOk b) && (within (b.price g_1.fst) (0 : Int) (100 : Int) && decide ((↑(b.nb g_1.fst) : Int) = (↑b.nc : Int)) && allB g_1.snd (barOk b g_1.fst))))∧(True∧(0 : Int) = (↑g_1.snd : Int))∧True)∧True)∧∀ (g_1 : Nat × Nat), (↑g : Int) = (↑g_1.fst : Int)∧g_1.snd≤b.nb g_1.fst→(decide ((↑g_1.snd : Int) < (↑(b.nb g) : Int)) = true→(0 : Int)≤(↑g_1.snd : Int)∧(↑g_1.snd : Int) < (↑(b.nb g) : Int)∧((sizesOk b && allB b.nc (cashOk b) && allB b.nd (debtOk b) && allB g_1.fst (seasonOk b) && (within (b.price g_1.fst) (0 : Int) (100 : Int) && decide ((↑(b.nb g_1.fst) : Int) = (↑b.nc : Int)) && allB g_1.snd (barOk b g_1.fst))) = true→∃ (x : Int × Int × Int), ((True∧b.bar g g_1.snd = x.fst)∧(True∧(0 : Int) = x.snd.fst)∧(True∧(200 : Int) = x.snd.snd)∧True)∧True∧inRange IntKind.i64 ((↑g_1.snd : Int) + (1 : Int))∧∃ (g' : Nat × Nat), ((↑g : Int) = (↑g'.fst : Int)∧g'.snd≤b.nb g'.fst)∧b.nb g'.fst - g'.snd < b.nb g_1.fst - g_1.snd∧True∧((True∧within x.fst x.snd.fst x.snd.snd = (sizesOk b && allB b.nc (cashOk b) && allB b.nd (debtOk b) && allB g'.fst (seasonOk b) && (within (b.price g'.fst) (0 : Int) (100 : Int) && decide ((↑(b.nb g'.fst) : Int) = (↑b.nc : Int)) && allB g'.snd (barOk b g'.fst))))∧(True∧(↑g_1.snd : Int) + (1 : Int) = (↑g'.snd : Int))∧True)∧True)∧((sizesOk b && allB b.nc (cashOk b) && allB b.nd (debtOk b) && allB g_1.fst (seasonOk b) && (within (b.price g_1.fst) (0 : Int) (100 : Int) && decide ((↑(b.nb g_1.fst) : Int) = (↑b.nc : Int)) && allB g_1.snd (barOk b g_1.fst))) = false→inRange IntKind.i64 ((↑g_1.snd : Int) + (1 : Int))∧∃ (g' : Nat × Nat), ((↑g : Int) = (↑g'.fst : Int)∧g'.snd≤b.nb g'.fst)∧b.nb g'.fst - g'.snd < b.nb g_1.fst - g_1.snd∧True∧((True∧(sizesOk b && allB b.nc (cashOk b) && allB b.nd (debtOk b) && allB g'.fst (seasonOk b) && (within (b.price g'.fst) (0 : Int) (100 : Int) && decide ((↑(b.nb g'.fst) : Int) = (↑b.nc : Int)) && allB g'.snd (barOk b g'.fst))) = false)∧(True∧(↑g_1.snd : Int) + (1 : Int) = (↑g'.snd : Int))∧True)∧True))∧(decide ((↑g_1.snd : Int) < (↑(b.nb g) : Int)) = false→inRange IntKind.i64 ((↑g : Int) + (1 : Int))∧∃ (g' : Nat), g'≤b.ns∧b.ns - g' < b.ns - g∧True∧((True∧(sizesOk b && allB b.nc (cashOk b) && allB b.nd (debtOk b) && allB g_1.fst (seasonOk b) && (within (b.price g_1.fst) (0 : Int) (100 : Int) && decide ((↑(b.nb g_1.fst) : Int) = (↑b.nc : Int)) && allB g_1.snd (barOk b g_1.fst))) = (sizesOk b && allB b.nc (cashOk b) && allB b.nd (debtOk b) && allB g' (seasonOk b)))∧(True∧(↑g : Int) + (1 : Int) = (↑g' : Int))∧True)∧True))∧(within x.fst x.snd.fst x.snd.snd = false→(∃ (g_1 : Nat × Nat), ((↑g : Int) = (↑g_1.fst : Int)∧g_1.snd≤b.nb g_1.fst)∧True∧((True∧(sizesOk b && allB b.nc (cashOk b) && allB b.nd (debtOk b) && allB g_1.fst (seasonOk b) && (within (b.price g_1.fst) (0 : Int) (100 : Int) && decide ((↑(b.nb g_1.fst) : Int) = (↑b.nc : Int)) && allB g_1.snd (barOk b g_1.fst))) = false)∧(True∧(0 : Int) = (↑g_1.snd : Int))∧True)∧True)∧∀ (g_1 : Nat × Nat), (↑g : Int) = (↑g_1.fst : Int)∧g_1.snd≤b.nb g_1.fst→(decide ((↑g_1.snd : Int) < (↑(b.nb g) : Int)) = true→(0 : Int)≤(↑g_1.snd : Int)∧(↑g_1.snd : Int) < (↑(b.nb g) : Int)∧((sizesOk b && allB b.nc (cashOk b) && allB b.nd (debtOk b) && allB g_1.fst (seasonOk b) && (within (b.price g_1.fst) (0 : Int) (100 : Int) && decide ((↑(b.nb g_1.fst) : Int) = (↑b.nc : Int)) && allB g_1.snd (barOk b g_1.fst))) = true→∃ (x : Int × Int × Int), ((True∧b.bar g g_1.snd = x.fst)∧(True∧(0 : Int) = x.snd.fst)∧(True∧(200 : Int) = x.snd.snd)∧True)∧True∧inRange IntKind.i64 ((↑g_1.snd : Int) + (1 : Int))∧∃ (g' : Nat × Nat), ((↑g : Int) = (↑g'.fst : Int)∧g'.snd≤b.nb g'.fst)∧b.nb g'.fst - g'.snd < b.nb g_1.fst - g_1.snd∧True∧((True∧within x.fst x.snd.fst x.snd.snd = (sizesOk b && allB b.nc (cashOk b) && allB b.nd (debtOk b) && allB g'.fst (seasonOk b) && (within (b.price g'.fst) (0 : Int) (100 : Int) && decide ((↑(b.nb g'.fst) : Int) = (↑b.nc : Int)) && allB g'.snd (barOk b g'.fst))))∧(True∧(↑g_1.snd : Int) + (1 : Int) = (↑g'.snd : Int))∧True)∧True)∧((sizesOk b && allB b.nc (cashOk b) && allB b.nd (debtOk b) && allB g_1.fst (seasonOk b) && (within (b.price g_1.fst) (0 : Int) (100 : Int) && decide ((↑(b.nb g_1.fst) : Int) = (↑b.nc : Int)) && allB g_1.snd (barOk b g_1.fst))) = false→inRange IntKind.i64 ((↑g_1.snd : Int) + (1 : Int))∧∃ (g' : Nat × Nat), ((↑g : Int) = (↑g'.fst : Int)∧g'.snd≤b.nb g'.fst)∧b.nb g'.fst - g'.snd < b.nb g_1.fst - g_1.snd∧True∧((True∧(sizesOk b && allB b.nc (cashOk b) && allB b.nd (debtOk b) && allB g'.fst (seasonOk b) && (within (b.price g'.fst) (0 : Int) (100 : Int) && decide ((↑(b.nb g'.fst) : Int) = (↑b.nc : Int)) && allB g'.snd (barOk b g'.fst))) = false)∧(True∧(↑g_1.snd : Int) + (1 : Int) = (↑g'.snd : Int))∧True)∧True))∧(decide ((↑g_1.snd : Int) < (↑(b.nb g) : Int)) = false→inRange IntKind.i64 ((↑g : Int) + (1 : Int))∧∃ (g' : Nat), g'≤b.ns∧b.ns - g' < b.ns - g∧True∧((True∧(sizesOk b && allB b.nc (cashOk b) && allB b.nd (debtOk b) && allB g_1.fst (seasonOk b) && (within (b.price g_1.fst) (0 : Int) (100 : Int) && decide ((↑(b.nb g_1.fst) : Int) = (↑b.nc : Int)) && allB g_1.snd (barOk b g_1.fst))) = (sizesOk b && allB b.nc (cashOk b) && allB b.nd (debtOk b) && allB g' (seasonOk b)))∧(True∧(↑g : Int) + (1 : Int) = (↑g' : Int))∧True)∧True)))∧((sizesOk b && allB b.nc (cashOk b) && allB b.nd (debtOk b) && allB g (seasonOk b)) = false→(∃ (g_1 : Nat × Nat), ((↑g : Int) = (↑g_1.fst : Int)∧g_1.snd≤b.nb g_1.fst)∧True∧((True∧(sizesOk b && allB b.nc (cashOk b) && allB b.nd (debtOk b) && allB g_1.fst (seasonOk b) && (within (b.price g_1.fst) (0 : Int) (100 : Int) && decide ((↑(b.nb g_1.fst) : Int) = (↑b.nc : Int)) && allB g_1.snd (barOk b g_1.fst))) = false)∧(True∧(0 : Int) = (↑g_1.snd : Int))∧True)∧True)∧∀ (g_1 : Nat × Nat), (↑g : Int) = (↑g_1.fst : Int)∧g_1.snd≤b.nb g_1.fst→(decide ((↑g_1.snd : Int) < (↑(b.nb g) : Int)) = true→(0 : Int)≤(↑g_1.snd : Int)∧(↑g_1.snd : Int) < (↑(b.nb g) : Int)∧((sizesOk b && allB b.nc (cashOk b) && allB b.nd (debtOk b) && allB g_1.fst (seasonOk b) && (within (b.price g_1.fst) (0 : Int) (100 : Int) && decide ((↑(b.nb g_1.fst) : Int) = (↑b.nc : Int)) && allB g_1.snd (barOk b g_1.fst))) = true→∃ (x : Int × Int × Int), ((True∧b.bar g g_1.snd = x.fst)∧(True∧(0 : Int) = x.snd.fst)∧(True∧(200 : Int) = x.snd.snd)∧True)∧True∧inRange IntKind.i64 ((↑g_1.snd : Int) + (1 : Int))∧∃ (g' : Nat × Nat), ((↑g : Int) = (↑g'.fst : Int)∧g'.snd≤b.nb g'.fst)∧b.nb g'.fst - g'.snd < b.nb g_1.fst - g_1.snd∧True∧((True∧within x.fst x.snd.fst x.snd.snd = (sizesOk b && allB b.nc (cashOk b) && allB b.nd (debtOk b) && allB g'.fst (seasonOk b) && (within (b.price g'.fst) (0 : Int) (100 : Int) && decide ((↑(b.nb g'.fst) : Int) = (↑b.nc : Int)) && allB g'.snd (barOk b g'.fst))))∧(True∧(↑g_1.snd : Int) + (1 : Int) = (↑g'.snd : Int))∧True)∧True)∧((sizesOk b && allB b.nc (cashOk b) && allB b.nd (debtOk b) && allB g_1.fst (seasonOk b) && (within (b.price g_1.fst) (0 : Int) (100 : Int) && decide ((↑(b.nb g_1.fst) : Int) = (↑b.nc : Int)) && allB g_1.snd (barOk b g_1.fst))) = false→inRange IntKind.i64 ((↑g_1.snd : Int) + (1 : Int))∧∃ (g' : Nat × Nat), ((↑g : Int) = (↑g'.fst : Int)∧g'.snd≤b.nb g'.fst)∧b.nb g'.fst - g'.snd < b.nb g_1.fst - g_1.snd∧True∧((True∧(sizesOk b && allB b.nc (cashOk b) && allB b.nd (debtOk b) && allB g'.fst (seasonOk b) && (within (b.price g'.fst) (0 : Int) (100 : Int) && decide ((↑(b.nb g'.fst) : Int) = (↑b.nc : Int)) && allB g'.snd (barOk b g'.fst))) = false)∧(True∧(↑g_1.snd : Int) + (1 : Int) = (↑g'.snd : Int))∧True)∧True))∧(decide ((↑g_1.snd : Int) < (↑(b.nb g) : Int)) = false→inRange IntKind.i64 ((↑g : Int) + (1 : Int))∧∃ (g' : Nat), g'≤b.ns∧b.ns - g' < b.ns - g∧True∧((True∧(sizesOk b && allB b.nc (cashOk b) && allB b.nd (debtOk b) && allB g_1.fst (seasonOk b) && (within (b.price g_1.fst) (0 : Int) (100 : Int) && decide ((↑(b.nb g_1.fst) : Int) = (↑b.nc : Int)) && allB g_1.snd (barOk b g_1.fst))) = (sizesOk b && allB b.nc (cashOk b) && allB b.nd (debtOk b) && allB g' (seasonOk b)))∧(True∧(↑g : Int) + (1 : Int) = (↑g' : Int))∧True)∧True)))∧(decide ((↑g : Int) < (↑b.ns : Int)) = false→((!(sizesOk b && allB b.nc (cashOk b) && allB b.nd (debtOk b) && allB g (seasonOk b))) = true→True∧(80 : Int) = errOf b)∧((!(sizesOk b && allB b.nc (cashOk b) && allB b.nd (debtOk b) && allB g (seasonOk b))) = false→True∧(0 : Int) = errOf b))))) (by kernel_rfl) ?_
 have h1 := h.nc; have h2 := h.nd; have h3 := h.ns; have h4 := h.nb; have h0 := h; clear h
 simp only [true_and, and_true, inR, Prod.exists, Prod.forall, and_assoc, exists_and_left, exists_eq_left', exists_eq_left, forall_eq, loopN, loopM, fa2, fas, fas2, exhs, exhn, exhz, exho, exA, ex1, ex2, ex3, ex4, ex5, beqI, bneI, decide_eq_true_eq, decide_eq_false_iff_not, ne_eq, Decidable.not_not]
 refine ⟨fun e1 => ⟨fun e2 => by simp [sizesOk, e1, e2], fun e2 => by simp [sizesOk, e1, e2]⟩, fun e1 => by simp [sizesOk, e1], by omega, by simp [allB], fun g hg => ⟨by omega, by omega, fun e1 => ⟨by omega, by omega, by omega, by omega, ?_⟩, fun e1 => ⟨by omega, by omega, by omega, by omega, ?_⟩⟩, by omega, by simp [allB], fun g hg => ⟨by omega, by omega, fun e1 => ⟨by omega, by omega, fun e2 => ⟨by omega, by omega, fun e3 => ⟨fun e4 => ⟨by omega, by omega, by omega, by omega, ?_⟩, fun e4 => ⟨by omega, by omega, by omega, by omega, ?_⟩⟩, fun e3 => ⟨by omega, by omega, by omega, by omega, ?_⟩⟩, fun e2 => ⟨by omega, by omega, by omega, by omega, ?_⟩⟩, fun e1 => ⟨by omega, by omega, by omega, by omega, ?_⟩⟩, by omega, by simp [allB], fun g hg => ⟨by omega, by omega, ?_⟩, ?_⟩
 · simp_all [allB, cashOk]
 · simp_all [allB, cashOk]
 · simp_all [allB, debtOk]
 · simp_all [allB, debtOk]
 · simp_all [allB, debtOk]
 · simp_all [allB, debtOk]
 · simp_all [allB, debtOk]
 · have hb := h4 g hg
   repeat' (first | apply And.intro | intro _)
   all_goals first | omega | (simp_all [allB, seasonOk, barOk]; done) | (simp_all [allB, seasonOk, barOk, Bool.and_assoc]; done)
 · have e : errOf b = if (sizesOk b && allB b.nc (cashOk b) && allB b.nd (debtOk b) && allB b.ns (seasonOk b)) = true then 0 else 80 := rfl
   rw [e]
   constructor
   · intro h; rw [Bool.not_eq_true'] at h; rw [h]; simp
   · intro h; rw [Bool.not_eq_false'] at h; rw [h]; simp
def aW45 (n : Nat) (f : Nat → Int) (many most : Int) : Ann := { G := Nat, ok := fun _ i => i ≤ n, dom := fun _ => [], tm := fun _ i => [(7, .t (.c (.bool (decide ((n : Int) = many) && allB i (fun i => within (f i) 0 most))))), (8, .t (intC i))], hp := fun _ _ => [], mu := fun _ i => n - i }
def sW45 : Sig := ⟨(Nat × (Nat → Int)) × Int × Int, fun x => [.c (nums x.1.1 x.1.2), intC x.2.1, intC x.2.2], fun x => x.1.1 < 4611686018427387904, fun x => [.v (.c (.bool (decide ((x.1.1 : Int) = x.2.1) && allB x.1.1 (fun i => within (x.1.2 i) 0 x.2.2))))]⟩
theorem q45 (x : sW45.α) (h : sW45.pre x) : CallQ Tryd.prog E0 45 (sW45.arg x) (sW45.res x) := by
 obtain ⟨⟨n, f⟩, many, most⟩ := x
 refine bare_with E0_ok TA TA_ok runs [(45, 3, aW45 n f many most)] [] (fuel := 5) ?_
 refine of_red (q := (∃ (g : Nat), g≤n∧True∧((True∧((↑((n, f), many, most).fst.fst : Int) == ((n, f), many, most).snd.fst) = (decide ((↑n : Int) = many) && allB g fun (i : Nat) => within (f i) (0 : Int) most))∧(True∧(0 : Int) = (↑g : Int))∧True)∧True)∧∀ (g : Nat), g≤n→((decide ((↑n : Int) = many) && allB g fun (i : Nat) => within (f i) (0 : Int) most) = true→(decide ((↑g : Int) < (↑((n, f), many, most).fst.fst : Int)) = true→(0 : Int)≤(↑g : Int)∧(↑g : Int) < (↑((n, f), many, most).fst.fst : Int)∧∃ (x : Int × Int × Int), ((True∧((n, f), many, most).fst.snd g = x.fst)∧(True∧(0 : Int) = x.snd.fst)∧(True∧((n, f), many, most).snd.snd = x.snd.snd)∧True)∧True∧inRange IntKind.i64 ((↑g : Int) + (1 : Int))∧∃ (g' : Nat), g'≤n∧n - g' < n - g∧True∧((True∧within x.fst x.snd.fst x.snd.snd = (decide ((↑n : Int) = many) && allB g' fun (i : Nat) => within (f i) (0 : Int) most))∧(True∧(↑g : Int) + (1 : Int) = (↑g' : Int))∧True)∧True)∧(decide ((↑g : Int) < (↑((n, f), many, most).fst.fst : Int)) = false→True∧(decide ((↑n : Int) = many) && allB g fun (i : Nat) => within (f i) (0 : Int) most) = (decide ((↑((n, f), many, most).fst.fst : Int) = ((n, f), many, most).snd.fst) && allB ((n, f), many, most).fst.fst fun (i : Nat) => within (((n, f), many, most).fst.snd i) (0 : Int) ((n, f), many, most).snd.snd)))∧((decide ((↑n : Int) = many) && allB g fun (i : Nat) => within (f i) (0 : Int) most) = false→True∧(decide ((↑n : Int) = many) && allB g fun (i : Nat) => within (f i) (0 : Int) most) = (decide ((↑((n, f), many, most).fst.fst : Int) = ((n, f), many, most).snd.fst) && allB ((n, f), many, most).fst.fst fun (i : Nat) => within (((n, f), many, most).fst.snd i) (0 : Int) ((n, f), many, most).snd.snd))) (by kernel_rfl) ?_
 have h0 : n < 4611686018427387904 := h
 simp only [true_and, and_true, inR, Prod.exists, Prod.forall, and_assoc, exists_and_left, exists_eq_left', exists_eq_left, forall_eq, loopN, loopM, fa2, fas, fas2, exhs, exhn, exhz, exho, exA, ex1, ex2, ex3, ex4, ex5, beqI, bneI, decide_eq_true_eq, decide_eq_false_iff_not, ne_eq, Decidable.not_not]
 refine ⟨by omega, by simp [allB], fun g hg => ⟨fun e1 => ⟨fun e2 => ⟨by omega, by omega, by omega, by omega, by omega, by omega, by simp_all [allB]⟩, fun e2 => ?_⟩, fun e1 => ?_⟩⟩
 · obtain rfl : g = n := (by omega)
   rfl
 · rw [e1]; simp only [Bool.and_eq_false_iff, decide_eq_false_iff_not] at e1
   rcases e1 with e1 | e1
   · simp [e1]
   · rw [allB_false e1 hg]; simp
end Go.Proofs.YthofpbnbjkdpaaaDoor
namespace Go.Proofs.YthofpbnbjkdpaaaDoor
open Go Go.Sx Cm
set_option maxRecDepth 100000
def TB0 : List (Nat × Sig) := (45, sW45) :: (17, sCheck) :: TA
theorem TB0_ok : SigsOk Tryd.prog E0 TB0 := (TA_ok.cons (runs 17 (by kernel_rfl)) q17).cons (runs 45 (by kernel_rfl)) q45
def cR1 (b : Book) : Ann := { G := Bool, ok := fun _ _ => True, dom := fun _ => [], tm := fun _ _ => [(4, .t (.c (.bool (sizesOk b && allB b.nc (cashOk b)))))], hp := fun _ _ => [], mu := fun _ _ => 0 }
def aR1 (b : Book) : Ann := { G := Nat, ok := fun _ i => i ≤ b.nd, dom := fun _ => [], tm := fun _ i => [(4, .t (.c (.bool (sizesOk b && allB b.nc (cashOk b) && allB i (debtOk b))))), (5, .t (intC i))], hp := fun _ _ => [], mu := fun _ i => b.nd - i }
def cR2 (b : Book) : Ann := { G := Bool, ok := fun _ _ => True, dom := fun _ => [], tm := fun _ _ => [(4, .t (.c (.bool (sizesOk b && allB b.nc (cashOk b) && allB b.nd (debtOk b)))))], hp := fun _ _ => [], mu := fun _ _ => 0 }
def aR2 (b : Book) : Ann := { G := Nat, ok := fun _ i => i ≤ b.ns, dom := fun _ => [], tm := fun _ i => [(4, .t (.c (.bool (sizesOk b && allB b.nc (cashOk b) && allB b.nd (debtOk b) && allB i (seasonOk b))))), (7, .t (intC i))], hp := fun _ _ => [], mu := fun _ i => b.ns - i }
theorem q18 (b : sCheck.α) (h : sCheck.pre b) : CallQ Tryd.prog E0 18 (sCheck.arg b) (sCheck.res b) := by
 refine bare_with E0_ok TB0 TB0_ok runs [(18, 4, aR1 b), (18, 9, aR2 b)] [(18, 3, cR1 b), (18, 8, cR2 b)] (fuel := 5) ?_
 refine of_red (q := (∃ (x : Int × Int × Int), ((True∧(↑b.nc : Int) = x.fst)∧(True∧(1 : Int) = x.snd.fst)∧(True∧(6 : Int) = x.snd.snd)∧True)∧True∧(within x.fst x.snd.fst x.snd.snd = true→∃ (x : (Nat × (Nat→Int)) × Int × Int), ((True∧True∧b.nc = x.fst.fst∧∀ (i : Nat), i < b.nc→True∧b.cash i = x.fst.snd i)∧(True∧(↑b.nc : Int) = x.snd.fst)∧(True∧(10000 : Int) = x.snd.snd)∧True)∧x.fst.fst < (4611686018427387904 : Nat)∧((decide ((↑x.fst.fst : Int) = x.snd.fst) && allB x.fst.fst fun (i : Nat) => within (x.fst.snd i) (0 : Int) x.snd.snd) = true→(decide ((↑b.nd : Int)≤(12 : Int)) = true→∃ (x : Int × Int × Int), ((True∧(↑b.ns : Int) = x.fst)∧(True∧(1 : Int) = x.snd.fst)∧(True∧(6 : Int) = x.snd.snd)∧True)∧True∧∃ (g : Bool), True∧True∧((True∧within x.fst x.snd.fst x.snd.snd = (sizesOk b && allB b.nc (cashOk b)))∧True)∧True)∧(decide ((↑b.nd : Int)≤(12 : Int)) = false→∃ (g : Bool), True∧True∧((True∧(sizesOk b && allB b.nc (cashOk b)) = false)∧True)∧True))∧((decide ((↑x.fst.fst : Int) = x.snd.fst) && allB x.fst.fst fun (i : Nat) => within (x.fst.snd i) (0 : Int) x.snd.snd) = false→∃ (g : Bool), True∧True∧((True∧(sizesOk b && allB b.nc (cashOk b)) = false)∧True)∧True))∧(within x.fst x.snd.fst x.snd.snd = false→∃ (g : Bool), True∧True∧((True∧(sizesOk b && allB b.nc (cashOk b)) = false)∧True)∧True))∧∀ (g : Bool), True→((∃ (g : Nat), g≤b.nd∧True∧((True∧(sizesOk b && allB b.nc (cashOk b)) = (sizesOk b && allB b.nc (cashOk b) && allB g (debtOk b)))∧(True∧(0 : Int) = (↑g : Int))∧True)∧True)∧∀ (g : Nat), g≤b.nd→((sizesOk b && allB b.nc (cashOk b) && allB g (debtOk b)) = true→(decide ((↑g : Int) < (↑b.nd : Int)) = true→(0 : Int)≤(↑g : Int)∧(↑g : Int) < (↑b.nd : Int)∧inRange IntKind.i64 ((↑b.nc : Int) - (1 : Int))∧∃ (x : Int × Int × Int), ((True∧b.frm g = x.fst)∧(True∧(0 : Int) = x.snd.fst)∧(True∧(↑b.nc : Int) - (1 : Int) = x.snd.snd)∧True)∧True∧(within x.fst x.snd.fst x.snd.snd = true→inRange IntKind.i64 ((↑b.nc : Int) - (1 : Int))∧∃ (x : Int × Int × Int), ((True∧b.to g = x.fst)∧(True∧(0 : Int) = x.snd.fst)∧(True∧(↑b.nc : Int) - (1 : Int) = x.snd.snd)∧True)∧True∧(within x.fst x.snd.fst x.snd.snd = true→((b.frm g != b.to g) = true→∃ (x : Int × Int × Int), ((True∧b.due g = x.fst)∧(True∧(1 : Int) = x.snd.fst)∧(True∧(10000 : Int) = x.snd.snd)∧True)∧True∧inRange IntKind.i64 ((↑g : Int) + (1 : Int))∧∃ (g' : Nat), g'≤b.nd∧b.nd - g' < b.nd - g∧True∧((True∧within x.fst x.snd.fst x.snd.snd = (sizesOk b && allB b.nc (cashOk b) && allB g' (debtOk b)))∧(True∧(↑g : Int) + (1 : Int) = (↑g' : Int))∧True)∧True)∧((b.frm g != b.to g) = false→inRange IntKind.i64 ((↑g : Int) + (1 : Int))∧∃ (g' : Nat), g'≤b.nd∧b.nd - g' < b.nd - g∧True∧((True∧(sizesOk b && allB b.nc (cashOk b) && allB g' (debtOk b)) = false)∧(True∧(↑g : Int) + (1 : Int) = (↑g' : Int))∧True)∧True))∧(within x.fst x.snd.fst x.snd.snd = false→inRange IntKind.i64 ((↑g : Int) + (1 : Int))∧∃ (g' : Nat), g'≤b.nd∧b.nd - g' < b.nd - g∧True∧((True∧(sizesOk b && allB b.nc (cashOk b) && allB g' (debtOk b)) = false)∧(True∧(↑g : Int) + (1 : Int) = (↑g' : Int))∧True)∧True))∧(within x.fst x.snd.fst x.snd.snd = false→inRange IntKind.i64 ((↑g : Int) + (1 : Int))∧∃ (g' : Nat), g'≤b.nd∧b.nd - g' < b.nd - g∧True∧((True∧(sizesOk b && allB b.nc (cashOk b) && allB g' (debtOk b)) = false)∧(True∧(↑g : Int) + (1 : Int) = (↑g' : Int))∧True)∧True))∧(decide ((↑g : Int) < (↑b.nd : Int)) = false→∃ (g_1 : Bool), True∧True∧((True∧(sizesOk b && allB b.nc (cashOk b) && allB g (debtOk b)) = (sizesOk b && allB b.nc (cashOk b) && allB b.nd (debtOk b)))∧True)∧True))∧((sizesOk b && allB b.nc (cashOk b) && allB g (debtOk b)) = false→∃ (g_1 : Bool), True∧True∧((True∧(sizesOk b && allB b.nc (cashOk b) && allB g (debtOk b)) = (sizesOk b && allB b.nc (cashOk b) && allB b.nd (debtOk b)))∧True)∧True))∧∀ (g : Bool), True→(∃ (g : Nat), g≤b.ns∧True∧((True∧(sizesOk b && allB b.nc (cashOk b) && allB b.nd (debtOk b)) = (sizesOk b && allB b.nc (cashOk b) && allB b.nd (debtOk b) && allB g (seasonOk b)))∧(True∧(0 : Int) = (↑g : Int))∧True)∧True)∧∀ (g : Nat), g≤b.ns→((sizesOk b && allB b.nc (cashOk b) && allB b.nd (debtOk b) && allB g (seasonOk b)) = true→(decide ((↑g : Int) < (↑b.ns : Int)) = true→(0 : Int)≤(↑g : Int)∧(↑g : Int) < (↑b.ns : Int)∧∃ (x : Int × Int × Int), ((True∧b.price g = x.fst)∧(True∧(0 : Int) = x.snd.fst)∧(True∧(100 : Int) = x.snd.snd)∧True)∧True∧(within x.fst x.snd.fst x.snd.snd = true→(0 : Int)≤(↑g : Int)∧(↑g : Int) < (↑b.ns : Int)∧∃ (x : (Nat × (Nat→Int)) × Int × Int), ((True∧True∧b.nb g = x.fst.fst∧∀ (i : Nat), i < b.nb g→True∧b.bar g i = x.fst.snd i)∧(True∧(↑b.nc : Int) = x.snd.fst)∧(True∧(200 : Int) = x.snd.snd)∧True)∧x.fst.fst < (4611686018427387904 : Nat)∧inRange IntKind.i64 ((↑g : Int) + (1 : Int))∧∃ (g' : Nat), g'≤b.ns∧b.ns - g' < b.ns - g∧True∧((True∧(decide ((↑x.fst.fst : Int) = x.snd.fst) && allB x.fst.fst fun (i : Nat) => within (x.fst.snd i) (0 : Int) x.snd.snd) = (sizesOk b && allB b.nc (cashOk b) && allB b.nd (debtOk b) && allB g' (seasonOk b)))∧(True∧(↑g : Int) + (1 : Int) = (↑g' : Int))∧True)∧True)∧(within x.fst x.snd.fst x.snd.snd = false→inRange IntKind.i64 ((↑g : Int) + (1 : Int))∧∃ (g' : Nat), g'≤b.ns∧b.ns - g' < b.ns - g∧True∧((True∧(sizesOk b && allB b.nc (cashOk b) && allB b.nd (debtOk b) && allB g' (seasonOk b)) = false)∧(True∧(↑g : Int) + (1 : Int) = (↑g' : Int))∧True)∧True))∧(decide ((↑g : Int) < (↑b.ns : Int)) = false→((!(sizesOk b && allB b.nc (cashOk b) && allB b.nd (debtOk b) && allB g (seasonOk b))) = true→True∧(80 : Int) = errOf b)∧((!(sizesOk b && allB b.nc (cashOk b) && allB b.nd (debtOk b) && allB g (seasonOk b))) = false→True∧(0 : Int) = errOf b)))∧((sizesOk b && allB b.nc (cashOk b) && allB b.nd (debtOk b) && allB g (seasonOk b)) = false→((!(sizesOk b && allB b.nc (cashOk b) && allB b.nd (debtOk b) && allB g (seasonOk b))) = true→True∧(80 : Int) = errOf b)∧((!(sizesOk b && allB b.nc (cashOk b) && allB b.nd (debtOk b) && allB g (seasonOk b))) = false→True∧(0 : Int) = errOf b))) (by kernel_rfl) ?_
 have h1 := h.nc; have h2 := h.nd; have h3 := h.ns; have h4 := h.nb; have h0 := h; clear h
 simp only [true_and, and_true, inR, Prod.exists, Prod.forall, and_assoc, exists_and_left, exists_eq_left', exists_eq_left, forall_eq, exists_const, forall_const, loopN, loopM, fa2, fas, fas2, exhs, exhn, exhz, exho, exA, ex1, ex2, ex3, ex4, ex5, beqI, bneI, decide_true, Bool.true_and, decide_eq_true_eq, decide_eq_false_iff_not, ne_eq, Decidable.not_not]
 have hcash : (allB b.nc fun i => within (b.cash i) 0 10000) = allB b.nc (cashOk b) := rfl
 have hfin : ∀ i, i ≤ b.ns → (sizesOk b && allB b.nc (cashOk b) && allB b.nd (debtOk b) && allB i (seasonOk b)) = (sizesOk b && allB b.nc (cashOk b) && allB b.nd (debtOk b) && allB b.ns (seasonOk b)) → ((!(sizesOk b && allB b.nc (cashOk b) && allB b.nd (debtOk b) && allB i (seasonOk b))) = true → 80 = errOf b) ∧ ((!(sizesOk b && allB b.nc (cashOk b) && allB b.nd (debtOk b) && allB i (seasonOk b))) = false → 0 = errOf b) := fun i _ e => by
   have e0 : errOf b = if (sizesOk b && allB b.nc (cashOk b) && allB b.nd (debtOk b) && allB b.ns (seasonOk b)) = true then 0 else 80 := rfl
   rw [e, e0]
   constructor
   · intro h; rw [Bool.not_eq_true'] at h; rw [h]; simp
   · intro h; rw [Bool.not_eq_false'] at h; rw [h]; simp
 refine ⟨fun e1 => ⟨b.cash, fun _ _ => rfl, h1, fun e2 => ⟨fun e3 => ?_, fun e3 => ?_⟩, fun e2 => ?_⟩, fun e1 => ?_, by omega, by simp [allB], fun i hi => ⟨fun e1 => ⟨fun e2 => ⟨by omega, by omega, by omega, by omega, fun e3 => ⟨by omega, by omega, fun e4 => ⟨fun e5 => ⟨by omega, by omega, by omega, by omega, ?_⟩, fun e5 => ⟨by omega, by omega, by omega, by omega, ?_⟩⟩, fun e4 => ⟨by omega, by omega, by omega, by omega, ?_⟩⟩, fun e3 => ⟨by omega, by omega, by omega, by omega, ?_⟩⟩, fun e2 => ?_⟩, fun e1 => ?_⟩, by omega, by simp [allB], fun i hi => ⟨fun e1 => ⟨fun e2 => ⟨by omega, by omega, fun e3 => ⟨by omega, by omega, b.bar i, fun _ _ => rfl, h4 i (by omega), by omega, by omega, by omega, by omega, ?_⟩, fun e3 => ⟨by omega, by omega, by omega, by omega, ?_⟩⟩, fun e2 => ?_⟩, fun e1 => ?_⟩⟩
 · rw [hcash] at e2; simp [sizesOk, e1, e2, e3]
 · simp [sizesOk, e1, e3]
 · rw [hcash] at e2; simp [e2]
 · simp [sizesOk, e1]
 · simp_all [allB, debtOk]
 · simp_all [allB, debtOk]
 · simp_all [allB, debtOk]
 · simp_all [allB, debtOk]
 · obtain rfl : i = b.nd := (by omega)
   rfl
 · rw [e1]; exact (and_allB_false e1 hi).symm
 · have hb : (allB (b.nb i) fun j => within (b.bar i j) 0 200) = allB (b.nb i) (barOk b i) := rfl
   rw [hb]
   simp only [allB, ← Bool.and_assoc, e1, seasonOk, e3, Bool.true_and]
 · simp_all [allB, seasonOk]
 · obtain rfl : i = b.ns := (by omega)
   exact hfin _ (Nat.le_refl _) rfl
 · exact hfin i hi (by rw [e1]; exact (and_allB_false e1 hi).symm)
def sHas : Sig := ⟨Book × Nat × Nat, fun x => [bookTV x.1, intC x.2.1, intC x.2.2], fun x => Good x.1 ∧ x.2.1 < x.1.ns ∧ x.2.2 < x.1.nc, fun x => [.v (intC (has x.1 x.2.1 x.2.2))]⟩
theorem q46 (x : sHas.α) (h : sHas.pre x) : CallQ Tryd.prog E0 46 (sHas.arg x) (sHas.res x) := by
 obtain ⟨b, s, p⟩ := x
 refine bare_with E0_ok TB0 TB0_ok runs [] [] (fuel := 5) ?_
 refine of_red (q := (0 : Int)≤(↑s : Int)∧(↑s : Int) < (↑b.ns : Int)∧(0 : Int)≤(↑p : Int)∧(↑p : Int) < (↑b.nc : Int)∧(0 : Int)≤(↑p : Int)∧(↑p : Int) < (↑(b.nb s) : Int)∧inRange IntKind.i64 (b.bar s p * b.price s)∧inRange IntKind.i64 (b.cash p + b.bar s p * b.price s)∧True∧b.cash p + b.bar s p * b.price s = has b (s, p).fst (s, p).snd) (by kernel_rfl) ?_
 simp only [true_and, and_true, inR, Prod.exists, Prod.forall, and_assoc, exists_and_left, exists_eq_left', exists_eq_left, forall_eq, exists_const, forall_const, loopN, loopM, fa2, fas, fas2, exhs, exhn, exhz, exho, exA, ex1, ex2, ex3, ex4, ex5, beqI, bneI, decide_true, Bool.true_and, decide_eq_true_eq, decide_eq_false_iff_not, ne_eq, Decidable.not_not]
 obtain ⟨hg, hs, hp⟩ : Good b ∧ s < b.ns ∧ p < b.nc := h
 have hh := has_parts hg hs hp
 have e : has b s p = b.cash p + b.bar s p * b.price s := rfl
 omega
theorem q34 (x : sHas.α) (h : sHas.pre x) : CallQ Tryd.prog E0 34 (sHas.arg x) (sHas.res x) := by
 obtain ⟨b, s, p⟩ := x
 refine bare_with E0_ok TB0 TB0_ok runs [] [] (fuel := 5) ?_
 refine of_red (q := (0 : Int)≤(↑p : Int)∧(↑p : Int) < (↑b.nc : Int)∧(0 : Int)≤(↑s : Int)∧(↑s : Int) < (↑b.ns : Int)∧(0 : Int)≤(↑p : Int)∧(↑p : Int) < (↑(b.nb s) : Int)∧(0 : Int)≤(↑s : Int)∧(↑s : Int) < (↑b.ns : Int)∧inRange IntKind.i64 (b.bar s p * b.price s)∧inRange IntKind.i64 (b.cash p + b.bar s p * b.price s)∧True∧b.cash p + b.bar s p * b.price s = has b (s, p).fst (s, p).snd) (by kernel_rfl) ?_
 simp only [true_and, and_true, inR, Prod.exists, Prod.forall, and_assoc, exists_and_left, exists_eq_left', exists_eq_left, forall_eq, exists_const, forall_const, loopN, loopM, fa2, fas, fas2, exhs, exhn, exhz, exho, exA, ex1, ex2, ex3, ex4, ex5, beqI, bneI, decide_true, Bool.true_and, decide_eq_true_eq, decide_eq_false_iff_not, ne_eq, Decidable.not_not]
 obtain ⟨hg, hs, hp⟩ : Good b ∧ s < b.ns ∧ p < b.nc := h
 have hh := has_parts hg hs hp
 have e : has b s p = b.cash p + b.bar s p * b.price s := rfl
 omega
def aHas (b : Book) (s : Nat) : Ann := { G := Nat, ok := fun _ i => i ≤ b.nc, dom := fun st => [st.nx], tm := fun st i => [(5, .t (.c (.os st.nx 1 i))), (6, .t (intC i))], hp := fun st i => [(st.nx, .slot 5, some (.row 3 1 i (fun j _ => .int .i64 (has b s j))))], mu := fun _ i => b.nc - i }
def sHas' : Sig := ⟨Book × Nat, fun x => [bookTV x.1, intC x.2], fun x => Good x.1 ∧ x.2 < x.1.ns, fun x => [.own 3 1 x.1.nc (fun j _ => .int .i64 (has x.1 x.2 j))]⟩
theorem q48 (x : sHas'.α) (h : sHas'.pre x) : CallQ Tryd.prog E0 48 (sHas'.arg x) (sHas'.res x) := by
 obtain ⟨b, s⟩ := x
 refine bare_with E0_ok TB0 TB0_ok runs [(48, 3, aHas b s)] [] (fuel := 5) ?_
 refine of_red (q := (∃ (g : Nat), g≤b.nc∧True∧((True∧g = (0 : Nat))∧(True∧(0 : Int) = (↑g : Int))∧True)∧g = (0 : Nat)∧True)∧∀ (g : Nat), g≤b.nc→(decide ((↑g : Int) < (↑b.nc : Int)) = true→(0 : Int)≤(↑g : Int)∧(↑g : Int) < (↑b.nc : Int)∧(0 : Int)≤(↑s : Int)∧(↑s : Int) < (↑b.ns : Int)∧(0 : Int)≤(↑g : Int)∧(↑g : Int) < (↑(b.nb s) : Int)∧(0 : Int)≤(↑s : Int)∧(↑s : Int) < (↑b.ns : Int)∧inRange IntKind.i64 (b.bar s g * b.price s)∧inRange IntKind.i64 (b.cash g + b.bar s g * b.price s)∧(g + (1 : Nat)) * (8 : Nat)≤(140737488355328 : Nat)∧g + (1 : Nat) < (4611686018427387904 : Nat)∧inRange IntKind.i64 ((↑g : Int) + (1 : Int))∧∃ (g' : Nat), g'≤b.nc∧b.nc - g' < b.nc - g∧True∧((True∧True∧g + (1 : Nat) = g')∧(True∧(↑g : Int) + (1 : Int) = (↑g' : Int))∧True)∧(True∧True∧g + (1 : Nat) = g'∧∀ (i : Nat), i < g + (1 : Nat)→True∧(if i < g then has b s i else if i - g = ((0 : Nat), Operand.tmp (36 : Nat)).fst then b.cash g + b.bar s g * b.price s else (0 : Int)) = has b s i)∧True)∧(decide ((↑g : Int) < (↑b.nc : Int)) = false→True∧g = b.nc∧True∧True∧g = b.nc∧∀ (i : Nat), i < g→True∧has b s i = has b s i)) (by kernel_rfl) ?_
 simp only [true_and, and_true, inR, Prod.exists, Prod.forall, and_assoc, exists_and_left, exists_eq_left', exists_eq_left, forall_eq, exists_const, forall_const, loopN, loopM, fa2, fas, fas2, exhs, exhn, exhz, exho, exA, ex1, ex2, ex3, ex4, ex5, beqI, bneI, decide_true, Bool.true_and, decide_eq_true_eq, decide_eq_false_iff_not, ne_eq, Decidable.not_not]
 obtain ⟨hg, hs⟩ : Good b ∧ s < b.ns := h
 have hn := hg.nc
 refine ⟨by omega, rfl, fun i hi => ?_, fun _ _ => trivial⟩
 have hh := has_parts hg hs hi
 refine ⟨by omega, by omega, by omega, by omega, by omega, by omega, by omega, by omega, by omega, by omega, by omega, by omega, by omega, by omega, by omega, by omega, i + 1, by omega, by omega, rfl, by omega, rfl, fun j hj => ?_⟩
 by_cases e : j < i
 · rw [if_pos e]
 · obtain rfl : j = i := (by omega)
   rw [if_neg e, Nat.sub_self, if_pos rfl]; rfl
end Go.Proofs.YthofpbnbjkdpaaaDoor
