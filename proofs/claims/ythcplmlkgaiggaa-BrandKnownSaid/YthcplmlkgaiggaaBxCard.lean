/- From contracts to rows: what an argument that is handed in looks like. -/
import Derived.Test.YthcplmlkgaiggaaBxL
import Derived.Test.YthcplmlkgaiggaaSxShape
import Derived.ProofKit
import Derived.SizedLaws
set_option linter.unusedSimpArgs false
set_option linter.unusedVariables false
namespace Go.Proofs.Ythcplmlkgaiggaa
open Go Go.Sx Bm Go.ChangeShapes Go.WideShapes Go.ChangeAt Go.RowKit
set_option maxRecDepth 100000

theorem own_knob : ownKnob Try.prog.godebug = none := by kernel_rfl
theorem laidOut : laidOutB Try.prog = true := by kernel_rfl
theorem gl_ok {W : World} : GlOk E0 (fun b => b < W.heap.size) W := fun g n get hg => by cases hg

/-- A contract's arguments may be said in other words. -/
theorem callQ_fit {P : Program} {E : Env} {f : FuncId} {tvs args : List TV} {rs : List RV} (hf : fitTVs tvs args) (h : CallQ P E f args rs) : CallQ P E f tvs rs :=
  fun Z w vs hs hr => h Z w vs hs (fitTVs_ok hf hr)

theorem ty3 : E0.ty 3 = some ⟨(.int .i64), 1, 8, [.int .i64 0]⟩ := rfl
theorem ty22 : E0.ty 22 = some ⟨(.slice 70), 1, 24, [.nils]⟩ := rfl
theorem ty23 : E0.ty 23 = some ⟨(.array 4 3), 4, 32, [.int .i64 0, .int .i64 0, .int .i64 0, .int .i64 0]⟩ := rfl
theorem ty24 : E0.ty 24 = some ⟨(.array 4 3), 4, 32, [.int .i64 0, .int .i64 0, .int .i64 0, .int .i64 0]⟩ := rfl
theorem ty30 : E0.ty 30 = some ⟨(.array 2 3), 2, 16, [.int .i64 0, .int .i64 0]⟩ := rfl
theorem ty32 : E0.ty 32 = some ⟨(.struct [(0, 3), (1, 3)]), 2, 16, [.int .i64 0, .int .i64 0]⟩ := rfl
theorem ty34 : E0.ty 34 = some ⟨(.struct [(0, 3), (1, 3)]), 2, 16, [.int .i64 0, .int .i64 0]⟩ := rfl
theorem ty39 : E0.ty 39 = some ⟨(.struct [(0, 3), (1, 34), (3, 3), (4, 34)]), 6, 48, [.int .i64 0, .int .i64 0, .int .i64 0, .int .i64 0, .int .i64 0, .int .i64 0]⟩ := rfl
theorem ty45 : E0.ty 45 = some ⟨(.array 3 3), 3, 24, [.int .i64 0, .int .i64 0, .int .i64 0]⟩ := rfl
theorem ty47 : E0.ty 47 = some ⟨(.struct [(0, 3), (1, 3)]), 2, 16, [.int .i64 0, .int .i64 0]⟩ := rfl
theorem ty51 : E0.ty 51 = some ⟨(.slice 24), 1, 24, [.nils]⟩ := rfl
theorem ty53 : E0.ty 53 = some ⟨(.struct [(0, 22), (1, 3), (2, 39), (8, 51)]), 9, 104, [.nils, .int .i64 0, .int .i64 0, .int .i64 0, .int .i64 0, .int .i64 0, .int .i64 0, .int .i64 0, .nils]⟩ := rfl
theorem ty70 : E0.ty 70 = some ⟨(.array 4 47), 8, 64, List.replicate 8 (.int .i64 0)⟩ := rfl

theorem int_of {n : Nat} {g : Nat → CV} (h : Shp E0 (n + 1) 3 g) : ∃ a : Int, g 0 = .int .i64 a := let ⟨a, h1, _⟩ := h; ⟨a, h1⟩
theorem fit_int {g : Nat → CV} {j : Nat} {a : Int} (e : g j = .int .i64 a) : fitCV (fun _ => .bad) (g j) (.int .i64 a) := by
  rw [e]; exact ⟨trivial, rfl⟩
theorem fitP_int {x : CV} {a : Int} (e : x = .int .i64 a) : fitP x (.int .i64 a) := by subst e; rfl

theorem arg_int {n : Nat} {g : Nat → CV} (h : Shp E0 (n + 1) 3 g) : ∃ a : Int, fitTV (fun _ => .bad) (mkTV ⟨(.int .i64), 1, 8, [.int .i64 0]⟩ g) (intC a) := by
  obtain ⟨a, e⟩ := int_of h
  refine ⟨a, ?_⟩
  show fitCV _ (g 0) (.int .i64 a)
  exact fit_int e
theorem two_of {n : Nat} {g : Nat → CV} {i j : Nat} (h : Shp.AllF (fun x => Shp E0 (n + 1) x.2 (fun j => g (x.1 + j))) [(i, 3), (j, 3)]) : (∃ a : Int, g i = .int .i64 a) ∧ ∃ b : Int, g j = .int .i64 b := by
  obtain ⟨h1, h2, _⟩ := h
  exact ⟨int_of h1, int_of h2⟩
/-- Two whole numbers in a struct. -/
theorem pair_of {n : Nat} {t : Nat} {ti : TI} {g : Nat → CV} (ht : E0.ty t = some ti) (hk : ti.kind = .struct [(0, 3), (1, 3)]) (h : Shp E0 (n + 2) t g) : (∃ a : Int, g 0 = .int .i64 a) ∧ ∃ b : Int, g 1 = .int .i64 b := by
  simp only [Shp, ht, hk] at h
  exact two_of h
theorem arr_int {n m i : Nat} {g : Nat → CV} {t : Nat} {ti : TI} (ht : E0.ty t = some ti) (hk : ti.kind = .array m 3) (h : Shp E0 (n + 2) t g) (hi : i < m) : ∃ a : Int, g i = .int .i64 a := by
  simp only [Shp, ht, hk, ty3] at h
  obtain ⟨a, e, _⟩ := h i hi
  exact ⟨a, by simpa using e⟩

theorem arg_pair {n : Nat} {t : Nat} {g : Nat → CV} (ht : E0.ty t = some ⟨.struct [(0, 3), (1, 3)], 2, 16, [.int .i64 0, .int .i64 0]⟩) (h : Shp E0 (n + 2) t g) : ∃ x y : Int, fitTV (fun _ => .bad) (mkTV ⟨.struct [(0, 3), (1, 3)], 2, 16, [.int .i64 0, .int .i64 0]⟩ g) (twoTV x y) := by
  obtain ⟨⟨x, e0⟩, y, e1⟩ := pair_of ht rfl h
  exact ⟨x, y, trivial, ⟨⟨trivial, fit_int e0⟩, fit_int e1⟩⟩
theorem arg_two {n : Nat} {g : Nat → CV} (h : Shp E0 (n + 2) 30 g) : ∃ x y : Int, fitTV (fun _ => .bad) (mkTV ⟨(.array 2 3), 2, 16, [.int .i64 0, .int .i64 0]⟩ g) (arr2 x y) := by
  obtain ⟨x, e0⟩ := arr_int ty30 rfl h (i := 0) (by decide)
  obtain ⟨y, e1⟩ := arr_int ty30 rfl h (i := 1) (by decide)
  exact ⟨x, y, trivial, ⟨⟨trivial, fit_int e0⟩, fit_int e1⟩⟩
theorem arg_three {n : Nat} {g : Nat → CV} (h : Shp E0 (n + 2) 45 g) : ∃ x y z : Int, fitTV (fun _ => .bad) (mkTV ⟨(.array 3 3), 3, 24, [.int .i64 0, .int .i64 0, .int .i64 0]⟩ g) (arr3 x y z) := by
  obtain ⟨x, e0⟩ := arr_int ty45 rfl h (i := 0) (by decide)
  obtain ⟨y, e1⟩ := arr_int ty45 rfl h (i := 1) (by decide)
  obtain ⟨z, e2⟩ := arr_int ty45 rfl h (i := 2) (by decide)
  exact ⟨x, y, z, trivial, ⟨⟨⟨trivial, fit_int e0⟩, fit_int e1⟩, fit_int e2⟩⟩
/-- A barrel. -/
theorem arg_four {n : Nat} {t : Nat} {g : Nat → CV} (ht : E0.ty t = some ⟨(.array 4 3), 4, 32, [.int .i64 0, .int .i64 0, .int .i64 0, .int .i64 0]⟩) (h : Shp E0 (n + 2) t g) : ∃ b : Nat → Int, fitTV (fun _ => .bad) (mkTV ⟨(.array 4 3), 4, 32, [.int .i64 0, .int .i64 0, .int .i64 0, .int .i64 0]⟩ g) (arrTV 4 b) := by
  obtain ⟨x, e0⟩ := arr_int ht rfl h (i := 0) (by decide)
  obtain ⟨y, e1⟩ := arr_int ht rfl h (i := 1) (by decide)
  obtain ⟨z, e2⟩ := arr_int ht rfl h (i := 2) (by decide)
  obtain ⟨u, e3⟩ := arr_int ht rfl h (i := 3) (by decide)
  exact ⟨fun | 0 => x | 1 => y | 2 => z | _ => u, trivial, ⟨⟨⟨⟨trivial, fit_int e0⟩, fit_int e1⟩, fit_int e2⟩, fit_int e3⟩⟩

/-- The six numbers of a rule. -/
theorem rule_of {n : Nat} {g : Nat → CV} (h : Shp E0 (n + 3) 39 g) : ∃ r : Nat → Int, ∀ j, j < 6 → g j = .int .i64 (r j) := by
  have h' : Shp.AllF (fun x => Shp E0 (n + 2) x.2 (fun j => g (x.1 + j))) [(0, 3), (1, 34), (3, 3), (4, 34)] := by
    simp only [Shp, ty39] at h
    exact h
  obtain ⟨h0, h1, h3, h4, _⟩ := h'
  obtain ⟨a0, e0⟩ := int_of h0
  obtain ⟨⟨a1, e1⟩, a2, e2⟩ := pair_of ty34 rfl h1
  obtain ⟨a3, e3⟩ := int_of h3
  obtain ⟨⟨a4, e4⟩, a5, e5⟩ := pair_of ty34 rfl h4
  refine ⟨fun | 0 => a0 | 1 => a1 | 2 => a2 | 3 => a3 | 4 => a4 | _ => a5, fun j hj => ?_⟩
  match j, hj with
  | 0, _ => exact e0
  | 1, _ => exact e1
  | 2, _ => exact e2
  | 3, _ => exact e3
  | 4, _ => exact e4
  | 5, _ => exact e5
theorem arg_rule {n : Nat} {g : Nat → CV} (h : Shp E0 (n + 3) 39 g) : ∃ r : Nat → Int, fitTV (fun _ => .bad) (mkTV ⟨(.struct [(0, 3), (1, 34), (3, 3), (4, 34)]), 6, 48, [.int .i64 0, .int .i64 0, .int .i64 0, .int .i64 0, .int .i64 0, .int .i64 0]⟩ g) (arrTV 6 r) := by
  obtain ⟨r, hr⟩ := rule_of h
  exact ⟨r, trivial, ⟨⟨⟨⟨⟨⟨trivial, fit_int (hr 0 (by decide))⟩, fit_int (hr 1 (by decide))⟩, fit_int (hr 2 (by decide))⟩, fit_int (hr 3 (by decide))⟩, fit_int (hr 4 (by decide))⟩, fit_int (hr 5 (by decide))⟩⟩

/-- The eight numbers of a mark. -/
theorem mark_of {n : Nat} {g : Nat → CV} (h : Shp E0 (n + 3) 70 g) : ∃ r : Nat → Int, ∀ j, j < 8 → g j = .int .i64 (r j) := by
  have h' : ∀ i, i < 4 → Shp E0 (n + 2) 47 (fun j => g (i * 2 + j)) := by
    simp only [Shp, ty70, ty47] at h
    intro i hi
    have := h i hi
    simp only [Shp, ty47]
    exact this
  obtain ⟨⟨a0, e0⟩, a1, e1⟩ := pair_of ty47 rfl (h' 0 (by decide))
  obtain ⟨⟨a2, e2⟩, a3, e3⟩ := pair_of ty47 rfl (h' 1 (by decide))
  obtain ⟨⟨a4, e4⟩, a5, e5⟩ := pair_of ty47 rfl (h' 2 (by decide))
  obtain ⟨⟨a6, e6⟩, a7, e7⟩ := pair_of ty47 rfl (h' 3 (by decide))
  refine ⟨fun | 0 => a0 | 1 => a1 | 2 => a2 | 3 => a3 | 4 => a4 | 5 => a5 | 6 => a6 | _ => a7, fun j hj => ?_⟩
  match j, hj with
  | 0, _ => exact e0
  | 1, _ => exact e1
  | 2, _ => exact e2
  | 3, _ => exact e3
  | 4, _ => exact e4
  | 5, _ => exact e5
  | 6, _ => exact e6
  | 7, _ => exact e7

theorem marks_of {n : Nat} {g : Nat → CV} (h : Shp E0 (n + 4) 22 g) : ∃ (m : Nat) (f : Nat → Nat → Int), m < 4611686018427387904 ∧ fitCV (fun _ => .bad) (g 0) (marksCV m f) := by
  obtain ⟨len, c, e, hl, hc⟩ := h
  have hl : len * 64 ≤ 140737488351232 := hl
  have hx : ∀ i, ∃ r : Nat → Int, i < len → ∀ j, j < 8 → c i j = .int .i64 (r j) := fun i => by
    by_cases hi : i < len
    · obtain ⟨r, hr⟩ := mark_of (hc i hi)
      exact ⟨r, fun _ => hr⟩
    · exact ⟨fun _ => 0, fun h => absurd h hi⟩
  obtain ⟨f, hf⟩ := Classical.axiomOfChoice hx
  refine ⟨len, f, by omega, ?_⟩
  have e : g 0 = .vs 8 len c := e
  rw [e]
  exact ⟨trivial, trivial, rfl, fun i hi => ⟨⟨⟨⟨⟨⟨⟨⟨trivial, fitP_int (hf i hi 0 (by decide))⟩, fitP_int (hf i hi 1 (by decide))⟩, fitP_int (hf i hi 2 (by decide))⟩, fitP_int (hf i hi 3 (by decide))⟩, fitP_int (hf i hi 4 (by decide))⟩, fitP_int (hf i hi 5 (by decide))⟩, fitP_int (hf i hi 6 (by decide))⟩, fitP_int (hf i hi 7 (by decide))⟩⟩
theorem arg_marks {n : Nat} {g : Nat → CV} (h : Shp E0 (n + 4) 22 g) : ∃ (m : Nat) (f : Nat → Nat → Int), m < 4611686018427387904 ∧ fitTV (fun _ => .bad) (mkTV ⟨(.slice 70), 1, 24, [.nils]⟩ g) (.c (marksCV m f)) := marks_of h

theorem bars_of {n : Nat} {g : Nat → CV} (h : Shp E0 (n + 3) 51 g) : ∃ (m : Nat) (f : Nat → Nat → Int), m < 4611686018427387904 ∧ fitCV (fun _ => .bad) (g 0) (barsCV m f) := by
  obtain ⟨len, c, e, hl, hc⟩ := h
  have hl : len * 32 ≤ 140737488351232 := hl
  have hx : ∀ i, ∃ r : Nat → Int, i < len → ∀ j, j < 4 → c i j = .int .i64 (r j) := fun i => by
    by_cases hi : i < len
    · obtain ⟨x, e0⟩ := arr_int ty24 rfl (hc i hi) (i := 0) (by decide)
      obtain ⟨y, e1⟩ := arr_int ty24 rfl (hc i hi) (i := 1) (by decide)
      obtain ⟨z, e2⟩ := arr_int ty24 rfl (hc i hi) (i := 2) (by decide)
      obtain ⟨u, e3⟩ := arr_int ty24 rfl (hc i hi) (i := 3) (by decide)
      refine ⟨fun | 0 => x | 1 => y | 2 => z | _ => u, fun _ j hj => ?_⟩
      match j, hj with
      | 0, _ => exact e0
      | 1, _ => exact e1
      | 2, _ => exact e2
      | 3, _ => exact e3
    · exact ⟨fun _ => 0, fun h => absurd h hi⟩
  obtain ⟨f, hf⟩ := Classical.axiomOfChoice hx
  refine ⟨len, f, by omega, ?_⟩
  have e : g 0 = .vs 4 len c := e
  rw [e]
  exact ⟨trivial, trivial, rfl, fun i hi => ⟨⟨⟨⟨trivial, fitP_int (hf i hi 0 (by decide))⟩, fitP_int (hf i hi 1 (by decide))⟩, fitP_int (hf i hi 2 (by decide))⟩, fitP_int (hf i hi 3 (by decide))⟩⟩

/-- A mark. -/
theorem arg_mark {n : Nat} {g : Nat → CV} (h : Shp E0 (n + 3) 70 g) : ∃ r : Nat → Int, fitTV (fun _ => .bad) (mkTV ⟨(.array 4 47), 8, 64, List.replicate 8 (.int .i64 0)⟩ g) (arrTV 8 r) := by
  obtain ⟨r, hr⟩ := mark_of h
  exact ⟨r, trivial, ⟨⟨⟨⟨⟨⟨⟨⟨trivial, fit_int (hr 0 (by decide))⟩, fit_int (hr 1 (by decide))⟩, fit_int (hr 2 (by decide))⟩, fit_int (hr 3 (by decide))⟩, fit_int (hr 4 (by decide))⟩, fit_int (hr 5 (by decide))⟩, fit_int (hr 6 (by decide))⟩, fit_int (hr 7 (by decide))⟩⟩

/-- A lot. -/
theorem arg_lot {g : Nat → CV} (h : Shp E0 6 53 g) : ∃ x : PrIn, (x.n < 4611686018427387904 ∧ x.no < 4611686018427387904) ∧ fitTV (fun _ => .bad) (.a 9 g) (lotXTV x) := by
  obtain ⟨h1, h2, h3, h4, _⟩ := (show Shp.AllF (fun x => Shp E0 5 x.2 (fun j => g (x.1 + j))) [(0, 22), (1, 3), (2, 39), (8, 51)] from h)
  obtain ⟨n, m, hn, f1⟩ := marks_of h1
  obtain ⟨N, e1⟩ := int_of h2
  obtain ⟨r, hr⟩ := rule_of h3
  obtain ⟨no, op, hno, f4⟩ := bars_of h4
  exact ⟨⟨n, m, N, r, no, op⟩, ⟨hn, hno⟩, trivial, ⟨⟨⟨⟨⟨⟨⟨⟨⟨trivial, f1⟩, fit_int e1⟩, fit_int (hr 0 (by decide))⟩, fit_int (hr 1 (by decide))⟩, fit_int (hr 2 (by decide))⟩, fit_int (hr 3 (by decide))⟩, fit_int (hr 4 (by decide))⟩, fit_int (hr 5 (by decide))⟩, f4⟩⟩
end Go.Proofs.Ythcplmlkgaiggaa
