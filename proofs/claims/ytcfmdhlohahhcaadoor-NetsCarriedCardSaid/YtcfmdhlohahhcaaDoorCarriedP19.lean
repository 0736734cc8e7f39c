/- Texts for the law of the last part, part 19. -/
import Derived.Test.YtcfmdhlohahhcaaDoorCarriedP18
set_option linter.unusedSimpArgs false
set_option linter.unusedVariables false
set_option linter.unusedSimpArgs false
set_option linter.unusedVariables false
namespace Go.Proofs.YtcfmdhlohahhcaaDoor
open Go Go.Sx Nm Go.ChangeShapes Go.WideShapes Go.ChangeAt Go.RowKit
set_option maxRecDepth 100000
theorem ints_of {n : Nat} {g : Nat → CV} (h : Shp E0 (n + 2) 26 g) : ∃ (len : Nat) (f : Nat → Int), len < 4611686018427387904 ∧ fitP (g 0) (intsCV len f) ∧ fitCV (fun _ => .bad) (g 0) (intsCV len f) := by
  obtain ⟨len, c, e, hl, hc⟩ := h
  have hl : len * 8 ≤ 140737488351232 := hl
  have hx : ∀ i, ∃ a : Int, i < len → c i 0 = .int .i64 a := fun i => by
    by_cases hi : i < len
    · obtain ⟨a, h1, _⟩ := hc i hi
      exact ⟨a, fun _ => h1⟩
    · exact ⟨0, fun h => absurd h hi⟩
  obtain ⟨f, hf⟩ := Classical.axiomOfChoice hx
  refine ⟨len, f, by omega, ?_⟩
  have key : fitP (g 0) (intsCV len f) := by
    rw [e]
    refine ⟨trivial, rfl, fun i hi => ⟨trivial, ?_⟩⟩
    show fitP (c i 0) (.int .i64 (f i))
    rw [hf i hi]; rfl
  refine ⟨key, ?_⟩
  rw [e] at key ⊢
  exact ⟨trivial, key⟩
theorem spans_of {n : Nat} {g : Nat → CV} (h : Shp E0 (n + 3) 22 g) : ∃ (len : Nat) (f : Nat → Nat → Int), len < 4611686018427387904 ∧ fitCV (fun _ => .bad) (g 0) (.vs 2 len fun i j => .int .i64 (f i j)) := by
  obtain ⟨len, c, e, hl, hc⟩ := h
  have hl : len * 16 ≤ 140737488351232 := hl
  have hx : ∀ i, ∃ a : Nat → Int, i < len → c i 0 = .int .i64 (a 0) ∧ c i 1 = .int .i64 (a 1) := fun i => by
    by_cases hi : i < len
    · obtain ⟨⟨a1, e1, _⟩, ⟨a2, e2, _⟩, _⟩ := hc i hi
      exact ⟨fun j => if j = 0 then a1 else a2, fun _ => ⟨e1, e2⟩⟩
    · exact ⟨fun _ => 0, fun h => absurd h hi⟩
  obtain ⟨f, hf⟩ := Classical.axiomOfChoice hx
  refine ⟨len, f, by omega, ?_⟩
  rw [e]
  refine ⟨trivial, trivial, rfl, fun i hi => ?_⟩
  obtain ⟨a1, a2⟩ := hf i hi
  refine ⟨⟨trivial, ?_⟩, ?_⟩
  · show fitP (c i 0) _; rw [a1]; rfl
  · show fitP (c i 1) _; rw [a2]; rfl
theorem nets_of {n : Nat} {g : Nat → CV} (h : Shp E0 (n + 4) 23 g) : ∃ (len : Nat) (f : Nat → Nat → Int), len < 4611686018427387904 ∧ fitCV (fun _ => .bad) (g 0) (.vs 10 len fun i j => .int .i64 (f i j)) := by
  obtain ⟨len, c, e, hl, hc⟩ := h
  have hl : len * 80 ≤ 140737488351232 := hl
  have hx : ∀ i, ∃ a : Nat → Int, i < len → c i 0 = .int .i64 (a 0) ∧ c i 1 = .int .i64 (a 1) ∧ c i 2 = .int .i64 (a 2) ∧ c i 3 = .int .i64 (a 3) ∧ c i 4 = .int .i64 (a 4) ∧ c i 5 = .int .i64 (a 5) ∧ c i 6 = .int .i64 (a 6) ∧ c i 7 = .int .i64 (a 7) ∧ c i 8 = .int .i64 (a 8) ∧ c i 9 = .int .i64 (a 9) := fun i => by
    by_cases hi : i < len
    · obtain ⟨⟨⟨a0, e0, _⟩, ⟨a1, e1, _⟩, _⟩, ⟨a2, e2, _⟩, ⟨a3, e3, _⟩, ⟨a4, e4, _⟩, ⟨a5, e5, _⟩, ⟨⟨a6, e6, _⟩, ⟨a7, e7, _⟩, _⟩, ⟨⟨a8, e8, _⟩, ⟨a9, e9, _⟩, _⟩, _⟩ := hc i hi
      exact ⟨fun j => [a0, a1, a2, a3, a4, a5, a6, a7, a8, a9].getD j 0, fun _ => ⟨e0, e1, e2, e3, e4, e5, e6, e7, e8, e9⟩⟩
    · exact ⟨fun _ => 0, fun h => absurd h hi⟩
  obtain ⟨f, hf⟩ := Classical.axiomOfChoice hx
  refine ⟨len, f, by omega, ?_⟩
  rw [e]
  refine ⟨trivial, trivial, rfl, fun i hi => ?_⟩
  obtain ⟨a0, a1, a2, a3, a4, a5, a6, a7, a8, a9⟩ := hf i hi
  refine ⟨⟨⟨⟨⟨⟨⟨⟨⟨⟨trivial, ?_⟩, ?_⟩, ?_⟩, ?_⟩, ?_⟩, ?_⟩, ?_⟩, ?_⟩, ?_⟩, ?_⟩
  · show fitP (c i 0) _; rw [a0]; rfl
  · show fitP (c i 1) _; rw [a1]; rfl
  · show fitP (c i 2) _; rw [a2]; rfl
  · show fitP (c i 3) _; rw [a3]; rfl
  · show fitP (c i 4) _; rw [a4]; rfl
  · show fitP (c i 5) _; rw [a5]; rfl
  · show fitP (c i 6) _; rw [a6]; rfl
  · show fitP (c i 7) _; rw [a7]; rfl
  · show fitP (c i 8) _; rw [a8]; rfl
  · show fitP (c i 9) _; rw [a9]; rfl
theorem fit_int {g : Nat → CV} {j : Nat} {a : Int} (e : g j = .int .i64 a) : fitCV (fun _ => .bad) (g j) (.int .i64 a) := by
  rw [e]; exact ⟨trivial, rfl⟩
theorem fleet_of {g : Nat → CV} (h : Shp E0 6 25 g) : ∃ b : Fleet, b.wf ∧ fitTV (fun _ => .bad) (mkTV ⟨(.struct [(0, 22), (1, 22), (2, 3), (3, 23)]), 4, 80, [.nils, .nils, .int .i64 0, .nils]⟩ g) (fleetTV b) := by
  obtain ⟨h1, h2, ⟨gap, h3, _⟩, h4, _⟩ := h
  obtain ⟨hE, e, w1, f1⟩ := spans_of h1
  obtain ⟨hN, n, w2, f2⟩ := spans_of h2
  obtain ⟨k, net, w3, f3⟩ := nets_of h4
  refine ⟨⟨hE, e, hN, n, gap, k, net⟩, ⟨w1, w2, w3⟩, trivial, ⟨⟨⟨trivial, ?_⟩, ?_⟩, ?_⟩, ?_⟩
  · show fitCV _ (g 0) _; exact f1
  · show fitCV _ (g 1) _; exact f2
  · show fitCV _ (g 2) _; exact fit_int h3
  · show fitCV _ (g 3) _; exact f3
theorem callQ_fit {P : Program} {E : Env} {f : FuncId} {tvs args : List TV} {rs : List RV} (hf : fitTVs tvs args) (h : CallQ P E f args rs) : CallQ P E f tvs rs :=
  fun Z w vs hs hr => h Z w vs hs (fitTVs_ok hf hr)
theorem laidOut : laidOutB Tryd.prog = true := by kernel_rfl
theorem ty25 : E0.ty 25 = some ⟨(.struct [(0, 22), (1, 22), (2, 3), (3, 23)]), 4, 80, [.nils, .nils, .int .i64 0, .nils]⟩ := rfl
theorem ty3 : E0.ty 3 = some ⟨(.int .i64), 1, 8, [.int .i64 0]⟩ := rfl
theorem ty26 : E0.ty 26 = some ⟨(.slice 3), 1, 24, [.nils]⟩ := rfl
theorem ty42 : E0.ty 42 = some ⟨(.array 3 3), 3, 24, [.int .i64 0, .int .i64 0, .int .i64 0]⟩ := rfl
theorem arr_int {n m i : Nat} {g : Nat → CV} {t : Nat} {ti : TI} (ht : E0.ty t = some ti) (hk : ti.kind = .array m 3) (h : Shp E0 (n + 2) t g) (hi : i < m) : ∃ a : Int, g i = .int .i64 a := by
  simp only [Shp, ht, hk, ty3] at h
  obtain ⟨a, e, _⟩ := h i hi
  exact ⟨a, by simpa using e⟩
theorem arg_three {n : Nat} {g : Nat → CV} (h : Shp E0 (n + 2) 42 g) : ∃ x y z : Int, fitTV (fun _ => .bad) (mkTV ⟨(.array 3 3), 3, 24, [.int .i64 0, .int .i64 0, .int .i64 0]⟩ g) (.a 3 (ofList [.int .i64 x, .int .i64 y, .int .i64 z])) := by
  obtain ⟨x, e0⟩ := arr_int ty42 rfl h (i := 0) (by decide)
  obtain ⟨y, e1⟩ := arr_int ty42 rfl h (i := 1) (by decide)
  obtain ⟨z, e2⟩ := arr_int ty42 rfl h (i := 2) (by decide)
  exact ⟨x, y, z, trivial, ⟨⟨⟨trivial, fit_int e0⟩, fit_int e1⟩, fit_int e2⟩⟩
theorem arg_list {n : Nat} {g : Nat → CV} (h : Shp E0 (n + 2) 26 g) : ∃ (m : Nat) (f : Nat → Int), m < 4611686018427387904 ∧ fitTV (fun _ => .bad) (mkTV ⟨(.slice 3), 1, 24, [.nils]⟩ g) (.c (intsCV m f)) := by
  obtain ⟨m, f, hm, _, hf⟩ := ints_of h
  exact ⟨m, f, hm, hf⟩
theorem want25 : Tryd.prog.wantsStandIn 25 = false := by kernel_rfl
theorem want42 : Tryd.prog.wantsStandIn 42 = false := by kernel_rfl
theorem want26 : Tryd.prog.wantsStandIn 26 = false := by kernel_rfl
theorem bool_und : Tryd.prog.underlying 4 = some .bool := by kernel_rfl
end Go.Proofs.YtcfmdhlohahhcaaDoor
