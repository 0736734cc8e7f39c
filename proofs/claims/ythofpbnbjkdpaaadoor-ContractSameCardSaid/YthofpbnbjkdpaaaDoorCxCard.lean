/- The seat's cards: what the listed variables hold; what a book that is handed in looks like. -/
import Derived.Test.YthofpbnbjkdpaaaDoorCxL
import Derived.Test.YthofpbnbjkdpaaaDoorSxShape
import Derived.Test.YthofpbnbjkdpaaaDoorTie
import Derived.Test.YthofpbnbjkdpaaaDoorCards
import Derived.ProofKit
import Derived.LaidMore
import Derived.Stop.Joined
import Derived.SevenTiedAt
set_option linter.unusedSimpArgs false
set_option linter.unusedVariables false
namespace Go.Proofs.YthofpbnbjkdpaaaDoor
open Go Go.Sx Cm Go.ChangeShapes Go.WideShapes Go.ChangeAt Go.RowKit
set_option maxRecDepth 100000

theorem own_knob : ownKnob Tryd.prog.godebug = none := by kernel_rfl
theorem g_gets : Tryd.prog.globalNamed "drifter/contract.gets" = some 0 := by kernel_rfl
theorem g_owes : Tryd.prog.globalNamed "drifter/contract.owes" = some 1 := by kernel_rfl
theorem t_gets : (Tryd.prog.globals[0]?).map (·.type) = some 75 := by kernel_rfl
theorem t_owes : (Tryd.prog.globals[1]?).map (·.type) = some 75 := by kernel_rfl

def laidL : List (String × DataW Unit) := [("drifter/contract.owes", Rows.laid_drifter_contract_owes), ("drifter/contract.gets", Rows.laid_drifter_contract_gets)]

/-- The door's own heap meets the condition. -/
theorem door_met (os : Os) (args : Array Value) : laidMetH Tryd.prog laidL ((World.doorLaid Tryd.prog 600 os).forCall (fun _ _ => 0) ⟨#[], args, []⟩).memory :=
  laidMetH_of_parts3 (fuel := 8) (laidMet_of_run' 8 (by kernel_rfl) (by kernel_rfl)) (by kernel_rfl) (by kernel_rfl)

theorem part_cell {W : World} {g f0 : Nat} {n : String} {nm : List UInt8} {b : UInt8} (hg : Tryd.prog.globalNamed n = some g) (ht : (Tryd.prog.globals[g]?).map (·.type) = some 75) (hone : ((List.range Tryd.prog.funcs.size).filter fun f => (Tryd.prog.funcs[f]?).any (·.name.toUTF8.data.toList == b :: nm)) = [f0])
    (h : funcsAt Tryd.prog W n (.agg [.iface "func" (.lit (.string (b :: nm)))])) : W.cell? ⟨g, 0, none⟩ = some (.func (.func f0) #[] #[]) := by
  obtain ⟨g', t, cs, fuel, p, hg', ht', hv, hd⟩ := h
  obtain rfl := Option.some.inj (hg.symm.trans hg')
  obtain rfl := Option.some.inj (ht.symm.trans ht')
  have hd' : DataW.trod (funcToken Tryd.prog) Tryd.prog W 0 (fun _ => true) true fuel 75 cs.toList = some (.agg [.held (b :: nm)], p) := hd
  obtain ⟨y0, n, hx, hl, h0⟩ := trod_struct1 Tryd.underlying75 hd'
  have c75 : Tryd.prog.cellsOf 75 = 1 := by kernel_rfl
  have c73 : Tryd.prog.cellsOf 73 = 1 := by kernel_rfl
  rw [c75] at hl
  obtain ⟨v, hv1⟩ : ∃ v, cs.toList = [v] := by
    match h : cs.toList, hl with
    | [v], _ => exact ⟨v, rfl⟩
  rw [hv1] at h0
  simp only [c73, List.drop_zero, List.take_one] at h0
  obtain ⟨y, q⟩ := y0
  simp only [Prod.mk.injEq, DataW.agg.injEq, List.cons.injEq, and_true] at hx
  obtain ⟨rfl, rfl⟩ := hx
  obtain rfl := func_of_trod Tryd.underlying73 hone (by simpa using h0)
  have := World.var?_cell hg hv 0
  rw [Array.eq_one_of_toList hv1] at this
  simpa using this

theorem cell_lt {W : World} {g : Nat} {v : Value} (h : W.cell? ⟨g, 0, none⟩ = some v) : g < W.heap.size := by
  simp only [World.cell?] at h
  cases hh : W.heap[g]? with
  | none => rw [hh] at h; cases h
  | some o => exact (Array.getElem?_eq_some_iff.1 hh).1

theorem gl_ok {W : World} (h : laidMetH Tryd.prog laidL W) : GlOk E0 (fun b => b < W.heap.size) W := by
  have h0 := part_cell (f0 := 77) (nm := [114, 105, 102, 116, 101, 114, 47, 99, 111, 110, 116, 114, 97, 99, 116, 46, 103, 101, 116, 115, 36, 49]) (b := 100) g_gets t_gets (by kernel_rfl) (h.funcs (List.mem_cons_of_mem _ (List.mem_singleton.2 rfl)))
  have h1 := part_cell (f0 := 78) (nm := [114, 105, 102, 116, 101, 114, 47, 99, 111, 110, 116, 114, 97, 99, 116, 46, 111, 119, 101, 115, 36, 49]) (b := 100) g_owes t_owes (by kernel_rfl) (h.funcs (List.mem_cons_self ..))
  intro g n get hg
  have hg' : gl0 g = some (n, get) := hg
  unfold gl0 at hg'
  split at hg'
  · injection hg' with hg'; injection hg' with e1 e2; subst e1; subst e2
    refine ⟨cell_lt h0, fun j hj => ?_⟩
    obtain rfl : j = 0 := by omega
    exact ⟨_, h0, rfl, rfl, rfl⟩
  · injection hg' with hg'; injection hg' with e1 e2; subst e1; subst e2
    refine ⟨cell_lt h1, fun j hj => ?_⟩
    obtain rfl : j = 0 := by omega
    exact ⟨_, h1, rfl, rfl, rfl⟩
  · cases hg'

/-- A list of whole numbers. -/
theorem ints_of {n : Nat} {g : Nat → CV} (h : Shp E0 (n + 2) 22 g) : ∃ (len : Nat) (f : Nat → Int), len < 4611686018427387904 ∧ fitP (g 0) (nums len f) ∧ fitCV (fun _ => .bad) (g 0) (nums len f) := by
  obtain ⟨len, c, e, hl, hc⟩ := h
  have hl : len * 8 ≤ 140737488351232 := hl
  have hx : ∀ i, ∃ a : Int, i < len → c i 0 = .int .i64 a := fun i => by
    by_cases hi : i < len
    · obtain ⟨a, h1, _⟩ := hc i hi
      exact ⟨a, fun _ => h1⟩
    · exact ⟨0, fun h => absurd h hi⟩
  obtain ⟨f, hf⟩ := Classical.axiomOfChoice hx
  refine ⟨len, f, by omega, ?_⟩
  have key : fitP (g 0) (nums len f) := by
    rw [e]
    refine ⟨trivial, rfl, fun i hi => ⟨trivial, ?_⟩⟩
    show fitP (c i 0) (.int .i64 (f i))
    rw [hf i hi]; rfl
  refine ⟨key, ?_⟩
  rw [e] at key ⊢
  exact ⟨trivial, key⟩

theorem book_of {g : Nat → CV} (h : Shp E0 6 26 g) : ∃ b : Book, b.wf ∧ fitTV (fun _ => .bad) (.a 3 g) (bookTV b) := by
  obtain ⟨h1, h2, h3, _⟩ := h
  obtain ⟨nc, cash, hnc, _, f1⟩ := ints_of h1
  obtain ⟨nd, cd, e2, hnd, hcd⟩ := h2
  obtain ⟨ns, cs, e3, hns, hcs⟩ := h3
  have hnd : nd * 24 ≤ 140737488351232 := hnd
  have hns : ns * 32 ≤ 140737488351232 := hns
  have hd : ∀ i, ∃ a : Int × Int × Int, i < nd → cd i 0 = .int .i64 a.1 ∧ cd i 1 = .int .i64 a.2.1 ∧ cd i 2 = .int .i64 a.2.2 := fun i => by
    by_cases hi : i < nd
    · obtain ⟨⟨a1, e1, _⟩, ⟨a2, e2, _⟩, ⟨a3, e3, _⟩, _⟩ := hcd i hi
      exact ⟨(a1, a2, a3), fun _ => ⟨e1, e2, e3⟩⟩
    · exact ⟨(0, 0, 0), fun h => absurd h hi⟩
  obtain ⟨D, hD⟩ := Classical.axiomOfChoice hd
  have hs : ∀ i, ∃ a : Int × Nat × (Nat → Int), i < ns → cs i 0 = .int .i64 a.1 ∧ a.2.1 < 4611686018427387904 ∧ fitP (cs i 1) (nums a.2.1 a.2.2) := fun i => by
    by_cases hi : i < ns
    · obtain ⟨⟨a1, e1, _⟩, hb, _⟩ := hcs i hi
      obtain ⟨nb, bar, hnb, fb, _⟩ := ints_of hb
      exact ⟨(a1, nb, bar), fun _ => ⟨e1, hnb, fb⟩⟩
    · exact ⟨(0, 0, fun _ => 0), fun h => absurd h hi⟩
  obtain ⟨S, hS⟩ := Classical.axiomOfChoice hs
  refine ⟨⟨nc, cash, nd, fun i => (D i).1, fun i => (D i).2.1, fun i => (D i).2.2, ns, fun i => (S i).1, fun i => (S i).2.1, fun i => (S i).2.2⟩, ⟨hnc, by show nd < _; omega, by show ns < _; omega, fun s hs => (hS s hs).2.1⟩, trivial, ⟨⟨trivial, f1⟩, ?_⟩, ?_⟩
  · show fitCV _ (g 1) (.vs 3 nd (fun i => ofList [.int .i64 (D i).1, .int .i64 (D i).2.1, .int .i64 (D i).2.2]))
    have e2 : g 1 = _ := e2
    rw [e2]
    refine ⟨trivial, trivial, rfl, fun i hi => ?_⟩
    obtain ⟨a1, a2, a3⟩ := hD i hi
    refine ⟨⟨⟨trivial, ?_⟩, ?_⟩, ?_⟩
    · show fitP (cd i 0) (.int .i64 (D i).1); rw [a1]; rfl
    · show fitP (cd i 1) (.int .i64 (D i).2.1); rw [a2]; rfl
    · show fitP (cd i 2) (.int .i64 (D i).2.2); rw [a3]; rfl
  · show fitCV _ (g 2) (.vs 2 ns (fun i => ofList [.int .i64 (S i).1, nums (S i).2.1 (S i).2.2]))
    have e3 : g 2 = _ := e3
    rw [e3]
    refine ⟨trivial, trivial, rfl, fun i hi => ?_⟩
    obtain ⟨a1, _, a3⟩ := hS i hi
    refine ⟨⟨trivial, ?_⟩, ?_⟩
    · show fitP (cs i 0) (.int .i64 (S i).1); rw [a1]; rfl
    · exact a3

theorem int_of {n : Nat} {g : Nat → CV} (h : Shp E0 (n + 1) 3 g) : ∃ a : Int, g 0 = .int .i64 a := let ⟨a, h1, _⟩ := h; ⟨a, h1⟩

/-- A contract's arguments may be said in other words. -/
theorem callQ_fit {P : Program} {E : Env} {f : FuncId} {tvs args : List TV} {rs : List RV} (hf : fitTVs tvs args) (h : CallQ P E f args rs) : CallQ P E f tvs rs :=
  fun Z w vs hs hr => h Z w vs hs (fitTVs_ok hf hr)

theorem laidOut : laidOutB Tryd.prog = true := by kernel_rfl

theorem ty26 : E0.ty 26 = some ⟨(.struct [(0, 22), (1, 23), (2, 24)]), 3, 72, [.nils, .nils, .nils]⟩ := rfl
theorem ty3 : E0.ty 3 = some ⟨(.int .i64), 1, 8, [.int .i64 0]⟩ := rfl

/-- A whole number that is handed in. -/
theorem arg_int {n : Nat} {g : Nat → CV} (h : Shp E0 (n + 1) 3 g) : ∃ a : Int, fitTV (fun _ => .bad) (mkTV ⟨(.int .i64), 1, 8, [.int .i64 0]⟩ g) (intC a) := by
  obtain ⟨a, e⟩ := int_of h
  refine ⟨a, ?_⟩
  show fitCV _ (g 0) (.int .i64 a)
  rw [e]
  exact ⟨trivial, rfl⟩
theorem ty38 : E0.ty 38 = some ⟨(.array 2 3), 2, 16, [.int .i64 0, .int .i64 0]⟩ := rfl
theorem ty49 : E0.ty 49 = some ⟨(.array 4 3), 4, 32, [.int .i64 0, .int .i64 0, .int .i64 0, .int .i64 0]⟩ := rfl
theorem ty55 : E0.ty 55 = some ⟨(.array 3 3), 3, 24, [.int .i64 0, .int .i64 0, .int .i64 0]⟩ := rfl
theorem ty22 : E0.ty 22 = some ⟨(.slice 3), 1, 24, [.nils]⟩ := rfl

theorem fit_int {g : Nat → CV} {j : Nat} {a : Int} (e : g j = .int .i64 a) : fitCV (fun _ => .bad) (g j) (.int .i64 a) := by
  rw [e]; exact ⟨trivial, rfl⟩
theorem arr_int {n m i : Nat} {g : Nat → CV} {t : Nat} {ti : TI} (ht : E0.ty t = some ti) (hk : ti.kind = .array m 3) (h : Shp E0 (n + 2) t g) (hi : i < m) : ∃ a : Int, g i = .int .i64 a := by
  simp only [Shp, ht, hk, ty3] at h
  obtain ⟨a, e, _⟩ := h i hi
  exact ⟨a, by simpa using e⟩
/-- An array of whole numbers. -/
theorem arg_two {n : Nat} {g : Nat → CV} (h : Shp E0 (n + 2) 38 g) : ∃ x y : Int, fitTV (fun _ => .bad) (mkTV ⟨(.array 2 3), 2, 16, [.int .i64 0, .int .i64 0]⟩ g) (.a 2 (ofList [.int .i64 x, .int .i64 y])) := by
  obtain ⟨x, e0⟩ := arr_int ty38 rfl h (i := 0) (by decide)
  obtain ⟨y, e1⟩ := arr_int ty38 rfl h (i := 1) (by decide)
  exact ⟨x, y, trivial, ⟨⟨trivial, fit_int e0⟩, fit_int e1⟩⟩
theorem arg_three {n : Nat} {g : Nat → CV} (h : Shp E0 (n + 2) 55 g) : ∃ x y z : Int, fitTV (fun _ => .bad) (mkTV ⟨(.array 3 3), 3, 24, [.int .i64 0, .int .i64 0, .int .i64 0]⟩ g) (.a 3 (ofList [.int .i64 x, .int .i64 y, .int .i64 z])) := by
  obtain ⟨x, e0⟩ := arr_int ty55 rfl h (i := 0) (by decide)
  obtain ⟨y, e1⟩ := arr_int ty55 rfl h (i := 1) (by decide)
  obtain ⟨z, e2⟩ := arr_int ty55 rfl h (i := 2) (by decide)
  exact ⟨x, y, z, trivial, ⟨⟨⟨trivial, fit_int e0⟩, fit_int e1⟩, fit_int e2⟩⟩
theorem arg_four {n : Nat} {g : Nat → CV} (h : Shp E0 (n + 2) 49 g) : ∃ x y z u : Int, fitTV (fun _ => .bad) (mkTV ⟨(.array 4 3), 4, 32, [.int .i64 0, .int .i64 0, .int .i64 0, .int .i64 0]⟩ g) (.a 4 (ofList [.int .i64 x, .int .i64 y, .int .i64 z, .int .i64 u])) := by
  obtain ⟨x, e0⟩ := arr_int ty49 rfl h (i := 0) (by decide)
  obtain ⟨y, e1⟩ := arr_int ty49 rfl h (i := 1) (by decide)
  obtain ⟨z, e2⟩ := arr_int ty49 rfl h (i := 2) (by decide)
  obtain ⟨u, e3⟩ := arr_int ty49 rfl h (i := 3) (by decide)
  exact ⟨x, y, z, u, trivial, ⟨⟨⟨⟨trivial, fit_int e0⟩, fit_int e1⟩, fit_int e2⟩, fit_int e3⟩⟩
theorem arg_list {n : Nat} {g : Nat → CV} (h : Shp E0 (n + 2) 22 g) : ∃ (m : Nat) (f : Nat → Int), m < 4611686018427387904 ∧ fitTV (fun _ => .bad) (mkTV ⟨(.slice 3), 1, 24, [.nils]⟩ g) (.c (nums m f)) := by
  obtain ⟨m, f, hm, _, hf⟩ := ints_of h
  exact ⟨m, f, hm, hf⟩
theorem want38 : Tryd.prog.wantsStandIn 38 = false := by kernel_rfl
theorem want49 : Tryd.prog.wantsStandIn 49 = false := by kernel_rfl
theorem want55 : Tryd.prog.wantsStandIn 55 = false := by kernel_rfl
theorem want22 : Tryd.prog.wantsStandIn 22 = false := by kernel_rfl
theorem want26 : Tryd.prog.wantsStandIn 26 = false := by kernel_rfl
theorem want3 : Tryd.prog.wantsStandIn 3 = false := by kernel_rfl
end Go.Proofs.YthofpbnbjkdpaaaDoor
