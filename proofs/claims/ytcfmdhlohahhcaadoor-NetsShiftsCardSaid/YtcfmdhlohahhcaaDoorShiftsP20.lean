/- Texts for the law of the last part, part 20. -/
import Derived.Test.YtcfmdhlohahhcaaDoorShiftsP19
import Derived.Test.YtcfmdhlohahhcaaDoorTie
import Derived.Test.YtcfmdhlohahhcaaDoorCards
import Derived.ProofKit
import Derived.Stop.Joined
import Derived.SevenTiedAt
set_option linter.unusedSimpArgs false
set_option linter.unusedVariables false
set_option linter.unusedSimpArgs false
set_option linter.unusedVariables false
namespace Go.Proofs.YtcfmdhlohahhcaaDoor
open Go Go.Sx Nm Go.ChangeShapes Go.WideShapes Go.ChangeAt Go.RowKit
set_option maxRecDepth 100000
theorem own_knob : ownKnob Tryd.prog.godebug = none := by kernel_rfl
theorem g_east : Tryd.prog.globalNamed "drifter/nets.east" = some 0 := by kernel_rfl
theorem g_north : Tryd.prog.globalNamed "drifter/nets.north" = some 1 := by kernel_rfl
theorem g_none : Tryd.prog.globalNamed "drifter/nets.none" = some 2 := by kernel_rfl
theorem t_east : (Tryd.prog.globals[0]?).map (·.type) = some 109 := by kernel_rfl
theorem t_north : (Tryd.prog.globals[1]?).map (·.type) = some 109 := by kernel_rfl
theorem t_none : (Tryd.prog.globals[2]?).map (·.type) = some 88 := by kernel_rfl
def laidL : List (String × DataW Unit) := [("drifter/nets.east", Rows.laid_drifter_nets_east), ("drifter/nets.north", Rows.laid_drifter_nets_north), ("drifter/nets.none", Rows.laid_drifter_nets_none)]
theorem door_met (os : Os) (args : Array Value) : laidMetH Tryd.prog laidL ((World.doorLaid Tryd.prog 600 os).forCall (fun _ _ => 0) ⟨#[], args, []⟩).memory :=
  laidMetH_of_parts3 (fuel := 8) (laidMet_of_run' 8 (by kernel_rfl) (by kernel_rfl)) (by kernel_rfl) (by kernel_rfl)
def isFn : Option TypeDesc → Bool
  | some (.func _ _ _) => true
  | _ => false
theorem fn_und {o : Option TypeDesc} (h : isFn o = true) : ∃ ps rs va, o = some (.func ps rs va) := by
  unfold isFn at h
  split at h
  · exact ⟨_, _, _, rfl⟩
  · cases h
theorem m109_flds : fldsOf (Tryd.prog.underlying 109) = some [(105, 0, true), (105, 1, true), (106, 2, true), (107, 3, true)] := by kernel_rfl
theorem m109_und : ∃ fs, Tryd.prog.underlying 109 = some (.struct fs) ∧ fs.toList.map (fun f => (f.type, f.offset, f.name != "_")) = [(105, 0, true), (105, 1, true), (106, 2, true), (107, 3, true)] := by
  have h := m109_flds
  unfold fldsOf at h
  split at h
  · rename_i fs hu
    exact ⟨fs, hu, by injection h⟩
  · cases h
theorem f105 : isFn (Tryd.prog.underlying 105) = true := by kernel_rfl
theorem f106 : isFn (Tryd.prog.underlying 106) = true := by kernel_rfl
theorem f107 : isFn (Tryd.prog.underlying 107) = true := by kernel_rfl
theorem c105 : Tryd.prog.cellsOf 105 = 1 := by kernel_rfl
theorem c106 : Tryd.prog.cellsOf 106 = 1 := by kernel_rfl
theorem c107 : Tryd.prog.cellsOf 107 = 1 := by kernel_rfl
theorem c109 : Tryd.prog.cellsOf 109 = 4 := by kernel_rfl
def OneF (b : UInt8) (m : List UInt8) (f0 : Nat) : Prop := ((List.range Tryd.prog.funcs.size).filter fun f => (Tryd.prog.funcs[f]?).any (·.name.toUTF8.data.toList == b :: m)) = [f0]
def fnD (b : UInt8) (m : List UInt8) : DataW Unit := .iface "func" (.lit (.string (b :: m)))
theorem four {fs : Array Field} {a b c d : Nat × Nat × Bool} (h : fs.toList.map (fun f => (f.type, f.offset, f.name != "_")) = [a, b, c, d]) : ∃ w x y z : Field, fs[0]? = some w ∧ fs[1]? = some x ∧ fs[2]? = some y ∧ fs[3]? = some z ∧ w.type = a.1 ∧ w.offset = a.2.1 ∧ x.type = b.1 ∧ x.offset = b.2.1 ∧ y.type = c.1 ∧ y.offset = c.2.1 ∧ z.type = d.1 ∧ z.offset = d.2.1 ∧ fs.size = 4 := by
  obtain ⟨l⟩ := fs
  match l, h with
  | [w, x, y, z], h =>
    simp only [List.map_cons, List.map_nil, List.cons.injEq, and_true] at h
    obtain ⟨rfl, rfl, rfl, rfl⟩ := h
    exact ⟨w, x, y, z, rfl, rfl, rfl, rfl, rfl, rfl, rfl, rfl, rfl, rfl, rfl, rfl, rfl⟩
theorem list4 {α : Type} {l : List α} (h : l.length = 4) : ∃ a b c d, l = [a, b, c, d] := by
  match l, h with
  | [a, b, c, d], _ => exact ⟨a, b, c, d, rfl⟩
theorem side_cells {W : World} {g : Nat} {n : String} {b : UInt8} {m0 m1 m2 m3 : List UInt8} {f0 f1 f2 f3 : Nat} (hg : Tryd.prog.globalNamed n = some g) (ht : (Tryd.prog.globals[g]?).map (·.type) = some 109)
    (o0 : OneF b m0 f0) (o1 : OneF b m1 f1) (o2 : OneF b m2 f2) (o3 : OneF b m3 f3) (h : funcsAt Tryd.prog W n (.agg [fnD b m0, fnD b m1, fnD b m2, fnD b m3])) :
    W.cell? ⟨g, 0, none⟩ = some (.func (.func f0) #[] #[]) ∧ W.cell? ⟨g, 1, none⟩ = some (.func (.func f1) #[] #[]) ∧ W.cell? ⟨g, 2, none⟩ = some (.func (.func f2) #[] #[]) ∧ W.cell? ⟨g, 3, none⟩ = some (.func (.func f3) #[] #[]) := by
  obtain ⟨g', t, cs, fuel, p, hg', ht', hv, hd⟩ := h
  obtain rfl := Option.some.inj (hg.symm.trans hg')
  obtain rfl := Option.some.inj (ht.symm.trans ht')
  have hd' : DataW.trod (funcToken Tryd.prog) Tryd.prog W 0 (fun _ => true) true fuel 109 cs.toList = some (.agg [.held (b :: m0), .held (b :: m1), .held (b :: m2), .held (b :: m3)], p) := hd
  obtain ⟨fs, hu, hfs⟩ := m109_und
  obtain ⟨w, x, y, z, q0, q1, q2, q3, u0, v0, u1, v1, u2, v2, u3, v3, hsz⟩ := four hfs
  obtain ⟨xs, k, _, hx, hl, hlen, hf⟩ := DataW.trod_struct hu hd'
  rw [hsz] at hlen
  obtain ⟨y0, y1, y2, y3, rfl⟩ := list4 hlen
  rw [c109] at hl
  obtain ⟨a0, a1, a2, a3, ha⟩ := list4 hl
  simp only [List.map_cons, List.map_nil, Prod.mk.injEq, DataW.agg.injEq, List.cons.injEq, and_true] at hx
  obtain ⟨⟨e0, e1, e2, e3⟩, _⟩ := hx
  have k0 := hf 0 w q0
  have k1 := hf 1 x q1
  have k2 := hf 2 y q2
  have k3 := hf 3 z q3
  rw [u0, v0, ha] at k0
  rw [u1, v1, ha] at k1
  rw [u2, v2, ha] at k2
  rw [u3, v3, ha] at k3
  obtain ⟨d0, p0⟩ := y0
  obtain ⟨d1, p1⟩ := y1
  obtain ⟨d2, p2⟩ := y2
  obtain ⟨d3, p3⟩ := y3
  simp only at e0 e1 e2 e3
  subst e0 e1 e2 e3
  simp only [c105, c106, c107, List.drop_zero, List.drop_succ_cons, List.take_succ_cons, List.take_zero, List.getElem?_cons_zero, List.getElem?_cons_succ] at k0 k1 k2 k3
  obtain ⟨_, _, _, n105⟩ := fn_und f105
  obtain ⟨_, _, _, n106⟩ := fn_und f106
  obtain ⟨_, _, _, n107⟩ := fn_und f107
  obtain rfl := func_of_trod n105 o0 k0
  obtain rfl := func_of_trod n105 o1 k1
  obtain rfl := func_of_trod n106 o2 k2
  obtain rfl := func_of_trod n107 o3 k3
  have cell := fun i => World.var?_cell hg hv i
  have hc : cs = #[.func (.func f0) #[] #[], .func (.func f1) #[] #[], .func (.func f2) #[] #[], .func (.func f3) #[] #[]] := by
    cases cs; simpa using ha
  subst hc
  exact ⟨cell 0, cell 1, cell 2, cell 3⟩
theorem cell_lt {W : World} {g j : Nat} {v : Value} (h : W.cell? ⟨g, j, none⟩ = some v) : g < W.heap.size := by
  simp only [World.cell?] at h
  cases hh : W.heap[g]? with
  | none => rw [hh] at h; cases h
  | some o => exact (Array.getElem?_eq_some_iff.1 hh).1
theorem two_f {fs : Array Field} {a b : Nat × Nat × Bool} (h : fs.toList.map (fun f => (f.type, f.offset, f.name != "_")) = [a, b]) : ∃ w x : Field, fs[0]? = some w ∧ fs[1]? = some x ∧ w.type = a.1 ∧ w.offset = a.2.1 ∧ x.type = b.1 ∧ x.offset = b.2.1 ∧ fs.size = 2 := by
  obtain ⟨l⟩ := fs
  match l, h with
  | [w, x], h =>
    simp only [List.map_cons, List.map_nil, List.cons.injEq, and_true] at h
    obtain ⟨rfl, rfl⟩ := h
    exact ⟨w, x, rfl, rfl, rfl, rfl, rfl, rfl, rfl⟩
theorem list2 {α : Type} {l : List α} (h : l.length = 2) : ∃ a b, l = [a, b] := by
  match l, h with
  | [a, b], _ => exact ⟨a, b, rfl⟩
theorem none_cells {W : World} (h : laidMet Tryd.prog [("drifter/nets.none", Rows.laid_drifter_nets_none)] W) : W.cell? ⟨2, 0, none⟩ = some (.int .i64 (-1)) ∧ W.cell? ⟨2, 1, none⟩ = some (.int .i64 (-1)) := by
  obtain ⟨ps, ⟨g', t, cs, fuel, p, q, hg', ht', hv, hd, _⟩, _⟩ := h
  obtain rfl := Option.some.inj (g_none.symm.trans hg')
  obtain rfl := Option.some.inj (t_none.symm.trans ht')
  obtain ⟨fs, hu, hfs⟩ := m88_und
  obtain ⟨w, x, q0, q1, u0, v0, u1, v1, hsz⟩ := two_f hfs
  have hd' : DataW.trod (fun _ => ()) Tryd.prog W 0 (fun _ => true) false fuel 88 cs.toList = some (.agg [.lit (.int .i64 (-1)), .lit (.int .i64 (-1))], p) := hd
  obtain ⟨xs, k, _, hx, hl, hlen, hf⟩ := DataW.trod_struct hu hd'
  rw [hsz] at hlen
  obtain ⟨y0, y1, rfl⟩ := list2 hlen
  rw [m88_size] at hl
  obtain ⟨a0, a1, ha⟩ := list2 hl
  simp only [List.map_cons, List.map_nil, Prod.mk.injEq, DataW.agg.injEq, List.cons.injEq, and_true] at hx
  obtain ⟨⟨e0, e1⟩, _⟩ := hx
  have k0 := hf 0 w q0
  have k1 := hf 1 x q1
  rw [u0, v0, ha] at k0
  rw [u1, v1, ha] at k1
  obtain ⟨d0, p0⟩ := y0
  obtain ⟨d1, p1⟩ := y1
  simp only at e0 e1
  subst e0 e1
  simp only [m3_size, List.drop_zero, List.drop_succ_cons, List.take_succ_cons, List.take_zero, List.getElem?_cons_zero, List.getElem?_cons_succ] at k0 k1
  obtain ⟨n0, h0, h0', _⟩ := DataW.trod_int m3_und k0
  obtain ⟨n1, h1, h1', _⟩ := DataW.trod_int m3_und k1
  simp only [List.cons.injEq, and_true] at h0 h1
  subst h0 h1
  simp only [Prod.mk.injEq, DataW.lit.injEq, Lit.int.injEq, true_and] at h0' h1'
  obtain ⟨rfl, _⟩ := h0'
  obtain ⟨rfl, _⟩ := h1'
  have cell := fun i => World.var?_cell g_none hv i
  have hc : cs = #[.int .i64 (-1), .int .i64 (-1)] := by
    cases cs; simpa using ha
  subst hc
  exact ⟨cell 0, cell 1⟩
theorem east_cells {W : World} (h : laidMetH Tryd.prog laidL W) : W.cell? ⟨0, 0, none⟩ = some (.func (.func 119) #[] #[]) ∧ W.cell? ⟨0, 1, none⟩ = some (.func (.func 120) #[] #[]) ∧ W.cell? ⟨0, 2, none⟩ = some (.func (.func 122) #[] #[]) ∧ W.cell? ⟨0, 3, none⟩ = some (.func (.func 123) #[] #[]) :=
  side_cells (b := 100) (m0 := [114, 105, 102, 116, 101, 114, 47, 110, 101, 116, 115, 46, 101, 97, 115, 116, 36, 49]) (m1 := [114, 105, 102, 116, 101, 114, 47, 110, 101, 116, 115, 46, 101, 97, 115, 116, 36, 50]) (m2 := [114, 105, 102, 116, 101, 114, 47, 110, 101, 116, 115, 46, 101, 97, 115, 116, 36, 51]) (m3 := [114, 105, 102, 116, 101, 114, 47, 110, 101, 116, 115, 46, 101, 97, 115, 116, 36, 52]) g_east t_east (by unfold OneF; kernel_rfl) (by unfold OneF; kernel_rfl) (by unfold OneF; kernel_rfl) (by unfold OneF; kernel_rfl) (h.funcs (List.mem_cons_self ..))
theorem north_cells {W : World} (h : laidMetH Tryd.prog laidL W) : W.cell? ⟨1, 0, none⟩ = some (.func (.func 124) #[] #[]) ∧ W.cell? ⟨1, 1, none⟩ = some (.func (.func 125) #[] #[]) ∧ W.cell? ⟨1, 2, none⟩ = some (.func (.func 126) #[] #[]) ∧ W.cell? ⟨1, 3, none⟩ = some (.func (.func 127) #[] #[]) :=
  side_cells (b := 100) (m0 := [114, 105, 102, 116, 101, 114, 47, 110, 101, 116, 115, 46, 110, 111, 114, 116, 104, 36, 49]) (m1 := [114, 105, 102, 116, 101, 114, 47, 110, 101, 116, 115, 46, 110, 111, 114, 116, 104, 36, 50]) (m2 := [114, 105, 102, 116, 101, 114, 47, 110, 101, 116, 115, 46, 110, 111, 114, 116, 104, 36, 51]) (m3 := [114, 105, 102, 116, 101, 114, 47, 110, 101, 116, 115, 46, 110, 111, 114, 116, 104, 36, 52]) g_north t_north (by unfold OneF; kernel_rfl) (by unfold OneF; kernel_rfl) (by unfold OneF; kernel_rfl) (by unfold OneF; kernel_rfl) (h.funcs (List.mem_cons_of_mem _ (List.mem_cons_self ..)))
theorem gl_ok {W : World} (h : laidMetH Tryd.prog laidL W) : GlOk E0 (fun b => b < W.heap.size) W := by
  obtain ⟨a0, a1, a2, a3⟩ := east_cells h
  obtain ⟨b0, b1, b2, b3⟩ := north_cells h
  have hd : laidMet Tryd.prog [("drifter/nets.none", Rows.laid_drifter_nets_none)] W := by
    have e : (laidL.filter fun x => x.2.handleName?.isSome) = [("drifter/nets.east", Rows.laid_drifter_nets_east), ("drifter/nets.north", Rows.laid_drifter_nets_north)] := by kernel_rfl
    have e2 : (laidL.filter fun x => x.2.handleName?.isNone) = [("drifter/nets.none", Rows.laid_drifter_nets_none)] := by kernel_rfl
    unfold laidMetH at h
    rw [e, e2] at h
    exact h.1
  obtain ⟨c0, c1⟩ := none_cells hd
  intro g n get hg
  have hg' : gl0 g = some (n, get) := hg
  unfold gl0 at hg'
  split at hg'
  · injection hg' with hg'; injection hg' with e1 e2; subst e1; subst e2
    refine ⟨cell_lt a0, fun j hj => ?_⟩
    match j, hj with
    | 0, _ => exact ⟨_, a0, rfl, rfl, rfl⟩
    | 1, _ => exact ⟨_, a1, rfl, rfl, rfl⟩
    | 2, _ => exact ⟨_, a2, rfl, rfl, rfl⟩
    | 3, _ => exact ⟨_, a3, rfl, rfl, rfl⟩
  · injection hg' with hg'; injection hg' with e1 e2; subst e1; subst e2
    refine ⟨cell_lt b0, fun j hj => ?_⟩
    match j, hj with
    | 0, _ => exact ⟨_, b0, rfl, rfl, rfl⟩
    | 1, _ => exact ⟨_, b1, rfl, rfl, rfl⟩
    | 2, _ => exact ⟨_, b2, rfl, rfl, rfl⟩
    | 3, _ => exact ⟨_, b3, rfl, rfl, rfl⟩
  · injection hg' with hg'; injection hg' with e1 e2; subst e1; subst e2
    refine ⟨cell_lt c0, fun j hj => ?_⟩
    match j, hj with
    | 0, _ => exact ⟨_, c0, rfl⟩
    | 1, _ => exact ⟨_, c1, rfl⟩
  · cases hg'
end Go.Proofs.YtcfmdhlohahhcaaDoor
set_option linter.unusedSimpArgs false
set_option linter.unusedVariables false
namespace Go.Proofs.YtcfmdhlohahhcaaDoor
open Go Go.Sx Nm Go.ChangeShapes Go.WideShapes Go.ChangeAt Go.RowKit
set_option maxRecDepth 100000
theorem spans_of {n : Nat} {g : Nat → CV} (h : Shp E0 (n + 3) 22 g) : ∃ (len : Nat) (f : Nat → Nat → Int), len < 4611686018427387904 ∧ fitCV (fun _ => .bad) (g 0) (.vs 2 len fun i j => .int .i64 (f i j)) := by
  obtain ⟨len, c, e, hl, hc⟩ := h
  have hl : len * 16 ≤ 140737488351232 := hl
  have hx : ∀ i, ∃ a : Nat → Int, i < len → c i 0 = .int .i64 (a 0) ∧ c i 1 = .int .i64 (a 1) := fun i => by
    by_cases hi : i < len
    · obtain ⟨⟨a1, e1, _⟩, ⟨a2, e2, _⟩, _⟩ := hc i hi
      exact ⟨fun j => if j = 0 then a1 else a2, fun _ => ⟨e1, e2⟩⟩
    · exact ⟨fun _ => 0, fun h => absurd h hi⟩
  obtain ⟨f, hf⟩ := Classical.axiomOfChoice hx
  refine ⟨len, f, by omega, ?_⟩
  rw [e]
  refine ⟨trivial, trivial, rfl, fun i hi => ?_⟩
  obtain ⟨a1, a2⟩ := hf i hi
  refine ⟨⟨trivial, ?_⟩, ?_⟩
  · show fitP (c i 0) _; rw [a1]; rfl
  · show fitP (c i 1) _; rw [a2]; rfl
theorem nets_of {n : Nat} {g : Nat → CV} (h : Shp E0 (n + 4) 23 g) : ∃ (len : Nat) (f : Nat → Nat → Int), len < 4611686018427387904 ∧ fitCV (fun _ => .bad) (g 0) (.vs 10 len fun i j => .int .i64 (f i j)) := by
  obtain ⟨len, c, e, hl, hc⟩ := h
  have hl : len * 80 ≤ 140737488351232 := hl
  have hx : ∀ i, ∃ a : Nat → Int, i < len → c i 0 = .int .i64 (a 0) ∧ c i 1 = .int .i64 (a 1) ∧ c i 2 = .int .i64 (a 2) ∧ c i 3 = .int .i64 (a 3) ∧ c i 4 = .int .i64 (a 4) ∧ c i 5 = .int .i64 (a 5) ∧ c i 6 = .int .i64 (a 6) ∧ c i 7 = .int .i64 (a 7) ∧ c i 8 = .int .i64 (a 8) ∧ c i 9 = .int .i64 (a 9) := fun i => by
    by_cases hi : i < len
    · obtain ⟨⟨⟨a0, e0, _⟩, ⟨a1, e1, _⟩, _⟩, ⟨a2, e2, _⟩, ⟨a3, e3, _⟩, ⟨a4, e4, _⟩, ⟨a5, e5, _⟩, ⟨⟨a6, e6, _⟩, ⟨a7, e7, _⟩, _⟩, ⟨⟨a8, e8, _⟩, ⟨a9, e9, _⟩, _⟩, _⟩ := hc i hi
      exact ⟨fun j => [a0, a1, a2, a3, a4, a5, a6, a7, a8, a9].getD j 0, fun _ => ⟨e0, e1, e2, e3, e4, e5, e6, e7, e8, e9⟩⟩
    · exact ⟨fun _ => 0, fun h => absurd h hi⟩
  obtain ⟨f, hf⟩ := Classical.axiomOfChoice hx
  refine ⟨len, f, by omega, ?_⟩
  rw [e]
  refine ⟨trivial, trivial, rfl, fun i hi => ?_⟩
  obtain ⟨a0, a1, a2, a3, a4, a5, a6, a7, a8, a9⟩ := hf i hi
  refine ⟨⟨⟨⟨⟨⟨⟨⟨⟨⟨trivial, ?_⟩, ?_⟩, ?_⟩, ?_⟩, ?_⟩, ?_⟩, ?_⟩, ?_⟩, ?_⟩, ?_⟩
  · show fitP (c i 0) _; rw [a0]; rfl
  · show fitP (c i 1) _; rw [a1]; rfl
  · show fitP (c i 2) _; rw [a2]; rfl
  · show fitP (c i 3) _; rw [a3]; rfl
  · show fitP (c i 4) _; rw [a4]; rfl
  · show fitP (c i 5) _; rw [a5]; rfl
  · show fitP (c i 6) _; rw [a6]; rfl
  · show fitP (c i 7) _; rw [a7]; rfl
  · show fitP (c i 8) _; rw [a8]; rfl
  · show fitP (c i 9) _; rw [a9]; rfl
theorem fit_int {g : Nat → CV} {j : Nat} {a : Int} (e : g j = .int .i64 a) : fitCV (fun _ => .bad) (g j) (.int .i64 a) := by
  rw [e]; exact ⟨trivial, rfl⟩
theorem fleet_of {g : Nat → CV} (h : Shp E0 6 25 g) : ∃ b : Fleet, b.wf ∧ fitTV (fun _ => .bad) (mkTV ⟨(.struct [(0, 22), (1, 22), (2, 3), (3, 23)]), 4, 80, [.nils, .nils, .int .i64 0, .nils]⟩ g) (fleetTV b) := by
  obtain ⟨h1, h2, ⟨gap, h3, _⟩, h4, _⟩ := h
  obtain ⟨hE, e, w1, f1⟩ := spans_of h1
  obtain ⟨hN, n, w2, f2⟩ := spans_of h2
  obtain ⟨k, net, w3, f3⟩ := nets_of h4
  refine ⟨⟨hE, e, hN, n, gap, k, net⟩, ⟨w1, w2, w3⟩, trivial, ⟨⟨⟨trivial, ?_⟩, ?_⟩, ?_⟩, ?_⟩
  · show fitCV _ (g 0) _; exact f1
  · show fitCV _ (g 1) _; exact f2
  · show fitCV _ (g 2) _; exact fit_int h3
  · show fitCV _ (g 3) _; exact f3
theorem callQ_fit {P : Program} {E : Env} {f : FuncId} {tvs args : List TV} {rs : List RV} (hf : fitTVs tvs args) (h : CallQ P E f args rs) : CallQ P E f tvs rs :=
  fun Z w vs hs hr => h Z w vs hs (fitTVs_ok hf hr)
theorem laidOut : laidOutB Tryd.prog = true := by kernel_rfl
theorem ty25 : E0.ty 25 = some ⟨(.struct [(0, 22), (1, 22), (2, 3), (3, 23)]), 4, 80, [.nils, .nils, .int .i64 0, .nils]⟩ := rfl
theorem ty3 : E0.ty 3 = some ⟨(.int .i64), 1, 8, [.int .i64 0]⟩ := rfl
theorem ty29 : E0.ty 29 = some ⟨(.array 2 3), 2, 16, [.int .i64 0, .int .i64 0]⟩ := rfl
theorem arr_int {n m i : Nat} {g : Nat → CV} {t : Nat} {ti : TI} (ht : E0.ty t = some ti) (hk : ti.kind = .array m 3) (h : Shp E0 (n + 2) t g) (hi : i < m) : ∃ a : Int, g i = .int .i64 a := by
  simp only [Shp, ht, hk, ty3] at h
  obtain ⟨a, e, _⟩ := h i hi
  exact ⟨a, by simpa using e⟩
theorem arg_two {n : Nat} {g : Nat → CV} (h : Shp E0 (n + 2) 29 g) : ∃ x y : Int, fitTV (fun _ => .bad) (mkTV ⟨(.array 2 3), 2, 16, [.int .i64 0, .int .i64 0]⟩ g) (.a 2 (ofList [.int .i64 x, .int .i64 y])) := by
  obtain ⟨x, e0⟩ := arr_int ty29 rfl h (i := 0) (by decide)
  obtain ⟨y, e1⟩ := arr_int ty29 rfl h (i := 1) (by decide)
  exact ⟨x, y, trivial, ⟨⟨trivial, fit_int e0⟩, fit_int e1⟩⟩
theorem want25 : Tryd.prog.wantsStandIn 25 = false := by kernel_rfl
theorem want29 : Tryd.prog.wantsStandIn 29 = false := by kernel_rfl
theorem bool_und : Tryd.prog.underlying 4 = some .bool := by kernel_rfl
end Go.Proofs.YtcfmdhlohahhcaaDoor
