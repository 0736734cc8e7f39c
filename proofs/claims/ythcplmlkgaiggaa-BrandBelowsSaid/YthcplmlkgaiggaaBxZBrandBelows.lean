/- The statement BrandBelowsSaid is proved, for every input that it speaks of: from the contract of the law to its row. No condition of ours is added. -/
import Derived.Test.YthcplmlkgaiggaaBxL
import Derived.Test.YthcplmlkgaiggaaBxCard
set_option linter.unusedSimpArgs false
set_option linter.unusedVariables false
namespace Go.Proofs.Ythcplmlkgaiggaa
open Go Go.Sx Bm Go.ChangeShapes Go.WideShapes Go.ChangeAt Go.RowKit
set_option maxRecDepth 100000

theorem res6 : ∀ tvs, AllShp E0 6 [45, 34] tvs → CallQ Try.prog E0 6 tvs [.v (.c (.bool true))] := by
  intro tvs h
  obtain ⟨g0, r0_, rfl, s0, h⟩ := h.cons ty45
  obtain ⟨g1, r1_, rfl, s1, h⟩ := h.cons ty34
  obtain rfl := h.nil
  obtain ⟨x0, y0, z0, f0⟩ := arg_three s0
  obtain ⟨x1, y1, f1⟩ := arg_pair ty34 s1
  refine callQ_fit ?_ (q6 ((x0, y0, z0), x1, y1))
  exact ⟨f0, f1, trivial⟩

theorem lifted6 (os : Os) (started : os.Started) (H : Type) (enc : TypeId × Value → H) :
    ReturnsInHanded {} Try.checked os 6 .any (Rows.brandBelowsSpec.pre6 enc Try.prog Try.f6 Rows.brandBelowsRow.domain false) (Rows.brandBelowsSpec.post enc Try.prog Try.f6 false true false false) := by
  refine returnsInHanded_of_change_sized (C := Try.checked) own_knob started (by kernel_rfl) Try.func6
    (ChangeSpec.witness6 (enc := enc) (C := Try.checked) false ⟨#[], #[.agg #[.int .i64 0, .int .i64 0, .int .i64 0], .agg #[.int .i64 0, .int .i64 0]], []⟩ 8 (by kernel_rfl) (by kernel_rfl) (by kernel_rfl) (by kernel_rfl)) ?_
  intro W base args ds gs before hval hW _ hwt _
  refine law_calls (E := E0) (n := 6) E0_ok.tab (by kernel_rfl) laidOut (b := 4) (by kernel_rfl) Try.underlying4 (by kernel_rfl) rfl (fun ds hd => ?_) (by rw [Try.params6]; exact res6) hval hW hwt gl_ok
  rw [Try.params6] at hd
  match ds, hd with
  | [d0, d1], _ => rfl

theorem brandBelows_holds : Rows.BrandBelowsSaid :=
  OpenClaim.holds_of_wide 6 Try.f6 rfl rfl rfl rfl rfl rfl rfl ⟨rfl, rfl, rfl, rfl, rfl⟩ rfl rfl rfl rfl rfl (by kernel_rfl) Try.func6 (by kernel_rfl)
    (of_decide_eq_true (by kernel_rfl)) (by unfold Func.isWrapper; first | (rw [if_pos (by decide +kernel)]; kernel_rfl) | (rw [if_neg (by decide +kernel)]; exact ⟨rfl, rfl⟩))
    (fun os started H enc _ => lifted6 os started H enc)
#print axioms brandBelows_holds
end Go.Proofs.Ythcplmlkgaiggaa
