/- The statement BrandCountedSaid is proved, for every input that it speaks of: from the contract of the law to its row. No condition of ours is added. -/
import Derived.Test.YthcplmlkgaiggaaBxS
import Derived.Test.YthcplmlkgaiggaaBxCard
set_option linter.unusedSimpArgs false
set_option linter.unusedVariables false
namespace Go.Proofs.Ythcplmlkgaiggaa
open Go Go.Sx Bm Go.ChangeShapes Go.WideShapes Go.ChangeAt Go.RowKit
set_option maxRecDepth 100000

theorem res8 : ∀ tvs, AllShp E0 6 [23] tvs → CallQ Try.prog E0 8 tvs [.v (.c (.bool true))] := by
  intro tvs h
  obtain ⟨g0, r0_, rfl, s0, h⟩ := h.cons ty23
  obtain rfl := h.nil
  obtain ⟨r0, f0⟩ := arg_four ty23 s0
  refine callQ_fit ?_ (q8 r0)
  exact ⟨f0, trivial⟩

theorem lifted8 (os : Os) (started : os.Started) (H : Type) (enc : TypeId × Value → H) :
    ReturnsInHanded {} Try.checked os 8 .any (Rows.brandCountedSpec.pre6 enc Try.prog Try.f8 Rows.brandCountedRow.domain false) (Rows.brandCountedSpec.post enc Try.prog Try.f8 false true false false) := by
  refine returnsInHanded_of_change_sized (C := Try.checked) own_knob started (by kernel_rfl) Try.func8
    (ChangeSpec.witness6 (enc := enc) (C := Try.checked) false ⟨#[], #[.agg #[.int .i64 0, .int .i64 0, .int .i64 0, .int .i64 0]], []⟩ 8 (by kernel_rfl) (by kernel_rfl) (by kernel_rfl) (by kernel_rfl)) ?_
  intro W base args ds gs before hval hW _ hwt _
  refine law_calls (E := E0) (n := 6) E0_ok.tab (by kernel_rfl) laidOut (b := 4) (by kernel_rfl) Try.underlying4 (by kernel_rfl) rfl (fun ds hd => ?_) (by rw [Try.params8]; exact res8) hval hW hwt gl_ok
  rw [Try.params8] at hd
  match ds, hd with
  | [d0], _ => rfl

theorem brandCounted_holds : Rows.BrandCountedSaid :=
  OpenClaim.holds_of_wide 8 Try.f8 rfl rfl rfl rfl rfl rfl rfl ⟨rfl, rfl, rfl, rfl, rfl⟩ rfl rfl rfl rfl rfl (by kernel_rfl) Try.func8 (by kernel_rfl)
    (of_decide_eq_true (by kernel_rfl)) (by unfold Func.isWrapper; first | (rw [if_pos (by decide +kernel)]; kernel_rfl) | (rw [if_neg (by decide +kernel)]; exact ⟨rfl, rfl⟩))
    (fun os started H enc _ => lifted8 os started H enc)
#print axioms brandCounted_holds
end Go.Proofs.Ythcplmlkgaiggaa
