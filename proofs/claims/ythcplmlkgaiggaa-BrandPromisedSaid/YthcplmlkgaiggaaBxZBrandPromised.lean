/- The statement BrandPromisedSaid is proved, for every input that it speaks of: from the contract of the law to its row. No condition of ours is added. -/
import Derived.Test.YthcplmlkgaiggaaBxR
import Derived.Test.YthcplmlkgaiggaaBxCard
set_option linter.unusedSimpArgs false
set_option linter.unusedVariables false
namespace Go.Proofs.Ythcplmlkgaiggaa
open Go Go.Sx Bm Go.ChangeShapes Go.WideShapes Go.ChangeAt Go.RowKit
set_option maxRecDepth 100000

theorem res15 : ∀ tvs, AllShp E0 6 [53, 3] tvs → CallQ Try.prog E0 15 tvs [.v (.c (.bool true))] := by
  intro tvs h
  obtain ⟨g0, r0_, rfl, s0, h⟩ := h.cons ty53
  obtain ⟨g1, r1_, rfl, s1, h⟩ := h.cons ty3
  obtain rfl := h.nil
  obtain ⟨p0, w0, f0⟩ := arg_lot s0
  obtain ⟨a1, f1⟩ := arg_int s1
  refine callQ_fit ?_ (q15 (p0, a1) w0)
  exact ⟨f0, f1, trivial⟩

theorem lifted15 (os : Os) (started : os.Started) (H : Type) (enc : TypeId × Value → H) :
    ReturnsInHanded {} Try.checked os 15 .any (Rows.brandPromisedSpec.pre6 enc Try.prog Try.f15 Rows.brandPromisedRow.domain false) (Rows.brandPromisedSpec.post enc Try.prog Try.f15 false true false false) := by
  refine returnsInHanded_of_change_sized (C := Try.checked) own_knob started (by kernel_rfl) Try.func15
    (ChangeSpec.witness6 (enc := enc) (C := Try.checked) false ⟨#[], #[.agg #[.slice none 0 0, .int .i64 0, .int .i64 0, .int .i64 0, .int .i64 0, .int .i64 0, .int .i64 0, .int .i64 0, .slice none 0 0], .int .i64 0], []⟩ 8 (by kernel_rfl) (by kernel_rfl) (by kernel_rfl) (by kernel_rfl)) ?_
  intro W base args ds gs before hval hW _ hwt _
  refine law_calls (E := E0) (n := 6) E0_ok.tab (by kernel_rfl) laidOut (b := 4) (by kernel_rfl) Try.underlying4 (by kernel_rfl) rfl (fun ds hd => ?_) (by rw [Try.params15]; exact res15) hval hW hwt gl_ok
  rw [Try.params15] at hd
  match ds, hd with
  | [d0, d1], _ => rfl

theorem brandPromised_holds : Rows.BrandPromisedSaid :=
  OpenClaim.holds_of_wide 15 Try.f15 rfl rfl rfl rfl rfl rfl rfl ⟨rfl, rfl, rfl, rfl, rfl⟩ rfl rfl rfl rfl rfl (by kernel_rfl) Try.func15 (by kernel_rfl)
    (of_decide_eq_true (by kernel_rfl)) (by unfold Func.isWrapper; first | (rw [if_pos (by decide +kernel)]; kernel_rfl) | (rw [if_neg (by decide +kernel)]; exact ⟨rfl, rfl⟩))
    (fun os started H enc _ => lifted15 os started H enc)
#print axioms brandPromised_holds
end Go.Proofs.Ythcplmlkgaiggaa
