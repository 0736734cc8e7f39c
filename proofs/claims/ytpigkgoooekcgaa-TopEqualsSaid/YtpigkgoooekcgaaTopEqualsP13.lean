/- The statement TopEqualsSaid is proved, for every input that it speaks of: from the contract of the law to its row. No condition of ours is added. -/
import Derived.Test.YtpigkgoooekcgaaTopEqualsP12
set_option linter.unusedSimpArgs false
set_option linter.unusedVariables false
namespace Go.Proofs.Ytpigkgoooekcgaa
open Go Go.Sx Bm Go.ChangeShapes Go.WideShapes Go.ChangeAt Go.RowKit
set_option maxRecDepth 100000
theorem res5 : ∀ tvs, AllShp E0 6 [3, 3, 3] tvs → CallQ Try.prog E0 5 tvs [.v (.c (.bool true))] := by
 intro tvs h
 obtain ⟨g0, r0_, rfl, s0, h⟩ := h.cons ty3
 obtain ⟨g1, r1_, rfl, s1, h⟩ := h.cons ty3
 obtain ⟨g2, r2_, rfl, s2, h⟩ := h.cons ty3
 obtain rfl := h.nil
 obtain ⟨a0, f0⟩ := arg_int s0
 obtain ⟨a1, f1⟩ := arg_int s1
 obtain ⟨a2, f2⟩ := arg_int s2
 refine callQ_fit ?_ (q5 ⟨a0, a1, a2⟩)
 exact ⟨f0, f1, f2, trivial⟩
theorem lifted5 (os : Os) (started : os.Started) (H : Type) (enc : TypeId × Value → H) :
   ReturnsInHanded {} Try.checked os 5 .any (Rows.topEqualsSpec.pre6 enc Try.prog Try.f5 Rows.topEqualsRow.domain false) (Rows.topEqualsSpec.post enc Try.prog Try.f5 false true false false) := by
 refine returnsInHanded_of_change_sized (C := Try.checked) own_knob started (by kernel_rfl) Try.func5
   (ChangeSpec.witness6 (enc := enc) (C := Try.checked) false ⟨#[], #[.int .i64 0, .int .i64 0, .int .i64 0], []⟩ 8 (by kernel_rfl) (by kernel_rfl) (by kernel_rfl) (by kernel_rfl)) ?_
 intro W base args ds gs before hval hW _ hwt _
 refine law_calls (E := E0) (n := 6) E0_ok.tab (by kernel_rfl) laidOut (b := 4) (by kernel_rfl) Try.underlying4 (by kernel_rfl) rfl (fun ds hd => ?_) (by rw [Try.params5]; exact res5) hval hW hwt gl_ok
 rw [Try.params5] at hd
 match ds, hd with
 | [d0, d1, d2], _ => rfl
theorem topEquals_holds : Rows.TopEqualsSaid :=
 OpenClaim.holds_of_wide 5 Try.f5 rfl rfl rfl rfl rfl rfl rfl ⟨rfl, rfl, rfl, rfl, rfl⟩ rfl rfl rfl rfl rfl (by kernel_rfl) Try.func5 (by kernel_rfl)
   (of_decide_eq_true (by kernel_rfl)) (by unfold Func.isWrapper; first | (rw [if_pos (by decide +kernel)]; kernel_rfl) | (rw [if_neg (by decide +kernel)]; exact ⟨rfl, rfl⟩))
   (fun os started H enc _ => lifted5 os started H enc)
end Go.Proofs.Ytpigkgoooekcgaa
