/- The statement BrandKnownSaid is proved, for every input that it speaks of: from the contract of the law to its row. No condition of ours is added. -/
import Derived.Test.YthcplmlkgaiggaaBxT
import Derived.Test.YthcplmlkgaiggaaBxCard
set_option linter.unusedSimpArgs false
set_option linter.unusedVariables false
namespace Go.Proofs.Ythcplmlkgaiggaa
open Go Go.Sx Bm Go.ChangeShapes Go.WideShapes Go.ChangeAt Go.RowKit
set_option maxRecDepth 100000

theorem res16 : ∀ tvs, AllShp E0 6 [] tvs → CallQ Try.prog E0 16 tvs [.v (.c (.bool true))] := by
  intro tvs h
  obtain rfl := h.nil
  refine callQ_fit ?_ (q16 ())
  exact trivial

theorem lifted16 (os : Os) (started : os.Started) (H : Type) (enc : TypeId × Value → H) :
    ReturnsInHanded {} Try.checked os 16 .any (Rows.brandKnownSpec.pre6 enc Try.prog Try.f16 Rows.brandKnownRow.domain false) (Rows.brandKnownSpec.post enc Try.prog Try.f16 false true false false) := by
  refine returnsInHanded_of_change_sized (C := Try.checked) own_knob started (by kernel_rfl) Try.func16
    (ChangeSpec.witness6 (enc := enc) (C := Try.checked) false ⟨#[], #[], []⟩ 8 (by kernel_rfl) (by kernel_rfl) (by kernel_rfl) (by kernel_rfl)) ?_
  intro W base args ds gs before hval hW _ hwt _
  refine law_calls (E := E0) (n := 6) E0_ok.tab (by kernel_rfl) laidOut (b := 4) (by kernel_rfl) Try.underlying4 (by kernel_rfl) rfl (fun ds hd => ?_) (by rw [Try.params16]; exact res16) hval hW hwt gl_ok
  rw [Try.params16] at hd
  match ds, hd with
  | [], _ => rfl

theorem brandKnown_holds : Rows.BrandKnownSaid :=
  OpenClaim.holds_of_wide 16 Try.f16 rfl rfl rfl rfl rfl rfl rfl ⟨rfl, rfl, rfl, rfl, rfl⟩ rfl rfl rfl rfl rfl (by kernel_rfl) Try.func16 (by kernel_rfl)
    (of_decide_eq_true (by kernel_rfl)) (by unfold Func.isWrapper; first | (rw [if_pos (by decide +kernel)]; kernel_rfl) | (rw [if_neg (by decide +kernel)]; exact ⟨rfl, rfl⟩))
    (fun os started H enc _ => lifted16 os started H enc)
#print axioms brandKnown_holds
end Go.Proofs.Ythcplmlkgaiggaa
