/- The statement NetsShiftedCardSaid is proved, for every input that it speaks of: from the contract of the law to its card. No condition of ours is added. -/
import Derived.Test.YtcfmdhlohahhcaaDoorShiftedP18
set_option linter.unusedSimpArgs false
set_option linter.unusedVariables false
set_option linter.unusedSimpArgs false
set_option linter.unusedVariables false
namespace Go.Proofs.YtcfmdhlohahhcaaDoor
open Go Go.Sx Nm Go.ChangeShapes Go.WideShapes Go.ChangeAt Go.RowKit
set_option maxRecDepth 100000
theorem res10 : ∀ tvs, AllShp E0 6 [25, 29] tvs → CallQ Tryd.prog E0 10 tvs [.v (.c (.bool true))] := by
  intro tvs h
  obtain ⟨g0, r0, rfl, s0, h⟩ := h.cons ty25
  obtain ⟨g1, r1, rfl, s1, h⟩ := h.cons ty29
  obtain rfl := h.nil
  obtain ⟨b0, w0, f0⟩ := fleet_of s0
  obtain ⟨x1, y1, f1⟩ := arg_two s1
  refine callQ_fit ?_ (q10 (b0, x1, y1) w0)
  exact ⟨f0, f1, trivial⟩
theorem lifted10 (os : Os) (started : os.Started) (H : Type) (enc : TypeId × Value → H) :
    ReturnsInHanded {} Tryd.checked os 10 .any (fun w args => (Rows.netsShiftedSpec.pre enc Tryd.prog Tryd.f10 [] false w args ∧ laidMetH Tryd.prog laidL w) ∧ sizedMet enc Tryd.prog Tryd.f10 (OpenSpec.ofChange Rows.netsShiftedSpec) false w args)
      (Rows.netsShiftedSpec.post enc Tryd.prog Tryd.f10 false true false false) := by
  refine returnsInHanded_of_change_and (C := Tryd.checked) (X := fun w _ => laidMetH Tryd.prog laidL w) (fun _ _ _ hh h => h.of_heap hh) own_knob started (by kernel_rfl) Tryd.func10
    (ChangeSpec.witness_shaped (enc := enc) (C := Tryd.checked) (os := os) (X := fun w _ => laidMetH Tryd.prog laidL w) false (World.doorLaid Tryd.prog 600 os) #[.agg #[.slice none 0 0, .slice none 0 0, .int .i64 0, .slice none 0 0], .agg #[.int .i64 0, .int .i64 0]] 8 rfl (World.shaped_of_RefB (by kernel_rfl) (by kernel_rfl)) (by kernel_rfl) (by kernel_rfl) (by kernel_rfl) (door_met os _)) ?_
  intro W base args ds gs before hval hW _ hwt hL _
  refine law_calls (E := E0) (n := 6) E0_ok.tab (by kernel_rfl) laidOut (b := 4) (by kernel_rfl) bool_und (by kernel_rfl) rfl (fun ds hd => ?_) (by rw [Tryd.params10]; exact res10) hval hW hwt (gl_ok hL)
  rw [Tryd.params10] at hd
  match ds, hd with
  | [d0, d1], _ => rfl
theorem law10 : Rows.NetsShiftedSaid :=
  OpenClaim.holds_of_wide 10 Tryd.f10 rfl rfl rfl rfl rfl rfl rfl ⟨rfl, rfl, rfl, rfl, rfl⟩ rfl rfl rfl rfl rfl (by kernel_rfl) Tryd.func10 (by kernel_rfl)
    (of_decide_eq_true (by kernel_rfl)) (by unfold Func.isWrapper; first | (rw [if_pos (by decide +kernel)]; kernel_rfl) | (rw [if_neg (by decide +kernel)]; exact ⟨rfl, rfl⟩))
    (fun os started H enc _ => lifted10 os started H enc)
theorem netsShifted_holds : Rows.NetsShiftedCardSaid :=
  Claim7.holds_tied_plain_at .later [] [.funcs, .funcs, .data] true (true, "df0422fb256f2105b59197f3c0c88d3a4abba69a461a4eb202cf82372d9ba91a") false
    law10 (fun _ h => by cases h) (by kernel_rfl) (fun _ h => by cases h) netsShifted_row_tie rfl ⟨rfl, rfl⟩ (by kernel_rfl) rfl
    (fun f fn hf hfn => by
      obtain rfl : f = 10 := Option.some.inj ((show Tryd.prog.funcNamed "drifter/drifterlaw02.NetsShifted" = some 10 by kernel_rfl).symm.trans hf) |>.symm
      obtain rfl : fn = Tryd.f10 := (Option.some.inj (Tryd.func10.symm.trans hfn)).symm
      exact ⟨by kernel_rfl, fun j t ht => by
        rw [Tryd.params10] at ht
        match j, ht with
        | 0, ht =>
          obtain rfl : t = 25 := by simpa using ht.symm
          exact want25
        | 1, ht =>
          obtain rfl : t = 29 := by simpa using ht.symm
          exact want29
        | j + 2, ht => simp at ht⟩)
    (by kernel_rfl)
end Go.Proofs.YtcfmdhlohahhcaaDoor
