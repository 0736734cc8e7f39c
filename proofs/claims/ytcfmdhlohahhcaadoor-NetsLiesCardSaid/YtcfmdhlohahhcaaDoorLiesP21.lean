/- The statement NetsLiesCardSaid is proved, for every input that it speaks of: from the contract of the law to its card. No condition of ours is added. -/
import Derived.Test.YtcfmdhlohahhcaaDoorLiesP20
set_option linter.unusedSimpArgs false
set_option linter.unusedVariables false
set_option linter.unusedSimpArgs false
set_option linter.unusedVariables false
namespace Go.Proofs.YtcfmdhlohahhcaaDoor
open Go Go.Sx Nm Go.ChangeShapes Go.WideShapes Go.ChangeAt Go.RowKit
set_option maxRecDepth 100000
theorem res3 : ∀ tvs, AllShp E0 6 [25, 28, 29] tvs → CallQ Tryd.prog E0 3 tvs [.v (.c (.bool true))] := by
  intro tvs h
  obtain ⟨g0, r0, rfl, s0, h⟩ := h.cons ty25
  obtain ⟨g1, r1, rfl, s1, h⟩ := h.cons ty28
  obtain ⟨g2, r2, rfl, s2, h⟩ := h.cons ty29
  obtain rfl := h.nil
  obtain ⟨b0, w0, f0⟩ := fleet_of s0
  obtain ⟨t1, w1, f1⟩ := truth_of s1
  obtain ⟨x2, y2, f2⟩ := arg_two s2
  refine callQ_fit ?_ (q3 (b0, t1, x2, y2) ⟨w0, w1⟩)
  exact ⟨f0, f1, f2, trivial⟩
theorem lifted3 (os : Os) (started : os.Started) (H : Type) (enc : TypeId × Value → H) :
    ReturnsInHanded {} Tryd.checked os 3 .any (fun w args => (Rows.netsLiesSpec.pre enc Tryd.prog Tryd.f3 [] false w args ∧ laidMetH Tryd.prog laidL w) ∧ sizedMet enc Tryd.prog Tryd.f3 (OpenSpec.ofChange Rows.netsLiesSpec) false w args)
      (Rows.netsLiesSpec.post enc Tryd.prog Tryd.f3 false true false false) := by
  refine returnsInHanded_of_change_and (C := Tryd.checked) (X := fun w _ => laidMetH Tryd.prog laidL w) (fun _ _ _ hh h => h.of_heap hh) own_knob started (by kernel_rfl) Tryd.func3
    (ChangeSpec.witness_shaped (enc := enc) (C := Tryd.checked) (os := os) (X := fun w _ => laidMetH Tryd.prog laidL w) false (World.doorLaid Tryd.prog 600 os) #[.agg #[.slice none 0 0, .slice none 0 0, .int .i64 0, .slice none 0 0], .agg #[.slice none 0 0, .slice none 0 0, .slice none 0 0, .slice none 0 0], .agg #[.int .i64 0, .int .i64 0]] 8 rfl (World.shaped_of_RefB (by kernel_rfl) (by kernel_rfl)) (by kernel_rfl) (by kernel_rfl) (by kernel_rfl) (door_met os _)) ?_
  intro W base args ds gs before hval hW _ hwt hL _
  refine law_calls (E := E0) (n := 6) E0_ok.tab (by kernel_rfl) laidOut (b := 4) (by kernel_rfl) bool_und (by kernel_rfl) rfl (fun ds hd => ?_) (by rw [Tryd.params3]; exact res3) hval hW hwt (gl_ok hL)
  rw [Tryd.params3] at hd
  match ds, hd with
  | [d0, d1, d2], _ => rfl
theorem law3 : Rows.NetsLiesSaid :=
  OpenClaim.holds_of_wide 3 Tryd.f3 rfl rfl rfl rfl rfl rfl rfl ⟨rfl, rfl, rfl, rfl, rfl⟩ rfl rfl rfl rfl rfl (by kernel_rfl) Tryd.func3 (by kernel_rfl)
    (of_decide_eq_true (by kernel_rfl)) (by unfold Func.isWrapper; first | (rw [if_pos (by decide +kernel)]; kernel_rfl) | (rw [if_neg (by decide +kernel)]; exact ⟨rfl, rfl⟩))
    (fun os started H enc _ => lifted3 os started H enc)
theorem netsLies_holds : Rows.NetsLiesCardSaid :=
  Claim7.holds_tied_plain_at .later [] [.funcs, .funcs, .data] true (true, "df0422fb256f2105b59197f3c0c88d3a4abba69a461a4eb202cf82372d9ba91a") false
    law3 (fun _ h => by cases h) (by kernel_rfl) (fun _ h => by cases h) netsLies_row_tie rfl ⟨rfl, rfl⟩ (by kernel_rfl) rfl
    (fun f fn hf hfn => by
      obtain rfl : f = 3 := Option.some.inj ((show Tryd.prog.funcNamed "drifter/drifterlaw02.NetsLies" = some 3 by kernel_rfl).symm.trans hf) |>.symm
      obtain rfl : fn = Tryd.f3 := (Option.some.inj (Tryd.func3.symm.trans hfn)).symm
      exact ⟨by kernel_rfl, fun j t ht => by
        rw [Tryd.params3] at ht
        match j, ht with
        | 0, ht =>
          obtain rfl : t = 25 := by simpa using ht.symm
          exact want25
        | 1, ht =>
          obtain rfl : t = 28 := by simpa using ht.symm
          exact want28
        | 2, ht =>
          obtain rfl : t = 29 := by simpa using ht.symm
          exact want29
        | j + 3, ht => simp at ht⟩)
    (by kernel_rfl)
end Go.Proofs.YtcfmdhlohahhcaaDoor
