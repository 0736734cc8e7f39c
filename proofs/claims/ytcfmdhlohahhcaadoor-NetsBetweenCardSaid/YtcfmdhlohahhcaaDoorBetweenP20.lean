/- The statement NetsBetweenCardSaid is proved, for every input that it speaks of: from the contract of the law to its card. No condition of ours is added. -/
import Derived.Test.YtcfmdhlohahhcaaDoorBetweenP19
set_option linter.unusedSimpArgs false
set_option linter.unusedVariables false
set_option linter.unusedSimpArgs false
set_option linter.unusedVariables false
namespace Go.Proofs.YtcfmdhlohahhcaaDoor
open Go Go.Sx Nm Go.ChangeShapes Go.WideShapes Go.ChangeAt Go.RowKit
set_option maxRecDepth 100000
theorem res8 : ∀ tvs, AllShp E0 6 [25, 42, 26] tvs → CallQ Tryd.prog E0 8 tvs [.v (.c (.bool true))] := by
  intro tvs h
  obtain ⟨g0, r0, rfl, s0, h⟩ := h.cons ty25
  obtain ⟨g1, r1, rfl, s1, h⟩ := h.cons ty42
  obtain ⟨g2, r2, rfl, s2, h⟩ := h.cons ty26
  obtain rfl := h.nil
  obtain ⟨b0, w0, f0⟩ := fleet_of s0
  obtain ⟨x1, y1, z1, f1⟩ := arg_three s1
  obtain ⟨n2, l2, w2, f2⟩ := arg_list s2
  refine callQ_fit ?_ (q8 (b0, x1, y1, z1, n2, l2) ⟨w0, w2⟩)
  exact ⟨f0, f1, f2, trivial⟩
theorem lifted8 (os : Os) (started : os.Started) (H : Type) (enc : TypeId × Value → H) :
    ReturnsInHanded {} Tryd.checked os 8 .any (fun w args => (Rows.netsBetweenSpec.pre enc Tryd.prog Tryd.f8 [] false w args ∧ laidMetH Tryd.prog laidL w) ∧ sizedMet enc Tryd.prog Tryd.f8 (OpenSpec.ofChange Rows.netsBetweenSpec) false w args)
      (Rows.netsBetweenSpec.post enc Tryd.prog Tryd.f8 false true false false) := by
  refine returnsInHanded_of_change_and (C := Tryd.checked) (X := fun w _ => laidMetH Tryd.prog laidL w) (fun _ _ _ hh h => h.of_heap hh) own_knob started (by kernel_rfl) Tryd.func8
    (ChangeSpec.witness_shaped (enc := enc) (C := Tryd.checked) (os := os) (X := fun w _ => laidMetH Tryd.prog laidL w) false (World.doorLaid Tryd.prog 600 os) #[.agg #[.slice none 0 0, .slice none 0 0, .int .i64 0, .slice none 0 0], .agg #[.int .i64 0, .int .i64 0, .int .i64 0], .slice none 0 0] 8 rfl (World.shaped_of_RefB (by kernel_rfl) (by kernel_rfl)) (by kernel_rfl) (by kernel_rfl) (by kernel_rfl) (door_met os _)) ?_
  intro W base args ds gs before hval hW _ hwt hL _
  refine law_calls (E := E0) (n := 6) E0_ok.tab (by kernel_rfl) laidOut (b := 4) (by kernel_rfl) bool_und (by kernel_rfl) rfl (fun ds hd => ?_) (by rw [Tryd.params8]; exact res8) hval hW hwt (gl_ok hL)
  rw [Tryd.params8] at hd
  match ds, hd with
  | [d0, d1, d2], _ => rfl
theorem law8 : Rows.NetsBetweenSaid :=
  OpenClaim.holds_of_wide 8 Tryd.f8 rfl rfl rfl rfl rfl rfl rfl ⟨rfl, rfl, rfl, rfl, rfl⟩ rfl rfl rfl rfl rfl (by kernel_rfl) Tryd.func8 (by kernel_rfl)
    (of_decide_eq_true (by kernel_rfl)) (by unfold Func.isWrapper; first | (rw [if_pos (by decide +kernel)]; kernel_rfl) | (rw [if_neg (by decide +kernel)]; exact ⟨rfl, rfl⟩))
    (fun os started H enc _ => lifted8 os started H enc)
theorem netsBetween_holds : Rows.NetsBetweenCardSaid :=
  Claim7.holds_tied_plain_at .later [] [.funcs, .funcs, .data] true (true, "df0422fb256f2105b59197f3c0c88d3a4abba69a461a4eb202cf82372d9ba91a") false
    law8 (fun _ h => by cases h) (by kernel_rfl) (fun _ h => by cases h) netsBetween_row_tie rfl ⟨rfl, rfl⟩ (by kernel_rfl) rfl
    (fun f fn hf hfn => by
      obtain rfl : f = 8 := Option.some.inj ((show Tryd.prog.funcNamed "drifter/drifterlaw02.NetsBetween" = some 8 by kernel_rfl).symm.trans hf) |>.symm
      obtain rfl : fn = Tryd.f8 := (Option.some.inj (Tryd.func8.symm.trans hfn)).symm
      exact ⟨by kernel_rfl, fun j t ht => by
        rw [Tryd.params8] at ht
        match j, ht with
        | 0, ht =>
          obtain rfl : t = 25 := by simpa using ht.symm
          exact want25
        | 1, ht =>
          obtain rfl : t = 42 := by simpa using ht.symm
          exact want42
        | 2, ht =>
          obtain rfl : t = 26 := by simpa using ht.symm
          exact want26
        | j + 3, ht => simp at ht⟩)
    (by kernel_rfl)
end Go.Proofs.YtcfmdhlohahhcaaDoor
