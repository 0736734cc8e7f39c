/- The statement ContractHoldsCardSaid is proved, for every input that it speaks of: from the contract of the law to its card. No condition of ours is added. -/
import Derived.Test.YthofpbnbjkdpaaaDoorCxP10
import Derived.Test.YthofpbnbjkdpaaaDoorCxCard
set_option linter.unusedSimpArgs false
set_option linter.unusedVariables false
namespace Go.Proofs.YthofpbnbjkdpaaaDoor
open Go Go.Sx Cm Go.ChangeShapes Go.WideShapes Go.ChangeAt Go.RowKit
set_option maxRecDepth 100000

theorem res10 : ∀ tvs, AllShp E0 6 [26] tvs → CallQ Tryd.prog E0 10 tvs [.v (.c (.bool true))] := by
  intro tvs h
  obtain ⟨g0, r0, rfl, s0, h⟩ := h.cons ty26
  obtain rfl := h.nil
  obtain ⟨b0, w0, f0⟩ := book_of s0
  refine callQ_fit ?_ (q10 b0 w0)
  exact ⟨f0, trivial⟩

theorem lifted10 (os : Os) (started : os.Started) (H : Type) (enc : TypeId × Value → H) :
    ReturnsInHanded {} Tryd.checked os 10 .any (fun w args => (Rows.contractHoldsSpec.pre enc Tryd.prog Tryd.f10 [] false w args ∧ laidMetH Tryd.prog laidL w) ∧ sizedMet enc Tryd.prog Tryd.f10 (OpenSpec.ofChange Rows.contractHoldsSpec) false w args)
      (Rows.contractHoldsSpec.post enc Tryd.prog Tryd.f10 false true false false) := by
  refine returnsInHanded_of_change_and (C := Tryd.checked) (X := fun w _ => laidMetH Tryd.prog laidL w) (fun _ _ _ hh h => h.of_heap hh) own_knob started (by kernel_rfl) Tryd.func10
    (ChangeSpec.witness_shaped (enc := enc) (C := Tryd.checked) (os := os) (X := fun w _ => laidMetH Tryd.prog laidL w) false (World.doorLaid Tryd.prog 600 os) #[.agg #[.slice none 0 0, .slice none 0 0, .slice none 0 0]] 8 rfl (World.shaped_of_RefB (by kernel_rfl) (by kernel_rfl)) (by kernel_rfl) (by kernel_rfl) (by kernel_rfl) (door_met os _)) ?_
  intro W base args ds gs before hval hW _ hwt hL _
  refine law_calls (E := E0) (n := 6) E0_ok.tab (by kernel_rfl) laidOut (b := 4) (by kernel_rfl) Tryd.underlying4 (by kernel_rfl) rfl (fun ds hd => ?_) (by rw [Tryd.params10]; exact res10) hval hW hwt (gl_ok hL)
  rw [Tryd.params10] at hd
  match ds, hd with
  | [d0], _ => rfl

theorem law10 : Rows.ContractHoldsSaid :=
  OpenClaim.holds_of_wide 10 Tryd.f10 rfl rfl rfl rfl rfl rfl rfl ⟨rfl, rfl, rfl, rfl, rfl⟩ rfl rfl rfl rfl rfl (by kernel_rfl) Tryd.func10 (by kernel_rfl)
    (of_decide_eq_true (by kernel_rfl)) (by unfold Func.isWrapper; first | (rw [if_pos (by decide +kernel)]; kernel_rfl) | (rw [if_neg (by decide +kernel)]; exact ⟨rfl, rfl⟩))
    (fun os started H enc _ => lifted10 os started H enc)

theorem contractHolds_holds : Rows.ContractHoldsCardSaid :=
  Claim7.holds_tied_plain_at .later [] [.funcs, .funcs] true (true, "c501e6b10dd79cabefa2efce01fc1bedaa80b2911bfeb7b29f1edcaf23635907") false
    law10 (fun _ h => by cases h) (by kernel_rfl) (fun _ h => by cases h) contractHolds_row_tie rfl ⟨rfl, rfl⟩ (by kernel_rfl) rfl
    (fun f fn hf hfn => by
      obtain rfl : f = 10 := Option.some.inj ((show Tryd.prog.funcNamed "drifter/drifterlaw08.ContractHolds" = some 10 by kernel_rfl).symm.trans hf) |>.symm
      obtain rfl : fn = Tryd.f10 := (Option.some.inj (Tryd.func10.symm.trans hfn)).symm
      exact ⟨by kernel_rfl, fun j t ht => by
        rw [Tryd.params10] at ht
        match j, ht with
        | 0, ht =>
          obtain rfl : t = 26 := by simpa using ht.symm
          exact want26
        | j + 1, ht => simp at ht⟩)
    (by kernel_rfl)
#print axioms contractHolds_holds
end Go.Proofs.YthofpbnbjkdpaaaDoor
