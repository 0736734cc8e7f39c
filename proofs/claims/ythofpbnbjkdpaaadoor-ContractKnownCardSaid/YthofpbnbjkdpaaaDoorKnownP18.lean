/- The statement ContractKnownCardSaid is proved, for every input that it speaks of: from the contract of the law to its card. No condition of ours is added. -/
import Derived.Test.YthofpbnbjkdpaaaDoorKnownP17
set_option linter.unusedSimpArgs false
set_option linter.unusedVariables false
namespace Go.Proofs.YthofpbnbjkdpaaaDoor
open Go Go.Sx Cm Go.ChangeShapes Go.WideShapes Go.ChangeAt Go.RowKit
set_option maxRecDepth 100000
theorem res13 : ∀ tvs, AllShp E0 6 [] tvs → CallQ Tryd.prog E0 13 tvs [.v (.c (.bool true))] := by
 intro tvs h
 obtain rfl := h.nil
 refine callQ_fit ?_ (q13)
 exact trivial
theorem lifted13 (os : Os) (started : os.Started) (H : Type) (enc : TypeId × Value → H) :
   ReturnsInHanded {} Tryd.checked os 13 .any (fun w args => (Rows.contractKnownSpec.pre enc Tryd.prog Tryd.f13 [] false w args ∧ laidMetH Tryd.prog laidL w) ∧ sizedMet enc Tryd.prog Tryd.f13 (OpenSpec.ofChange Rows.contractKnownSpec) false w args)
     (Rows.contractKnownSpec.post enc Tryd.prog Tryd.f13 false true false false) := by
 refine returnsInHanded_of_change_and (C := Tryd.checked) (X := fun w _ => laidMetH Tryd.prog laidL w) (fun _ _ _ hh h => h.of_heap hh) own_knob started (by kernel_rfl) Tryd.func13
   (ChangeSpec.witness_shaped (enc := enc) (C := Tryd.checked) (os := os) (X := fun w _ => laidMetH Tryd.prog laidL w) false (World.doorLaid Tryd.prog 600 os) #[] 8 rfl (World.shaped_of_RefB (by kernel_rfl) (by kernel_rfl)) (by kernel_rfl) (by kernel_rfl) (by kernel_rfl) (door_met os _)) ?_
 intro W base args ds gs before hval hW _ hwt hL _
 refine law_calls (E := E0) (n := 6) E0_ok.tab (by kernel_rfl) laidOut (b := 4) (by kernel_rfl) Tryd.underlying4 (by kernel_rfl) rfl (fun ds hd => ?_) (by rw [Tryd.params13]; exact res13) hval hW hwt (gl_ok hL)
 rw [Tryd.params13] at hd
 match ds, hd with
 | [], _ => rfl
theorem law13 : Rows.ContractKnownSaid :=
 OpenClaim.holds_of_wide 13 Tryd.f13 rfl rfl rfl rfl rfl rfl rfl ⟨rfl, rfl, rfl, rfl, rfl⟩ rfl rfl rfl rfl rfl (by kernel_rfl) Tryd.func13 (by kernel_rfl)
   (of_decide_eq_true (by kernel_rfl)) (by unfold Func.isWrapper; first | (rw [if_pos (by decide +kernel)]; kernel_rfl) | (rw [if_neg (by decide +kernel)]; exact ⟨rfl, rfl⟩))
   (fun os started H enc _ => lifted13 os started H enc)
theorem contractKnown_holds : Rows.ContractKnownCardSaid :=
 Claim7.holds_tied_plain_at .later [] [.funcs, .funcs] true (true, "c501e6b10dd79cabefa2efce01fc1bedaa80b2911bfeb7b29f1edcaf23635907") false
   law13 (fun _ h => by cases h) (by kernel_rfl) (fun _ h => by cases h) contractKnown_row_tie rfl ⟨rfl, rfl⟩ (by kernel_rfl) rfl
   (fun f fn hf hfn => by
     obtain rfl : f = 13 := Option.some.inj ((show Tryd.prog.funcNamed "drifter/drifterlaw08.ContractKnown" = some 13 by kernel_rfl).symm.trans hf) |>.symm
     obtain rfl : fn = Tryd.f13 := (Option.some.inj (Tryd.func13.symm.trans hfn)).symm
     exact ⟨by kernel_rfl, fun j t ht => by
       rw [Tryd.params13] at ht
       match j, ht with
       | j + 0, ht => simp at ht⟩)
   (by kernel_rfl)
end Go.Proofs.YthofpbnbjkdpaaaDoor
