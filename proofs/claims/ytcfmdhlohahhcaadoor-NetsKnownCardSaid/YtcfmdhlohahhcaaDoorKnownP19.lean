/- The statement NetsKnownCardSaid is proved, for every input that it speaks of: from the contract of the law to its card. No condition of ours is added. -/
import Derived.Test.YtcfmdhlohahhcaaDoorKnownP18
set_option linter.unusedSimpArgs false
set_option linter.unusedVariables false
namespace Go.Proofs.YtcfmdhlohahhcaaDoor
open Go Go.Sx Nm Go.ChangeShapes Go.WideShapes Go.ChangeAt Go.RowKit
set_option maxRecDepth 100000
theorem res14 : ∀ tvs, AllShp E0 6 [] tvs → CallQ Tryd.prog E0 14 tvs [.v (.c (.bool true))] := by
 intro tvs h
 obtain rfl := h.nil
 refine callQ_fit ?_ (q14)
 exact trivial
theorem lifted14 (os : Os) (started : os.Started) (H : Type) (enc : TypeId × Value → H) :
   ReturnsInHanded {} Tryd.checked os 14 .any (fun w args => (Rows.netsKnownSpec.pre enc Tryd.prog Tryd.f14 [] false w args ∧ laidMetH Tryd.prog laidL w) ∧ sizedMet enc Tryd.prog Tryd.f14 (OpenSpec.ofChange Rows.netsKnownSpec) false w args)
     (Rows.netsKnownSpec.post enc Tryd.prog Tryd.f14 false true false false) := by
 refine returnsInHanded_of_change_and (C := Tryd.checked) (X := fun w _ => laidMetH Tryd.prog laidL w) (fun _ _ _ hh h => h.of_heap hh) own_knob started (by kernel_rfl) Tryd.func14
   (ChangeSpec.witness_shaped (enc := enc) (C := Tryd.checked) (os := os) (X := fun w _ => laidMetH Tryd.prog laidL w) false (World.doorLaid Tryd.prog 600 os) #[] 8 rfl (World.shaped_of_RefB (by kernel_rfl) (by kernel_rfl)) (by kernel_rfl) (by kernel_rfl) (by kernel_rfl) (door_met os _)) ?_
 intro W base args ds gs before hval hW _ hwt hL _
 refine law_calls (E := E0) (n := 6) E0_ok.tab (by kernel_rfl) laidOut (b := 4) (by kernel_rfl) bool_und (by kernel_rfl) rfl (fun ds hd => ?_) (by rw [Tryd.params14]; exact res14) hval hW hwt (gl_ok hL)
 rw [Tryd.params14] at hd
 match ds, hd with
 | [], _ => rfl
theorem law14 : Rows.NetsKnownSaid :=
 OpenClaim.holds_of_wide 14 Tryd.f14 rfl rfl rfl rfl rfl rfl rfl ⟨rfl, rfl, rfl, rfl, rfl⟩ rfl rfl rfl rfl rfl (by kernel_rfl) Tryd.func14 (by kernel_rfl)
   (of_decide_eq_true (by kernel_rfl)) (by unfold Func.isWrapper; first | (rw [if_pos (by decide +kernel)]; kernel_rfl) | (rw [if_neg (by decide +kernel)]; exact ⟨rfl, rfl⟩))
   (fun os started H enc _ => lifted14 os started H enc)
theorem netsKnown_holds : Rows.NetsKnownCardSaid :=
 Claim7.holds_tied_plain_at .later [] [.funcs, .funcs, .data] true (true, "df0422fb256f2105b59197f3c0c88d3a4abba69a461a4eb202cf82372d9ba91a") false
   law14 (fun _ h => by cases h) (by kernel_rfl) (fun _ h => by cases h) netsKnown_row_tie rfl ⟨rfl, rfl⟩ (by kernel_rfl) rfl
   (fun f fn hf hfn => by
     obtain rfl : f = 14 := Option.some.inj ((show Tryd.prog.funcNamed "drifter/drifterlaw02.NetsKnown" = some 14 by kernel_rfl).symm.trans hf) |>.symm
     obtain rfl : fn = Tryd.f14 := (Option.some.inj (Tryd.func14.symm.trans hfn)).symm
     exact ⟨by kernel_rfl, fun j t ht => by
       rw [Tryd.params14] at ht
       match j, ht with
       | j + 0, ht => simp at ht⟩)
   (by kernel_rfl)
end Go.Proofs.YtcfmdhlohahhcaaDoor
