/- The statement ContractSameCardSaid is proved, for every input that it speaks of: from the contract of the law to its card. No condition of ours is added. -/
import Derived.Test.YthofpbnbjkdpaaaDoorCxP12
import Derived.Test.YthofpbnbjkdpaaaDoorCxCard
set_option linter.unusedSimpArgs false
set_option linter.unusedVariables false
namespace Go.Proofs.YthofpbnbjkdpaaaDoor
open Go Go.Sx Cm Go.ChangeShapes Go.WideShapes Go.ChangeAt Go.RowKit
set_option maxRecDepth 100000

theorem res12 : ∀ tvs, AllShp E0 6 [26, 55] tvs → CallQ Tryd.prog E0 12 tvs [.v (.c (.bool true))] := by
  intro tvs h
  obtain ⟨g0, r0, rfl, s0, h⟩ := h.cons ty26
  obtain ⟨g1, r1, rfl, s1, h⟩ := h.cons ty55
  obtain rfl := h.nil
  obtain ⟨b0, w0, f0⟩ := book_of s0
  obtain ⟨x1, y1, z1, f1⟩ := arg_three s1
  refine callQ_fit ?_ (q12 (b0, x1, y1, z1) w0)
  exact ⟨f0, f1, trivial⟩

theorem lifted12 (os : Os) (started : os.Started) (H : Type) (enc : TypeId × Value → H) :
    ReturnsInHanded {} Tryd.checked os 12 .any (fun w args => (Rows.contractSameSpec.pre enc Tryd.prog Tryd.f12 [] false w args ∧ laidMetH Tryd.prog laidL w) ∧ sizedMet enc Tryd.prog Tryd.f12 (OpenSpec.ofChange Rows.contractSameSpec) false w args)
      (Rows.contractSameSpec.post enc Tryd.prog Tryd.f12 false true false false) := by
  refine returnsInHanded_of_change_and (C := Tryd.checked) (X := fun w _ => laidMetH Tryd.prog laidL w) (fun _ _ _ hh h => h.of_heap hh) own_knob started (by kernel_rfl) Tryd.func12
    (ChangeSpec.witness_shaped (enc := enc) (C := Tryd.checked) (os := os) (X := fun w _ => laidMetH Tryd.prog laidL w) false (World.doorLaid Tryd.prog 600 os) #[.agg #[.slice none 0 0, .slice none 0 0, .slice none 0 0], .agg #[.int .i64 0, .int .i64 0, .int .i64 0]] 8 rfl (World.shaped_of_RefB (by kernel_rfl) (by kernel_rfl)) (by kernel_rfl) (by kernel_rfl) (by kernel_rfl) (door_met os _)) ?_
  intro W base args ds gs before hval hW _ hwt hL _
  refine law_calls (E := E0) (n := 6) E0_ok.tab (by kernel_rfl) laidOut (b := 4) (by kernel_rfl) Tryd.underlying4 (by kernel_rfl) rfl (fun ds hd => ?_) (by rw [Tryd.params12]; exact res12) hval hW hwt (gl_ok hL)
  rw [Tryd.params12] at hd
  match ds, hd with
  | [d0, d1], _ => rfl

theorem law12 : Rows.ContractSameSaid :=
  OpenClaim.holds_of_wide 12 Tryd.f12 rfl rfl rfl rfl rfl rfl rfl ⟨rfl, rfl, rfl, rfl, rfl⟩ rfl rfl rfl rfl rfl (by kernel_rfl) Tryd.func12 (by kernel_rfl)
    (of_decide_eq_true (by kernel_rfl)) (by unfold Func.isWrapper; first | (rw [if_pos (by decide +kernel)]; kernel_rfl) | (rw [if_neg (by decide +kernel)]; exact ⟨rfl, rfl⟩))
    (fun os started H enc _ => lifted12 os started H enc)

theorem contractSame_holds : Rows.ContractSameCardSaid :=
  Claim7.holds_tied_plain_at .later [] [.funcs, .funcs] true (true, "c501e6b10dd79cabefa2efce01fc1bedaa80b2911bfeb7b29f1edcaf23635907") false
    law12 (fun _ h => by cases h) (by kernel_rfl) (fun _ h => by cases h) contractSame_row_tie rfl ⟨rfl, rfl⟩ (by kernel_rfl) rfl
    (fun f fn hf hfn => by
      obtain rfl : f = 12 := Option.some.inj ((show Tryd.prog.funcNamed "drifter/drifterlaw08.ContractSame" = some 12 by kernel_rfl).symm.trans hf) |>.symm
      obtain rfl : fn = Tryd.f12 := (Option.some.inj (Tryd.func12.symm.trans hfn)).symm
      exact ⟨by kernel_rfl, fun j t ht => by
        rw [Tryd.params12] at ht
        match j, ht with
        | 0, ht =>
          obtain rfl : t = 26 := by simpa using ht.symm
          exact want26
        | 1, ht =>
          obtain rfl : t = 55 := by simpa using ht.symm
          exact want55
        | j + 2, ht => simp at ht⟩)
    (by kernel_rfl)
#print axioms contractSame_holds
end Go.Proofs.YthofpbnbjkdpaaaDoor
