/- The statement NetsMendsUptoCardSaid is proved: for every torn net and all pieces that the second form speaks of (of bulk at most 1048576): from the contract of the law to its card. No condition of ours is added. -/
import Derived.Test.YtcfmdhlohahhcaaDoorMendsUptoP18
set_option linter.unusedSimpArgs false
set_option linter.unusedVariables false
namespace Go.Proofs.YtcfmdhlohahhcaaDoor
open Go Go.Sx Nm Go.ChangeShapes Go.WideShapes Go.ChangeAt Go.RowKit
set_option maxRecDepth 100000
theorem res6 : ∀ tvs, AllShpK 8589934592 E0 6 [54, 55] tvs → CallQ Tryd.prog E0 6 tvs [.v (.c (.bool true))] := by
 intro tvs h
 obtain ⟨g0, r0, rfl, s0, h⟩ := h.cons ty54
 obtain ⟨g1, r1, rfl, s1, h⟩ := h.cons ty55
 obtain rfl := h.nil
 obtain ⟨b0, w0, f0⟩ := torn_ofK (by decide) s0
 obtain ⟨a1, w1, f1⟩ := pcs_of s1
 refine callQ_fit ?_ (q6 b0 a1 w0 w1)
 exact ⟨f0, f1, trivial⟩
theorem reads6 (os : Os) {H : Type} (enc : TypeId × Value → H) : ∃ places, DataW.whole enc Tryd.prog ((World.doorLaid Tryd.prog 600 os).forCall (fun _ _ => 0) ⟨#[], #[.agg #[.int .i64 0, .int .i64 0, .slice none 0 0, .int .i64 0, .int .i64 0], .slice none 0 0], []⟩).memory Tryd.f6.params.toList Rows.netsMendsSpec.vars false #[Value.agg #[.int .i64 0, .int .i64 0, .slice none 0 0, .int .i64 0, .int .i64 0], Value.slice none 0 0].toList 8 = some ([.agg [.lit (.int .i64 0), .lit (.int .i64 0), .nil, .lit (.int .i64 0), .lit (.int .i64 0)], .nil], [], places) :=
 ⟨[], by kernel_rfl⟩
theorem okB6 (os : Os) : Input.okWideB Tryd.prog ((World.doorLaid Tryd.prog 600 os).forCall (fun _ _ => 0) ⟨#[], #[.agg #[.int .i64 0, .int .i64 0, .slice none 0 0, .int .i64 0, .int .i64 0], .slice none 0 0], []⟩) 6 ⟨#[], #[.agg #[.int .i64 0, .int .i64 0, .slice none 0 0, .int .i64 0, .int .i64 0], .slice none 0 0], []⟩ = true := by kernel_rfl
theorem small6 : ((Tryd.f6.params.toList ++ (Rows.OpenSpec.upto Rows.netsMendsSpec).bare.plain.varTypes Tryd.prog).all fun t => decide (t < Tryd.prog.types.size)) = true := by kernel_rfl
theorem lifted6 (os : Os) (started : os.Started) (H : Type) (enc : TypeId × Value → H) (F : Stop.Interp) :
   ReturnsInHanded {} Tryd.checked os 6 .any ((Rows.OpenSpec.upto Rows.netsMendsSpec).preRow enc Tryd.prog Tryd.f6 [] false laidL) (((Rows.OpenSpec.upto Rows.netsMendsSpec).at F).post enc Tryd.prog Tryd.f6 false true false false) := by
 obtain ⟨places, hx⟩ := reads6 os enc
 refine returnsInHanded_of_row (C := Tryd.checked) (s := Rows.OpenSpec.upto Rows.netsMendsSpec) own_knob started (by kernel_rfl) Tryd.func6
   ⟨World.doorLaid Tryd.prog 600 os, fun _ _ => 0, ⟨#[], #[.agg #[.int .i64 0, .int .i64 0, .slice none 0 0, .int .i64 0, .int .i64 0], .slice none 0 0], []⟩, rfl, World.shaped_of_RefB (by kernel_rfl) (by kernel_rfl), (Input.okWide_of_okWideB (base := 0) (okB6 os)).1, (Input.okWide_of_okWideB (okB6 os)).2,
     OpenSpec.preRow_of_cond 8 hx (by kernel_rfl) (fun k hk => by cases hk; kernel_rfl) (by kernel_rfl) (door_met os _), by
       simp only [Assume.holds]
       exact ⟨by simp, by simp, fun h => (by cases h), by simp, by simp⟩⟩ ?_
 intro W base args ds gs before hval hW _ hcond _ hL _ _
 have hwt := weigh (ts := Tryd.f6.params.toList ++ (Rows.OpenSpec.upto Rows.netsMendsSpec).bare.plain.varTypes Tryd.prog) (fun t ht => of_decide_eq_true (List.all_eq_true.1 small6 t ht)) (hcond _ rfl)
 refine law_calls (E := E0) (n := 6) (s := Rows.netsMendsSpec) E0_ok.tab (by kernel_rfl) laidOut (b := 4) (by kernel_rfl) bool_und (by kernel_rfl) rfl (fun ds hd => ?_) (by rw [Tryd.params6]; exact res6) hval hW hwt (gl_ok hL)
 rw [Tryd.params6] at hd
 match ds, hd with
 | [d0, d1], _ => rfl
theorem law6 : Rows.NetsMendsUptoSaid :=
 OpenClaim.holds_of_cond 6 Tryd.f6 rfl rfl rfl rfl rfl rfl rfl ⟨rfl, rfl, rfl, rfl, rfl⟩ rfl rfl rfl rfl rfl (by kernel_rfl) Tryd.func6 (by kernel_rfl)
   (of_decide_eq_true (by kernel_rfl)) (by unfold Func.isWrapper; first | (rw [if_pos (by decide +kernel)]; kernel_rfl) | (rw [if_neg (by decide +kernel)]; exact ⟨rfl, rfl⟩))
   (fun os started H enc _ F => by rw [OpenClaim.pre_eq_preRow]; exact lifted6 os started H enc F)
theorem netsMendsUpto_holds : Rows.NetsMendsUptoCardSaid :=
 Claim7.holds_tied_plain_at .later [] [.funcs, .funcs, .data] true (true, "df0422fb256f2105b59197f3c0c88d3a4abba69a461a4eb202cf82372d9ba91a") false
   law6 (fun _ h => by cases h) (by kernel_rfl) (fun _ h => by cases h) netsMendsUpto_row_tie rfl ⟨rfl, rfl⟩ (by kernel_rfl) rfl
   (fun f fn hf hfn => by
     obtain rfl : f = 6 := Option.some.inj ((show Tryd.prog.funcNamed "drifter/drifterlaw02.NetsMends" = some 6 by kernel_rfl).symm.trans hf) |>.symm
     obtain rfl : fn = Tryd.f6 := (Option.some.inj (Tryd.func6.symm.trans hfn)).symm
     exact ⟨by kernel_rfl, fun j t ht => by
       rw [Tryd.params6] at ht
       match j, ht with
       | 0, ht =>
         obtain rfl : t = 54 := by simpa using ht.symm
         exact want54
       | 1, ht =>
         obtain rfl : t = 55 := by simpa using ht.symm
         exact want55
       | j + 2, ht => simp at ht⟩)
   (by kernel_rfl)
end Go.Proofs.YtcfmdhlohahhcaaDoor
