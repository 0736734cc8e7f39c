/- The framework Sx, part 5b: fitting. -/
import Derived.Test.YthcplmlkgaiggaaSxCall
set_option linter.unusedSimpArgs false
set_option linter.unusedVariables false
namespace Go.Sx
section
variable {P : Program} {E : Env} {β0 β1 β2 β : Nat → Loc} {Z0 Z1 Z Z' : Nat → Prop} {hp : Hp} {w0 w1 w : World}

/-! ### Fitting -/

theorem allN_get {p : Nat → Prop} : ∀ {n : Nat}, allN n p → ∀ j, j < n → p j
  | 0, _, j, hj => absurd hj (Nat.not_lt_zero j)
  | n + 1, h, j, hj => by
    by_cases e : j = n
    · subst e; exact h.2
    · exact allN_get h.1 j (by omega)

theorem fitP_ok : ∀ {x y : CV} {v : Value}, fitP x y → RP Z w x v → RP Z w y v := by
  intro x
  induction x with
  | vs s l g ih =>
    intro y v hf hx
    unfold fitP at hf
    split at hf
    case h_1 => exact RP.one hx
    case h_14 s1 l1 g1 s' l' g' e1 =>
      obtain ⟨rfl, rfl, rfl⟩ := (by injection e1 with a b c; exact ⟨a, b, c⟩ : s = s1 ∧ l = l1 ∧ g = g1)
      obtain ⟨hs, rfl, hcell⟩ := hf
      obtain rfl := Nat.eq_of_beq_eq_true (chk_iff.1 hs)
      obtain ⟨a, cap, rfl, h1, h2⟩ := hx
      refine ⟨a, cap, rfl, h1, fun hpos => ?_⟩
      obtain ⟨b, o, rfl, hz, hc⟩ := h2 hpos
      refine ⟨b, o, rfl, hz, fun i hi j hj => ?_⟩
      obtain ⟨u, hu, hr⟩ := hc i hi j hj
      exact ⟨u, hu, ih i j (allN_get (hcell i hi) j hj) hr⟩
    all_goals first
      | (rename_i e1; exact CV.noConfusion e1; done)
      | (rename_i e1 _; exact CV.noConfusion e1; done)
      | (subst hf; exact hx)
  | _ =>
    intro y v hf hx
    unfold fitP at hf
    split at hf <;> first
      | exact RP.one hx
      | (rename_i e1; exact CV.noConfusion e1; done)
      | (rename_i e1 _; exact CV.noConfusion e1; done)
      | exact hx
      | (subst hf; exact hx)
      | skip
    all_goals first
      | (rename_i e1; injection e1 with e1; subst e1; subst hf; exact hx)
      | (rename_i e1
         injection e1 with e1 e2
         subst e1; subst e2
         split at hf
         · rename_i hk
           rw [← kindNo_inj hk]
           subst hf; exact hx
         · exact hf.elim)
      | (subst hf
         obtain rfl : v = .slice none 0 0 := hx
         exact ⟨none, 0, rfl, Nat.le_refl _, fun h => absurd h (Nat.lt_irrefl 0)⟩)

/-- What a renaming says of places. -/
structure Named (ρ : Nat → Src) (β1 β2 : Nat → Loc) : Prop where
  nm : ∀ m n, ρ m = .nm n → β2 m = β1 n
  virt : ∀ m, ρ m = .virt → β2 m = .virt

theorem isNm_ok {s : Src} {n : Nat} (h : isNm s n) : s = .nm n := by
  unfold isNm at h
  split at h
  · split at h
    · rename_i hb; rw [Nat.eq_of_beq_eq_true hb]
    · exact h.elim
  · exact h.elim

theorem isVirt_ok {s : Src} (h : isVirt s) : s = .virt := by
  unfold isVirt at h
  split at h
  · rfl
  · exact h.elim

theorem fitCV0_ok {ρ : Nat → Src} (hρ : Named ρ β1 β2) {x y : CV} {v : Value} (hf : fitCV0 ρ x y) (hx : RC β1 Z w x v) : RC β2 Z w y v := by
  unfold fitCV0 at hf
  split at hf
  · rename_i m sz len
    obtain ⟨h1, rfl⟩ := hf
    obtain rfl : v = .slice none 0 0 := hx
    show ROs w (β2 m) sz 0 _
    rw [hρ.virt m (isVirt_ok h1)]
    exact ⟨rfl, rfl⟩
  · obtain ⟨h1, rfl⟩ := hf
    obtain ⟨b, ln, hb, rfl⟩ := hx
    exact ⟨b, ln, by rw [hρ.nm _ _ (isNm_ok h1), hb], rfl⟩
  · rename_i n s l m s' l'
    obtain ⟨h1, h2, rfl⟩ := hf
    obtain rfl := Nat.eq_of_beq_eq_true (chk_iff.1 h2)
    have hx' : ROs w (β1 n) s l v := hx
    show ROs w (β2 m) s l v
    rw [hρ.nm _ _ (isNm_ok h1)]; exact hx'
  · obtain ⟨b, ln, hb, rfl⟩ := hx
    exact ⟨b, ln, by rw [hρ.nm _ _ (isNm_ok hf), hb], rfl⟩
  · exact RC.one hx
  · obtain ⟨h1, h2⟩ := hf
    exact RC.of_RP (fitP_ok h2 (RP.of_RC (chk_iff.1 h1) hx))

theorem fitCV_ok {ρ : Nat → Src} (hρ : Named ρ β1 β2) {x y : CV} {v : Value} (hf : fitCV ρ x y) (hx : RC β1 Z w x v) : RC β2 Z w y v := by
  unfold fitCV at hf
  split at hf
  · obtain ⟨h1, h2, h3⟩ := hf
    obtain rfl := Nat.eq_of_beq_eq_true (chk_iff.1 h1)
    obtain rfl := Nat.eq_of_beq_eq_true (chk_iff.1 h2)
    obtain ⟨fs, cs, rfl, k1, k2, k3, _⟩ := hx
    exact ⟨fs, cs, rfl, k1, k2, fun i hi => let ⟨u, hu, hr⟩ := k3 i hi; ⟨u, hu, fitCV0_ok hρ (allN_get h3 i hi) hr⟩, fun i s hs => by simp at hs⟩
  · exact fitCV0_ok hρ hf hx

theorem fitAV_ok {ρ : Nat → Src} (hρ : Named ρ β1 β2) {x y : AV} {v : Value} (hf : fitAV ρ x y) (hx : RA β1 Z w x v) : RA β2 Z w y v := by
  cases y with
  | any => trivial
  | tup l => cases x <;> exact hf.elim
  | t y =>
    cases x with
    | any => exact hf.elim
    | tup => exact hf.elim
    | t x =>
      cases x with
      | c x => cases y with
        | c y => exact fitCV_ok hρ hf hx
        | a n g => exact hf.elim
      | a n g => cases y with
        | c y => exact hf.elim
        | a n' g' =>
          obtain ⟨h1, h2⟩ := hf
          obtain rfl := Nat.eq_of_beq_eq_true (chk_iff.1 h1)
          obtain ⟨cs, rfl, h3, h4⟩ := hx
          exact ⟨cs, rfl, h3, fun j hj => let ⟨u, hu, hr⟩ := h4 j hj; ⟨u, hu, fitCV_ok hρ (allN_get h2 j hj) hr⟩⟩


theorem named_bad {β1 β2 : Nat → Loc} : Named (fun _ => Src.bad) β1 β2 := ⟨fun _ _ h => by simp at h, fun _ h => by simp at h⟩

theorem fitTV_ok {ρ : Nat → Src} {β1 β2 : Nat → Loc} (hρ : Named ρ β1 β2) {x y : TV} {v : Value} (hf : fitTV ρ x y) (hx : RT β1 Z w x v) : RT β2 Z w y v :=
  fitAV_ok (x := .t x) (y := .t y) hρ hf hx

theorem fitTVs_ok : ∀ {l r : List TV} {vs : List Value}, fitTVs l r → RL β Z w l vs → RL β Z w r vs
  | [], [], [], _, _ => trivial
  | [], [], _ :: _, _, h => h.elim
  | [], _ :: _, _, h, _ => h.elim
  | _ :: _, [], _, h, _ => h.elim
  | x :: _, _ :: _, [], _, h => by cases x <;> exact h.elim
  | _ :: _, _ :: _, _ :: _, h, h' => ⟨fitTV_ok named_bad h.1 h'.1, fitTVs_ok h.2 h'.2⟩

theorem fitBlk_ok {ρ : Nat → Src} (hρ : Named ρ β1 β2) {l : Loc} {x y : Blk} (hf : fitBlk ρ x y) (hx : RB β1 Z w l x) : RB β2 Z w l y := by
  unfold fitBlk at hf
  split at hf
  · obtain ⟨h1, h2⟩ := hf
    obtain rfl := Nat.eq_of_beq_eq_true (chk_iff.1 h1)
    cases l with
    | no => exact hx.elim
    | virt => exact hx.elim
    | «at» b ln =>
      obtain ⟨cs, e, a1, a2, a3⟩ := hx
      exact ⟨cs, e, a1, a2, fun j hj => let ⟨u, hu, hr⟩ := a3 j hj; ⟨u, hu, fitCV_ok hρ (allN_get h2 j hj) hr⟩⟩
  · obtain ⟨h1, h2, rfl, h3⟩ := hf
    obtain rfl := Nat.eq_of_beq_eq_true (chk_iff.1 h1)
    obtain rfl := Nat.eq_of_beq_eq_true (chk_iff.1 h2)
    cases l with
    | no => exact hx.elim
    | virt => exact hx
    | «at» b ln =>
      obtain ⟨a0, cs, a1, a2, a3⟩ := hx
      exact ⟨a0, cs, a1, a2, fun i hi j hj => let ⟨u, hu, hr⟩ := a3 i hi j hj; ⟨u, hu, fitP_ok (allN_get (h3 i hi) j hj) hr⟩⟩
  · obtain ⟨h1, h2⟩ := hf
    obtain rfl := sameT_eq (chk_iff.1 h1)
    cases l with
    | no => exact hx.elim
    | virt => exact hx.elim
    | «at» b ln =>
      rename_i m m'
      obtain rfl : m = m' := funext h2
      exact hx
  · obtain ⟨h1, h2⟩ := hf
    obtain rfl := sameT_eq (chk_iff.1 h1)
    cases l with
    | no => exact hx.elim
    | virt => exact hx.elim
    | «at» b ln =>
      obtain ⟨es, clock, a1, a2⟩ := hx
      exact ⟨es, clock, _, a1, a2, h2⟩
  · obtain ⟨h1, h2⟩ := hf
    obtain rfl := sameT_eq (chk_iff.1 h1)
    cases l with
    | no => exact hx.elim
    | virt => exact hx.elim
    | «at» b ln =>
      obtain ⟨es, clock, m, a1, a2, a3⟩ := hx
      exact ⟨es, clock, m, a1, a2, fun ks x h => h2 ks x (a3 ks x h)⟩
  · exact hf.elim
end
end Go.Sx
