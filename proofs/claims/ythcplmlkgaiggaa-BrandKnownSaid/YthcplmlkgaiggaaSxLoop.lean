/- The framework Sx, part 7: a state comes to a loop's head. -/
import Derived.Test.YthcplmlkgaiggaaSxSem
set_option linter.unusedSimpArgs false
set_option linter.unusedVariables false
namespace Go.Sx
section
variable {P : Program} {E : Env} {β0 β1 β2 β : Nat → Loc} {Z0 Z1 Z Z' : Nat → Prop} {hp : Hp} {w0 w1 w : World}

/-! ### Values that are kept, under other names -/

theorem RC.rebase (ag : ∀ n, β0 n ≠ .no → β2 n = β1 n) : ∀ {x : CV} {u0 u : Value}, RC β0 Z0 w0 x u0 → RC β1 Z w x u → RC β2 Z w x u := by
  have at_ : ∀ {n b ln b' ln'}, β0 n = .at b ln → β1 n = .at b' ln' → β2 n = .at b' ln' := fun {n b ln b' ln'} h0 h1 => by rw [ag n (by rw [h0]; simp), h1]
  intro x
  induction x with
  | ptr n off => rintro u0 u ⟨b, ln, h0, _⟩ ⟨b', ln', h1, h2⟩; exact ⟨b', ln', at_ h0 h1, h2⟩
  | ep n size i off => rintro u0 u ⟨b, ln, h0, _, _⟩ ⟨b', ln', h1, h2⟩; exact ⟨b', ln', at_ h0 h1, h2⟩
  | ax n off i sz len fo => rintro u0 u ⟨b, ln, h0, _, _⟩ ⟨b', ln', h1, h2⟩; exact ⟨b', ln', at_ h0 h1, h2⟩
  | mp n => rintro u0 u ⟨b, ln, h0, _⟩ ⟨b', ln', h1, h2⟩; exact ⟨b', ln', at_ h0 h1, h2⟩
  | yl n => rintro u0 u ⟨b, ln, h0, _⟩ ⟨b', ln', h1, h2⟩; exact ⟨b', ln', at_ h0 h1, h2⟩
  | os n size len =>
    intro u0 u h0 h1
    have h0' : ROs w0 (β0 n) size len u0 := h0
    have h1' : ROs w (β1 n) size len u := h1
    show ROs w (β2 n) size len u
    rw [ag n (by intro e; rw [e] at h0'; exact h0')]; exact h1'
  | fn f sh first nc cap ih1 ih2 =>
    rintro u0 u ⟨fs0, cs0, _, a1, a2, a3, a4⟩ ⟨fs, cs, e, b1, b2, b3, b4⟩
    refine ⟨fs, cs, e, b1, b2, fun i hi => ?_, fun i s hs => ?_⟩
    · obtain ⟨v0, _, r0⟩ := a3 i hi
      obtain ⟨v, hv, r⟩ := b3 i hi
      exact ⟨v, hv, ih2 i r0 r⟩
    · obtain ⟨v0, _, r0⟩ := a4 i s hs
      obtain ⟨v, hv, r⟩ := b4 i s hs
      refine ⟨v, hv, ?_⟩
      cases s with
      | none => exact ih1 i 0 r0 r
      | some n =>
        obtain ⟨xs0, _, _, q0⟩ := r0
        obtain ⟨xs, e1, e2, q⟩ := r
        exact ⟨xs, e1, e2, fun j hj => let ⟨y0, _, z0⟩ := q0 j hj; let ⟨y, hy, z⟩ := q j hj; ⟨y, hy, ih1 i j z0 z⟩⟩
  | _ => intro u0 u _ h1; exact h1

theorem RT.rebase (ag : ∀ n, β0 n ≠ .no → β2 n = β1 n) {x : TV} {u0 u : Value} (h0 : RT β0 Z0 w0 x u0) (h1 : RT β1 Z w x u) : RT β2 Z w x u := by
  cases x with
  | c x => exact RC.rebase ag h0 h1
  | a n get =>
    obtain ⟨cs0, _, _, q0⟩ := h0
    obtain ⟨cs, e1, e2, q⟩ := h1
    exact ⟨cs, e1, e2, fun j hj => let ⟨y0, _, z0⟩ := q0 j hj; let ⟨y, hy, z⟩ := q j hj; ⟨y, hy, RC.rebase ag z0 z⟩⟩

theorem RA.rebase (ag : ∀ n, β0 n ≠ .no → β2 n = β1 n) {x : AV} {u0 u : Value} (h0 : RA β0 Z0 w0 x u0) (h1 : RA β1 Z w x u) : RA β2 Z w x u := by
  cases x with
  | any => trivial
  | t x => exact RT.rebase ag h0 h1
  | tup l =>
    obtain ⟨cs0, _, _, q0⟩ := h0
    obtain ⟨cs, e1, e2, q⟩ := h1
    exact ⟨cs, e1, e2, fun j x hj => let ⟨y0, _, z0⟩ := q0 j x hj; let ⟨y, hy, z⟩ := q j x hj; ⟨y, hy, RT.rebase ag z0 z⟩⟩

theorem RB.rebase (ag : ∀ n, β0 n ≠ .no → β2 n = β1 n) {l0 l : Loc} {x : Blk} (h0 : RB β0 Z0 w0 l0 x) (h1 : RB β1 Z w l x) (hl : ∀ b ln, l = .at b ln → ∃ b0 ln0, l0 = .at b0 ln0) : RB β2 Z w l x := by
  cases l with
  | no => cases x <;> exact h1.elim
  | virt => cases x <;> first | exact h1 | exact h1.elim
  | «at» b ln =>
    obtain ⟨b0, ln0, rfl⟩ := hl b ln rfl
    cases x with
    | box n get =>
      obtain ⟨cs0, _, _, _, q0⟩ := h0
      obtain ⟨cs, e, a1, a2, q⟩ := h1
      exact ⟨cs, e, a1, a2, fun j hj => let ⟨y0, _, z0⟩ := q0 j hj; let ⟨y, hy, z⟩ := q j hj; ⟨y, hy, RC.rebase ag z0 z⟩⟩
    | row e size len get => exact h1
    | mp T m => exact h1
    | mpI T m => exact h1
    | lp fid sz tm ps asg body busy pend =>
      obtain ⟨r0, _, _, q0, _⟩ := h0
      obtain ⟨r, a1, a2, q, a3⟩ := h1
      exact ⟨r, a1, a2, fun t => RA.rebase ag (q0 t) (q t), a3⟩

/-! ### The lists of what a loop turns -/

theorem findHp_mem : ∀ {l : List (Nat × Wit × Option Blk)} {n : Nat} {r : Wit × Option Blk}, findHp l n = some r → (n, r.1, r.2) ∈ l
  | [], n, r, h => by simp [findHp] at h
  | (m, w, b) :: l, n, r, h => by
    simp only [findHp] at h
    split at h
    · rename_i e
      have := Nat.eq_of_beq_eq_true e
      subst this
      simp at h; subst h; simp
    · simp [findHp_mem h]

theorem findHp_none : ∀ {l : List (Nat × Wit × Option Blk)} {n : Nat}, findHp l n = none ↔ ∀ x ∈ l, x.1 ≠ n
  | [], n => by simp [findHp]
  | (m, w, b) :: l, n => by
    simp only [findHp]
    split
    · rename_i e
      have := Nat.eq_of_beq_eq_true e
      subst this
      simp
    · rename_i e
      rw [findHp_none]
      have : m ≠ n := fun h => by subst h; rw [Nat.beq_refl] at e; simp at e
      simp [this]

theorem findSrc_some {st1 : St} : ∀ {l : List (Nat × Wit × Option Blk)} {n : Nat} {w : Wit} {b : Blk}, findHp l n = some (w, some b) → findSrc (srcs st1 l) n = srcOf st1 n w ∧ (n, srcOf st1 n w) ∈ srcs st1 l
  | [], n, w, b, h => by simp [findHp] at h
  | (m, w', b') :: l, n, w, b, h => by
    simp only [findHp] at h
    split at h
    · rename_i e
      have := Nat.eq_of_beq_eq_true e
      subst this
      simp at h
      obtain ⟨rfl, rfl⟩ := h
      simp [srcs, findSrc]
    · rename_i e
      obtain ⟨h1, h2⟩ := findSrc_some (st1 := st1) h
      cases b' with
      | none => exact ⟨h1, h2⟩
      | some b' =>
        simp only [srcs, findSrc, e]
        exact ⟨h1, List.mem_cons_of_mem _ h2⟩

theorem srcs_mem {st1 : St} : ∀ {l : List (Nat × Wit × Option Blk)} {n : Nat} {s : Src}, (n, s) ∈ srcs st1 l → ∃ w b, (n, w, some b) ∈ l ∧ s = srcOf st1 n w
  | [], n, s, h => by simp [srcs] at h
  | (m, w', none) :: l, n, s, h => by
    simp only [srcs] at h
    obtain ⟨w, b, h1, h2⟩ := srcs_mem h
    exact ⟨w, b, List.mem_cons_of_mem _ h1, h2⟩
  | (m, w', some b') :: l, n, s, h => by
    simp only [srcs, List.mem_cons, Prod.mk.injEq] at h
    rcases h with ⟨rfl, rfl⟩ | h
    · exact ⟨w', b', by simp, rfl⟩
    · obtain ⟨w, b, h1, h2⟩ := srcs_mem h
      exact ⟨w, b, List.mem_cons_of_mem _ h1, h2⟩

theorem findSrc_none : ∀ {ss : List (Nat × Src)} {n : Nat}, (∀ x ∈ ss, x.1 ≠ n) → findSrc ss n = .nm n
  | [], n, _ => rfl
  | (m, s) :: l, n, h => by
    have hne : m ≠ n := h (m, s) (by simp)
    simp only [findSrc, beq_ne (Ne.symm hne)]
    exact findSrc_none (fun x hx => h x (by simp [hx]))

theorem findSrc_or : ∀ {ss : List (Nat × Src)} {n : Nat}, (findSrc ss n = .nm n ∧ ∀ x ∈ ss, x.1 ≠ n) ∨ (n, findSrc ss n) ∈ ss
  | [], n => .inl ⟨rfl, fun x h => by simp at h⟩
  | (m, s) :: l, n => by
    by_cases e : n = m
    · subst e; right; simp [findSrc]
    · simp only [findSrc, beq_ne e]
      rcases findSrc_or (ss := l) (n := n) with ⟨h1, h2⟩ | h
      · refine .inl ⟨h1, fun x hx => ?_⟩
        rcases List.mem_cons.1 hx with rfl | hx
        · exact Ne.symm e
        · exact h2 x hx
      · exact .inr (List.mem_cons_of_mem _ h)

theorem fitHps_get {ρ : Nat → Src} {st1 : St} : ∀ {l : List (Nat × Wit × Option Blk)} {n : Nat} {w : Wit} {b : Blk}, fitHps ρ st1 l → (n, w, some b) ∈ l → fitOne ρ st1 n b
  | [], _, _, _, _, h => by simp at h
  | (m, w', none) :: l, n, w, b, hf, h => by
    simp at h
    exact fitHps_get (l := l) hf h
  | (m, w', some b') :: l, n, w, b, hf, h => by
    simp only [List.mem_cons, Prod.mk.injEq, Option.some.injEq] at h
    rcases h with ⟨rfl, rfl, rfl⟩ | h
    · exact hf.1
    · exact fitHps_get (l := l) hf.2 h

theorem fitTms_get {ρ : Nat → Src} {st1 : St} : ∀ {l : List (Nat × AV)} {t : Nat} {v : AV}, fitTms ρ st1 l → findTm l t = some v → fitAV ρ (st1.tm t) v
  | [], _, _, _, h => by simp [findTm] at h
  | (d, v') :: l, t, v, hf, h => by
    simp only [findTm] at h
    split at h
    · rename_i e
      have := Nat.eq_of_beq_eq_true e
      subst this
      simp at h; subst h; exact hf.1
    · exact fitTms_get hf.2 h

theorem sameNames_ok : ∀ {d : List Nat} {l : List (Nat × Wit × Option Blk)}, sameNames d l = true → d = l.map (·.1)
  | [], [], _ => rfl
  | [], _ :: _, h => by simp [sameNames] at h
  | _ :: _, [], h => by simp [sameNames] at h
  | n :: d, x :: l, h => by
    simp only [sameNames, Bool.and_eq_true] at h
    rw [Nat.eq_of_beq_eq_true h.1, sameNames_ok h.2]; rfl

/-- What the text's part of the fitting says. -/
theorem fitNames_ok {nx : Nat} {st1 : St} {l : List (Nat × Wit × Option Blk)} (h : fitNames nx st1 l = true) :
    (∀ x ∈ l, x.1 < nx + 16 ∧ (nx ≤ x.1 ∨ x.2.1 = .self)) ∧
    (∀ m n, (m, Src.nm n) ∈ srcs st1 l → n = m ∨ nx ≤ n ∨ ∃ x ∈ l, x.1 = n) ∧
    (∀ m s, (m, s) ∈ srcs st1 l → s ≠ .bad) ∧
    (∀ m m' n, (m, Src.nm n) ∈ srcs st1 l → (m', Src.nm n) ∈ srcs st1 l → m = m') := by
  simp only [fitNames, Bool.and_eq_true, List.all_eq_true, Bool.or_eq_true] at h
  obtain ⟨⟨h1, h2⟩, h3⟩ := h
  refine ⟨fun x hx => ?_, fun m n hm => ?_, fun m s hm => ?_, fun m m' n hm hm' => ?_⟩
  · obtain ⟨a1, a2⟩ := h1 x hx
    refine ⟨Nat.le_of_ble_eq_true a1, a2.imp Nat.le_of_ble_eq_true (fun h => ?_)⟩
    split at h
    · rename_i e; exact e
    · simp at h
  · have := h2 _ hm
    simp only [Bool.or_eq_true, List.any_eq_true, Bool.and_eq_true] at this
    rcases this with (h | h) | ⟨x, hx, h, _⟩
    · exact .inl (Nat.eq_of_beq_eq_true h)
    · exact .inr (.inl (Nat.le_of_ble_eq_true h))
    · exact .inr (.inr ⟨x, hx, Nat.eq_of_beq_eq_true h⟩)
  · have := h2 _ hm
    intro e; subst e; simp at this
  · obtain ⟨i, hi⟩ := List.mem_iff_getElem?.1 hm
    obtain ⟨j, hj⟩ := List.mem_iff_getElem?.1 hm'
    have mi : ((m, Src.nm n), i) ∈ (srcs st1 l).zipIdx := by
      rw [List.mem_zipIdx_iff_getElem?]; exact hi
    have mj : ((m', Src.nm n), j) ∈ (srcs st1 l).zipIdx := by
      rw [List.mem_zipIdx_iff_getElem?]; exact hj
    have := h3 _ mi _ mj
    simp only [Bool.and_eq_true, Bool.not_eq_true'] at this
    rcases this with h | ⟨_, h⟩
    · have e := Nat.eq_of_beq_eq_true h
      subst e
      rw [hi] at hj; simp at hj; exact hj
    · simp at h
end
end Go.Sx
