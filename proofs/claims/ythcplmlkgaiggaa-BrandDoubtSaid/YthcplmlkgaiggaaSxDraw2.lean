/- The framework Sx, part 13b: a region that draws its order, whatever the order. -/
import Derived.Test.YthcplmlkgaiggaaSxDraw
import Derived.OrdersIn
set_option linter.unusedSimpArgs false
set_option linter.unusedVariables false
namespace Go.Sx
section
variable {P : Program} {E : Env} {inl : CallVC} {yld : YieldVC}

/-- A stretch. -/
structure Stretch (P : Program) (E : Env) (ops : List Oper) (bs : List Nat) (s b : Nat) (sts : Nat → St) (runs : Nat → Bool) (vs : Nat → AV) (ds : Nat → Option Nat) : Prop where
  sb : s ≤ b
  len : b ≤ ops.length
  at_ : ∀ k, s ≤ k → k < b → SegAt P E ops bs (sts s).nx s k (sts k) (sts (k + 1)) (runs k) (vs k) (ds k)
  top : ∀ n, (sts b).nx ≤ n → (sts b).hp n = none

section
variable {ops : List Oper} {bs : List Nat} {s b : Nat} {sts : Nat → St} {runs : Nat → Bool} {vs : Nat → AV} {ds : Nat → Option Nat}

theorem dropO_ne {D : Option Nat} {hp : Hp} {n : Nat} (h : D ≠ some n) : dropO D hp n = hp n := by
  cases D with
  | none => rfl
  | some m => exact upd_ne _ _ (fun e => h (by rw [e]))
theorem dropO_at {hp : Hp} {n : Nat} : dropO (some n) hp n = none := upd_same _ _ _
theorem dropO_none {D : Option Nat} {hp : Hp} {n : Nat} (h : hp n = none) : dropO D hp n = none := by
  by_cases e : D = some n
  · rw [e]; exact dropO_at
  · rw [dropO_ne e]; exact h

theorem Stretch.next (h : Stretch P E ops bs s b sts runs vs ds) {k : Nat} (h1 : s ≤ k) (h2 : k < b) : ∃ o, ops[k]? = some o ∧ (sts (k + 1)).nx = (sts k).nx + 4 ∧ (sts (k + 1)).wl = (sts k).wl ∧ (sts (k + 1)).sz = (sts k).sz ∧
    (sts (k + 1)).tm = (match o.dst with | some d => upd (sts k).tm d (vs k) | none => (sts k).tm) := by
  obtain ⟨o, ho, _, _, _, he, _⟩ := h.at_ k h1 h2
  exact ⟨o, ho, by rw [he]; rfl, by rw [he]; rfl, by rw [he]; rfl, by rw [he]; rfl⟩

theorem Stretch.nx (h : Stretch P E ops bs s b sts runs vs ds) : ∀ {k : Nat}, s ≤ k → k ≤ b → (sts k).nx = (sts s).nx + 4 * (k - s) ∧ (sts k).wl = (sts s).wl ∧ (sts k).sz = (sts s).sz
  | 0, h1, _ => by obtain rfl : s = 0 := by omega
                   simp
  | k + 1, h1, h2 => by
    by_cases e : s = k + 1
    · subst e; simp
    · obtain ⟨a1, a2, a3⟩ := h.nx (k := k) (by omega) (by omega)
      obtain ⟨o, _, b1, b2, b3, _⟩ := h.next (k := k) (by omega) (by omega)
      exact ⟨by rw [b1, a1]; omega, by rw [b2, a2], by rw [b3, a3]⟩

theorem Stretch.hp (h : Stretch P E ops bs s b sts runs vs ds) {k : Nat} (h1 : s ≤ k) : ∀ {k' : Nat}, k ≤ k' → k' ≤ b → ∀ n, n < (sts k).nx →
    ((∀ m, k ≤ m → m < k' → ds m ≠ some n) → (sts k').hp n = (sts k).hp n) ∧ (∀ m, k ≤ m → m < k' → ds m = some n → (sts k').hp n = none)
  | 0, h2, h3, n, hn => by obtain rfl : k = 0 := by omega
                           exact ⟨fun _ => rfl, fun m a1 a2 => by omega⟩
  | k' + 1, h2, h3, n, hn => by
    by_cases e : k = k' + 1
    · subst e; exact ⟨fun _ => rfl, fun m a1 a2 => by omega⟩
    · obtain ⟨i1, i2⟩ := h.hp h1 (k' := k') (by omega) (by omega) n hn
      obtain ⟨o, _, _, _, _, _, hout, _⟩ := h.at_ k' (by omega) (by omega)
      have e1 := (h.nx (k := k) h1 (by omega)).1
      have e2 := (h.nx (k := k') (by omega) (by omega)).1
      rw [hout n (by omega)]
      refine ⟨fun hno => ?_, fun m a1 a2 a3 => ?_⟩
      · rw [dropO_ne (hno k' (by omega) (by omega))]; exact i1 fun m a1 a2 => hno m a1 (by omega)
      · by_cases em : m = k'
        · subst em; rw [a3]; exact dropO_at
        · exact dropO_none (i2 m a1 (by omega) a3)

theorem Stretch.free (h : Stretch P E ops bs s b sts runs vs ds) {k : Nat} (h1 : s ≤ k) (h2 : k ≤ b) (hs : ∀ n, (sts s).nx ≤ n → (sts s).hp n = none) : ∀ n, (sts k).nx ≤ n → (sts k).hp n = none := by
  obtain ⟨j, rfl⟩ : ∃ j, k = s + j := ⟨k - s, by omega⟩
  clear h1
  induction j with
  | zero => exact hs
  | succ j ih =>
    intro n hn
    have ih := ih (by omega)
    obtain ⟨o, _, _, _, _, he, hout, _⟩ := h.at_ (s + j) (by omega) (by omega)
    have e1 := (h.nx (k := s + j) (by omega) (by omega)).1
    have e2 := (h.nx (k := s + (j + 1)) (by omega) (by omega)).1
    rw [show s + (j + 1) = s + j + 1 by omega] at *
    rw [hout n (by omega)]
    exact dropO_none (ih n (by omega))

/-- A place at a state of the text: written by an operation of the stretch, or as it was. -/
theorem Stretch.tm (h : Stretch P E ops bs s b sts runs vs ds) (hssa : ssa ops bs = true) : ∀ {k : Nat}, s ≤ k → k ≤ b → ∀ t, (∀ m o, s ≤ m → m < k → ops[m]? = some o → o.dst = some t → (sts k).tm t = vs m) ∧ ((∀ m o, s ≤ m → m < k → ops[m]? = some o → o.dst ≠ some t) → (sts k).tm t = (sts s).tm t)
  | 0, h1, _, t => by obtain rfl : s = 0 := by omega
                      exact ⟨fun m o h1 h2 => by omega, fun _ => rfl⟩
  | k + 1, h1, h2, t => by
    by_cases e : s = k + 1
    · subst e; exact ⟨fun m o h1 h2 => by omega, fun _ => rfl⟩
    · obtain ⟨i1, i2⟩ := h.tm hssa (k := k) (by omega) (by omega) t
      obtain ⟨o, ho, _, _, _, htm⟩ := h.next (k := k) (by omega) (by omega)
      refine ⟨fun m om hm1 hm2 hom hd => ?_, fun hno => ?_⟩
      · by_cases em : m = k
        · subst em
          rw [ho] at hom; injection hom with hom; subst hom
          rw [htm, hd]; simp only; rw [upd_same]
        · have := (ssa_ok hssa hom ho em hd).1
          have h3 := i1 m om hm1 (by omega) hom hd
          rw [htm]
          cases hd2 : o.dst with
          | none => exact h3
          | some d =>
            have hne : t ≠ d := fun e => this (by rw [hd2, e])
            simp only; rw [upd_ne _ _ hne]; exact h3
      · have h3 := i2 (fun m om a1 a2 => hno m om a1 (by omega))
        have h4 := hno k o (by omega) (by omega) ho
        rw [htm]
        cases hd2 : o.dst with
        | none => exact h3
        | some d =>
          have hne : t ≠ d := fun e => h4 (by rw [hd2, e])
          simp only; rw [upd_ne _ _ hne]; exact h3
end

/-- The names of the operations that have been carried out. -/
def isIn (base s b : Nat) (listed : Array Bool) (n : Nat) : Bool := decide (s + (n - base) / 4 < b) && listed.getD (s + (n - base) / 4) false

/-- Has a block been let go by an operation that has been carried out? -/
def gone (s b : Nat) (listed : Array Bool) (ds : Nat → Option Nat) (n : Nat) : Bool := (List.range b).any fun m => Nat.ble s m && listed.getD m false && decide (ds m = some n)

theorem gone_iff {s b : Nat} {listed : Array Bool} {ds : Nat → Option Nat} {n : Nat} : gone s b listed ds n = true ↔ ∃ m, s ≤ m ∧ m < b ∧ listed.getD m false = true ∧ ds m = some n := by
  simp only [gone, List.any_eq_true, List.mem_range, Bool.and_eq_true, decide_eq_true_eq]
  constructor
  · rintro ⟨m, h1, ⟨h2, h3⟩, h4⟩; exact ⟨m, Nat.le_of_ble_eq_true h2, h1, h3, h4⟩
  · rintro ⟨m, h1, h2, h3, h4⟩; exact ⟨m, h2, ⟨Nat.ble_eq_true_of_le h1, h3⟩, h4⟩

theorem mayDrop_ok {bs : List Nat} {i base ib n : Nat} (h : mayDrop bs i base ib n = true) : base ≤ n ∧ (bs.getD i 0).testBit (ib + (n - base) / 4) = true ∧ ∀ k, k ≠ i → (bs.getD k 0).testBit (ib + (n - base) / 4) = true → (bs.getD k 0).testBit i = true ∨ (bs.getD i 0).testBit k = true := by
  simp only [mayDrop, Bool.and_eq_true, List.all_eq_true, List.mem_range, Bool.or_eq_true, Bool.not_eq_true'] at h
  obtain ⟨⟨h1, h2⟩, h3⟩ := h
  refine ⟨Nat.le_of_ble_eq_true h1, h2, fun k hk hb => ?_⟩
  by_cases hl : k < bs.length
  · rcases h3 k hl with ((h | h) | h) | h
    · exact absurd (Nat.eq_of_beq_eq_true h) hk
    · rw [hb] at h; simp at h
    · exact .inl h
    · exact .inr h
  · rw [List.getD_eq_getElem?_getD, List.getElem?_eq_none (by omega)] at hb
    simp at hb

def hpL (base s b : Nat) (listed : Array Bool) (h0 : Hp) (mk : Nat → Hp) (ds : Nat → Option Nat) : Hp := fun n => if n < base then h0 n else if isIn base s b listed n = true then (if gone s b listed ds n = true then none else mk (s + (n - base) / 4) n) else none
def frL (base s b : Nat) (listed : Array Bool) (n : Nat) : Prop := base ≤ n ∧ isIn base s b listed n = false

/-- The state in the middle of a stretch. -/
structure Mid (E : Env) (ops : List Oper) (bs : List Nat) (s b : Nat) (sts : Nat → St) (vs : Nat → AV) (ds : Nat → Option Nat) (β0 : Nat → Loc) (Z0 : Nat → Prop) (a0 : Act) (w0 : World) (listed : Array Bool) (a : Act) (w : World) (β : Nat → Loc) (Z : Nat → Prop) : Prop where
  size : listed.size = ops.length
  lo : ∀ k, k < s → listed.getD k false = true
  hi : ∀ k, b ≤ k → listed.getD k false = false
  closed : ∀ k, listed.getD k false = true → ∀ j, (bs.getD k 0).testBit j = true → listed.getD j false = true
  left : Left E 0 (frL (sts s).nx s b listed) β0 Z0 (sts s).hp w0 β Z (hpL (sts s).nx s b listed (sts s).hp (fun j => (sts (j + 1)).hp) ds) w
  tmR : ∀ m o d, s ≤ m → m < b → listed.getD m false = true → ops[m]? = some o → o.dst = some d → RA β Z w (vs m) (a.tmps.getD d undef)
  tmK : ∀ t, (∀ m o, s ≤ m → m < b → listed.getD m false = true → ops[m]? = some o → o.dst ≠ some t) → a.tmps.getD t undef = a0.tmps.getD t undef
  tsz : a.tmps.size = a0.tmps.size
  df : a.defers = a0.defers

theorem getD_tf {l : Array Bool} {k : Nat} (h : l.getD k true = false) : l.getD k false = false ∧ k < l.size := by
  by_cases hk : k < l.size
  · simp [Array.getD, hk] at h ⊢; exact h
  · simp [Array.getD, hk] at h

theorem getD_ft {l : Array Bool} {k : Nat} (hk : k < l.size) (h : l.getD k false = false) : l.getD k true = false := by
  simp [Array.getD, hk] at h ⊢; exact h

theorem getD_tt {l : Array Bool} {k : Nat} (hk : k < l.size) (h : l.getD k true = true) : l.getD k false = true := by
  simp [Array.getD, hk] at h ⊢; exact h

theorem getD_set' {l : Array Bool} {i k : Nat} (hi : i < l.size) : (l.setIfInBounds i true).getD k false = if k = i then true else l.getD k false := by
  by_cases e : k = i
  · subst e; simp [Array.getD, hi]
  · simp [e, Array.getD_eq_getD_getElem?, Array.getElem?_setIfInBounds_ne (Ne.symm e)]

theorem name_of {base s i n : Nat} (hsi : s ≤ i) (hn : base ≤ n) : s + (n - base) / 4 = i ↔ (base + 4 * (i - s) ≤ n ∧ n < base + 4 * (i - s) + 4) := by omega

variable {ops : Array Oper} {bs : List Nat} {s b : Nat} {sts : Nat → St} {runs : Nat → Bool} {vs : Nat → AV} {ds : Nat → Option Nat} {β0 : Nat → Loc} {Z0 : Nat → Prop} {a0 : Act} {w0 : World}

theorem mid_step (hst : Stretch P E ops.toList bs s b sts runs vs ds) (hssa : ssa ops.toList bs = true) (hsd : sound ops.toList bs = true) (h0 : Sat E (sts s) β0 Z0 a0 w0) {listed : Array Bool} {a : Act} {w : World} {β : Nat → Loc} {Z : Nat → Prop}
    (hm : Mid E ops.toList bs s b sts vs ds β0 Z0 a0 w0 listed a w β Z) {i : Nat} {o : Oper} (hi1 : s ≤ i) (hi2 : i < b) (ho : ops[i]? = some o) (hun : listed.getD i true = false) (hrd : ∀ e ∈ o.after, Region.binds .any e = true → listed.getD e.on false = true) {ro : Option Nat} {Q : Exit → Act → World → Prop}
    {K : Act → World → Prop} (hK : ∀ a' w' β' Z', Mid E ops.toList bs s b sts vs ds β0 Z0 a0 w0 (listed.setIfInBounds i true) a' w' β' Z' → K a' w') : wpOpIn (Fn ro) 0 P ops Q i K a w := by
  have hoL : ops.toList[i]? = some o := by simpa using ho
  obtain ⟨hunF, hilt⟩ := getD_tf hun
  have free0 : ∀ n, (sts s).nx ≤ n → (sts s).hp n = none := fun n hn => not_known h0.heap (h0.heap.fresh n hn)
  obtain ⟨o', ho', hnb, hhas, hgd, hnext, hout, hmay, hsem, hskip⟩ := hst.at_ i hi1 hi2
  rw [hoL] at ho'; injection ho' with ho'; subst ho'
  obtain ⟨sd1, sd2, sd3⟩ := sound_ok hsd hoL
  obtain ⟨nxi, _, szi⟩ := hst.nx (k := i) hi1 (by omega)
  have nxi1 := (hst.nx (k := i + 1) (by omega) (by omega)).1
  have freei := hst.free (k := i) hi1 (by omega) free0
  -- all that comes before has been carried out
  have before : ∀ k, (bs.getD i 0).testBit k = true → listed.getD k false = true := fun k hk => by
    obtain ⟨e, he, hbd, h⟩ := sd3 k (sd1 k hk) hk
    rcases h with rfl | h
    · exact hrd e he hbd
    · exact hm.closed e.on (hrd e he hbd) k h
  -- what it looks at
  have hlook : ∀ t, RA β Z w (masked (sts i).tm (looks ops.toList o) t) (a.tmps.getD t undef) := fun t => by
    rcases masked_or (tm := (sts i).tm) (l := looks ops.toList o) (t := t) with ⟨hl, e⟩ | e
    · rw [e]
      obtain ⟨t1, t2⟩ := hst.tm hssa (k := i) hi1 (by omega) t
      by_cases hex : ∃ m om, s ≤ m ∧ m < b ∧ m ≠ i ∧ ops.toList[m]? = some om ∧ om.dst = some t
      · obtain ⟨m, om, m1, m2, m3, m4, m5⟩ := hex
        rcases (ssa_ok hssa m4 hoL m3 m5).2 hl with hb | hb
        · rw [t1 m om m1 (sd1 m hb) m4 m5]
          exact hm.tmR m om t m1 m2 (before m hb) m4 m5
        · -- it is written later, and by no other one
          have him : i < m := (sound_ok hsd m4).1 i hb
          have alone : ∀ k ok, ops.toList[k]? = some ok → ok.dst = some t → k = m := fun k ok hk hd => by
            apply Classical.byContradiction; intro hne
            exact (ssa_ok hssa m4 hk (fun e => hne e.symm) m5).1 hd
          rw [t2 (fun k ok a1 a2 a4 hd => by have := alone k ok a4 hd; omega), hm.tmK t (fun k ok a1 a2 a3 a4 hd => by
            obtain rfl := alone k ok a4 hd
            have := hm.closed k a3 i hb
            rw [hunF] at this; simp at this)]
          exact RA.mono hm.left.ev h0.heap.calm hm.left.ext (h0.tm t)
      · have hno : ∀ m om, s ≤ m → m < b → m ≠ i → ops.toList[m]? = some om → om.dst ≠ some t := fun m om a1 a2 a3 a4 a5 => hex ⟨m, om, a1, a2, a3, a4, a5⟩
        rw [t2 (fun m om a1 a2 a4 => hno m om a1 (by omega) (by omega) a4), hm.tmK t (fun m om a1 a2 a3 a4 => hno m om a1 a2 (fun e => by subst e; rw [hunF] at a3; simp at a3) a4)]
        exact RA.mono hm.left.ev h0.heap.calm hm.left.ext (h0.tm t)
    · rw [e]; trivial
  have notIn : ∀ n, (sts i).nx ≤ n → n < (sts i).nx + 4 → (sts s).nx ≤ n ∧ isIn (sts s).nx s b listed n = false := fun n h1 h2 => by
    have hb : (sts s).nx ≤ n := by omega
    have : s + (n - (sts s).nx) / 4 = i := (name_of hi1 hb).2 (by omega)
    refine ⟨hb, ?_⟩
    unfold isIn
    rw [this, hunF]; simp
  have inNew : ∀ n, (sts s).nx ≤ n → isIn (sts s).nx s b (listed.setIfInBounds i true) n = if (sts i).nx ≤ n ∧ n < (sts i).nx + 4 then true else isIn (sts s).nx s b listed n := fun n hb => by
    have hnm := name_of (base := (sts s).nx) hi1 hb
    by_cases hr : (sts i).nx ≤ n ∧ n < (sts i).nx + 4
    · rw [if_pos hr]
      have : s + (n - (sts s).nx) / 4 = i := hnm.2 (by omega)
      unfold isIn
      rw [this, getD_set' hilt]; simp [hi2]
    · rw [if_neg hr]
      have : s + (n - (sts s).nx) / 4 ≠ i := fun e => hr (by have := hnm.1 e; omega)
      unfold isIn
      rw [getD_set' hilt, if_neg this]
  have mayd : ∀ m n, s ≤ m → m < b → ds m = some n → mayDrop bs m (sts s).nx s n = true ∧ n < (sts m).nx := fun m n a1 a2 a3 => by
    obtain ⟨_, _, _, _, _, _, _, h, _⟩ := hst.at_ m a1 a2
    exact h n a3
  -- the state behind it
  have fin : ∀ (val : Value) (w' : World) (β' : Nat → Loc) (Z' : Nat → Prop) (hp' : Hp), RA β' Z' w' (vs i) val → Left E 0 (fun n => frL (sts s).nx s b listed n ∧ ¬ ((sts i).nx ≤ n ∧ n < (sts i).nx + 4)) β Z (hpL (sts s).nx s b listed (sts s).hp (fun j => (sts (j + 1)).hp) ds) w β' Z' hp' w' →
      (∀ n, hp' n = if (sts i).nx ≤ n ∧ n < (sts i).nx + 4 then (sts (i + 1)).hp n else dropO (ds i) (hpL (sts s).nx s b listed (sts s).hp (fun j => (sts (j + 1)).hp) ds) n) → K (a.put o.dst val) w' := by
    intro val w' β' Z' hp' hv hl hpe
    refine hK _ _ β' Z' ⟨by simp [hm.size], fun k hk => ?_, fun k hk => ?_, fun k hk j hj => ?_, ?_, fun m om d m1 m2 m3 m4 m5 => ?_, fun t ht => ?_, ?_, ?_⟩
    · rw [getD_set' hilt, if_neg (by omega)]; exact hm.lo k hk
    · rw [getD_set' hilt, if_neg (by omega)]; exact hm.hi k hk
    · rw [getD_set' hilt] at hk ⊢
      by_cases e : k = i
      · subst e
        split
        · rfl
        · exact before j hj
      · rw [if_neg e] at hk
        split
        · rfl
        · exact hm.closed k hk j hj
    · have hpeq : hpL (sts s).nx s b (listed.setIfInBounds i true) (sts s).hp (fun j => (sts (j + 1)).hp) ds = hp' := funext fun n => by
        rw [hpe n]
        by_cases hb : n < (sts s).nx
        · rw [if_neg (by omega), dropO_ne (fun e => by have := (mayDrop_ok (mayd i n hi1 hi2 e).1).1; omega)]
          unfold hpL
          rw [if_pos hb, if_pos hb]
        · by_cases hr : (sts i).nx ≤ n ∧ n < (sts i).nx + 4
          · have hnm : s + (n - (sts s).nx) / 4 = i := (name_of hi1 (by omega)).2 (by omega)
            have hg : ¬ gone s b (listed.setIfInBounds i true) ds n = true := fun hg => by
              obtain ⟨m, a1, a2, a3, a4⟩ := gone_iff.1 hg
              have hbit := (mayDrop_ok (mayd m n a1 a2 a4).1).2.1
              rw [hnm] at hbit
              rw [getD_set' hilt] at a3
              by_cases e : m = i
              · subst e; exact absurd (sd1 m hbit) (by omega)
              · rw [if_neg e] at a3
                have := hm.closed m a3 i hbit
                rw [hunF] at this; simp at this
            unfold hpL
            rw [if_neg hb, inNew n (by omega), if_pos hr, if_pos hr, if_pos rfl, if_neg hg, hnm]
          · rw [if_neg hr]
            by_cases hd : ds i = some n
            · rw [hd, dropO_at]
              unfold hpL
              rw [if_neg hb]
              split
              · rw [if_pos (gone_iff.2 ⟨i, hi1, hi2, by rw [getD_set' hilt, if_pos rfl], hd⟩)]
              · rfl
            · rw [dropO_ne hd]
              have hgg : gone s b (listed.setIfInBounds i true) ds n = gone s b listed ds n := by
                apply Bool.eq_iff_iff.2
                rw [gone_iff, gone_iff]
                constructor
                · rintro ⟨m, a1, a2, a3, a4⟩
                  rw [getD_set' hilt, if_neg (fun e => hd (by rw [← e]; exact a4))] at a3
                  exact ⟨m, a1, a2, a3, a4⟩
                · rintro ⟨m, a1, a2, a3, a4⟩
                  exact ⟨m, a1, a2, by rw [getD_set' hilt]; split; rfl; exact a3, a4⟩
              unfold hpL
              rw [if_neg hb, if_neg hb, inNew n (by omega), if_neg hr, hgg]
      rw [hpeq]
      refine ⟨hl.sat.weaken (fun n hn => ?_), hm.left.ev.trans hl.ev hm.left.own, hm.left.ext.trans hl.ext, fun b' hb' => ?_, fun b' hb' => ?_⟩
      · obtain ⟨h1, h2⟩ := hn
        rw [inNew n h1] at h2
        split at h2
        · simp at h2
        · rename_i hr; exact ⟨⟨h1, h2⟩, hr⟩
      · rcases hl.own b' hb' with h | h
        · exact hm.left.own b' h
        · exact .inr (Nat.le_trans hm.left.ev.size h)
      · rcases hl.zown b' hb' with h | h | h
        · exact hm.left.zown b' h
        · exact .inr (hm.left.own b' h)
        · exact .inr (.inr (Nat.le_trans hm.left.ev.size h))
    · rw [getD_put]
      rw [getD_set' hilt] at m3
      by_cases e : m = i
      · subst e
        rw [hoL] at m4; injection m4 with m4; subst m4
        have hlt : d < a.tmps.size := by
          rw [hm.tsz, h0.sz, ← szi]
          rw [m5] at hhas
          exact Nat.le_of_ble_eq_true hhas
        rw [if_pos ⟨m5, hlt⟩]; exact hv
      · rw [if_neg e] at m3
        have := (ssa_ok hssa m4 hoL e m5).1
        rw [if_neg (fun hh => this hh.1)]
        exact RA.mono hl.ev hm.left.sat.calm hl.ext (hm.tmR m om d m1 m2 m3 m4 m5)
    · have h1 := ht i o hi1 hi2 (by rw [getD_set' hilt, if_pos rfl]) hoL
      rw [getD_put, if_neg (fun hh => h1 hh.1)]
      exact hm.tmK t (fun m om a1 a2 a3 a4 => ht m om a1 a2 (by rw [getD_set' hilt]; split; rfl; exact a3) a4)
    · have : (a.put o.dst val).tmps.size = a.tmps.size := by cases o.dst <;> simp [Act.put]
      rw [this]; exact hm.tsz
    · rw [← hm.df]; cases o.dst <;> rfl
  -- wanted, or not
  have hwant : Region.wanted o (yielded ops a.tmps) = runs i := by
    rcases hgd with ⟨hg, hr⟩ | ⟨j, want, d, t, hg, hd, ht, hr⟩ | ⟨j, want, d, hg, hd, ht, hr⟩
    · rw [hr]; simp [Region.wanted, hg]
    · have hdl : d ∈ looks ops.toList o := List.mem_append_right _ (by rw [hg]; simp [hd])
      have hb := hlook d
      rw [masked_mem hdl] at hb
      rw [hr]; exact wanted_of hg hd (truth_ok hb ht)
    · have hdl : d ∈ looks ops.toList o := List.mem_append_right _ (by rw [hg]; simp [hd])
      have hb := hlook d
      rw [masked_mem hdl, ht] at hb
      rw [hr]; exact wanted_skip hg hd (ra_skip_eq hb)
  unfold wpOpIn
  rw [ho]
  simp only [hwant]
  cases hrun : runs i with
  | true =>
    rw [if_pos rfl]
    refine Oper.wpIn_mono (fun a' w' hp => ?_) (hsem hrun ro (frL (sts s).nx s b listed) β Z _ w a Q hm.left.sat (fun n h1 h2 => notIn n h1 h2) (fun n blk hn => ?_) hlook)
    · obtain ⟨val, β', Z', rfl, hv, hl⟩ := hp
      exact fin val w' β' Z' _ hv hl (fun _ => rfl)
    · unfold maskHp at hn
      unfold hpL
      split at hn
      · rename_i hlt
        have hlt' : n < (sts s).nx := Nat.le_of_ble_eq_true hlt
        rw [if_pos hlt', ← (hst.hp (k := s) (Nat.le_refl _) (k' := i) hi1 (by omega) n hlt').1 (fun m a1 a2 a3 => by have := (mayDrop_ok (mayd m n a1 (by omega) a3).1).1; omega)]; exact hn
      · rename_i hge
        have hge' : ¬ n < (sts s).nx := fun h => by rw [show Nat.blt n (sts s).nx = true from Nat.ble_eq_true_of_le h] at hge; simp at hge
        rw [if_neg hge']
        split at hn
        · rename_i hbit
          have hlt := sd1 _ hbit
          have hin : isIn (sts s).nx s b listed n = true := by
            unfold isIn
            rw [before _ hbit]; simp; omega
          have hj : (n - (sts s).nx) / 4 + s < i := by omega
          have nxj := (hst.nx (k := s + (n - (sts s).nx) / 4 + 1) (by omega) (by omega)).1
          have later : ∀ m, s ≤ m → m < b → ds m = some n → s + (n - (sts s).nx) / 4 + 1 ≤ m := fun m a1 a2 a3 => by
            have h1 := (mayd m n a1 a2 a3).2
            have h2 := (hst.nx (k := m) a1 (by omega)).1
            omega
          obtain ⟨p1, p2⟩ := hst.hp (k := s + (n - (sts s).nx) / 4 + 1) (by omega) (k' := i) (by omega) (by omega) n (by omega)
          have no : ∀ m, s ≤ m → m < i → ds m ≠ some n := fun m a1 a2 a3 => by
            rw [p2 m (later m a1 (by omega) a3) a2 a3] at hn; simp at hn
          have hng : ¬ gone s b listed ds n = true := fun hg => by
            obtain ⟨m, a1, a2, a3, a4⟩ := gone_iff.1 hg
            have hmi : m ≠ i := fun e => by subst e; rw [hunF] at a3; simp at a3
            rcases (mayDrop_ok (mayd m n a1 a2 a4).1).2.2 i (fun e => hmi e.symm) hbit with h | h
            · exact no m a1 (sd1 m h) a4
            · have := hm.closed m a3 i h
              rw [hunF] at this; simp at this
          rw [if_pos hin, if_neg hng]
          exact (p1 (fun m a1 a2 => no m (by omega) a2)).symm.trans hn
        · simp at hn
  | false =>
    rw [if_neg (by simp)]
    obtain ⟨hv, hhp, hD⟩ := hskip hrun
    refine ⟨fun _ _ => trivial, fin undef w β Z _ (by rw [hv]; exact ra_skip) (Left.same hm.left.sat (fun n hn => hn.1)) (fun n => ?_)⟩
    split
    · rename_i hr
      obtain ⟨h1, h2⟩ := notIn n hr.1 hr.2
      rw [hhp, freei n hr.1]
      unfold hpL
      rw [if_neg (by omega), if_neg (by rw [h2]; simp)]
    · rw [hD]; rfl

/-- A stretch is over. -/
theorem mid_end (hst : Stretch P E ops.toList bs s b sts runs vs ds) (hssa : ssa ops.toList bs = true) (h0 : Sat E (sts s) β0 Z0 a0 w0) {listed : Array Bool} {a : Act} {w : World} {β : Nat → Loc} {Z : Nat → Prop}
    (hm : Mid E ops.toList bs s b sts vs ds β0 Z0 a0 w0 listed a w β Z) (hall : ∀ k, k < b → listed.getD k false = true) :
    Sat E (sts b) β Z a w ∧ Turn (HS.of (sts s) β0 Z0 w0) (HS.of (sts b) β Z w) ∧ (∀ t, (∀ o ∈ ops.toList, o.dst ≠ some t) → a.tmps.getD t undef = a0.tmps.getD t undef) := by
  obtain ⟨nxb, wlb, szb⟩ := hst.nx (k := b) hst.sb (Nat.le_refl _)
  have hb := hst.sb
  have mayd : ∀ m n, s ≤ m → m < b → ds m = some n → mayDrop bs m (sts s).nx s n = true ∧ n < (sts m).nx := fun m n a1 a2 a3 => by
    obtain ⟨_, _, _, _, _, _, _, h, _⟩ := hst.at_ m a1 a2
    exact h n a3
  have keep : ∀ n, n < (sts s).nx → (sts b).hp n = (sts s).hp n := fun n hn =>
    (hst.hp (k := s) (Nat.le_refl _) (k' := b) hb (Nat.le_refl _) n hn).1 fun m a1 a2 a3 => by have := (mayDrop_ok (mayd m n a1 a2 a3).1).1; omega
  have hhp : hpL (sts s).nx s b listed (sts s).hp (fun j => (sts (j + 1)).hp) ds = (sts b).hp := funext fun n => by
    unfold hpL
    by_cases hn : n < (sts s).nx
    · rw [if_pos hn]; exact (keep n hn).symm
    · rw [if_neg hn]
      by_cases hin : isIn (sts s).nx s b listed n = true
      · rw [if_pos hin]
        have hjb : s + (n - (sts s).nx) / 4 < b := by
          unfold isIn at hin
          simp only [Bool.and_eq_true, decide_eq_true_eq] at hin
          exact hin.1
        have nxj := (hst.nx (k := s + (n - (sts s).nx) / 4 + 1) (by omega) (by omega)).1
        obtain ⟨p1, p2⟩ := hst.hp (k := s + (n - (sts s).nx) / 4 + 1) (by omega) (k' := b) (by omega) (Nat.le_refl _) n (by omega)
        by_cases hg : gone s b listed ds n = true
        · rw [if_pos hg]
          obtain ⟨m, a1, a2, a3, a4⟩ := gone_iff.1 hg
          have h1 := (mayd m n a1 a2 a4).2
          have h2 := (hst.nx (k := m) a1 (by omega)).1
          exact (p2 m (by omega) a2 a4).symm
        · rw [if_neg hg]
          exact (p1 fun m a1 a2 a3 => hg (gone_iff.2 ⟨m, by omega, a2, hall m a2, a3⟩)).symm
      · rw [if_neg hin]
        refine (hst.top n ?_).symm
        apply Nat.le_of_not_lt
        intro hlt
        apply hin
        unfold isIn
        rw [hall _ (by omega)]; simp; omega
  have hleft := hm.left
  rw [hhp] at hleft
  refine ⟨⟨hleft.sat.weaken (fun n hn => ⟨by omega, ?_⟩), fun t => ?_, by rw [hm.tsz, h0.sz, szb]⟩, ⟨hleft.ev, hleft.ext, hleft.own, hleft.zown, by show (sts s).nx ≤ (sts b).nx; omega, fun n hn => by show n ∈ (sts b).wl; rw [wlb]; exact hn, fun n hn _ => keep n hn⟩, fun t ht => hm.tmK t (fun m o _ _ _ ho => ht o (List.mem_of_getElem? ho))⟩
  · unfold isIn
    have : ¬ s + (n - (sts s).nx) / 4 < b := by omega
    simp [this]
  · obtain ⟨t1, t2⟩ := hst.tm hssa (k := b) hb (Nat.le_refl _) t
    by_cases hex : ∃ m om, s ≤ m ∧ m < b ∧ ops.toList[m]? = some om ∧ om.dst = some t
    · obtain ⟨m, om, m1, m2, m3, m4⟩ := hex
      rw [t1 m om m1 m2 m3 m4]
      exact hm.tmR m om t m1 m2 (hall m m2) m3 m4
    · have hno : ∀ m om, s ≤ m → m < b → ops.toList[m]? = some om → om.dst ≠ some t := fun m om a1 a2 a4 a5 => hex ⟨m, om, a1, a2, a4, a5⟩
      rw [t2 hno, hm.tmK t (fun m om a1 a2 _ a4 => hno m om a1 a2 a4)]
      exact RA.mono hleft.ev h0.heap.calm hleft.ext (h0.tm t)

/-- The state at a stretch's beginning. -/
theorem mid_start (hst : Stretch P E ops.toList bs s b sts runs vs ds) (h0 : Sat E (sts s) β0 Z0 a0 w0) {listed : Array Bool} (hsz : listed.size = ops.toList.length) (hlo : ∀ k, k < s → listed.getD k false = true) (hhi : ∀ k, s ≤ k → listed.getD k false = false)
    (hcl : ∀ k, listed.getD k false = true → ∀ j, (bs.getD k 0).testBit j = true → listed.getD j false = true) : Mid E ops.toList bs s b sts vs ds β0 Z0 a0 w0 listed a0 w0 β0 Z0 := by
  have free0 : ∀ n, (sts s).nx ≤ n → (sts s).hp n = none := fun n hn => not_known h0.heap (h0.heap.fresh n hn)
  have notIn : ∀ n, isIn (sts s).nx s b listed n = false := fun n => by
    unfold isIn
    rw [hhi _ (Nat.le_add_right _ _)]; simp
  have hhp : hpL (sts s).nx s b listed (sts s).hp (fun j => (sts (j + 1)).hp) ds = (sts s).hp := funext fun n => by
    unfold hpL
    by_cases hn : n < (sts s).nx
    · rw [if_pos hn]
    · rw [if_neg hn, notIn n, if_neg (by simp), free0 n (by omega)]
  have hsb := hst.sb
  refine ⟨hsz, hlo, fun k hk => hhi k (by omega), hcl, ?_, fun m o d m1 m2 m3 => by rw [hhi m m1] at m3; simp at m3, fun _ _ => rfl, rfl, rfl⟩
  rw [hhp]
  exact Left.same h0.heap (fun n hn => hn.1)
end
end Go.Sx
