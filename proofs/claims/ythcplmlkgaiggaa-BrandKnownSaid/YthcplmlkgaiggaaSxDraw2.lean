/- The framework Sx, part 13b: a region that draws its order, whatever the order. -/
import Derived.Test.YthcplmlkgaiggaaSxDraw
import Derived.OrdersIn
set_option linter.unusedSimpArgs false
set_option linter.unusedVariables false
namespace Go.Sx
section
variable {P : Program} {E : Env} {inl : CallVC} {yld : YieldVC}

/-- A stretch. -/
structure Stretch (P : Program) (E : Env) (ops : List Oper) (bs : List Nat) (s b : Nat) (sts : Nat → St) (runs : Nat → Bool) (vs : Nat → AV) (ds : Nat → Option (Nat × Option Blk)) : Prop where
  sb : s ≤ b
  len : b ≤ ops.length
  at_ : ∀ k, s ≤ k → k < b → SegAt P E ops bs (sts s).nx s k (sts k) (sts (k + 1)) (runs k) (vs k) (ds k)
  top : ∀ n, (sts b).nx ≤ n → (sts b).hp n = none

section
variable {ops : List Oper} {bs : List Nat} {s b : Nat} {sts : Nat → St} {runs : Nat → Bool} {vs : Nat → AV} {ds : Nat → Option (Nat × Option Blk)}

theorem setO_ne {D : Option (Nat × Option Blk)} {hp : Hp} {n : Nat} (h : ∀ x, D ≠ some (n, x)) : setO D hp n = hp n := by
  cases D with
  | none => rfl
  | some m => exact upd_ne _ _ (fun e => h m.2 (by rw [e]))
theorem setO_at {hp : Hp} {n : Nat} {x : Option Blk} : setO (some (n, x)) hp n = x := upd_same _ _ _

theorem Stretch.next (h : Stretch P E ops bs s b sts runs vs ds) {k : Nat} (h1 : s ≤ k) (h2 : k < b) : ∃ o, ops[k]? = some o ∧ (sts (k + 1)).nx = (sts k).nx + 4 ∧ (sts (k + 1)).wl = (sts k).wl ∧ (sts (k + 1)).sz = (sts k).sz ∧
    (sts (k + 1)).tm = (match o.dst with | some d => upd (sts k).tm d (vs k) | none => (sts k).tm) := by
  obtain ⟨o, ho, _, _, _, he, _⟩ := h.at_ k h1 h2
  exact ⟨o, ho, by rw [he]; rfl, by rw [he]; rfl, by rw [he]; rfl, by rw [he]; rfl⟩

theorem Stretch.nx (h : Stretch P E ops bs s b sts runs vs ds) : ∀ {k : Nat}, s ≤ k → k ≤ b → (sts k).nx = (sts s).nx + 4 * (k - s) ∧ (sts k).wl = (sts s).wl ∧ (sts k).sz = (sts s).sz
  | 0, h1, _ => by obtain rfl : s = 0 := by omega
                   simp
  | k + 1, h1, h2 => by
    by_cases e : s = k + 1
    · subst e; simp
    · obtain ⟨a1, a2, a3⟩ := h.nx (k := k) (by omega) (by omega)
      obtain ⟨o, _, b1, b2, b3, _⟩ := h.next (k := k) (by omega) (by omega)
      exact ⟨by rw [b1, a1]; omega, by rw [b2, a2], by rw [b3, a3]⟩

theorem Stretch.hp (h : Stretch P E ops bs s b sts runs vs ds) {k : Nat} (h1 : s ≤ k) : ∀ {k' : Nat}, k ≤ k' → k' ≤ b → ∀ n, n < (sts k).nx →
    (∀ m x, k ≤ m → m < k' → ds m ≠ some (n, x)) → (sts k').hp n = (sts k).hp n
  | 0, h2, h3, n, hn, _ => by obtain rfl : k = 0 := by omega
                              rfl
  | k' + 1, h2, h3, n, hn, hno => by
    by_cases e : k = k' + 1
    · subst e; rfl
    · have i1 := h.hp h1 (k' := k') (by omega) (by omega) n hn (fun m x a1 a2 => hno m x a1 (by omega))
      obtain ⟨o, _, _, _, _, _, hout, _⟩ := h.at_ k' (by omega) (by omega)
      have e1 := (h.nx (k := k) h1 (by omega)).1
      have e2 := (h.nx (k := k') (by omega) (by omega)).1
      rw [hout n (by omega), setO_ne (fun x => hno k' x (by omega) (by omega))]; exact i1

theorem Stretch.set (h : Stretch P E ops bs s b sts runs vs ds) {m : Nat} (h1 : s ≤ m) (h2 : m < b) {n : Nat} {x : Option Blk} (hd : ds m = some (n, x)) : (sts (m + 1)).hp n = x := by
  obtain ⟨o, _, _, _, _, _, hout, hm, _⟩ := h.at_ m h1 h2
  have := (hm n x hd).2
  rw [hout n (by omega), hd]; exact setO_at

theorem Stretch.free (h : Stretch P E ops bs s b sts runs vs ds) {k : Nat} (h1 : s ≤ k) (h2 : k ≤ b) (hs : ∀ n, (sts s).nx ≤ n → (sts s).hp n = none) : ∀ n, (sts k).nx ≤ n → (sts k).hp n = none := by
  obtain ⟨j, rfl⟩ : ∃ j, k = s + j := ⟨k - s, by omega⟩
  clear h1
  induction j with
  | zero => exact hs
  | succ j ih =>
    intro n hn
    have ih := ih (by omega)
    obtain ⟨o, _, _, _, _, he, hout, hm, _⟩ := h.at_ (s + j) (by omega) (by omega)
    have e1 := (h.nx (k := s + j) (by omega) (by omega)).1
    have e2 := (h.nx (k := s + (j + 1)) (by omega) (by omega)).1
    rw [show s + (j + 1) = s + j + 1 by omega] at *
    rw [hout n (by omega), setO_ne (fun x e => by have := (hm n x e).2; omega)]
    exact ih n (by omega)

/-- A place at a state of the text: written by an operation of the stretch, or as it was. -/
theorem Stretch.tm (h : Stretch P E ops bs s b sts runs vs ds) (hssa : ssa ops bs = true) : ∀ {k : Nat}, s ≤ k → k ≤ b → ∀ t, (∀ m o, s ≤ m → m < k → ops[m]? = some o → o.dst = some t → (sts k).tm t = vs m) ∧ ((∀ m o, s ≤ m → m < k → ops[m]? = some o → o.dst ≠ some t) → (sts k).tm t = (sts s).tm t)
  | 0, h1, _, t => by obtain rfl : s = 0 := by omega
                      exact ⟨fun m o h1 h2 => by omega, fun _ => rfl⟩
  | k + 1, h1, h2, t => by
    by_cases e : s = k + 1
    · subst e; exact ⟨fun m o h1 h2 => by omega, fun _ => rfl⟩
    · obtain ⟨i1, i2⟩ := h.tm hssa (k := k) (by omega) (by omega) t
      obtain ⟨o, ho, _, _, _, htm⟩ := h.next (k := k) (by omega) (by omega)
      refine ⟨fun m om hm1 hm2 hom hd => ?_, fun hno => ?_⟩
      · by_cases em : m = k
        · subst em
          rw [ho] at hom; injection hom with hom; subst hom
          rw [htm, hd]; simp only; rw [upd_same]
        · have := (ssa_ok hssa hom ho em hd).1
          have h3 := i1 m om hm1 (by omega) hom hd
          rw [htm]
          cases hd2 : o.dst with
          | none => exact h3
          | some d =>
            have hne : t ≠ d := fun e => this (by rw [hd2, e])
            simp only; rw [upd_ne _ _ hne]; exact h3
      · have h3 := i2 (fun m om a1 a2 => hno m om a1 (by omega))
        have h4 := hno k o (by omega) (by omega) ho
        rw [htm]
        cases hd2 : o.dst with
        | none => exact h3
        | some d =>
          have hne : t ≠ d := fun e => h4 (by rw [hd2, e])
          simp only; rw [upd_ne _ _ hne]; exact h3
end

/-- The names of the operations that have been carried out. -/
def isIn (base s b : Nat) (listed : Array Bool) (n : Nat) : Bool := decide (s + (n - base) / 4 < b) && listed.getD (s + (n - base) / 4) false

/-- Who has written a block last, of those that have been carried out. -/
def lastW (s : Nat) (listed : Array Bool) (ds : Nat → Option (Nat × Option Blk)) (n mk : Nat) : Nat → Nat
  | 0 => mk
  | k + 1 => if s ≤ k ∧ listed.getD k false = true ∧ (ds k).map (·.1) = some n then k else lastW s listed ds n mk k

theorem lastW_spec {s : Nat} {listed : Array Bool} {ds : Nat → Option (Nat × Option Blk)} {n mk : Nat} : ∀ b, (lastW s listed ds n mk b = mk ∧ ∀ m x, s ≤ m → m < b → listed.getD m false = true → ds m ≠ some (n, x)) ∨
    (∃ m x, lastW s listed ds n mk b = m ∧ s ≤ m ∧ m < b ∧ listed.getD m false = true ∧ ds m = some (n, x) ∧ ∀ m' x', m < m' → m' < b → listed.getD m' false = true → ds m' ≠ some (n, x'))
  | 0 => .inl ⟨rfl, fun m x _ h => by omega⟩
  | k + 1 => by
    by_cases hc : s ≤ k ∧ listed.getD k false = true ∧ (ds k).map (·.1) = some n
    · obtain ⟨c1, c2, c3⟩ := id hc
      cases hd : ds k with
      | none => rw [hd] at c3; simp at c3
      | some y =>
        rw [hd] at c3
        simp only [Option.map_some, Option.some.injEq] at c3
        exact .inr ⟨k, y.2, by rw [lastW, if_pos hc], c1, by omega, c2, by rw [hd, ← c3], fun m' x' a1 a2 => by omega⟩
    · have hno : ∀ x, s ≤ k → listed.getD k false = true → ds k ≠ some (n, x) := fun x a1 a2 a3 => hc ⟨a1, a2, by rw [a3]; rfl⟩
      rcases lastW_spec (s := s) (listed := listed) (ds := ds) (n := n) (mk := mk) k with ⟨e, h⟩ | ⟨m, x, e, h1, h2, h3, h4, h5⟩
      · refine .inl ⟨by rw [lastW, if_neg hc]; exact e, fun m x a1 a2 a3 => ?_⟩
        by_cases em : m = k
        · subst em; exact hno x a1 a3
        · exact h m x a1 (by omega) a3
      · refine .inr ⟨m, x, by rw [lastW, if_neg hc]; exact e, h1, by omega, h3, h4, fun m' x' a1 a2 a3 => ?_⟩
        by_cases em : m' = k
        · subst em; exact hno x' (by omega) a3
        · exact h5 m' x' a1 (by omega) a3

theorem lastW_no {s : Nat} {listed : Array Bool} {ds : Nat → Option (Nat × Option Blk)} {n mk b : Nat} (h : ∀ m x, s ≤ m → m < b → listed.getD m false = true → ds m ≠ some (n, x)) : lastW s listed ds n mk b = mk := by
  rcases lastW_spec (s := s) (listed := listed) (ds := ds) (n := n) (mk := mk) b with ⟨e, _⟩ | ⟨m, x, _, h1, h2, h3, h4, _⟩
  · exact e
  · exact absurd h4 (h m x h1 h2 h3)

theorem lastW_is {s : Nat} {listed : Array Bool} {ds : Nat → Option (Nat × Option Blk)} {n mk b i : Nat} {x : Option Blk} (h1 : s ≤ i) (h2 : i < b) (h3 : listed.getD i false = true) (h4 : ds i = some (n, x))
    (h : ∀ m x, i < m → m < b → listed.getD m false = true → ds m ≠ some (n, x)) : lastW s listed ds n mk b = i := by
  rcases lastW_spec (s := s) (listed := listed) (ds := ds) (n := n) (mk := mk) b with ⟨e, hno⟩ | ⟨m, x', e, k1, k2, k3, k4, k5⟩
  · exact absurd h4 (hno i x h1 h2 h3)
  · rcases Nat.lt_trichotomy m i with hlt | rfl | hgt
    · exact absurd h4 (k5 i x hlt h2 h3)
    · exact e
    · exact absurd k4 (h m x' hgt k2 k3)

theorem lastW_eq {s : Nat} {listed listed' : Array Bool} {ds : Nat → Option (Nat × Option Blk)} {n mk : Nat} : ∀ {b : Nat}, (∀ m x, s ≤ m → m < b → ds m = some (n, x) → listed'.getD m false = listed.getD m false) → lastW s listed' ds n mk b = lastW s listed ds n mk b
  | 0, _ => rfl
  | k + 1, h => by
    have ih := lastW_eq (s := s) (listed := listed) (listed' := listed') (ds := ds) (n := n) (mk := mk) (b := k) (fun m x a1 a2 => h m x a1 (by omega))
    have hsame : s ≤ k → (ds k).map (·.1) = some n → listed'.getD k false = listed.getD k false := fun a1 a3 => by
      cases hd : ds k with
      | none => rw [hd] at a3; simp at a3
      | some y =>
        rw [hd] at a3
        simp only [Option.map_some, Option.some.injEq] at a3
        exact h k y.2 a1 (by omega) (by rw [hd, ← a3])
    rw [lastW, lastW]
    by_cases hc : s ≤ k ∧ listed.getD k false = true ∧ (ds k).map (·.1) = some n
    · rw [if_pos hc, if_pos ⟨hc.1, by rw [hsame hc.1 hc.2.2]; exact hc.2.1, hc.2.2⟩]
    · rw [if_neg hc, if_neg (fun h => hc ⟨h.1, by rw [← hsame h.1 h.2.2]; exact h.2.1, h.2.2⟩)]; exact ih

theorem mayDrop_ok {bs : List Nat} {i base ib n : Nat} (h : mayDrop bs i base ib n = true) : base ≤ n ∧ (bs.getD i 0).testBit (ib + (n - base) / 4) = true ∧ ∀ k, k ≠ i → (bs.getD k 0).testBit (ib + (n - base) / 4) = true → (bs.getD k 0).testBit i = true ∨ (bs.getD i 0).testBit k = true := by
  simp only [mayDrop, Bool.and_eq_true, List.all_eq_true, List.mem_range, Bool.or_eq_true, Bool.not_eq_true'] at h
  obtain ⟨⟨h1, h2⟩, h3⟩ := h
  refine ⟨Nat.le_of_ble_eq_true h1, h2, fun k hk hb => ?_⟩
  by_cases hl : k < bs.length
  · rcases h3 k hl with ((h | h) | h) | h
    · exact absurd (Nat.eq_of_beq_eq_true h) hk
    · rw [hb] at h; simp at h
    · exact .inl h
    · exact .inr h
  · rw [List.getD_eq_getElem?_getD, List.getElem?_eq_none (by omega)] at hb
    simp at hb

def hpL (base s b : Nat) (listed : Array Bool) (h0 : Hp) (mk : Nat → Hp) (ds : Nat → Option (Nat × Option Blk)) : Hp := fun n => if n < base then h0 n else if isIn base s b listed n = true then mk (lastW s listed ds n (s + (n - base) / 4) b) n else none
def frL (base s b : Nat) (listed : Array Bool) (n : Nat) : Prop := base ≤ n ∧ isIn base s b listed n = false

/-- The state in the middle of a stretch. -/
structure Mid (E : Env) (ops : List Oper) (bs : List Nat) (s b : Nat) (sts : Nat → St) (vs : Nat → AV) (ds : Nat → Option (Nat × Option Blk)) (β0 : Nat → Loc) (Z0 : Nat → Prop) (a0 : Act) (w0 : World) (listed : Array Bool) (a : Act) (w : World) (β : Nat → Loc) (Z : Nat → Prop) : Prop where
  size : listed.size = ops.length
  lo : ∀ k, k < s → listed.getD k false = true
  hi : ∀ k, b ≤ k → listed.getD k false = false
  closed : ∀ k, listed.getD k false = true → ∀ j, (bs.getD k 0).testBit j = true → listed.getD j false = true
  left : Left E 0 (frL (sts s).nx s b listed) β0 Z0 (sts s).hp w0 β Z (hpL (sts s).nx s b listed (sts s).hp (fun j => (sts (j + 1)).hp) ds) w
  tmR : ∀ m o d, s ≤ m → m < b → listed.getD m false = true → ops[m]? = some o → o.dst = some d → RA β Z w (vs m) (a.tmps.getD d undef)
  tmK : ∀ t, (∀ m o, s ≤ m → m < b → listed.getD m false = true → ops[m]? = some o → o.dst ≠ some t) → a.tmps.getD t undef = a0.tmps.getD t undef
  tsz : a.tmps.size = a0.tmps.size
  df : a.defers = a0.defers

theorem getD_tf {l : Array Bool} {k : Nat} (h : l.getD k true = false) : l.getD k false = false ∧ k < l.size := by
  by_cases hk : k < l.size
  · simp [Array.getD, hk] at h ⊢; exact h
  · simp [Array.getD, hk] at h

theorem getD_ft {l : Array Bool} {k : Nat} (hk : k < l.size) (h : l.getD k false = false) : l.getD k true = false := by
  simp [Array.getD, hk] at h ⊢; exact h

theorem getD_tt {l : Array Bool} {k : Nat} (hk : k < l.size) (h : l.getD k true = true) : l.getD k false = true := by
  simp [Array.getD, hk] at h ⊢; exact h

theorem getD_set' {l : Array Bool} {i k : Nat} (hi : i < l.size) : (l.setIfInBounds i true).getD k false = if k = i then true else l.getD k false := by
  by_cases e : k = i
  · subst e; simp [Array.getD, hi]
  · simp [e, Array.getD_eq_getD_getElem?, Array.getElem?_setIfInBounds_ne (Ne.symm e)]

theorem name_of {base s i n : Nat} (hsi : s ≤ i) (hn : base ≤ n) : s + (n - base) / 4 = i ↔ (base + 4 * (i - s) ≤ n ∧ n < base + 4 * (i - s) + 4) := by omega

variable {ops : Array Oper} {bs : List Nat} {s b : Nat} {sts : Nat → St} {runs : Nat → Bool} {vs : Nat → AV} {ds : Nat → Option (Nat × Option Blk)} {β0 : Nat → Loc} {Z0 : Nat → Prop} {a0 : Act} {w0 : World}

theorem mid_step (hst : Stretch P E ops.toList bs s b sts runs vs ds) (hssa : ssa ops.toList bs = true) (hsd : sound ops.toList bs = true) (h0 : Sat E (sts s) β0 Z0 a0 w0) {listed : Array Bool} {a : Act} {w : World} {β : Nat → Loc} {Z : Nat → Prop}
    (hm : Mid E ops.toList bs s b sts vs ds β0 Z0 a0 w0 listed a w β Z) {i : Nat} {o : Oper} (hi1 : s ≤ i) (hi2 : i < b) (ho : ops[i]? = some o) (hun : listed.getD i true = false) (hrd : ∀ e ∈ o.after, Region.binds .any e = true → listed.getD e.on false = true) {ro : Option Nat} {Q : Exit → Act → World → Prop}
    {K : Act → World → Prop} (hK : ∀ a' w' β' Z', Mid E ops.toList bs s b sts vs ds β0 Z0 a0 w0 (listed.setIfInBounds i true) a' w' β' Z' → K a' w') : wpOpIn (Fn ro) 0 P ops Q i K a w := by
  have hoL : ops.toList[i]? = some o := by simpa using ho
  obtain ⟨hunF, hilt⟩ := getD_tf hun
  have free0 : ∀ n, (sts s).nx ≤ n → (sts s).hp n = none := fun n hn => not_known h0.heap (h0.heap.fresh n hn)
  obtain ⟨o', ho', hnb, hhas, hgd, hnext, hout, hmay, hsem, hskip⟩ := hst.at_ i hi1 hi2
  rw [hoL] at ho'; injection ho' with ho'; subst ho'
  obtain ⟨sd1, sd2, sd3⟩ := sound_ok hsd hoL
  obtain ⟨nxi, _, szi⟩ := hst.nx (k := i) hi1 (by omega)
  have nxi1 := (hst.nx (k := i + 1) (by omega) (by omega)).1
  have freei := hst.free (k := i) hi1 (by omega) free0
  -- all that comes before has been carried out
  have before : ∀ k, (bs.getD i 0).testBit k = true → listed.getD k false = true := fun k hk => by
    obtain ⟨e, he, hbd, h⟩ := sd3 k (sd1 k hk) hk
    rcases h with rfl | h
    · exact hrd e he hbd
    · exact hm.closed e.on (hrd e he hbd) k h
  -- what it looks at
  have hlook : ∀ t, RA β Z w (masked (sts i).tm (looks ops.toList o) t) (a.tmps.getD t undef) := fun t => by
    rcases masked_or (tm := (sts i).tm) (l := looks ops.toList o) (t := t) with ⟨hl, e⟩ | e
    · rw [e]
      obtain ⟨t1, t2⟩ := hst.tm hssa (k := i) hi1 (by omega) t
      by_cases hex : ∃ m om, s ≤ m ∧ m < b ∧ m ≠ i ∧ ops.toList[m]? = some om ∧ om.dst = some t
      · obtain ⟨m, om, m1, m2, m3, m4, m5⟩ := hex
        rcases (ssa_ok hssa m4 hoL m3 m5).2 hl with hb | hb
        · rw [t1 m om m1 (sd1 m hb) m4 m5]
          exact hm.tmR m om t m1 m2 (before m hb) m4 m5
        · -- it is written later, and by no other one
          have him : i < m := (sound_ok hsd m4).1 i hb
          have alone : ∀ k ok, ops.toList[k]? = some ok → ok.dst = some t → k = m := fun k ok hk hd => by
            apply Classical.byContradiction; intro hne
            exact (ssa_ok hssa m4 hk (fun e => hne e.symm) m5).1 hd
          rw [t2 (fun k ok a1 a2 a4 hd => by have := alone k ok a4 hd; omega), hm.tmK t (fun k ok a1 a2 a3 a4 hd => by
            obtain rfl := alone k ok a4 hd
            have := hm.closed k a3 i hb
            rw [hunF] at this; simp at this)]
          exact RA.mono hm.left.ev h0.heap.calm hm.left.ext (h0.tm t)
      · have hno : ∀ m om, s ≤ m → m < b → m ≠ i → ops.toList[m]? = some om → om.dst ≠ some t := fun m om a1 a2 a3 a4 a5 => hex ⟨m, om, a1, a2, a3, a4, a5⟩
        rw [t2 (fun m om a1 a2 a4 => hno m om a1 (by omega) (by omega) a4), hm.tmK t (fun m om a1 a2 a3 a4 => hno m om a1 a2 (fun e => by subst e; rw [hunF] at a3; simp at a3) a4)]
        exact RA.mono hm.left.ev h0.heap.calm hm.left.ext (h0.tm t)
    · rw [e]; trivial
  have notIn : ∀ n, (sts i).nx ≤ n → n < (sts i).nx + 4 → (sts s).nx ≤ n ∧ isIn (sts s).nx s b listed n = false := fun n h1 h2 => by
    have hb : (sts s).nx ≤ n := by omega
    have : s + (n - (sts s).nx) / 4 = i := (name_of hi1 hb).2 (by omega)
    refine ⟨hb, ?_⟩
    unfold isIn
    rw [this, hunF]; simp
  have inNew : ∀ n, (sts s).nx ≤ n → isIn (sts s).nx s b (listed.setIfInBounds i true) n = if (sts i).nx ≤ n ∧ n < (sts i).nx + 4 then true else isIn (sts s).nx s b listed n := fun n hb => by
    have hnm := name_of (base := (sts s).nx) hi1 hb
    by_cases hr : (sts i).nx ≤ n ∧ n < (sts i).nx + 4
    · rw [if_pos hr]
      have : s + (n - (sts s).nx) / 4 = i := hnm.2 (by omega)
      unfold isIn
      rw [this, getD_set' hilt]; simp [hi2]
    · rw [if_neg hr]
      have : s + (n - (sts s).nx) / 4 ≠ i := fun e => hr (by have := hnm.1 e; omega)
      unfold isIn
      rw [getD_set' hilt, if_neg this]
  have mayd : ∀ m n x, s ≤ m → m < b → ds m = some (n, x) → mayDrop bs m (sts s).nx s n = true ∧ n < (sts m).nx := fun m n x a1 a2 a3 => by
    obtain ⟨_, _, _, _, _, _, _, h, _⟩ := hst.at_ m a1 a2
    exact h n x a3
  -- the state behind it
  have fin : ∀ (val : Value) (w' : World) (β' : Nat → Loc) (Z' : Nat → Prop) (hp' : Hp), RA β' Z' w' (vs i) val → Left E 0 (fun n => frL (sts s).nx s b listed n ∧ ¬ ((sts i).nx ≤ n ∧ n < (sts i).nx + 4)) β Z (hpL (sts s).nx s b listed (sts s).hp (fun j => (sts (j + 1)).hp) ds) w β' Z' hp' w' →
      (∀ n, hp' n = if (sts i).nx ≤ n ∧ n < (sts i).nx + 4 then (sts (i + 1)).hp n else setO (ds i) (hpL (sts s).nx s b listed (sts s).hp (fun j => (sts (j + 1)).hp) ds) n) → K (a.put o.dst val) w' := by
    intro val w' β' Z' hp' hv hl hpe
    refine hK _ _ β' Z' ⟨by simp [hm.size], fun k hk => ?_, fun k hk => ?_, fun k hk j hj => ?_, ?_, fun m om d m1 m2 m3 m4 m5 => ?_, fun t ht => ?_, ?_, ?_⟩
    · rw [getD_set' hilt, if_neg (by omega)]; exact hm.lo k hk
    · rw [getD_set' hilt, if_neg (by omega)]; exact hm.hi k hk
    · rw [getD_set' hilt] at hk ⊢
      by_cases e : k = i
      · subst e
        split
        · rfl
        · exact before j hj
      · rw [if_neg e] at hk
        split
        · rfl
        · exact hm.closed k hk j hj
    · have hpeq : hpL (sts s).nx s b (listed.setIfInBounds i true) (sts s).hp (fun j => (sts (j + 1)).hp) ds = hp' := funext fun n => by
        rw [hpe n]
        by_cases hb : n < (sts s).nx
        · rw [if_neg (by omega), setO_ne (fun x e => by have := (mayDrop_ok (mayd i n x hi1 hi2 e).1).1; omega)]
          unfold hpL
          rw [if_pos hb, if_pos hb]
        · by_cases hr : (sts i).nx ≤ n ∧ n < (sts i).nx + 4
          · have hnm : s + (n - (sts s).nx) / 4 = i := (name_of hi1 (by omega)).2 (by omega)
            have hg : lastW s (listed.setIfInBounds i true) ds n i b = i := lastW_no fun m x a1 a2 a3 a4 => by
              have hbit := (mayDrop_ok (mayd m n x a1 a2 a4).1).2.1
              rw [hnm] at hbit
              rw [getD_set' hilt] at a3
              by_cases e : m = i
              · subst e; exact absurd (sd1 m hbit) (by omega)
              · rw [if_neg e] at a3
                have := hm.closed m a3 i hbit
                rw [hunF] at this; simp at this
            unfold hpL
            rw [if_neg hb, inNew n (by omega), if_pos hr, if_pos hr, if_pos rfl, hnm, hg]
          · rw [if_neg hr]
            by_cases hd : ∃ x, ds i = some (n, x)
            · obtain ⟨x, hd⟩ := hd
              rw [hd, setO_at]
              have hmd := mayDrop_ok (mayd i n x hi1 hi2 hd).1
              have hin : isIn (sts s).nx s b (listed.setIfInBounds i true) n = true := by
                rw [inNew n (by omega), if_neg hr]
                unfold isIn
                have := sd1 _ hmd.2.1
                rw [before _ hmd.2.1]; simp; omega
              have hlw : lastW s (listed.setIfInBounds i true) ds n (s + (n - (sts s).nx) / 4) b = i := lastW_is hi1 hi2 (by rw [getD_set' hilt, if_pos rfl]) hd fun m y a1 a2 a3 a4 => by
                rw [getD_set' hilt, if_neg (by omega)] at a3
                rcases hmd.2.2 m (by omega) (mayDrop_ok (mayd m n y (by omega) a2 a4).1).2.1 with h | h
                · have := hm.closed m a3 i h
                  rw [hunF] at this; simp at this
                · exact absurd (sd1 m h) (by omega)
              unfold hpL
              rw [if_neg hb, if_pos hin, hlw]
              exact hst.set hi1 hi2 hd
            · have hd' : ∀ x, ds i ≠ some (n, x) := fun x e => hd ⟨x, e⟩
              rw [setO_ne hd']
              have hgg : lastW s (listed.setIfInBounds i true) ds n (s + (n - (sts s).nx) / 4) b = lastW s listed ds n (s + (n - (sts s).nx) / 4) b := lastW_eq fun m x a1 a2 a3 => by
                rw [getD_set' hilt, if_neg (fun e => hd' x (by rw [← e]; exact a3))]
              unfold hpL
              rw [if_neg hb, if_neg hb, inNew n (by omega), if_neg hr, hgg]
      rw [hpeq]
      refine ⟨hl.sat.weaken (fun n hn => ?_), hm.left.ev.trans hl.ev hm.left.own, hm.left.ext.trans hl.ext, fun b' hb' => ?_, fun b' hb' => ?_⟩
      · obtain ⟨h1, h2⟩ := hn
        rw [inNew n h1] at h2
        split at h2
        · simp at h2
        · rename_i hr; exact ⟨⟨h1, h2⟩, hr⟩
      · rcases hl.own b' hb' with h | h
        · exact hm.left.own b' h
        · exact .inr (Nat.le_trans hm.left.ev.size h)
      · rcases hl.zown b' hb' with h | h | h
        · exact hm.left.zown b' h
        · exact .inr (hm.left.own b' h)
        · exact .inr (.inr (Nat.le_trans hm.left.ev.size h))
    · rw [getD_put]
      rw [getD_set' hilt] at m3
      by_cases e : m = i
      · subst e
        rw [hoL] at m4; injection m4 with m4; subst m4
        have hlt : d < a.tmps.size := by
          rw [hm.tsz, h0.sz, ← szi]
          rw [m5] at hhas
          exact Nat.le_of_ble_eq_true hhas
        rw [if_pos ⟨m5, hlt⟩]; exact hv
      · rw [if_neg e] at m3
        have := (ssa_ok hssa m4 hoL e m5).1
        rw [if_neg (fun hh => this hh.1)]
        exact RA.mono hl.ev hm.left.sat.calm hl.ext (hm.tmR m om d m1 m2 m3 m4 m5)
    · have h1 := ht i o hi1 hi2 (by rw [getD_set' hilt, if_pos rfl]) hoL
      rw [getD_put, if_neg (fun hh => h1 hh.1)]
      exact hm.tmK t (fun m om a1 a2 a3 a4 => ht m om a1 a2 (by rw [getD_set' hilt]; split; rfl; exact a3) a4)
    · have : (a.put o.dst val).tmps.size = a.tmps.size := by cases o.dst <;> simp [Act.put]
      rw [this]; exact hm.tsz
    · rw [← hm.df]; cases o.dst <;> rfl
  -- wanted, or not
  have hwant : Region.wanted o (yielded ops a.tmps) = runs i := by
    rcases hgd with ⟨hg, hr⟩ | ⟨j, want, d, t, hg, hd, ht, hr⟩ | ⟨j, want, d, hg, hd, ht, hr⟩
    · rw [hr]; simp [Region.wanted, hg]
    · have hdl : d ∈ looks ops.toList o := List.mem_append_right _ (by rw [hg]; simp [hd])
      have hb := hlook d
      rw [masked_mem hdl] at hb
      rw [hr]; exact wanted_of hg hd (truth_ok hb ht)
    · have hdl : d ∈ looks ops.toList o := List.mem_append_right _ (by rw [hg]; simp [hd])
      have hb := hlook d
      rw [masked_mem hdl, ht] at hb
      rw [hr]; exact wanted_skip hg hd (ra_skip_eq hb)
  unfold wpOpIn
  rw [ho]
  simp only [hwant]
  cases hrun : runs i with
  | true =>
    rw [if_pos rfl]
    refine Oper.wpIn_mono (fun a' w' hp => ?_) (hsem hrun ro (frL (sts s).nx s b listed) β Z _ w a Q hm.left.sat (fun n h1 h2 => notIn n h1 h2) (fun n blk hn => ?_) hlook)
    · obtain ⟨val, β', Z', rfl, hv, hl⟩ := hp
      exact fin val w' β' Z' _ hv hl (fun _ => rfl)
    · unfold maskHp at hn
      unfold hpL
      split at hn
      · rename_i hlt
        have hlt' : n < (sts s).nx := Nat.le_of_ble_eq_true hlt
        rw [if_pos hlt', ← hst.hp (k := s) (Nat.le_refl _) (k' := i) hi1 (by omega) n hlt' (fun m x a1 a2 a3 => by have := (mayDrop_ok (mayd m n x a1 (by omega) a3).1).1; omega)]; exact hn
      · rename_i hge
        have hge' : ¬ n < (sts s).nx := fun h => by rw [show Nat.blt n (sts s).nx = true from Nat.ble_eq_true_of_le h] at hge; simp at hge
        rw [if_neg hge']
        split at hn
        · rename_i hbit
          have hlt := sd1 _ hbit
          have hin : isIn (sts s).nx s b listed n = true := by
            unfold isIn
            rw [before _ hbit]; simp; omega
          have hj : (n - (sts s).nx) / 4 + s < i := by omega
          have nxj := (hst.nx (k := s + (n - (sts s).nx) / 4 + 1) (by omega) (by omega)).1
          have later : ∀ m x, s ≤ m → m < b → ds m = some (n, x) → s + (n - (sts s).nx) / 4 + 1 ≤ m := fun m x a1 a2 a3 => by
            have h1 := (mayd m n x a1 a2 a3).2
            have h2 := (hst.nx (k := m) a1 (by omega)).1
            omega
          -- who writes it ahead of this one has been carried out; who writes it behind has not
          have lst : ∀ m x, s ≤ m → m < b → ds m = some (n, x) → (m < i → listed.getD m false = true) ∧ (listed.getD m false = true → m < i) := fun m x a1 a2 a3 => by
            have hmi : listed.getD m false = true → m ≠ i := fun h e => by subst e; rw [hunF] at h; simp at h
            have ord : m ≠ i → (bs.getD i 0).testBit m = true ∨ (bs.getD m 0).testBit i = true := fun e => (mayDrop_ok (mayd m n x a1 a2 a3).1).2.2 i (fun e' => e e'.symm) hbit
            refine ⟨fun hlt => ?_, fun hl => ?_⟩
            · rcases ord (by omega) with h | h
              · exact before m h
              · obtain ⟨om, hom, _⟩ := hst.at_ m a1 a2
                exact absurd ((sound_ok hsd hom).1 i h) (by omega)
            · rcases ord (hmi hl) with h | h
              · exact sd1 m h
              · have := hm.closed m hl i h
                rw [hunF] at this; simp at this
          rw [if_pos hin]
          rcases lastW_spec (s := s) (listed := listed) (ds := ds) (n := n) (mk := s + (n - (sts s).nx) / 4) b with ⟨e, hno⟩ | ⟨m, x, e, k1, k2, k3, k4, k5⟩
          · rw [e]
            exact (hst.hp (k := s + (n - (sts s).nx) / 4 + 1) (by omega) (k' := i) (by omega) (by omega) n (by omega) (fun m x a1 a2 a3 => hno m x (by omega) (by omega) ((lst m x (by omega) (by omega) a3).1 a2) a3)).symm.trans hn
          · rw [e]
            have hlt := (lst m x k1 k2 k4).2 k3
            have nxm := (hst.nx (k := m + 1) (by omega) (by omega)).1
            have hn1 := (mayd m n x k1 k2 k4).2
            have nxm0 := (hst.nx (k := m) (by omega) (by omega)).1
            exact (hst.hp (k := m + 1) (by omega) (k' := i) (by omega) (by omega) n (by omega) (fun m' x' a1 a2 a3 => k5 m' x' (by omega) (by omega) ((lst m' x' (by omega) (by omega) a3).1 a2) a3)).symm.trans hn
        · simp at hn
  | false =>
    rw [if_neg (by simp)]
    obtain ⟨hv, hhp, hD⟩ := hskip hrun
    refine ⟨fun _ _ => trivial, fin undef w β Z _ (by rw [hv]; exact ra_skip) (Left.same hm.left.sat (fun n hn => hn.1)) (fun n => ?_)⟩
    split
    · rename_i hr
      obtain ⟨h1, h2⟩ := notIn n hr.1 hr.2
      rw [hhp, freei n hr.1]
      unfold hpL
      rw [if_neg (by omega), if_neg (by rw [h2]; simp)]
    · rw [hD]; rfl

/-- A stretch is over. -/
theorem mid_end (hst : Stretch P E ops.toList bs s b sts runs vs ds) (hssa : ssa ops.toList bs = true) (h0 : Sat E (sts s) β0 Z0 a0 w0) {listed : Array Bool} {a : Act} {w : World} {β : Nat → Loc} {Z : Nat → Prop}
    (hm : Mid E ops.toList bs s b sts vs ds β0 Z0 a0 w0 listed a w β Z) (hall : ∀ k, k < b → listed.getD k false = true) :
    Sat E (sts b) β Z a w ∧ Turn (HS.of (sts s) β0 Z0 w0) (HS.of (sts b) β Z w) ∧ (∀ t, (∀ o ∈ ops.toList, o.dst ≠ some t) → a.tmps.getD t undef = a0.tmps.getD t undef) := by
  obtain ⟨nxb, wlb, szb⟩ := hst.nx (k := b) hst.sb (Nat.le_refl _)
  have hb := hst.sb
  have mayd : ∀ m n x, s ≤ m → m < b → ds m = some (n, x) → mayDrop bs m (sts s).nx s n = true ∧ n < (sts m).nx := fun m n x a1 a2 a3 => by
    obtain ⟨_, _, _, _, _, _, _, h, _⟩ := hst.at_ m a1 a2
    exact h n x a3
  have keep : ∀ n, n < (sts s).nx → (sts b).hp n = (sts s).hp n := fun n hn =>
    hst.hp (k := s) (Nat.le_refl _) (k' := b) hb (Nat.le_refl _) n hn fun m x a1 a2 a3 => by have := (mayDrop_ok (mayd m n x a1 a2 a3).1).1; omega
  have hhp : hpL (sts s).nx s b listed (sts s).hp (fun j => (sts (j + 1)).hp) ds = (sts b).hp := funext fun n => by
    unfold hpL
    by_cases hn : n < (sts s).nx
    · rw [if_pos hn]; exact (keep n hn).symm
    · rw [if_neg hn]
      by_cases hin : isIn (sts s).nx s b listed n = true
      · rw [if_pos hin]
        have hjb : s + (n - (sts s).nx) / 4 < b := by
          unfold isIn at hin
          simp only [Bool.and_eq_true, decide_eq_true_eq] at hin
          exact hin.1
        have nxj := (hst.nx (k := s + (n - (sts s).nx) / 4 + 1) (by omega) (by omega)).1
        rcases lastW_spec (s := s) (listed := listed) (ds := ds) (n := n) (mk := s + (n - (sts s).nx) / 4) b with ⟨e, hno⟩ | ⟨m, x, e, k1, k2, k3, k4, k5⟩
        · rw [e]
          exact (hst.hp (k := s + (n - (sts s).nx) / 4 + 1) (by omega) (k' := b) (by omega) (Nat.le_refl _) n (by omega) (fun m x a1 a2 a3 => hno m x (by omega) (by omega) (hall m a2) a3)).symm
        · rw [e]
          have nxm := (hst.nx (k := m + 1) (by omega) (by omega)).1
          have hn1 := (mayd m n x k1 k2 k4).2
          have nxm0 := (hst.nx (k := m) (by omega) (by omega)).1
          exact (hst.hp (k := m + 1) (by omega) (k' := b) (by omega) (Nat.le_refl _) n (by omega) (fun m' x' a1 a2 a3 => k5 m' x' (by omega) (by omega) (hall m' a2) a3)).symm
      · rw [if_neg hin]
        refine (hst.top n ?_).symm
        apply Nat.le_of_not_lt
        intro hlt
        apply hin
        unfold isIn
        rw [hall _ (by omega)]; simp; omega
  have hleft := hm.left
  rw [hhp] at hleft
  refine ⟨⟨hleft.sat.weaken (fun n hn => ⟨by omega, ?_⟩), fun t => ?_, by rw [hm.tsz, h0.sz, szb]⟩, ⟨hleft.ev, hleft.ext, hleft.own, hleft.zown, by show (sts s).nx ≤ (sts b).nx; omega, fun n hn => by show n ∈ (sts b).wl; rw [wlb]; exact hn, fun n hn _ => keep n hn⟩, fun t ht => hm.tmK t (fun m o _ _ _ ho => ht o (List.mem_of_getElem? ho))⟩
  · unfold isIn
    have : ¬ s + (n - (sts s).nx) / 4 < b := by omega
    simp [this]
  · obtain ⟨t1, t2⟩ := hst.tm hssa (k := b) hb (Nat.le_refl _) t
    by_cases hex : ∃ m om, s ≤ m ∧ m < b ∧ ops.toList[m]? = some om ∧ om.dst = some t
    · obtain ⟨m, om, m1, m2, m3, m4⟩ := hex
      rw [t1 m om m1 m2 m3 m4]
      exact hm.tmR m om t m1 m2 (hall m m2) m3 m4
    · have hno : ∀ m om, s ≤ m → m < b → ops.toList[m]? = some om → om.dst ≠ some t := fun m om a1 a2 a4 a5 => hex ⟨m, om, a1, a2, a4, a5⟩
      rw [t2 hno, hm.tmK t (fun m om a1 a2 _ a4 => hno m om a1 a2 a4)]
      exact RA.mono hleft.ev h0.heap.calm hleft.ext (h0.tm t)

/-- The state at a stretch's beginning. -/
theorem mid_start (hst : Stretch P E ops.toList bs s b sts runs vs ds) (h0 : Sat E (sts s) β0 Z0 a0 w0) {listed : Array Bool} (hsz : listed.size = ops.toList.length) (hlo : ∀ k, k < s → listed.getD k false = true) (hhi : ∀ k, s ≤ k → listed.getD k false = false)
    (hcl : ∀ k, listed.getD k false = true → ∀ j, (bs.getD k 0).testBit j = true → listed.getD j false = true) : Mid E ops.toList bs s b sts vs ds β0 Z0 a0 w0 listed a0 w0 β0 Z0 := by
  have free0 : ∀ n, (sts s).nx ≤ n → (sts s).hp n = none := fun n hn => not_known h0.heap (h0.heap.fresh n hn)
  have notIn : ∀ n, isIn (sts s).nx s b listed n = false := fun n => by
    unfold isIn
    rw [hhi _ (Nat.le_add_right _ _)]; simp
  have hhp : hpL (sts s).nx s b listed (sts s).hp (fun j => (sts (j + 1)).hp) ds = (sts s).hp := funext fun n => by
    unfold hpL
    by_cases hn : n < (sts s).nx
    · rw [if_pos hn]
    · rw [if_neg hn, notIn n, if_neg (by simp), free0 n (by omega)]
  have hsb := hst.sb
  refine ⟨hsz, hlo, fun k hk => hhi k (by omega), hcl, ?_, fun m o d m1 m2 m3 => by rw [hhi m m1] at m3; simp at m3, fun _ _ => rfl, rfl, rfl⟩
  rw [hhp]
  exact Left.same h0.heap (fun n hn => hn.1)
end
end Go.Sx
