/- Texts for the law of the last part, part 8. -/
import Derived.Test.YtpigkgoooekcgaaTopEqualsP07
set_option linter.unusedSimpArgs false
set_option linter.unusedVariables false
namespace Go.Sx
section
variable {P : Program} {E : Env} {inl : CallVC} {yld : YieldVC}
structure Stretch (P : Program) (E : Env) (ops : List Oper) (bs : List Nat) (W : List (Nat × List Nat)) (s b : Nat) (sts : Nat → St) (runs : Nat → Bool) (vs : Nat → AV) (ds : Nat → Option (Nat × Option Blk)) : Prop where
 sb : s ≤ b
 len : b ≤ ops.length
 at_ : ∀ k, s ≤ k → k < b → SegAt P E ops bs W (sts s).nx s k (sts k) (sts (k + 1)) (runs k) (vs k) (ds k)
 top : ∀ n, (sts b).nx ≤ n → (sts b).hp n = none
section
variable {ops : List Oper} {bs : List Nat} {W : List (Nat × List Nat)} {s b : Nat} {sts : Nat → St} {runs : Nat → Bool} {vs : Nat → AV} {ds : Nat → Option (Nat × Option Blk)}
theorem setO_ne {D : Option (Nat × Option Blk)} {hp : Hp} {n : Nat} (h : ∀ x, D ≠ some (n, x)) : setO D hp n = hp n := by
 cases D with
 | none => rfl
 | some m => exact upd_ne _ _ (fun e => h m.2 (by rw [e]))
theorem setO_at {hp : Hp} {n : Nat} {x : Option Blk} : setO (some (n, x)) hp n = x := upd_same _ _ _
theorem Stretch.next (h : Stretch P E ops bs W s b sts runs vs ds) {k : Nat} (h1 : s ≤ k) (h2 : k < b) : ∃ o, ops[k]? = some o ∧ (sts (k + 1)).nx = (sts k).nx + 4 ∧ (sts (k + 1)).wl = wlO (ds k) (sts k).wl ∧ (sts (k + 1)).sz = (sts k).sz ∧
   (sts (k + 1)).tm = (match o.dst with | some d => upd (sts k).tm d (vs k) | none => (sts k).tm) := by
 obtain ⟨o, ho, _, _, _, he, _⟩ := h.at_ k h1 h2
 exact ⟨o, ho, by rw [he]; rfl, by rw [he]; rfl, by rw [he]; rfl, by rw [he]; rfl⟩
theorem Stretch.nx (h : Stretch P E ops bs W s b sts runs vs ds) : ∀ {k : Nat}, s ≤ k → k ≤ b → (sts k).nx = (sts s).nx + 4 * (k - s) ∧ ((∀ n ∈ (sts s).wl, n ∈ (sts k).wl) ∧ ∀ m n x, s ≤ m → m < k → ds m = some (n, x) → n ∈ (sts k).wl) ∧ (sts k).sz = (sts s).sz
 | 0, h1, _ => by obtain rfl : s = 0 := by omega
                  exact ⟨by simp, ⟨fun n h => h, fun m n x h1 h2 => absurd h2 (Nat.not_lt_zero m)⟩, rfl⟩
 | k + 1, h1, h2 => by
   by_cases e : s = k + 1
   · subst e; exact ⟨by simp, ⟨fun n h => h, fun m n x h1 h2 => by omega⟩, rfl⟩
   · obtain ⟨a1, ⟨a2, a4⟩, a3⟩ := h.nx (k := k) (by omega) (by omega)
     obtain ⟨o, _, b1, b2, b3, _⟩ := h.next (k := k) (by omega) (by omega)
     have up : ∀ n, n ∈ (sts k).wl → n ∈ (sts (k + 1)).wl := fun n hn => by
       rw [b2]; unfold wlO; split
       · exact List.mem_cons_of_mem _ hn
       · exact hn
     refine ⟨by rw [b1, a1]; omega, ⟨fun n hn => up n (a2 n hn), fun m n x m1 m2 hd => ?_⟩, by rw [b3, a3]⟩
     by_cases em : m = k
     · subst em
       rw [b2, hd]; exact List.mem_cons_self
     · exact up n (a4 m n x m1 (by omega) hd)
theorem Stretch.hp (h : Stretch P E ops bs W s b sts runs vs ds) {k : Nat} (h1 : s ≤ k) : ∀ {k' : Nat}, k ≤ k' → k' ≤ b → ∀ n, n < (sts k).nx →
   (∀ m x, k ≤ m → m < k' → ds m ≠ some (n, x)) → (sts k').hp n = (sts k).hp n
 | 0, h2, h3, n, hn, _ => by obtain rfl : k = 0 := by omega
                             rfl
 | k' + 1, h2, h3, n, hn, hno => by
   by_cases e : k = k' + 1
   · subst e; rfl
   · have i1 := h.hp h1 (k' := k') (by omega) (by omega) n hn (fun m x a1 a2 => hno m x a1 (by omega))
     obtain ⟨o, _, _, _, _, _, hout, _⟩ := h.at_ k' (by omega) (by omega)
     have e1 := (h.nx (k := k) h1 (by omega)).1
     have e2 := (h.nx (k := k') (by omega) (by omega)).1
     rw [hout n (by omega), setO_ne (fun x => hno k' x (by omega) (by omega))]; exact i1
theorem Stretch.set (h : Stretch P E ops bs W s b sts runs vs ds) {m : Nat} (h1 : s ≤ m) (h2 : m < b) {n : Nat} {x : Option Blk} (hd : ds m = some (n, x)) : (sts (m + 1)).hp n = x := by
 obtain ⟨o, _, _, _, _, _, hout, hm, _⟩ := h.at_ m h1 h2
 have := (hm n x hd).2
 rw [hout n (by omega), hd]; exact setO_at
theorem Stretch.free (h : Stretch P E ops bs W s b sts runs vs ds) {k : Nat} (h1 : s ≤ k) (h2 : k ≤ b) (hs : ∀ n, (sts s).nx ≤ n → (sts s).hp n = none) : ∀ n, (sts k).nx ≤ n → (sts k).hp n = none := by
 obtain ⟨j, rfl⟩ : ∃ j, k = s + j := ⟨k - s, by omega⟩
 clear h1
 induction j with
 | zero => exact hs
 | succ j ih =>
   intro n hn
   have ih := ih (by omega)
   obtain ⟨o, _, _, _, _, he, hout, hm, _⟩ := h.at_ (s + j) (by omega) (by omega)
   have e1 := (h.nx (k := s + j) (by omega) (by omega)).1
   have e2 := (h.nx (k := s + (j + 1)) (by omega) (by omega)).1
   rw [show s + (j + 1) = s + j + 1 by omega] at *
   rw [hout n (by omega), setO_ne (fun x e => by have := (hm n x e).2; omega)]
   exact ih n (by omega)
theorem Stretch.tm (h : Stretch P E ops bs W s b sts runs vs ds) (hssa : ssa ops bs = true) : ∀ {k : Nat}, s ≤ k → k ≤ b → ∀ t, (∀ m o, s ≤ m → m < k → ops[m]? = some o → o.dst = some t → (sts k).tm t = vs m) ∧ ((∀ m o, s ≤ m → m < k → ops[m]? = some o → o.dst ≠ some t) → (sts k).tm t = (sts s).tm t)
 | 0, h1, _, t => by obtain rfl : s = 0 := by omega
                     exact ⟨fun m o h1 h2 => by omega, fun _ => rfl⟩
 | k + 1, h1, h2, t => by
   by_cases e : s = k + 1
   · subst e; exact ⟨fun m o h1 h2 => by omega, fun _ => rfl⟩
   · obtain ⟨i1, i2⟩ := h.tm hssa (k := k) (by omega) (by omega) t
     obtain ⟨o, ho, _, _, _, htm⟩ := h.next (k := k) (by omega) (by omega)
     refine ⟨fun m om hm1 hm2 hom hd => ?_, fun hno => ?_⟩
     · by_cases em : m = k
       · subst em
         rw [ho] at hom; injection hom with hom; subst hom
         rw [htm, hd]; simp only; rw [upd_same]
       · have := (ssa_ok hssa hom ho em hd).1
         have h3 := i1 m om hm1 (by omega) hom hd
         rw [htm]
         cases hd2 : o.dst with
         | none => exact h3
         | some d =>
           have hne : t ≠ d := fun e => this (by rw [hd2, e])
           simp only; rw [upd_ne _ _ hne]; exact h3
     · have h3 := i2 (fun m om a1 a2 => hno m om a1 (by omega))
       have h4 := hno k o (by omega) (by omega) ho
       rw [htm]
       cases hd2 : o.dst with
       | none => exact h3
       | some d =>
         have hne : t ≠ d := fun e => h4 (by rw [hd2, e])
         simp only; rw [upd_ne _ _ hne]; exact h3
end
def isIn (base s b : Nat) (listed : Array Bool) (n : Nat) : Bool := decide (s + (n - base) / 4 < b) && listed.getD (s + (n - base) / 4) false
def lastW (s : Nat) (listed : Array Bool) (ds : Nat → Option (Nat × Option Blk)) (n : Nat) : Nat → Option Nat
 | 0 => none
 | k + 1 => if s ≤ k ∧ listed.getD k false = true ∧ (ds k).map (·.1) = some n then some k else lastW s listed ds n k
theorem lastW_spec {s : Nat} {listed : Array Bool} {ds : Nat → Option (Nat × Option Blk)} {n : Nat} : ∀ b, (lastW s listed ds n b = none ∧ ∀ m x, s ≤ m → m < b → listed.getD m false = true → ds m ≠ some (n, x)) ∨
   (∃ m x, lastW s listed ds n b = some m ∧ s ≤ m ∧ m < b ∧ listed.getD m false = true ∧ ds m = some (n, x) ∧ ∀ m' x', m < m' → m' < b → listed.getD m' false = true → ds m' ≠ some (n, x'))
 | 0 => .inl ⟨rfl, fun m x _ h => by omega⟩
 | k + 1 => by
   by_cases hc : s ≤ k ∧ listed.getD k false = true ∧ (ds k).map (·.1) = some n
   · obtain ⟨c1, c2, c3⟩ := id hc
     cases hd : ds k with
     | none => rw [hd] at c3; simp at c3
     | some y =>
       rw [hd] at c3
       simp only [Option.map_some, Option.some.injEq] at c3
       exact .inr ⟨k, y.2, by rw [lastW, if_pos hc], c1, by omega, c2, by rw [hd, ← c3], fun m' x' a1 a2 => by omega⟩
   · have hno : ∀ x, s ≤ k → listed.getD k false = true → ds k ≠ some (n, x) := fun x a1 a2 a3 => hc ⟨a1, a2, by rw [a3]; rfl⟩
     rcases lastW_spec (s := s) (listed := listed) (ds := ds) (n := n) k with ⟨e, h⟩ | ⟨m, x, e, h1, h2, h3, h4, h5⟩
     · refine .inl ⟨by rw [lastW, if_neg hc]; exact e, fun m x a1 a2 a3 => ?_⟩
       by_cases em : m = k
       · subst em; exact hno x a1 a3
       · exact h m x a1 (by omega) a3
     · refine .inr ⟨m, x, by rw [lastW, if_neg hc]; exact e, h1, by omega, h3, h4, fun m' x' a1 a2 a3 => ?_⟩
       by_cases em : m' = k
       · subst em; exact hno x' (by omega) a3
       · exact h5 m' x' a1 (by omega) a3
theorem lastW_no {s : Nat} {listed : Array Bool} {ds : Nat → Option (Nat × Option Blk)} {n b : Nat} (h : ∀ m x, s ≤ m → m < b → listed.getD m false = true → ds m ≠ some (n, x)) : lastW s listed ds n b = none := by
 rcases lastW_spec (s := s) (listed := listed) (ds := ds) (n := n) b with ⟨e, _⟩ | ⟨m, x, _, h1, h2, h3, h4, _⟩
 · exact e
 · exact absurd h4 (h m x h1 h2 h3)
theorem lastW_is {s : Nat} {listed : Array Bool} {ds : Nat → Option (Nat × Option Blk)} {n b i : Nat} {x : Option Blk} (h1 : s ≤ i) (h2 : i < b) (h3 : listed.getD i false = true) (h4 : ds i = some (n, x))
   (h : ∀ m x, i < m → m < b → listed.getD m false = true → ds m ≠ some (n, x)) : lastW s listed ds n b = some i := by
 rcases lastW_spec (s := s) (listed := listed) (ds := ds) (n := n) b with ⟨e, hno⟩ | ⟨m, x', e, k1, k2, k3, k4, k5⟩
 · exact absurd h4 (hno i x h1 h2 h3)
 · rcases Nat.lt_trichotomy m i with hlt | rfl | hgt
   · exact absurd h4 (k5 i x hlt h2 h3)
   · exact e
   · exact absurd k4 (h m x' hgt k2 k3)
theorem lastW_eq {s : Nat} {listed listed' : Array Bool} {ds : Nat → Option (Nat × Option Blk)} {n : Nat} : ∀ {b : Nat}, (∀ m x, s ≤ m → m < b → ds m = some (n, x) → listed'.getD m false = listed.getD m false) → lastW s listed' ds n b = lastW s listed ds n b
 | 0, _ => rfl
 | k + 1, h => by
   have ih := lastW_eq (s := s) (listed := listed) (listed' := listed') (ds := ds) (n := n) (b := k) (fun m x a1 a2 => h m x a1 (by omega))
   have hsame : s ≤ k → (ds k).map (·.1) = some n → listed'.getD k false = listed.getD k false := fun a1 a3 => by
     cases hd : ds k with
     | none => rw [hd] at a3; simp at a3
     | some y =>
       rw [hd] at a3
       simp only [Option.map_some, Option.some.injEq] at a3
       exact h k y.2 a1 (by omega) (by rw [hd, ← a3])
   rw [lastW, lastW]
   by_cases hc : s ≤ k ∧ listed.getD k false = true ∧ (ds k).map (·.1) = some n
   · rw [if_pos hc, if_pos ⟨hc.1, by rw [hsame hc.1 hc.2.2]; exact hc.2.1, hc.2.2⟩]
   · rw [if_neg hc, if_neg (fun h => hc ⟨h.1, by rw [← hsame h.1 h.2.2]; exact h.2.1, h.2.2⟩)]; exact ih
theorem blt_iff {a b : Nat} : Nat.blt a b = true ↔ a < b := ⟨Nat.le_of_ble_eq_true, Nat.ble_eq_true_of_le⟩
theorem blt_no {a b : Nat} (h : ¬ a < b) : Nat.blt a b = false := by
 cases e : Nat.blt a b with
 | true => exact absurd (blt_iff.1 e) h
 | false => rfl
theorem sees_new {bs : List Nat} {W : List (Nat × List Nat)} {base ib k n : Nat} (h : ¬ n < base) : sees bs W base ib k n = (bs.getD k 0).testBit (ib + (n - base) / 4) := by
 unfold sees; rw [blt_no h]
theorem mayDrop_ok {bs : List Nat} {W : List (Nat × List Nat)} {i base ib n : Nat} (h : mayDrop bs W i base ib n = true) : sees bs W base ib i n = true ∧ ∀ k, k ≠ i → sees bs W base ib k n = true → (bs.getD k 0).testBit i = true ∨ (bs.getD i 0).testBit k = true := by
 unfold mayDrop at h
 rw [Bool.and_eq_true] at h
 refine ⟨h.1, fun k hk hs => ?_⟩
 have h2 := h.2
 by_cases hb : n < base
 · rw [blt_iff.2 hb] at h2
   unfold sees at hs
   rw [blt_iff.2 hb] at hs
   simp only at h2 hs
   split at h2
   · rename_i ws hw
     rw [hw] at hs
     simp only [List.all_eq_true, List.any_eq_true] at h2 hs
     obtain ⟨j, hj, e⟩ := h2
     have e := Nat.eq_of_beq_eq_true e
     subst e
     have := hs i hj
     rw [Bool.or_eq_true] at this
     rcases this with h | h
     · exact absurd (Nat.eq_of_beq_eq_true h).symm hk
     · unfold ordered at h
       rw [Bool.or_eq_true] at h; exact h
   · cases h2
 · rw [blt_no hb] at h2
   rw [sees_new hb] at hs
   simp only [List.all_eq_true, List.mem_range] at h2
   by_cases hl : k < bs.length
   · have := h2 k hl
     simp only [Bool.or_eq_true, Bool.not_eq_true'] at this
     rcases this with (h | h) | h
     · exact absurd (Nat.eq_of_beq_eq_true h) hk
     · rw [hs] at h; cases h
     · unfold ordered at h
       rw [Bool.or_eq_true] at h; exact h
   · rw [List.getD_eq_getElem?_getD, List.getElem?_eq_none (by omega)] at hs
     simp at hs
def hpL (base s b : Nat) (listed : Array Bool) (h0 : Hp) (mk : Nat → Hp) (ds : Nat → Option (Nat × Option Blk)) : Hp := fun n => match lastW s listed ds n b with
 | some m => mk m n
 | none => if n < base then h0 n else if isIn base s b listed n = true then mk (s + (n - base) / 4) n else none
def frL (base s b : Nat) (listed : Array Bool) (n : Nat) : Prop := base ≤ n ∧ isIn base s b listed n = false
structure Mid (E : Env) (ops : List Oper) (bs : List Nat) (s b : Nat) (sts : Nat → St) (vs : Nat → AV) (ds : Nat → Option (Nat × Option Blk)) (β0 : Nat → Loc) (Z0 : Nat → Prop) (a0 : Act) (w0 : World) (listed : Array Bool) (a : Act) (w : World) (β : Nat → Loc) (Z : Nat → Prop) : Prop where
 size : listed.size = ops.length
 lo : ∀ k, k < s → listed.getD k false = true
 hi : ∀ k, b ≤ k → listed.getD k false = false
 closed : ∀ k, listed.getD k false = true → ∀ j, (bs.getD k 0).testBit j = true → listed.getD j false = true
 left : Left E 0 (frL (sts s).nx s b listed) β0 Z0 (sts s).hp w0 β Z (hpL (sts s).nx s b listed (sts s).hp (fun j => (sts (j + 1)).hp) ds) w
 tmR : ∀ m o d, s ≤ m → m < b → listed.getD m false = true → ops[m]? = some o → o.dst = some d → RA β Z w (vs m) (a.tmps.getD d undef)
 tmK : ∀ t, (∀ m o, s ≤ m → m < b → listed.getD m false = true → ops[m]? = some o → o.dst ≠ some t) → a.tmps.getD t undef = a0.tmps.getD t undef
 tsz : a.tmps.size = a0.tmps.size
 df : a.defers = a0.defers
theorem getD_tf {l : Array Bool} {k : Nat} (h : l.getD k true = false) : l.getD k false = false ∧ k < l.size := by
 by_cases hk : k < l.size
 · simp [Array.getD, hk] at h ⊢; exact h
 · simp [Array.getD, hk] at h
theorem getD_ft {l : Array Bool} {k : Nat} (hk : k < l.size) (h : l.getD k false = false) : l.getD k true = false := by
 simp [Array.getD, hk] at h ⊢; exact h
theorem getD_tt {l : Array Bool} {k : Nat} (hk : k < l.size) (h : l.getD k true = true) : l.getD k false = true := by
 simp [Array.getD, hk] at h ⊢; exact h
theorem getD_set' {l : Array Bool} {i k : Nat} (hi : i < l.size) : (l.setIfInBounds i true).getD k false = if k = i then true else l.getD k false := by
 by_cases e : k = i
 · subst e; simp [Array.getD, hi]
 · simp [e, Array.getD_eq_getD_getElem?, Array.getElem?_setIfInBounds_ne (Ne.symm e)]
theorem name_of {base s i n : Nat} (hsi : s ≤ i) (hn : base ≤ n) : s + (n - base) / 4 = i ↔ (base + 4 * (i - s) ≤ n ∧ n < base + 4 * (i - s) + 4) := by omega
variable {ops : Array Oper} {bs : List Nat} {W : List (Nat × List Nat)} {s b : Nat} {sts : Nat → St} {runs : Nat → Bool} {vs : Nat → AV} {ds : Nat → Option (Nat × Option Blk)} {β0 : Nat → Loc} {Z0 : Nat → Prop} {a0 : Act} {w0 : World}
theorem mid_step (hst : Stretch P E ops.toList bs W s b sts runs vs ds) (hssa : ssa ops.toList bs = true) (hsd : sound ops.toList bs = true) (h0 : Sat E (sts s) β0 Z0 a0 w0) {listed : Array Bool} {a : Act} {w : World} {β : Nat → Loc} {Z : Nat → Prop}
   (hm : Mid E ops.toList bs s b sts vs ds β0 Z0 a0 w0 listed a w β Z) {i : Nat} {o : Oper} (hi1 : s ≤ i) (hi2 : i < b) (ho : ops[i]? = some o) (hun : listed.getD i true = false) (hrd : ∀ e ∈ o.after, Region.binds .any e = true → listed.getD e.on false = true) {ro : Option Nat} {Q : Exit → Act → World → Prop}
   {K : Act → World → Prop} (hK : ∀ a' w' β' Z', Mid E ops.toList bs s b sts vs ds β0 Z0 a0 w0 (listed.setIfInBounds i true) a' w' β' Z' → K a' w') : wpOpIn (Fn ro) 0 P ops Q i K a w := by
 have hoL : ops.toList[i]? = some o := by simpa using ho
 obtain ⟨hunF, hilt⟩ := getD_tf hun
 have free0 : ∀ n, (sts s).nx ≤ n → (sts s).hp n = none := fun n hn => not_known h0.heap (h0.heap.fresh n hn)
 obtain ⟨o', ho', hnb, hhas, hgd, hnext, hout, hmay, hsem, hskip⟩ := hst.at_ i hi1 hi2
 rw [hoL] at ho'; injection ho' with ho'; subst ho'
 obtain ⟨sd1, sd2, sd3⟩ := sound_ok hsd hoL
 obtain ⟨nxi, _, szi⟩ := hst.nx (k := i) hi1 (by omega)
 have nxi1 := (hst.nx (k := i + 1) (by omega) (by omega)).1
 have freei := hst.free (k := i) hi1 (by omega) free0
 have before : ∀ k, (bs.getD i 0).testBit k = true → listed.getD k false = true := fun k hk => by
   obtain ⟨e, he, hbd, h⟩ := sd3 k (sd1 k hk) hk
   rcases h with rfl | h
   · exact hrd e he hbd
   · exact hm.closed e.on (hrd e he hbd) k h
 have hlook : ∀ t, RA β Z w (masked (sts i).tm (looks ops.toList o) t) (a.tmps.getD t undef) := fun t => by
   rcases masked_or (tm := (sts i).tm) (l := looks ops.toList o) (t := t) with ⟨hl, e⟩ | e
   · rw [e]
     obtain ⟨t1, t2⟩ := hst.tm hssa (k := i) hi1 (by omega) t
     by_cases hex : ∃ m om, s ≤ m ∧ m < b ∧ m ≠ i ∧ ops.toList[m]? = some om ∧ om.dst = some t
     · obtain ⟨m, om, m1, m2, m3, m4, m5⟩ := hex
       rcases (ssa_ok hssa m4 hoL m3 m5).2 hl with hb | hb
       · rw [t1 m om m1 (sd1 m hb) m4 m5]
         exact hm.tmR m om t m1 m2 (before m hb) m4 m5
       ·
         have him : i < m := (sound_ok hsd m4).1 i hb
         have alone : ∀ k ok, ops.toList[k]? = some ok → ok.dst = some t → k = m := fun k ok hk hd => by
           apply Classical.byContradiction; intro hne
           exact (ssa_ok hssa m4 hk (fun e => hne e.symm) m5).1 hd
         rw [t2 (fun k ok a1 a2 a4 hd => by have := alone k ok a4 hd; omega), hm.tmK t (fun k ok a1 a2 a3 a4 hd => by
           obtain rfl := alone k ok a4 hd
           have := hm.closed k a3 i hb
           rw [hunF] at this; simp at this)]
         exact RA.mono hm.left.ev h0.heap.calm hm.left.ext (h0.tm t)
     · have hno : ∀ m om, s ≤ m → m < b → m ≠ i → ops.toList[m]? = some om → om.dst ≠ some t := fun m om a1 a2 a3 a4 a5 => hex ⟨m, om, a1, a2, a3, a4, a5⟩
       rw [t2 (fun m om a1 a2 a4 => hno m om a1 (by omega) (by omega) a4), hm.tmK t (fun m om a1 a2 a3 a4 => hno m om a1 a2 (fun e => by subst e; rw [hunF] at a3; simp at a3) a4)]
       exact RA.mono hm.left.ev h0.heap.calm hm.left.ext (h0.tm t)
   · rw [e]; trivial
 have notIn : ∀ n, (sts i).nx ≤ n → n < (sts i).nx + 4 → (sts s).nx ≤ n ∧ isIn (sts s).nx s b listed n = false := fun n h1 h2 => by
   have hb : (sts s).nx ≤ n := by omega
   have : s + (n - (sts s).nx) / 4 = i := (name_of hi1 hb).2 (by omega)
   refine ⟨hb, ?_⟩
   unfold isIn
   rw [this, hunF]; simp
 have far0 : ∀ n, (sts i).nx + 4 * ops.toList.length ≤ n → isIn (sts s).nx s b listed n = false := fun n hn => by
   have hl := hst.len
   have : ¬ s + (n - (sts s).nx) / 4 < b := by omega
   unfold isIn
   simp [this]
 have inNew : ∀ n, (sts s).nx ≤ n → isIn (sts s).nx s b (listed.setIfInBounds i true) n = if (sts i).nx ≤ n ∧ n < (sts i).nx + 4 then true else isIn (sts s).nx s b listed n := fun n hb => by
   have hnm := name_of (base := (sts s).nx) hi1 hb
   by_cases hr : (sts i).nx ≤ n ∧ n < (sts i).nx + 4
   · rw [if_pos hr]
     have : s + (n - (sts s).nx) / 4 = i := hnm.2 (by omega)
     unfold isIn
     rw [this, getD_set' hilt]; simp [hi2]
   · rw [if_neg hr]
     have : s + (n - (sts s).nx) / 4 ≠ i := fun e => hr (by have := hnm.1 e; omega)
     unfold isIn
     rw [getD_set' hilt, if_neg this]
 have mayd : ∀ m n x, s ≤ m → m < b → ds m = some (n, x) → mayDrop bs W m (sts s).nx s n = true ∧ n < (sts m).nx := fun m n x a1 a2 a3 => by
   obtain ⟨_, _, _, _, _, _, _, h, _⟩ := hst.at_ m a1 a2
   exact h n x a3
 have fin : ∀ (val : Value) (w' : World) (β' : Nat → Loc) (Z' : Nat → Prop) (hp' : Hp), RA β' Z' w' (vs i) val → Left E 0 (fun n => frL (sts s).nx s b listed n ∧ ¬ ((sts i).nx ≤ n ∧ n < (sts i).nx + 4)) β Z (hpL (sts s).nx s b listed (sts s).hp (fun j => (sts (j + 1)).hp) ds) w β' Z' hp' w' →
     (∀ n, hp' n = if (sts i).nx ≤ n ∧ n < (sts i).nx + 4 then (sts (i + 1)).hp n else setO (ds i) (hpL (sts s).nx s b listed (sts s).hp (fun j => (sts (j + 1)).hp) ds) n) → K (a.put o.dst val) w' := by
   intro val w' β' Z' hp' hv hl hpe
   refine hK _ _ β' Z' ⟨by simp [hm.size], fun k hk => ?_, fun k hk => ?_, fun k hk j hj => ?_, ?_, fun m om d m1 m2 m3 m4 m5 => ?_, fun t ht => ?_, ?_, ?_⟩
   · rw [getD_set' hilt, if_neg (by omega)]; exact hm.lo k hk
   · rw [getD_set' hilt, if_neg (by omega)]; exact hm.hi k hk
   · rw [getD_set' hilt] at hk ⊢
     by_cases e : k = i
     · subst e
       split
       · rfl
       · exact before j hj
     · rw [if_neg e] at hk
       split
       · rfl
       · exact hm.closed k hk j hj
   · have hpeq : hpL (sts s).nx s b (listed.setIfInBounds i true) (sts s).hp (fun j => (sts (j + 1)).hp) ds = hp' := funext fun n => by
       rw [hpe n]
       by_cases hr : (sts i).nx ≤ n ∧ n < (sts i).nx + 4
       · have hb : ¬ n < (sts s).nx := by omega
         have hnm : s + (n - (sts s).nx) / 4 = i := (name_of hi1 (by omega)).2 (by omega)
         have hg : lastW s (listed.setIfInBounds i true) ds n b = none := lastW_no fun m x a1 a2 a3 a4 => by
           have hbit := (mayDrop_ok (mayd m n x a1 a2 a4).1).1
           rw [sees_new hb, hnm] at hbit
           rw [getD_set' hilt] at a3
           by_cases e : m = i
           · subst e; exact absurd (sd1 m hbit) (by omega)
           · rw [if_neg e] at a3
             have := hm.closed m a3 i hbit
             rw [hunF] at this; simp at this
         unfold hpL
         rw [hg]
         simp only
         rw [if_neg hb, inNew n (by omega), if_pos hr, if_pos hr, if_pos rfl, hnm]
       · rw [if_neg hr]
         by_cases hd : ∃ x, ds i = some (n, x)
         · obtain ⟨x, hd⟩ := hd
           rw [hd, setO_at]
           have hmd := mayDrop_ok (mayd i n x hi1 hi2 hd).1
           have hlw : lastW s (listed.setIfInBounds i true) ds n b = some i := lastW_is hi1 hi2 (by rw [getD_set' hilt, if_pos rfl]) hd fun m y a1 a2 a3 a4 => by
             rw [getD_set' hilt, if_neg (by omega)] at a3
             rcases hmd.2 m (by omega) (mayDrop_ok (mayd m n y (by omega) a2 a4).1).1 with h | h
             · have := hm.closed m a3 i h
               rw [hunF] at this; simp at this
             · exact absurd (sd1 m h) (by omega)
           unfold hpL
           rw [hlw]
           exact hst.set hi1 hi2 hd
         · have hd' : ∀ x, ds i ≠ some (n, x) := fun x e => hd ⟨x, e⟩
           rw [setO_ne hd']
           have hgg : lastW s (listed.setIfInBounds i true) ds n b = lastW s listed ds n b := lastW_eq fun m x a1 a2 a3 => by
             rw [getD_set' hilt, if_neg (fun e => hd' x (by rw [← e]; exact a3))]
           have hii : (sts s).nx ≤ n → isIn (sts s).nx s b (listed.setIfInBounds i true) n = isIn (sts s).nx s b listed n := fun h => by rw [inNew n h, if_neg hr]
           unfold hpL
           rw [hgg]
           split
           · rfl
           · split
             · rfl
             · rw [hii (by omega)]
     rw [hpeq]
     refine ⟨hl.sat.weaken (fun n hn => ?_), hm.left.ev.trans hl.ev hm.left.own, hm.left.ext.trans hl.ext, fun b' hb' => ?_, fun b' hb' => ?_⟩
     · obtain ⟨h1, h2⟩ := hn
       rw [inNew n h1] at h2
       split at h2
       · simp at h2
       · rename_i hr; exact ⟨⟨h1, h2⟩, hr⟩
     · rcases hl.own b' hb' with h | h
       · exact hm.left.own b' h
       · exact .inr (Nat.le_trans hm.left.ev.size h)
     · rcases hl.zown b' hb' with h | h | h
       · exact hm.left.zown b' h
       · exact .inr (hm.left.own b' h)
       · exact .inr (.inr (Nat.le_trans hm.left.ev.size h))
   · rw [getD_put]
     rw [getD_set' hilt] at m3
     by_cases e : m = i
     · subst e
       rw [hoL] at m4; injection m4 with m4; subst m4
       have hlt : d < a.tmps.size := by
         rw [hm.tsz, h0.sz, ← szi]
         rw [m5] at hhas
         exact Nat.le_of_ble_eq_true hhas
       rw [if_pos ⟨m5, hlt⟩]; exact hv
     · rw [if_neg e] at m3
       have := (ssa_ok hssa m4 hoL e m5).1
       rw [if_neg (fun hh => this hh.1)]
       exact RA.mono hl.ev hm.left.sat.calm hl.ext (hm.tmR m om d m1 m2 m3 m4 m5)
   · have h1 := ht i o hi1 hi2 (by rw [getD_set' hilt, if_pos rfl]) hoL
     rw [getD_put, if_neg (fun hh => h1 hh.1)]
     exact hm.tmK t (fun m om a1 a2 a3 a4 => ht m om a1 a2 (by rw [getD_set' hilt]; split; rfl; exact a3) a4)
   · have : (a.put o.dst val).tmps.size = a.tmps.size := by cases o.dst <;> simp [Act.put]
     rw [this]; exact hm.tsz
   · rw [← hm.df]; cases o.dst <;> rfl
 have hwant : Region.wanted o (yielded ops a.tmps) = runs i := by
   rcases hgd with ⟨hg, hr⟩ | ⟨j, want, d, t, hg, hd, ht, hr⟩ | ⟨j, want, d, hg, hd, ht, hr⟩
   · rw [hr]; simp [Region.wanted, hg]
   · have hdl : d ∈ looks ops.toList o := List.mem_append_right _ (by rw [hg]; simp [hd])
     have hb := hlook d
     rw [masked_mem hdl] at hb
     rw [hr]; exact wanted_of hg hd (truth_ok hb ht)
   · have hdl : d ∈ looks ops.toList o := List.mem_append_right _ (by rw [hg]; simp [hd])
     have hb := hlook d
     rw [masked_mem hdl, ht] at hb
     rw [hr]; exact wanted_skip hg hd (ra_skip_eq hb)
 unfold wpOpIn
 rw [ho]
 simp only [hwant]
 cases hrun : runs i with
 | true =>
   rw [if_pos rfl]
   refine Oper.wpIn_mono (fun a' w' hp => ?_) (hsem hrun ro (frL (sts s).nx s b listed) β Z _ w a Q hm.left.sat (fun n h1 h2 => notIn n h1 h2) (fun n hn => ⟨by omega, far0 n hn⟩) (fun n blk hn => ?_) hlook)
   · obtain ⟨val, β', Z', rfl, hv, hl⟩ := hp
     exact fin val w' β' Z' _ hv hl (fun _ => rfl)
   · unfold masH at hn
     split at hn
     · rename_i hsee
       have lst : ∀ m x, s ≤ m → m < b → ds m = some (n, x) → (m < i → listed.getD m false = true) ∧ (listed.getD m false = true → m < i) := fun m x a1 a2 a3 => by
         have hmi : listed.getD m false = true → m ≠ i := fun h e => by subst e; rw [hunF] at h; simp at h
         have ord : m ≠ i → (bs.getD i 0).testBit m = true ∨ (bs.getD m 0).testBit i = true := fun e => (mayDrop_ok (mayd m n x a1 a2 a3).1).2 i (fun e' => e e'.symm) hsee
         refine ⟨fun hlt => ?_, fun hl => ?_⟩
         · rcases ord (by omega) with h | h
           · exact before m h
           · obtain ⟨om, hom, _⟩ := hst.at_ m a1 a2
             exact absurd ((sound_ok hsd hom).1 i h) (by omega)
         · rcases ord (hmi hl) with h | h
           · exact sd1 m h
           · have := hm.closed m hl i h
             rw [hunF] at this; simp at this
       unfold hpL
       rcases lastW_spec (s := s) (listed := listed) (ds := ds) (n := n) b with ⟨e, hno⟩ | ⟨m, x, e, k1, k2, k3, k4, k5⟩
       · rw [e]
         simp only
         have none_ : ∀ m x, s ≤ m → m < i → ds m ≠ some (n, x) := fun m x a1 a2 a3 => hno m x a1 (by omega) ((lst m x a1 (by omega) a3).1 a2) a3
         by_cases hlt' : n < (sts s).nx
         · rw [if_pos hlt', ← hst.hp (k := s) (Nat.le_refl _) (k' := i) hi1 (by omega) n hlt' none_]; exact hn
         · rw [if_neg hlt']
           have hbit := hsee
           rw [sees_new hlt'] at hbit
           have hlt := sd1 _ hbit
           have hin : isIn (sts s).nx s b listed n = true := by
             unfold isIn
             rw [before _ hbit]; simp; omega
           have nxj := (hst.nx (k := s + (n - (sts s).nx) / 4 + 1) (by omega) (by omega)).1
           rw [if_pos hin]
           exact (hst.hp (k := s + (n - (sts s).nx) / 4 + 1) (by omega) (k' := i) (by omega) (by omega) n (by omega) (fun m x a1 a2 a3 => none_ m x (by omega) a2 a3)).symm.trans hn
       · rw [e]
         have hlt := (lst m x k1 k2 k4).2 k3
         have nxm := (hst.nx (k := m + 1) (by omega) (by omega)).1
         have hn1 := (mayd m n x k1 k2 k4).2
         have nxm0 := (hst.nx (k := m) (by omega) (by omega)).1
         exact (hst.hp (k := m + 1) (by omega) (k' := i) (by omega) (by omega) n (by omega) (fun m' x' a1 a2 a3 => k5 m' x' (by omega) (by omega) ((lst m' x' (by omega) (by omega) a3).1 a2) a3)).symm.trans hn
     · simp at hn
 | false =>
   rw [if_neg (by simp)]
   obtain ⟨hv, hhp, hD⟩ := hskip hrun
   refine ⟨fun _ _ => trivial, fin undef w β Z _ (by rw [hv]; exact ra_skip) (Left.same hm.left.sat (fun n hn => hn.1)) (fun n => ?_)⟩
   split
   · rename_i hr
     obtain ⟨h1, h2⟩ := notIn n hr.1 hr.2
     have hno : lastW s listed ds n b = none := lastW_no fun m x a1 a2 a3 a4 => by
       have hbit := (mayDrop_ok (mayd m n x a1 a2 a4).1).1
       rw [sees_new (by omega), (name_of hi1 (by omega)).2 (by omega)] at hbit
       have := hm.closed m a3 i hbit
       rw [hunF] at this; simp at this
     rw [hhp, freei n hr.1]
     unfold hpL
     rw [hno]
     simp only
     rw [if_neg (by omega), if_neg (by rw [h2]; simp)]
   · rw [hD]; rfl
theorem mid_end (hst : Stretch P E ops.toList bs W s b sts runs vs ds) (hssa : ssa ops.toList bs = true) (h0 : Sat E (sts s) β0 Z0 a0 w0) {listed : Array Bool} {a : Act} {w : World} {β : Nat → Loc} {Z : Nat → Prop}
   (hm : Mid E ops.toList bs s b sts vs ds β0 Z0 a0 w0 listed a w β Z) (hall : ∀ k, k < b → listed.getD k false = true) :
   Sat E (sts b) β Z a w ∧ Turn (HS.of (sts s) β0 Z0 w0) (HS.of (sts b) β Z w) ∧ (∀ t, (∀ o ∈ ops.toList, o.dst ≠ some t) → a.tmps.getD t undef = a0.tmps.getD t undef) := by
 obtain ⟨nxb, wlb, szb⟩ := hst.nx (k := b) hst.sb (Nat.le_refl _)
 have hb := hst.sb
 have mayd : ∀ m n x, s ≤ m → m < b → ds m = some (n, x) → mayDrop bs W m (sts s).nx s n = true ∧ n < (sts m).nx := fun m n x a1 a2 a3 => by
   obtain ⟨_, _, _, _, _, _, _, h, _⟩ := hst.at_ m a1 a2
   exact h n x a3
 have hhp : hpL (sts s).nx s b listed (sts s).hp (fun j => (sts (j + 1)).hp) ds = (sts b).hp := funext fun n => by
   unfold hpL
   rcases lastW_spec (s := s) (listed := listed) (ds := ds) (n := n) b with ⟨e, hno⟩ | ⟨m, x, e, k1, k2, k3, k4, k5⟩
   · rw [e]
     simp only
     have none_ : ∀ m x, s ≤ m → m < b → ds m ≠ some (n, x) := fun m x a1 a2 a3 => hno m x a1 a2 (hall m a2) a3
     by_cases hn : n < (sts s).nx
     · rw [if_pos hn]; exact (hst.hp (k := s) (Nat.le_refl _) (k' := b) hb (Nat.le_refl _) n hn none_).symm
     · rw [if_neg hn]
       by_cases hin : isIn (sts s).nx s b listed n = true
       · rw [if_pos hin]
         have hjb : s + (n - (sts s).nx) / 4 < b := by
           unfold isIn at hin
           simp only [Bool.and_eq_true, decide_eq_true_eq] at hin
           exact hin.1
         have nxj := (hst.nx (k := s + (n - (sts s).nx) / 4 + 1) (by omega) (by omega)).1
         exact (hst.hp (k := s + (n - (sts s).nx) / 4 + 1) (by omega) (k' := b) (by omega) (Nat.le_refl _) n (by omega) (fun m x a1 a2 a3 => none_ m x (by omega) a2 a3)).symm
       · rw [if_neg hin]
         refine (hst.top n ?_).symm
         apply Nat.le_of_not_lt
         intro hlt
         apply hin
         unfold isIn
         rw [hall _ (by omega)]; simp; omega
   · rw [e]
     have nxm := (hst.nx (k := m + 1) (by omega) (by omega)).1
     have hn1 := (mayd m n x k1 k2 k4).2
     have nxm0 := (hst.nx (k := m) (by omega) (by omega)).1
     exact (hst.hp (k := m + 1) (by omega) (k' := b) (by omega) (Nat.le_refl _) n (by omega) (fun m' x' a1 a2 a3 => k5 m' x' (by omega) (by omega) (hall m' a2) a3)).symm
 have hleft := hm.left
 rw [hhp] at hleft
 refine ⟨⟨hleft.sat.weaken (fun n hn => ⟨by omega, ?_⟩), fun t => ?_, by rw [hm.tsz, h0.sz, szb]⟩, ⟨hleft.ev, hleft.ext, hleft.own, hleft.zown, by show (sts s).nx ≤ (sts b).nx; omega, fun n hn => wlb.1 n hn, fun n hn hw => hst.hp (k := s) (Nat.le_refl _) (k' := b) hb (Nat.le_refl _) n hn fun m x a1 a2 a3 => hw (wlb.2 m n x a1 a2 a3)⟩, fun t ht => hm.tmK t (fun m o _ _ _ ho => ht o (List.mem_of_getElem? ho))⟩
 · unfold isIn
   have : ¬ s + (n - (sts s).nx) / 4 < b := by omega
   simp [this]
 · obtain ⟨t1, t2⟩ := hst.tm hssa (k := b) hb (Nat.le_refl _) t
   by_cases hex : ∃ m om, s ≤ m ∧ m < b ∧ ops.toList[m]? = some om ∧ om.dst = some t
   · obtain ⟨m, om, m1, m2, m3, m4⟩ := hex
     rw [t1 m om m1 m2 m3 m4]
     exact hm.tmR m om t m1 m2 (hall m m2) m3 m4
   · have hno : ∀ m om, s ≤ m → m < b → ops.toList[m]? = some om → om.dst ≠ some t := fun m om a1 a2 a4 a5 => hex ⟨m, om, a1, a2, a4, a5⟩
     rw [t2 hno, hm.tmK t (fun m om a1 a2 _ a4 => hno m om a1 a2 a4)]
     exact RA.mono hleft.ev h0.heap.calm hleft.ext (h0.tm t)
theorem mid_start (hst : Stretch P E ops.toList bs W s b sts runs vs ds) (h0 : Sat E (sts s) β0 Z0 a0 w0) {listed : Array Bool} (hsz : listed.size = ops.toList.length) (hlo : ∀ k, k < s → listed.getD k false = true) (hhi : ∀ k, s ≤ k → listed.getD k false = false)
   (hcl : ∀ k, listed.getD k false = true → ∀ j, (bs.getD k 0).testBit j = true → listed.getD j false = true) : Mid E ops.toList bs s b sts vs ds β0 Z0 a0 w0 listed a0 w0 β0 Z0 := by
 have free0 : ∀ n, (sts s).nx ≤ n → (sts s).hp n = none := fun n hn => not_known h0.heap (h0.heap.fresh n hn)
 have notIn : ∀ n, isIn (sts s).nx s b listed n = false := fun n => by
   unfold isIn
   rw [hhi _ (Nat.le_add_right _ _)]; simp
 have hhp : hpL (sts s).nx s b listed (sts s).hp (fun j => (sts (j + 1)).hp) ds = (sts s).hp := funext fun n => by
   unfold hpL
   rw [lastW_no (fun m x a1 _ a3 => by rw [hhi m a1] at a3; cases a3)]
   simp only
   by_cases hn : n < (sts s).nx
   · rw [if_pos hn]
   · rw [if_neg hn, notIn n, if_neg (by simp), free0 n (by omega)]
 have hsb := hst.sb
 refine ⟨hsz, hlo, fun k hk => hhi k (by omega), hcl, ?_, fun m o d m1 m2 m3 => by rw [hhi m m1] at m3; simp at m3, fun _ _ => rfl, rfl, rfl⟩
 rw [hhp]
 exact Left.same h0.heap (fun n hn => hn.1)
end
end Go.Sx
namespace Go.Sx
section
variable {P : Program} {E : Env} {Fr : Nat → Prop} {B : Nat} {β β' : Nat → Loc} {Z Z' : Nat → Prop} {hp : Hp} {w w' : World} {inl : CallVC} {yld : YieldVC}
theorem SatH.alloc (h : SatH E B Fr β Z hp w) (o : Obj) : Left E B Fr β Z hp w β Z hp (w.alloc o) := by
 have ev := Evo.alloc (Own β hp) Z w o
 exact ⟨h.step ev (Ext.refl β) (fun n blk hn => .inl ⟨hn, fun b ln hb => ⟨heap_alloc_old w o b (h.own n blk b ln hn hb).1, (h.own n blk b ln hn hb).2.1⟩⟩) h.inj (fun b hb => by simp; exact Nat.lt_succ_of_lt (h.zlt b hb)) h.fresh,
   ev, Ext.refl β, fun b hb => .inl hb, fun b hb => .inl hb⟩
theorem evo_putLoop {own : Nat → Prop} {b : Nat} {r r' : Loop} (hown : own b) (hw : w.heap[b]? = some (.loop r)) (hr : SameLoop r r') : Evo own Z w Z (w.putObj b (.loop r')) := by
 have hlt : b < w.heap.size := (Array.getElem?_eq_some_iff.1 hw).1
 refine ⟨rfl, rfl, rfl, by simp, fun k hk hno => ?_, fun k cs e hk => ⟨cs, ?_, rfl⟩, fun k rk hk => ?_, fun _ h => h⟩
 · exact World.putObj_heap_other (fun e => hno (e ▸ hown))
 · rw [World.putObj_heap_other (fun e => by subst e; rw [hw] at hk; simp at hk)]; exact hk
 · by_cases e : k = b
   · subst e
     rw [hw] at hk; injection hk with hk; injection hk with hk; subst hk
     exact ⟨r', World.putObj_heap_same hlt, hr⟩
   · exact ⟨rk, by rw [World.putObj_heap_other e]; exact hk, rfl, rfl, rfl, rfl, rfl, rfl⟩
theorem SatH.setLoop (h : SatH E B Fr β Z hp w) {n : Nat} {old : Blk} (hn : hp n = some old) {b ln : Nat} (hb : β n = .at b ln) {r r' : Loop} (hw : w.heap[b]? = some (.loop r)) (hr : SameLoop r r') {ob : Option Blk}
   (hob : ∀ blk, ob = some blk → RB β Z (w.putObj b (.loop r')) (.at b ln) blk) : Left E B Fr β Z hp w β Z (upd hp n ob) (w.putObj b (.loop r')) := by
 have hlt : b < w.heap.size := (Array.getElem?_eq_some_iff.1 hw).1
 have hown : Own β hp b := ⟨n, old, ln, hn, hb⟩
 have ev : Evo (Own β hp) Z w Z (w.putObj b (.loop r')) := by
   refine ⟨rfl, rfl, rfl, by simp, fun k hk hno => ?_, fun k cs e hk => ⟨cs, ?_, rfl⟩, fun k rk hk => ?_, fun _ h => h⟩
   · exact World.putObj_heap_other (fun e => hno (e ▸ hown))
   · rw [World.putObj_heap_other (fun e => by subst e; rw [hw] at hk; simp at hk)]; exact hk
   · by_cases e : k = b
     · subst e
       rw [hw] at hk; injection hk with hk; injection hk with hk; subst hk
       exact ⟨r', World.putObj_heap_same hlt, hr⟩
     · exact ⟨rk, by rw [World.putObj_heap_other e]; exact hk, rfl, rfl, rfl, rfl, rfl, rfl⟩
 refine ⟨h.step ev (Ext.refl β) (fun m blk hm => ?_) (fun m1 m2 x y b' l1 l2 h1 h2 hb1 hb2 => ?_) (fun b' hb' => by simpa using h.zlt b' hb') h.fresh, ev, Ext.refl β, fun b' hb' => ?_, fun b hb => .inl hb⟩
 · by_cases hmn : m = n
   · subst hmn
     rw [upd_same] at hm
     refine .inr ⟨by rw [hb]; exact hob blk hm, fun b' ln' hb' => ?_⟩
     obtain ⟨g1, g2, g3⟩ := h.own m old b' ln' hn hb'
     exact ⟨by simpa using g1, g2, g3⟩
   · rw [upd_ne _ _ hmn] at hm
     refine .inl ⟨hm, fun b' ln' hb' => ⟨World.putObj_heap_other (fun e1 => hmn ?_), (h.own m blk b' ln' hm hb').2.1⟩⟩
     subst e1
     exact h.inj m n _ _ _ _ _ hm hn hb' hb
 · have some_of : ∀ m x, upd hp n ob m = some x → ∃ x', hp m = some x' := fun m x hm => by
     by_cases hmn : m = n
     · subst hmn; exact ⟨old, hn⟩
     · rw [upd_ne _ _ hmn] at hm; exact ⟨x, hm⟩
   obtain ⟨x', hx'⟩ := some_of m1 x h1
   obtain ⟨y', hy'⟩ := some_of m2 y h2
   exact h.inj m1 m2 x' y' b' l1 l2 hx' hy' hb1 hb2
 · obtain ⟨m, x, ln', h1, h2⟩ := hb'
   by_cases hmn : m = n
   · subst hmn; exact .inl ⟨m, old, ln', hn, h2⟩
   · rw [upd_ne _ _ hmn] at h1; exact .inl ⟨m, x, ln', h1, h2⟩
theorem Turn.of_left {Fr' : Nat → Prop} {hp' : Hp} {nx nx' : Nat} {wl wl' : List Nat} (h : Left E B Fr' β Z hp w β' Z' hp' w') (hn : nx ≤ nx') (hl : ∀ n, n ∈ wl → n ∈ wl') (hf : ∀ n, n < nx → n ∉ wl' → hp' n = hp n) :
   Turn ⟨β, Z, hp, nx, wl, w⟩ ⟨β', Z', hp', nx', wl', w'⟩ := ⟨h.ev, h.ext, h.own, h.zown, hn, hl, hf⟩
theorem Turn.relog {x y : HS} {l : List Nat} (h : Turn x y) : Turn { x with wl := l ++ x.wl } { y with wl := l ++ y.wl } :=
 ⟨h.ev, h.ext, h.own, h.zown, h.nx, fun n hn => by
   simp only [List.mem_append] at hn ⊢
   exact hn.imp id (h.wl n), fun n hn hw => h.frame n hn (fun hh => hw (by simp [hh]))⟩
def shut : World → List Nat → World
 | w, [] => w
 | w, r :: l => shut (w.putObj r (.deferred none)) l
theorem shut_facts : ∀ (l : List Nat) (w : World), (shut w l).os = w.os ∧ (shut w l).tape = w.tape ∧ (shut w l).output = w.output ∧ (shut w l).heap.size = w.heap.size ∧ ∀ k, k ∉ l → (shut w l).heap[k]? = w.heap[k]?
 | [], w => ⟨rfl, rfl, rfl, rfl, fun _ _ => rfl⟩
 | r :: l, w => by
   obtain ⟨h1, h2, h3, h4, h5⟩ := shut_facts l (w.putObj r (.deferred none))
   refine ⟨h1, h2, h3, by rw [shut, h4]; simp, fun k hk => ?_⟩
   simp only [List.mem_cons, not_or] at hk
   rw [shut, h5 k hk.2, World.putObj_heap_other hk.1]
theorem evo_shut {own : Nat → Prop} {l : List Nat} (hd : ∀ r ∈ l, w.heap[r]? = some (.deferred (some []))) : Evo (fun b => own b ∨ b ∈ l) Z w Z (shut w l) := by
 obtain ⟨h1, h2, h3, h4, h5⟩ := shut_facts l w
 refine ⟨h1, h2, h3, by rw [h4]; exact Nat.le_refl _, fun b _ hno => h5 b (fun hm => hno (.inr hm)), fun b cs e hb => ⟨cs, ?_, rfl⟩, fun b r hb => ⟨r, ?_, rfl, rfl, rfl, rfl, rfl, rfl⟩, fun _ h => h⟩
 · rw [h5 b (fun hm => by rw [hd b hm] at hb; simp at hb)]; exact hb
 · rw [h5 b (fun hm => by rw [hd b hm] at hb; simp at hb)]; exact hb
theorem SatH.shut (h : SatH E B Fr β Z hp w) {l : List Nat} (hd : ∀ r ∈ l, w.heap[r]? = some (.deferred (some [])) ∧ ¬ Own β hp r ∧ ¬ Z r) : SatH E B Fr β Z hp (shut w l) := by
 have ev : Evo (fun b => Own β hp b ∨ b ∈ l) Z w Z (Go.Sx.shut w l) := evo_shut (fun r hr => (hd r hr).1)
 have calm : Calm (fun b => Own β hp b ∨ b ∈ l) Z w := fun b hb => ⟨h.zlt b hb, fun ho => ho.elim (h.calm b hb).2 (fun hm => (hd b hm).2.2 hb)⟩
 obtain ⟨_, _, _, h4, h5⟩ := shut_facts l w
 refine ⟨fun n blk hn => RB.mono ev calm (Ext.refl β) (fun b ln hb => h5 b (fun hm => (hd b hm).2.1 ⟨n, blk, ln, hn, hb⟩)) (h.rb n blk hn), fun n blk b ln hn hb => by rw [h4]; exact h.own n blk b ln hn hb, h.inj, fun b hb => by rw [h4]; exact h.zlt b hb, h.fresh, h.gl.mono ev calm⟩
theorem leaves_ok {F : Fence} {fn : Func} {tmps : Array Value} {R : Ending → World → Prop} : ∀ (l : List Nat) (w : World), l.Nodup → (∀ r ∈ l, w.heap[r]? = some (.deferred (some []))) →
   (∃ v, (results fn tmps).run P (shut w l) = .ok v (shut w l) ∧ R (.returned v) (shut w l)) → LeavesInM F 0 P fn tmps R (l.map markOf) .returning w
 | [], w, _, _, h => h
 | r :: l, w, hn, hd, h => by
   have hr := hd r (by simp)
   refine ⟨by simp, .inl ⟨r, _, rfl, run_takeDeferred hr, leaves_ok l _ (List.nodup_cons.1 hn).2 (fun r' hr' => ?_) h⟩⟩
   rw [World.putObj_heap_other (fun e => by subst e; exact (List.nodup_cons.1 hn).1 hr')]
   exact hd r' (by simp [hr'])
theorem retVals_ok (hT : TabOk P E) {st : St} {a : Act} (hs : Sat E st β Z a w) : ∀ {l : List ResultVar} {K : List TV → Prop}, retVals E st l K → ∃ (tvs : List TV) (vs : List Value), K tvs ∧ RL β Z w tvs vs ∧
   (l.mapM fun | .tmp t => pure (a.tmps.getD t undef) | .cell b t => do loadVar t (← asAddr (a.tmps.getD b undef)) : Sem (List Value)).run P w = .ok vs w
 | [], K, h => ⟨[], [], h, trivial, rfl⟩
 | .tmp t :: l, K, h => by
   simp only [retVals] at h
   split at h
   · rename_i v hv
     obtain ⟨tvs, vs, h1, h2, h3⟩ := retVals_ok hT hs h
     have := hs.tm t
     rw [hv] at this
     refine ⟨v :: tvs, a.tmps.getD t undef :: vs, h1, ⟨this, h2⟩, ?_⟩
     rw [List.mapM_cons]
     simp only [Sem.run_bind, Sem.run_pure, Result.andThen_ok]
     rw [h3]; rfl
   · exact h.elim
 | .cell t ty :: l, K, h => by
   simp only [retVals] at h
   split at h
   · rename_i ti hti
     split at h
     · rename_i c v hp1
       rw [conj_iff] at h
       obtain ⟨tvs, vs, h1, h2, h3⟩ := retVals_ok hT hs h.2
       obtain ⟨u, hu, hr⟩ := load_ok (P := P) (hT ty ti hti).1 (hT ty ti hti).2 hs.heap.rb (hs.tm t) hp1 h.1
       have hptr : ∃ b, a.tmps.getD t undef = .pointer (some b) := by
         cases hv : a.tmps.getD t undef with
         | pointer o =>
           cases o with
           | some b => exact ⟨b, rfl⟩
           | none => rw [hv] at hu; simp [Instr.loadAt, Instr.sureAddr, stuck] at hu
         | _ => rw [hv] at hu; simp [Instr.loadAt, Instr.sureAddr, stuck] at hu
       obtain ⟨b, hb⟩ := hptr
       refine ⟨v :: tvs, u :: vs, h1, ⟨hr, h2⟩, ?_⟩
       rw [List.mapM_cons]
       rw [hb] at hu
       simp only [Instr.loadAt, Instr.sureAddr, pure_bind] at hu
       have ha : ∀ w, (asAddr (a.tmps.getD t undef)).run P w = .ok b w := fun w => by rw [hb]; rfl
       simp only [Sem.run_bind, ha, hu, Result.andThen_ok, h3, Sem.run_pure]
     · exact h.elim
   · exact h.elim
theorem results_ok {fn : Func} {a : Act} {vs : List Value} {tvs : List TV} (hr : RL β Z w tvs vs)
   (h : (fn.results.toList.mapM fun | .tmp t => pure (a.tmps.getD t undef) | .cell b t => do loadVar t (← asAddr (a.tmps.getD b undef)) : Sem (List Value)).run P w = .ok vs w) :
   ∃ v, (results fn a.tmps).run P w = .ok v w ∧ RA β Z w (resAV tvs) v := by
 have e : (fn.results.mapM fun | .tmp t => pure (a.tmps.getD t undef) | .cell b t => do loadVar t (← asAddr (a.tmps.getD b undef)) : Sem (Array Value)).run P w = .ok vs.toArray w := by
   rw [← Array.toArray_toList (xs := fn.results), List.mapM_toArray]
   simp only [Sem.run_map, h]
   rfl
 have hres : results fn a.tmps = (do
     let vs ← (fn.results.mapM fun | .tmp t => pure (a.tmps.getD t undef) | .cell b t => do loadVar t (← asAddr (a.tmps.getD b undef)) : Sem (Array Value))
     pure (if h : vs.size = 1 then vs[0] else .tuple vs)) := rfl
 rw [hres]
 refine ⟨if h : vs.toArray.size = 1 then vs.toArray[0] else .tuple vs.toArray, by simp only [Sem.run_bind, e, Result.andThen_ok, Sem.run_pure], ?_⟩
 clear e hres h
 obtain ⟨h1, h2⟩ := hr.get
 match tvs, vs, h1, hr, h2 with
 | [], [], _, _, _ => exact ⟨#[], rfl, rfl, fun i x hx => by simp at hx⟩
 | [x], [v], _, hr, _ => exact hr.1
 | x :: y :: l, v :: u :: r, h1, _, h2 =>
   rw [dif_neg (by simp)]
   refine ⟨_, rfl, by simpa using h1, fun i x hx => ?_⟩
   obtain ⟨u', hu', hr'⟩ := h2 i x hx
   exact ⟨u', by simpa using hu', hr'⟩
end
end Go.Sx
namespace Go.Sx
section
variable {P : Program} {E : Env} {β β' : Nat → Loc} {Z Z' : Nat → Prop} {hp : Hp} {w w' : World}
theorem inl_fn {rec : FuncId → Code → St → (Exit → St → Prop) → Prop} : InlFn E (inlOf E rec) := by
 intro f args hp nx wl K h
 unfold inlOf at h
 split at h
 · exact h.1
 · split at h
   · exact h.1
   · split at h
     · exact h.1
     · unfold inlBody at h
       split at h
       · rename_i fn hfn; rw [hfn]; rfl
       · exact h.elim
theorem RL.lookup {l : List TV} {vs : List Value} (h : RL β Z w l vs) (k t : Nat) : RA β Z w (initTm l t) ((vs.toArray ++ Array.replicate k undef).getD t undef) := by
 obtain ⟨h1, h2⟩ := h.get
 unfold initTm
 split
 · rename_i v hv
   obtain ⟨u, hu, hr⟩ := h2 t v hv
   have hlt : t < vs.length := (List.getElem?_eq_some_iff.1 hu).1
   have : (vs.toArray ++ Array.replicate k undef).getD t undef = u := by
     rw [Array.getD_eq_getD_getElem?, Array.getElem?_append_left (by simpa using hlt)]
     simp [hu]
   rw [this]; exact hr
 · trivial
theorem marks_nil (B0 : Nat) (x : HS) (h : B0 ≤ x.w.heap.size) : Marks B0 x [] := ⟨h, [], rfl, List.nodup_nil, fun r hr => by simp at hr⟩
theorem inlBody_ok (hE : EnvOk P E) {rec : FuncId → Code → St → (Exit → St → Prop) → Prop} (hrec : ∀ fid c, CodeOk P E c (rec fid c)) : InlOk P E (inlBody E rec) := by
 intro f args x K h hok vs hr
 unfold inlBody at h
 split at h
 · rename_i fn hfn
   split at h
   · rename_i c hc
     split at h
     · exact h.elim
     · rename_i hble
       have hf := hE.fn f fn hfn
       have hlen := Nat.le_of_ble_eq_true hble
       refine callsIn_of_wp_marks hf hc trivial ?_
       have hvl : vs.length = args.length := hr.get.1
       have hs : Sat E { tm := initTm args, sz := fn.ntmps, hp := x.hp, nx := x.nx, wl := x.wl } x.β x.Z { tmps := vs.toArray ++ Array.replicate (fn.ntmps - vs.toArray.size) undef, defers := [] } x.w :=
         ⟨hok, fun t => hr.lookup _ t, by simp; omega⟩
       have hw := hrec f c _ _ h none x.w.heap.size x.β x.Z _ x.w hs (marks_nil _ _ (Nat.le_refl _)) (fun l hl => by simp at hl)
       have fin : ∀ (st' : St) (β' : Nat → Loc) (Z' : Nat → Prop) (a' : Act) (w' : World), retVals E st' fn.results.toList (fun l => K (resAV l) st'.hp st'.nx st'.wl) → Sat E st' β' Z' a' w' → Turn x (HS.of st' β' Z' w') → Marks x.w.heap.size (HS.of st' β' Z' w') a'.defers →
           LeavesInM Fence.wide 0 P fn a'.tmps (CallPost E x K) a'.defers .returning w' := by
         intro st' β' Z' a' w' hq hs' ht hm
         obtain ⟨_, l, hdl, hnd, hl⟩ := hm
         rw [hdl]
         refine leaves_ok l w' hnd (fun r hr => (hl r hr).2.1) ?_
         have hsh := hs'.heap.shut (l := l) (fun r hr => (hl r hr).2)
         have ev := evo_shut (own := Own β' st'.hp) (Z := Z') (fun r hr => (hl r hr).2.1)
         have calm : Calm (fun b => Own β' st'.hp b ∨ b ∈ l) Z' w' := fun b hb => ⟨hs'.heap.zlt b hb, fun ho => ho.elim (hs'.heap.calm b hb).2 (fun hm => (hl b hm).2.2.2 hb)⟩
         have hsS : Sat E st' β' Z' a' (shut w' l) := ⟨hsh, fun t => RA.mono ev calm (Ext.refl _) (hs'.tm t), hs'.sz⟩
         obtain ⟨tvs, us, k1, k2, k3⟩ := retVals_ok hE.tab hsS hq
         obtain ⟨v, k4, k5⟩ := results_ok k2 k3
         refine ⟨v, k4, v, resAV tvs, ⟨β', Z', st'.hp, st'.nx, st'.wl, shut w' l⟩, rfl, k1, rfl, hsh, k5, ⟨ht.ev.trans ev (fun b hb => ?_), ht.ext, ht.own, ht.zown, ht.nx, ht.wl, ht.frame⟩⟩
         rcases hb with hb | hb
         · exact ht.own b hb
         · exact .inr (hl b hb).1
       refine wpIn_mono hw fun e a' w' hpost => ?_
       obtain ⟨st', β', Z', hq, hs', ht, _, _, hm⟩ := hpost
       cases e with
       | normal => exact fin st' β' Z' a' w' hq hs' ht hm
       | ret => exact fin st' β' Z' a' w' hq hs' ht hm
       | exit => exact hq.elim
       | goto => exact hq.elim
       | panic => exact hq.elim
       | outgrown => exact hq.elim
   · exact h.elim
 · exact h.elim
theorem inl_ok (hE : EnvOk P E) {rec : FuncId → Code → St → (Exit → St → Prop) → Prop} (hrec : ∀ fid c, CodeOk P E c (rec fid c)) : InlOk P E (inlOf E rec) := by
 intro f args x K h hok vs hr
 unfold inlOf at h
 split at h
 · rename_i R hR
   exact rec_ok (fun g hg => hE.again f R g hR hg) h.2 hok hr
 · split at h
   · rename_i R hR
     exact kept_ok (fun g hg => hE.kept f R g hR hg) h.2 hok hr
   · split at h
     · rename_i R hR
       exact even_ok (fun g hg => hE.even f R g hR hg) h.2 hok hr
     · exact inlBody_ok hE hrec f args x K h hok vs hr
theorem setPs_ok {sz : Nat} : ∀ {ps : List Nat} {args : List TV} {vs : List Value} {tm : Nat → AV} {tmps : Array Value}, psFit sz ps args = true → RL β Z w args vs → tmps.size = sz → (∀ t, RA β Z w (tm t) (tmps.getD t undef)) →
   ((ps.zip vs).foldl (fun (tmps : Array Value) (p : Nat × Value) => tmps.setIfInBounds p.1 p.2) tmps).size = sz ∧ (∀ t, RA β Z w (setPs ps args tm t) (((ps.zip vs).foldl (fun (tmps : Array Value) (p : Nat × Value) => tmps.setIfInBounds p.1 p.2) tmps).getD t undef)) ∧ vs.length = ps.length
 | [], [], [], tm, tmps, _, _, hsz, ht => ⟨hsz, ht, rfl⟩
 | [], [], _ :: _, _, _, _, h, _, _ => h.elim
 | [], _ :: _, _, _, _, h, _, _, _ => by simp [psFit] at h
 | _ :: _, [], _, _, _, h, _, _, _ => by simp [psFit] at h
 | _ :: _, x :: _, [], _, _, _, h, _, _ => by cases x <;> exact h.elim
 | p :: ps, x :: args, v :: vs, tm, tmps, hf, hr, hsz, ht => by
   simp only [psFit, Bool.and_eq_true] at hf
   have hp : p < sz := Nat.le_of_ble_eq_true hf.1
   have := setPs_ok (ps := ps) (args := args) (vs := vs) (tm := upd tm p (.t x)) (tmps := tmps.setIfInBounds p v) hf.2 hr.2 (by simpa using hsz) (fun t => by
     by_cases e : t = p
     · subst e
       rw [upd_same]
       have : (tmps.setIfInBounds t v).getD t undef = v := by simp [Array.getD, hsz, hp]
       rw [this]; exact hr.1
     · rw [upd_ne _ _ e]
       have : (tmps.setIfInBounds p v).getD t undef = tmps.getD t undef := by simp [Array.getD_eq_getD_getElem?, Array.getElem?_setIfInBounds_ne (Ne.symm e)]
       rw [this]; exact ht t)
   obtain ⟨h1, h2, h3⟩ := this
   exact ⟨h1, h2, by simp [h3]⟩
theorem zip_fold {ps : Array Nat} {vs : List Value} {tmps : Array Value} : (ps.zip vs.toArray).foldl (fun tmps (t, a) => tmps.setIfInBounds t a) tmps = (ps.toList.zip vs).foldl (fun (tmps : Array Value) (p : Nat × Value) => tmps.setIfInBounds p.1 p.2) tmps := by
 rw [← Array.foldl_toList, Array.toList_zip]
theorem lp_mk {b ln : Nat} {fid : FuncId} {sz : Nat} {tm : Nat → AV} {ps : List Nat} {asg body : Code} {busy : Bool} {pend : Option Exit} {r : Loop} (h0 : w.heap[b]? = some (.loop r)) (h1 : r.tmps.size = sz) (h2 : ∀ t, RA β Z w (tm t) (r.tmps.getD t undef))
   (h3 : r.params.toList = ps) (h4 : r.assign = asg) (h5 : r.body = body) (h6 : r.state = (if busy then LoopState.busy else if pend.isNone then .ready else .done)) (h7 : r.pending = pend.bind codeExit) : RB β Z w (.at b ln) (.lp fid sz tm ps asg body busy pend) :=
 ⟨r, h0, h1, h2, h3, h4, h5, h6, h7⟩
theorem yld_ok {rec : FuncId → Code → St → (Exit → St → Prop) → Prop} (hrec : ∀ fid c, CodeOk P E c (rec fid c)) : YldOk P E (yldOf rec) := by
 intro n args x K h hok vs hr
 unfold yldOf at h
 split at h
 · rename_i fid sz tm ps asg body hn
   split at h
   · rename_i hfit
     have hrb := hok.rb n _ hn
     cases hβ : x.β n with
     | no => rw [hβ] at hrb; exact hrb.elim
     | virt => rw [hβ] at hrb; exact hrb.elim
     | «at» b ln =>
       rw [hβ] at hrb
       obtain ⟨r, r1, r2, r3, rfl, rfl, rfl, r7, r8⟩ := hrb
       obtain ⟨s1, s2, s3⟩ := setPs_ok hfit hr r2 r3
       refine ⟨b, ln, r, rfl, r1, by simpa using s3, ?_⟩
       rw [zip_fold]
       refine roundIn_of_wpIn (F := Fence.wide) trivial ?_
       have hs0 : Sat E { tm := setPs r.params.toList args tm, sz := sz, hp := x.hp, nx := x.nx, wl := x.wl } x.β x.Z { tmps := (r.params.toList.zip vs).foldl (fun (tmps : Array Value) (p : Nat × Value) => tmps.setIfInBounds p.1 p.2) r.tmps, defers := [] } x.w := ⟨hok, s2, s1⟩
       have hw1 := hrec fid r.assign _ _ h (some b) 0 x.β x.Z _ x.w hs0 (marks_nil _ _ (Nat.zero_le _)) (fun l hl => by injection hl with hl; subst hl; exact ⟨r, r1⟩)
       refine wpIn_mono hw1 fun e a1 w1 hpost => ?_
       obtain ⟨st1, β1, Z1, hq, hs1, ht1, _, _, hm1⟩ := hpost
       cases e with
       | exit => exact hq.elim
       | goto => exact hq.elim
       | ret => exact hq.elim
       | panic => exact hq.elim
       | outgrown => exact hq.elim
       | normal =>
         simp only at hq
         split at hq
         · rename_i hn1
           have hβ1 : β1 n = .at b ln := ht1.ext.at hβ
           have hrb1 := hs1.heap.rb n _ hn1
           rw [hβ1] at hrb1
           obtain ⟨q, q1, _, _, _, _, _, q7, _⟩ := hrb1
           obtain ⟨q', hq', same⟩ := ht1.ev.loops b r r1
           have hq'' : w1.heap[b]? = some (.loop q') := hq'
           rw [q1] at hq''; injection hq'' with e1; injection e1 with e1; subst e1
           have lt1 : b < w1.heap.size := (Array.getElem?_eq_some_iff.1 q1).1
           have own1 : Own β1 st1.hp b := ⟨n, _, ln, hn1, hβ1⟩
           have tmR : ∀ {y : HS}, Turn x y → ∀ t, RA y.β y.Z y.w (tm t) (r.tmps.getD t undef) := fun {y} ht t => RA.mono ht.ev hok.calm ht.ext (r3 t)
           refine ⟨_, run_beginRound q1 (by simpa using q7), ?_⟩
           obtain ⟨c1, c2, c3, c4, c5, c6⟩ := same
           have evA : Evo (Own β1 st1.hp) Z1 w1 Z1 (w1.putObj b (.loop { q with state := .busy })) := evo_putLoop own1 q1 ⟨rfl, rfl, rfl, rfl, rfl, rfl⟩
           have leftA := hs1.heap.setLoop hn1 hβ1 q1 (r' := { q with state := .busy }) ⟨rfl, rfl, rfl, rfl, rfl, rfl⟩ (ob := some (.lp fid sz tm r.params.toList r.assign r.body true none)) (fun blk hblk => by
             injection hblk with hblk; subst hblk
             refine lp_mk (World.putObj_heap_same lt1) (by simp [c1, r2]) (fun t => ?_) (by simp [c3]) (by simp [c4]) (by simp [c5]) (by simp) (by simpa using ‹q.pending = _›)
             have := RA.mono evA hs1.heap.calm (Ext.refl _) (tmR ht1 t)
             rw [← c1] at this; exact this)
           have hs2 : Sat E { tm := st1.tm, sz := st1.sz, hp := putBusy st1.hp n fid sz tm r.params.toList r.assign r.body true none, nx := st1.nx, wl := st1.wl } β1 Z1 a1 (w1.putObj b (.loop { q with state := .busy })) :=
             ⟨leftA.sat, fun t => RA.mono evA hs1.heap.calm (Ext.refl _) (hs1.tm t), hs1.sz⟩
           have TA : Turn ⟨β1, Z1, st1.hp, st1.nx, st1.wl, w1⟩ ⟨β1, Z1, putBusy st1.hp n fid sz tm r.params.toList r.assign r.body true none, st1.nx, [n] ++ st1.wl, w1.putObj b (.loop { q with state := .busy })⟩ :=
             Turn.of_left leftA (Nat.le_refl _) (fun m hm => by simp [hm]) (fun m _ hm => upd_ne _ _ (fun e => hm (by simp [e])))
           have hmA := hm1.turn TA
           have hw2 := hrec fid r.body _ _ hq (some b) 0 β1 Z1 a1 _ hs2 hmA (fun l hl => by injection hl with hl; subst hl; exact ⟨_, World.putObj_heap_same lt1⟩)
           refine wpIn_mono hw2 fun e a2 w3 hpost => ?_
           obtain ⟨st2, β2, Z2, hq2, hs3, ht2, _, _, _⟩ := hpost
           have TB := ht2.relog (l := [n])
           split at hq2
           · rename_i hn2
             have hβ2 : β2 n = .at b ln := ht2.ext.at hβ1
             have hrb2 := hs3.heap.rb n _ hn2
             rw [hβ2] at hrb2
             obtain ⟨p, p1, _⟩ := hrb2
             obtain ⟨p', hp', same2⟩ := ht2.ev.loops b _ (World.putObj_heap_same lt1)
             have hp'' : w3.heap[b]? = some (.loop p') := hp'
             rw [p1] at hp''; injection hp'' with e1; injection e1 with e1; subst e1
             obtain ⟨d1, d2, d3, d4, d5, d6⟩ := same2
             have lt3 : b < w3.heap.size := (Array.getElem?_eq_some_iff.1 p1).1
             have own3 : Own β2 st2.hp b := ⟨n, _, ln, hn2, hβ2⟩
             have T2 := ht1.trans (TA.trans TB)
             have done : ∀ (jump : Option Code) (pend : Option Exit), jump = pend.bind codeExit → jump.isNone = pend.isNone →
                 let p2 : Loop := { p with state := if jump.isNone then .ready else .done, pending := jump }
                 (⟨β2, Z2, putBusy st2.hp n fid sz tm r.params.toList r.assign r.body false pend, st2.nx, [n] ++ st2.wl, w3.putObj b (.loop p2)⟩ : HS).ok E ∧ Turn x ⟨β2, Z2, putBusy st2.hp n fid sz tm r.params.toList r.assign r.body false pend, st2.nx, [n] ++ st2.wl, w3.putObj b (.loop p2)⟩ := by
               intro jump pend hj hj2 p2
               have evB : Evo (Own β2 st2.hp) Z2 w3 Z2 (w3.putObj b (.loop p2)) := evo_putLoop own3 p1 ⟨rfl, rfl, rfl, rfl, rfl, rfl⟩
               have leftB := hs3.heap.setLoop hn2 hβ2 p1 (r' := p2) ⟨rfl, rfl, rfl, rfl, rfl, rfl⟩ (ob := some (.lp fid sz tm r.params.toList r.assign r.body false pend)) (fun blk hblk => by
                 injection hblk with hblk; subst hblk
                 refine lp_mk (World.putObj_heap_same lt3) (by simp [p2, d1, c1, r2]) (fun t => ?_) (by simp [p2, d3, c3]) (by simp [p2, d4, c4]) (by simp [p2, d5, c5]) (by simp [p2, hj2]) hj
                 have := RA.mono evB hs3.heap.calm (Ext.refl _) (tmR T2 t)
                 rw [show r.tmps = p2.tmps from (by simp [p2, d1, c1])] at this; exact this)
               refine ⟨leftB.sat, T2.trans (Turn.of_left leftB (Nat.le_refl _) (fun m hm => hm) (fun m _ hm => upd_ne _ _ (fun e => hm (by simp [e]))))⟩
             cases e with
             | normal =>
               obtain ⟨k1, k2⟩ := done none none rfl rfl
               refine ⟨_, _, run_endRound none p1, .bool true, .t (.c .tt), ⟨β2, Z2, putBusy st2.hp n fid sz tm r.params.toList r.assign r.body false none, st2.nx, st2.wl, _⟩, rfl, hq2, rfl, k1, rfl, ⟨k2.ev, k2.ext, k2.own, k2.zown, k2.nx, fun m hm => ht2.wl m (ht1.wl m hm), fun m hm hl => ?_⟩⟩
               by_cases e : m = n
               · subst e; exact (upd_same _ _ _).trans hn.symm
               · exact k2.frame m hm (by simp [e, hl])
             | ret =>
               obtain ⟨k1, k2⟩ := done (some .ret) (some .ret) rfl rfl
               exact ⟨_, _, run_endRound (some .ret) p1, .bool false, .t (.c .ff), ⟨β2, Z2, putBusy st2.hp n fid sz tm r.params.toList r.assign r.body false (some .ret), st2.nx, n :: st2.wl, _⟩, rfl, hq2, rfl, k1, rfl, k2⟩
             | exit id =>
               obtain ⟨k1, k2⟩ := done (some (.exit id)) (some (.exit id)) rfl rfl
               exact ⟨_, _, run_endRound (some (.exit id)) p1, .bool false, .t (.c .ff), ⟨β2, Z2, putBusy st2.hp n fid sz tm r.params.toList r.assign r.body false (some (.exit id)), st2.nx, n :: st2.wl, _⟩, rfl, hq2, rfl, k1, rfl, k2⟩
             | goto => exact hq2.elim
             | panic => exact hq2.elim
             | outgrown => exact hq2.elim
           · exact hq2.elim
         · exact hq.elim
   · exact h.elim
 · exact h.elim
end
end Go.Sx
namespace Go.Sx
section
variable {P : Program} {E : Env} {β β' : Nat → Loc} {Z Z' : Nat → Prop} {hp : Hp} {w w' : World} {inl : CallVC} {yld : YieldVC}
def DrawOk (P : Program) (E : Env) (inl : CallVC) (yld : YieldVC) : Prop := (∀ (id : Nat) (ops : Array Oper) (bs : List Nat) (W : St → List (Nat × List Nat)), orderly ops.toList bs = true →
 CodeOk P E (.region id ops true) (fun st Q => vcDraw E inl yld ops.toList bs (W st) ops.toList 0 st.nx 0 (fun _ => none) st (Q .normal))) ∧
 ∀ (id : Nat) (ops : Array Oper), CodeOk P E (.region id ops true) (fun st Q => vcAny E inl yld ops.toList ops.size 0 st (Q .normal))
theorem Post.mono {B0 : Nat} {Q Q' : Exit → St → Prop} {c c' : Code} {x : HS} {sz : Nat} {a : Act} {e : Exit} {a' : Act} {w' : World} (h : Post E B0 Q c x sz a e a' w') (hq : ∀ st, Q e st → Q' e st) (hc : ∀ t, writes c' t = false → writes c t = false) : Post E B0 Q' c' x sz a e a' w' := by
 obtain ⟨st', β', Z', h1, h2, h3, h4, h5, h6⟩ := h
 exact ⟨st', β', Z', hq _ h1, h2, h3, h4, fun t ht => h5 t (hc t ht), h6⟩
theorem Post.then_ {B0 : Nat} {Q : Exit → St → Prop} {c c' c'' : Code} {x : HS} {sz : Nat} {a a1 : Act} {e : Exit} {a' : Act} {w1 w' : World} {st1 : St} {β1 : Nat → Loc} {Z1 : Nat → Prop}
   (ht : Turn x (HS.of st1 β1 Z1 w1)) (hsz : st1.sz = sz) (hk : ∀ t, writes c t = false → a1.tmps.getD t undef = a.tmps.getD t undef) (h : Post E B0 Q c' (HS.of st1 β1 Z1 w1) st1.sz a1 e a' w')
   (hc : ∀ t, writes c'' t = false → writes c t = false ∧ writes c' t = false) : Post E B0 Q c'' x sz a e a' w' := by
 obtain ⟨st', β', Z', h1, h2, h3, h4, h5, h6⟩ := h
 exact ⟨st', β', Z', h1, h2, ht.trans h3, h4.trans hsz, fun t h => (h5 t (hc t h).2).trans (hk t (hc t h).1), h6⟩
theorem not_own_deferred {Fr : Nat → Prop} {B : Nat} (h : SatH E B Fr β Z hp w) {r : Nat} {d : Option (List Deferred)} (hd : w.heap[r]? = some (.deferred d)) : ¬ Own β hp r := by
 rintro ⟨n, blk, ln, hn, hb⟩
 have hrb := h.rb n blk hn
 rw [hb] at hrb
 cases blk with
 | box => obtain ⟨cs, e, a1, _⟩ := hrb; rw [hd] at a1; simp at a1
 | row => obtain ⟨_, cs, a1, _⟩ := hrb; rw [hd] at a1; simp at a1
 | mp => obtain ⟨es, cl, a1, _⟩ := hrb; rw [hd] at a1; simp at a1
 | mpI => obtain ⟨es, cl, m, a1, _⟩ := hrb; rw [hd] at a1; simp at a1
 | mq => obtain ⟨es, a1, _⟩ := hrb; rw [hd] at a1; simp at a1
 | lp => obtain ⟨rr, a1, _⟩ := hrb; rw [hd] at a1; simp at a1
theorem head_hp {A : Ann} {c : Code} {st st1 : St} {g : A.G} (h : comesTo A st st1 g) : ∀ n, n ∉ A.dom st → (headSt A c st g).hp n = st.hp n := by
 obtain ⟨hchk, _, _⟩ := h
 have hchk := chk_iff.1 hchk
 simp only [Bool.and_eq_true] at hchk
 have hdom := sameNames_ok hchk.1.1
 intro n hn
 have : findHp (A.hp st g) n = none := findHp_none.2 fun x hx e => hn (by rw [hdom]; exact List.mem_map.2 ⟨x, hx, e⟩)
 show (match findHp (A.hp st g) n with | some (_, b) => b | none => st.hp n) = st.hp n
 rw [this]
theorem unroll_ok {fid : FuncId} {c : Code} (ih : CodeOk P E c (walk E fid inl yld c)) (n : Nat) : CodeOk P E (.loop c) (fun st Q => unroll (fun st Q => walk E fid inl yld c st Q) Q n st) := by
 intro st Q h ro B0 β0 Z0 a0 w0 hs hm hro
 let I : Nat → Act → World → Prop := fun m a w => ∃ (st1 : St) (β : Nat → Loc) (Z : Nat → Prop), unroll (fun st Q => walk E fid inl yld c st Q) Q m st1 ∧ Sat E st1 β Z a w ∧ Turn (HS.of st β0 Z0 w0) (HS.of st1 β Z w) ∧ st1.sz = st.sz ∧
   (∀ t, writes c t = false → a.tmps.getD t undef = a0.tmps.getD t undef) ∧ Marks B0 (HS.of st1 β Z w) a.defers
 have entry : I n a0 w0 := ⟨st, β0, Z0, h, hs, Turn.refl _, rfl, fun _ _ => rfl, hm⟩
 refine wpIn_loop_ghost I _ entry fun m a w hI => ?_
 obtain ⟨st1, β, Z, hu, hsat, hturn, hsz1, hkeep, hmk⟩ := hI
 cases m with
 | zero => exact hu.elim
 | succ m =>
   have hw := ih st1 _ hu ro B0 β Z a w hsat hmk (hro.turn hturn)
   refine wpIn_mono hw fun e a' w' hpost => ?_
   obtain ⟨st', β', Z', hq, hs', ht, hsz, hk, hm'⟩ := hpost
   have leave : Q e st' → Post E B0 Q (.loop c) (HS.of st β0 Z0 w0) st.sz a0 e a' w' := fun hq =>
     ⟨st', β', Z', hq, hs', hturn.trans ht, hsz.trans hsz1, fun t h => (hk t h).trans (hkeep t h), hm'⟩
   cases e with
   | normal => exact ⟨m, Nat.lt_succ_self m, st', β', Z', hq, hs', hturn.trans ht, hsz.trans hsz1, fun t h => (hk t h).trans (hkeep t h), hm'⟩
   | exit => exact leave hq
   | ret => exact leave hq
   | goto => exact leave hq
   | panic => exact leave hq
   | outgrown => exact leave hq
theorem loop_ok {fid : FuncId} {c : Code} (ih : CodeOk P E c (walk E fid inl yld c)) : CodeOk P E (.loop c) (walk E fid inl yld (.loop c)) := by
 intro st Q h ro B0 β0 Z0 a0 w0 hs hm hro
 simp only [walk] at h
 split at h
 · rename_i A _
   obtain ⟨⟨g0, hok0, hcome0⟩, hround⟩ := h
   let I : Nat → Act → World → Prop := fun m a w => ∃ (g : A.G) (β : Nat → Loc) (Z : Nat → Prop), A.ok st g ∧ A.mu st g = m ∧ Sat E (headSt A c st g) β Z a w ∧
     Turn (HS.of st β0 Z0 w0) ⟨β, Z, (headSt A c st g).hp, st.nx + 16, A.dom st ++ st.wl, w⟩ ∧ (∀ t, writes c t = false → a.tmps.getD t undef = a0.tmps.getD t undef) ∧ Marks B0 ⟨β, Z, (headSt A c st g).hp, st.nx + 16, A.dom st ++ st.wl, w⟩ a.defers ∧
     (∀ n, n ∉ A.dom st → (headSt A c st g).hp n = st.hp n)
   have entry : I (A.mu st g0) a0 w0 := by
     obtain ⟨β2, k1, k2⟩ := arrive (c := c) (st1 := { st with wl := [] }) hs hs.heap hs.tm hs.sz (Evo.refl _ _ _) (Ext.refl _) (fun b h => .inl h) (fun b h => .inl h) (fun _ _ _ => rfl) (fun _ _ => rfl) hcome0
     exact ⟨g0, β2, Z0, hok0, rfl, k1, k2, fun _ _ => rfl, hm.turn k2, head_hp hcome0⟩
   refine wpIn_loop_ghost I _ entry fun m a w hI => ?_
   obtain ⟨g, β, Z, hok, rfl, hsat, hturn, hkeep, hmk, hhead⟩ := hI
   have hw := ih _ _ (hround g hok) ro B0 β Z a w hsat hmk (hro.turn hturn)
   refine wpIn_mono hw fun e a' w' hpost => ?_
   obtain ⟨st', β', Z', hq, hs', ht, hsz, hk, hm'⟩ := hpost
   have T1 : Turn ⟨β, Z, (headSt A c st g).hp, st.nx + 16, A.dom st ++ st.wl, w⟩ ⟨β', Z', st'.hp, st'.nx, st'.wl ++ (A.dom st ++ st.wl), w'⟩ :=
     ⟨ht.ev, ht.ext, ht.own, ht.zown, ht.nx, fun n hn => List.mem_append.2 (.inr hn), fun n hn hw => ht.frame n hn (fun hh => hw (List.mem_append.2 (.inl hh)))⟩
   have leave : Q e { st' with wl := st'.wl ++ (A.dom st ++ st.wl) } → Post E B0 Q (.loop c) (HS.of st β0 Z0 w0) st.sz a0 e a' w' := fun hq =>
     ⟨{ st' with wl := st'.wl ++ (A.dom st ++ st.wl) }, β', Z', hq, ⟨hs'.heap, hs'.tm, hs'.sz⟩, hturn.trans T1, hsz, fun t h => (hk t h).trans (hkeep t h), hm'⟩
   cases e with
   | normal =>
     obtain ⟨g', hok', hlt, hcome⟩ := hq
     have hcome2 := hcome
     obtain ⟨hchk, _, _⟩ := hcome2
     have hchk := chk_iff.1 hchk
     simp only [Bool.and_eq_true, List.all_eq_true, Bool.or_eq_true, List.any_eq_true] at hchk
     obtain ⟨⟨hsame, _⟩, hwl⟩ := hchk
     have T := hturn.trans T1
     have kept : ∀ n, n < st.nx → n ∉ A.dom st → st'.hp n = st.hp n := fun n hn hnd => by
       have hnw : n ∉ st'.wl := fun hmem => by
         rcases hwl n hmem with h1 | ⟨x, hx, h1⟩
         · exact absurd (Nat.le_of_ble_eq_true h1) (by omega)
         · rw [Nat.eq_of_beq_eq_true h1] at hnd; exact hnd hx
       have e1 : st'.hp n = (headSt A c st g).hp n := ht.frame n (show n < st.nx + 16 by omega) hnw
       exact e1.trans (hhead n hnd)
     obtain ⟨β2, k1, k2⟩ := arrive (c := c) (st1 := st') (a1 := a') hs hs'.heap hs'.tm (by rw [hs'.sz, hsz]; rfl) T.ev T.ext T.own T.zown kept (fun t h => (hk t h).trans (hkeep t h)) hcome
     obtain ⟨m0, l, ml, mn, mr⟩ := hm'
     refine ⟨A.mu st g', hlt, g', β2, Z', hok', rfl, k1, k2, fun t h => (hk t h).trans (hkeep t h), ⟨m0, l, ml, mn, fun r hr => ?_⟩, head_hp hcome⟩
     obtain ⟨q0, q1, q2, q3⟩ := mr r hr
     exact ⟨q0, q1, not_own_deferred k1.heap q1, q3⟩
   | exit => exact leave hq
   | ret => exact leave hq
   | goto => exact leave hq
   | panic => exact leave hq
   | outgrown => exact leave hq
 · exact unroll_ok ih _ st Q h ro B0 β0 Z0 a0 w0 hs hm hro
theorem run_enterLoop_inner {l : Nat} {r : Loop} (h : w.heap[l]? = some (.loop r)) (fn : FuncId) (tmps : Array Value) (ps : Array Tmp) (assign body : Code) :
   (Instr.enterLoop fn tmps ps assign body (some l)).run P w = .ok (w.heap.size, []) (w.alloc (.loop { state := .ready, pending := none, fn, tmps, params := ps, assign, body, defers := r.defers })) := by
 unfold Instr.enterLoop
 simp only [Sem.run_bind, run_getLoop h, run_newObj_alloc, Result.andThen, Sem.run_pure]
theorem range_ok (hE : EnvOk P E) (hI : InlOk P E inl) (hIf : InlFn E inl) {fid : FuncId} {f : Operand} {ps : Array Tmp} {asg body : Code} : CodeOk P E (.rangeFunc f ps asg body) (walk E fid inl yld (.rangeFunc f ps asg body)) := by
 intro st Q h ro B0 β Z a w hs hm hro
 simp only [walk] at h
 split at h
 · rename_i g sh first nc cap hev
   have hfo := eval_ok hs.heap.gl hs.tm f
   rw [hev] at hfo
   obtain ⟨fs, cs, hv, q1, q2⟩ := fn_ok hfo
   have hfn := hIf _ _ _ _ _ _ h
   refine wpIn_rangeFunc fun fn _ => ?_
   have main : ∀ (w0 : World) (r : Loop), Left E 0 (fun n => st.nx ≤ n) β Z st.hp w β Z st.hp w0 → r.tmps = a.tmps → r.params = ps → r.assign = asg → r.body = body → r.state = .ready → r.pending = none →
       ∀ (mark : List Deferred), Marks B0 ⟨β, Z, st.hp, st.nx, st.wl, w0⟩ (mark ++ a.defers) →
       (Instr.enterLoop fn a.tmps ps asg body (Fn ro).round).run P w = .ok (w0.heap.size, mark) (w0.alloc (.loop r)) →
       ∃ (l : Nat) (mark : List Deferred) (w₁ : World) (d : Deferred) (w₁' : World) (f_1 : FuncId) (args : Array Value) (w₂ : World),
         (Instr.enterLoop fn a.tmps ps asg body (Fn ro).round).run P w = .ok (l, mark) w₁ ∧ (resolve a.eval (rangeCall f l) 0).run P w₁ = .ok d w₁' ∧ (∀ f', Target.leads P w₁' d.target d.args = some f' → (Fn ro).fn f') ∧
         (invoke d.target d.args).run P w₁' = .ok (.enter f_1 args) w₂ ∧ ((Fn ro).depth.isSome = true → 1 ≤ 0) ∧
         CallsIn (Fn ro) (0 - 1) P f_1 args w₂ (rangePost (Fn ro) 0 P l (Post E B0 Q (.rangeFunc f ps asg body) (HS.of st β Z w) st.sz a) { a with defers := mark ++ a.defers }) := by
     intro w0 r left0 e1 e2 e3 e4 e5 e6 mark hmk hrun
     have ev1 := Evo.alloc (Own β st.hp) Z w0 (.loop r)
     have calm0 := left0.sat.calm
     have hno := left0.sat.fresh st.nx (Nat.le_refl _)
     have leftR := left0.sat.mk_obj (Nat.zero_le _) (nm := st.nx) (Nat.le_refl _) (o := .loop r) (ln := 0) (blk := .lp fid st.sz st.tm ps.toList asg body false none)
       (lp_mk (heap_alloc_new w0 _) (by rw [e1]; exact hs.sz) (fun t => by rw [e1]; exact RA.mono (left0.ev.trans ev1 (fun b h => .inl h)) hs.heap.calm (ext_upd hno) (hs.tm t)) (by rw [e2]) e3 e4 (by rw [e5]; rfl) (by rw [e6]; rfl))
     let x : HS := ⟨upd β st.nx (.at w0.heap.size 0), Z, putBusy st.hp st.nx fid st.sz st.tm ps.toList asg body false none, st.nx + 4, st.wl, w0.alloc (.loop r)⟩
     have TL : Turn (HS.of st β Z w) ⟨β, Z, st.hp, st.nx, st.wl, w0⟩ := Turn.of_left left0 (Nat.le_refl _) (fun _ h => h) (fun _ _ _ => rfl)
     have TR : Turn ⟨β, Z, st.hp, st.nx, st.wl, w0⟩ x := Turn.of_left leftR (Nat.le_add_right _ _) (fun _ h => h) (fun n hn _ => upd_ne _ _ (by omega))
     have T := TL.trans TR
     have xok : x.ok E := leftR.sat.weaken (fun n (hn : st.nx + 4 ≤ n) => ⟨by omega, by omega⟩)
     have up : ∀ {l : List TV} {vs : List Value}, RL β Z w l vs → RL x.β x.Z x.w l vs := by
       intro l
       induction l with
       | nil => intro vs h; cases vs with
         | nil => trivial
         | cons => exact h.elim
       | cons y l ih => intro vs h; cases vs with
         | nil => cases y <;> exact h.elim
         | cons v vs => exact ⟨RT.mono T.ev hs.heap.calm T.ext h.1, ih h.2⟩
     have hargs : RL x.β x.Z x.w (firstsOf sh first 0 ++ (.c (.yl st.nx) :: capsOf cap nc 0)) (fs.toList ++ (.func (.yield w0.heap.size) #[] #[] :: cs.toList)) :=
       (up q1).append (l' := .c (.yl st.nx) :: capsOf cap nc 0) ⟨⟨w0.heap.size, 0, upd_same _ _ _, rfl⟩, up q2⟩
     have hcall := hI g _ x _ h xok _ hargs
     refine ⟨w0.heap.size, mark, w0.alloc (.loop r), { target := .fn (.func g) cs, args := fs ++ #[.func (.yield w0.heap.size) #[] #[]] }, w0.alloc (.loop r), g, _, w0.alloc (.loop r), hrun, ?_, fun _ _ => trivial, ?_, fun hd => by simp [Fn, Fence.wide] at hd, CallsIn.mono hcall fun e w3 hpost => ?_⟩
     · have hv' : a.eval f = .func (.func g) fs cs := hv
       have hres : resolve a.eval (rangeCall f w0.heap.size) 0 = Deferred.ofValue (a.eval f) #[.func (.yield w0.heap.size) #[] #[]] := by
         have hc : ∀ v, a.eval (.const v) = v := fun _ => rfl
         simp [resolve, rangeCall, hc]
       rw [hres, hv']
       simp [Deferred.ofValue]
     · have := run_enter (w := w0.alloc (.loop r)) (args := (fs ++ #[.func (.yield w0.heap.size) #[] #[]]) ++ cs) (hE.runs g (.inl hfn))
       simp only [invoke]
       rw [this]
       congr 2
       apply Array.ext'
       simp
     · obtain ⟨val, v, y, rfl, hk, rfl, yok, _, yt⟩ := hpost
       have hβy : y.β st.nx = .at w0.heap.size 0 := yt.ext.at (upd_same _ _ _)
       have fin : ∀ (fid' : FuncId) (sz' : Nat) (tm' : Nat → AV) (ps' : List Nat) (asg' body' : Code) (pend : Option Exit), y.hp st.nx = some (.lp fid' sz' tm' ps' asg' body' false pend) → ∃ w4, (Instr.endLoop w0.heap.size).run P y.w = .ok (pend.bind codeExit) w4 ∧
           ∀ e, Q e { st with hp := upd y.hp st.nx none, nx := y.nx, wl := y.wl } → Post E B0 Q (.rangeFunc f ps asg body) (HS.of st β Z w) st.sz a e { a with defers := mark ++ a.defers } w4 := by
         intro fid' sz' tm' ps' asg' body' pend hp'
         have hrb := yok.rb st.nx _ hp'
         rw [hβy] at hrb
         obtain ⟨p, p1, _, _, _, _, _, p7, p8⟩ := hrb
         have hstate : p.state ≠ .busy := by rw [p7]; cases pend <;> simp
         refine ⟨y.w.putObj w0.heap.size (.loop { p with state := .exhausted }), by rw [← p8]; exact run_endLoop p1 hstate, fun e hq => ?_⟩
         have leftE := yok.setLoop hp' hβy p1 (r' := { p with state := .exhausted }) ⟨rfl, rfl, rfl, rfl, rfl, rfl⟩ (ob := none) (fun blk h => by simp at h)
         have TE : Turn ⟨y.β, y.Z, y.hp, y.nx, [st.nx] ++ y.wl, y.w⟩ ⟨y.β, y.Z, upd y.hp st.nx none, y.nx, [st.nx] ++ y.wl, y.w.putObj w0.heap.size (.loop { p with state := .exhausted })⟩ :=
           Turn.of_left leftE (Nat.le_refl _) (fun _ h => h) (fun n _ hn => upd_ne _ _ (fun e => hn (by simp [e])))
         have TA := T.trans yt
         have TAll : Turn (HS.of st β Z w) ⟨y.β, y.Z, upd y.hp st.nx none, y.nx, y.wl, y.w.putObj w0.heap.size (.loop { p with state := .exhausted })⟩ := by
           refine ⟨TA.ev.trans TE.ev TA.own, TA.ext.trans TE.ext, fun b hb => ?_, fun b hb => TA.zown b hb, TA.nx, TA.wl, fun n hn hw => ?_⟩
           · rcases TE.own b hb with h1 | h1
             · exact TA.own b h1
             · exact .inr (Nat.le_trans TA.ev.size h1)
           · show upd y.hp st.nx none n = st.hp n
             rw [upd_ne _ _ (by simp [HS.of] at hn; omega)]
             exact TA.frame n hn hw
         have hm2 := (hmk.turn TR).turn yt
         refine ⟨{ st with hp := upd y.hp st.nx none, nx := y.nx, wl := y.wl }, y.β, y.Z, hq, ⟨leftE.sat, fun t => RA.mono TAll.ev hs.heap.calm TAll.ext (hs.tm t), hs.sz⟩, TAll, rfl, fun _ _ => rfl, ?_⟩
         obtain ⟨m0, l, ml, mn, mr⟩ := hm2
         refine ⟨by show B0 ≤ (y.w.putObj _ _).heap.size; simpa using m0, l, ml, mn, fun r hr => ?_⟩
         obtain ⟨z0, z1, z2, z3⟩ := mr r hr
         have hne : r ≠ w0.heap.size := fun e => by rw [e] at z1; rw [p1] at z1; simp at z1
         have z1' : (y.w.putObj w0.heap.size (.loop { p with state := .exhausted })).heap[r]? = some (.deferred (some [])) := by rw [World.putObj_heap_other hne]; exact z1
         exact ⟨z0, z1', not_own_deferred leftE.sat z1', z3⟩
       split at hk
       · rename_i hp'
         obtain ⟨w4, k1, k2⟩ := fin _ _ _ _ _ _ _ hp'
         exact ⟨none, w4, k1, k2 .normal hk⟩
       · rename_i hp'
         obtain ⟨w4, k1, k2⟩ := fin _ _ _ _ _ _ _ hp'
         exact ⟨some .ret, w4, k1, wpIn_ret (k2 .ret hk)⟩
       · rename_i hp'
         obtain ⟨w4, k1, k2⟩ := fin _ _ _ _ _ _ _ hp'
         exact ⟨some (.exit _), w4, k1, wpIn_exit (k2 (.exit _) hk)⟩
       · exact hk.elim
   cases ro with
   | none =>
     have left0 := hs.heap.alloc (.deferred (some []))
     have T0 : Turn (HS.of st β Z w) ⟨β, Z, st.hp, st.nx, st.wl, w.alloc (.deferred (some []))⟩ := Turn.of_left left0 (Nat.le_refl _) (fun _ h => h) (fun _ _ _ => rfl)
     have hrun := run_enterLoop_outer (P := P) (w := w) fn a.tmps ps asg body
     refine main (w.alloc (.deferred (some []))) { state := .ready, pending := none, fn := fn, tmps := a.tmps, params := ps, assign := asg, body := body, defers := w.heap.size } left0 rfl rfl rfl rfl rfl rfl [markOf w.heap.size] ?_ (by rw [World.size_alloc]; exact hrun)
     obtain ⟨m0, l, ml, mn, mr⟩ := hm
     obtain ⟨m0', l', ml', mn', mr'⟩ := Marks.turn (x := HS.of st β Z w) (ds := a.defers) ⟨m0, l, ml, mn, mr⟩ T0
     have hm0 : B0 ≤ w.heap.size := m0
     refine ⟨m0', w.heap.size :: l, by simp [ml], List.nodup_cons.2 ⟨fun hin => ?_, mn⟩, fun r hr => ?_⟩
     · have q1 : w.heap[w.heap.size]? = some (.deferred (some [])) := (mr _ hin).2.1
       simp at q1
     · rcases List.mem_cons.1 hr with rfl | hr
       · have hnew := heap_alloc_new w (.deferred (some []))
         exact ⟨hm0, hnew, not_own_deferred left0.sat hnew, fun hz => Nat.lt_irrefl _ (hs.heap.zlt _ hz)⟩
       · have hll : l.map markOf = l'.map markOf := ml.symm.trans ml'
         have inj : ∀ a b, markOf a = markOf b → a = b := fun a b e => by simp [markOf] at e; exact e
         have : l = l' := List.map_inj_right inj |>.1 hll
         exact mr' r (this ▸ hr)
   | some l0 =>
     obtain ⟨r0, hr0⟩ := hro l0 rfl
     exact main w { state := .ready, pending := none, fn := fn, tmps := a.tmps, params := ps, assign := asg, body := body, defers := r0.defers } (Left.same hs.heap (fun _ h => h)) rfl rfl rfl rfl rfl rfl [] hm (run_enterLoop_inner hr0 fn a.tmps ps asg body)
 · exact h.elim
end
end Go.Sx
