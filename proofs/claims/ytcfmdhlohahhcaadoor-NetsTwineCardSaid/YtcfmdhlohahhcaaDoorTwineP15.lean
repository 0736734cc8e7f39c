/- Texts for the law of the last part, part 15. -/
import Derived.Test.YtcfmdhlohahhcaaDoorTwineP14
set_option linter.unusedSimpArgs false
set_option linter.unusedVariables false
namespace Nm
open Go Go.Sx
theorem cntN_pos {p : Nat → Bool} : ∀ {n : Nat}, 0 < cntN n p ↔ ∃ i, i < n ∧ p i = true
 | 0 => by simp [cntN]
 | n + 1 => by
   rw [cntN]
   constructor
   · intro h
     by_cases c : p n = true
     · exact ⟨n, by omega, c⟩
     · rw [if_neg c] at h
       obtain ⟨i, h1, h2⟩ := cntN_pos.1 (show 0 < cntN n p by omega)
       exact ⟨i, by omega, h2⟩
   · intro ⟨i, h1, h2⟩
     by_cases c : i = n
     · subst c; rw [if_pos h2]; omega
     · have := cntN_pos.2 (⟨i, by omega, h2⟩ : ∃ i, i < n ∧ p i = true); omega
structure BrOk (N n : Nat) (b : Nat → Nat → Int) : Prop where
 N36 : N ≤ 36
 lt : ∀ i, i < n → b i 0 < b i 1
 dif : ∀ i, i < n → ∀ j, j < n → b i 0 = b j 0 → b i 1 = b j 1 → i = j
 kn : ∀ i, i < n → (0 ≤ b i 0 ∧ b i 0 < N) ∧ 0 ≤ b i 1 ∧ b i 1 < N
theorem BrOk.k36 {N n : Nat} {b : Nat → Nat → Int} (B : BrOk N n b) : ∀ i, i < n → (0 ≤ b i 0 ∧ b i 0 < 36) ∧ 0 ≤ b i 1 ∧ b i 1 < 36 := fun i hi => by
 have := B.kn i hi; have := B.N36; omega
def lab (N n : Nat) (b : Nat → Nat → Int) : Int → Int := fwR n b N
theorem BrOk.cls {N n : Nat} {b : Nat → Nat → Int} (B : BrOk N n b) {s : Int} (hs : 0 ≤ s ∧ s < N) : Cls n b (· ∈ grp n b s) := grp_cls B.k36 (by have := B.N36; omega)
theorem BrOk.in_grp {N n : Nat} {b : Nat → Nat → Int} (B : BrOk N n b) {s : Int} (hs : 0 ≤ s ∧ s < N) {v : Int} : v ∈ grp n b s ↔ lab N n b v = lab N n b s := by
 obtain ⟨m, hm, h⟩ := fwR_same B.N36 B.kn hs
 have c := fwR_cls (B.cls hs) (r := N)
 constructor
 · intro hv
   unfold lab
   rw [h v hv, h s grp_self]
 · intro e
   unfold lab at e
   rw [h s grp_self] at e
   rw [c v, e]; exact hm
theorem BrOk.lab_bar {N n : Nat} {b : Nat → Nat → Int} (B : BrOk N n b) {i : Nat} (hi : i < n) : lab N n b (b i 0) = lab N n b (b i 1) := by
 have hs := (B.kn i hi).1
 exact ((B.in_grp hs).1 ((B.cls hs i hi).1 grp_self)).symm
theorem BrOk.lab_inc {N n : Nat} {b : Nat → Nat → Int} (B : BrOk N n b) {i : Nat} (hi : i < n) {v : Int} (hv : inc b i v = true) : lab N n b v = lab N n b (b i 0) := by
 rcases inc_iff.1 hv with rfl | rfl
 · rfl
 · exact (B.lab_bar hi).symm
theorem BrOk.lab_rng {N n : Nat} {b : Nat → Nat → Int} (B : BrOk N n b) {s : Int} (hs : 0 ≤ s ∧ s < N) : 0 ≤ lab N n b s ∧ lab N n b s < N := by
 have c : Cls n b fun v => 0 ≤ v ∧ v < (N : Int) := fun i hi => ⟨fun _ => (B.kn i hi).2, fun _ => (B.kn i hi).1⟩
 exact (fwR_cls c (r := N) s).1 hs
def oddL (n : Nat) (b : Nat → Nat → Int) (s : Int) : List Int := (grp n b s).filter (oddB n b)
theorem oddL_mem {n : Nat} {b : Nat → Nat → Int} {s v : Int} : v ∈ oddL n b s ↔ v ∈ grp n b s ∧ oddB n b v = true := by
 unfold oddL; rw [List.mem_filter]
theorem oddL_nod {n : Nat} {b : Nat → Nat → Int} {s : Int} : (oddL n b s).Nodup := by
 unfold oddL; exact grp_nod.sublist List.filter_sublist
theorem oddL_even {N n : Nat} {b : Nat → Nat → Int} (B : BrOk N n b) {s : Int} (hs : 0 ≤ s ∧ s < N) : ∃ m, (oddL n b s).length = 2 * m := by
 unfold oddL; exact odd_even (fun i hi => Int.ne_of_lt (B.lt i hi)) grp_nod (B.cls hs)
def gone (N n : Nat) (b : Nat → Nat → Int) (lf : Nat → Bool) (g : Nat) : Nat := cntN n fun j => decide (lab N n b (b j 0) = (g : Int)) && !lf j
structure MdInv (N n : Nat) (b : Nat → Nat → Int) (lf : Nat → Bool) (L : List (List Int)) : Prop where
 cnt : ∀ j, j < n → cntL b j L = if lf j = true then 0 else 1
 ok : ∀ p ∈ L, PcOk n b p
 uni : ∀ i, i < n → ∀ j, j < n → lab N n b (b i 0) = lab N n b (b j 0) → lf i = lf j
 num : L.length = sumF N fun g => if 0 < gone N n b lf g then needG N n b (lab N n b) g else 0
theorem gone_iff {N n : Nat} {b : Nat → Nat → Int} {lf : Nat → Bool} {g : Nat} : 0 < gone N n b lf g ↔ ∃ j, j < n ∧ lab N n b (b j 0) = (g : Int) ∧ lf j = false := by
 unfold gone
 rw [cntN_pos]
 constructor
 · rintro ⟨j, h1, h2⟩
   rw [Bool.and_eq_true, decide_eq_true_eq, Bool.not_eq_true'] at h2
   exact ⟨j, h1, h2⟩
 · rintro ⟨j, h1, h2, h3⟩
   exact ⟨j, h1, by rw [decide_eq_true h2, h3]; rfl⟩
theorem MdInv.start {N n : Nat} {b : Nat → Nat → Int} : MdInv N n b (fun j => decide (j < n)) [] := by
 refine ⟨fun j hj => by rw [decide_eq_true hj]; rfl, fun p h => (by cases h), fun i hi j hj _ => by rw [decide_eq_true hi, decide_eq_true hj], ?_⟩
 symm
 refine sumF_zero fun g _ => ?_
 rw [if_neg]
 intro h
 obtain ⟨j, h1, _, h3⟩ := gone_iff.1 h
 rw [decide_eq_true h1] at h3; cases h3
theorem MdInv.pre {N n : Nat} {b : Nat → Nat → Int} (B : BrOk N n b) {lf : Nat → Bool} {L : List (List Int)} (M : MdInv N n b lf L) {i : Nat} (hi : i < n) (hl : lf i = true) : SpPre n b (· ∈ grp n b (b i 0)) ⟨lf, jnL (oddL n b (b i 0))⟩ (b i 0) (b i 0) := by
 have hs := (B.kn i hi).1
 have nod : (oddL n b (b i 0)).Nodup := oddL_nod
 have hkn : ∀ v ∈ grp n b (b i 0), 0 ≤ v ∧ v < 36 := fun v hv => grpK_kn (s := b i 0) B.k36 (by have := B.N36; omega) (i := 36) v (by rw [← grp_eq]; exact hv)
 refine ⟨⟨fun v w h => ?_, fun v w h => ?_⟩, grp_self, fun v hv => ?_⟩
 · obtain ⟨h1, h2⟩ := jnL_sy nod h
   exact ⟨h1, h2, (oddL_mem.1 (jnL_mem h).1).1⟩
 · exact hkn v (oddL_mem.1 (jnL_mem h).1).1
 · obtain ⟨m, hm⟩ := oddL_even B hs
   have e1 : xorN n (fun j => lf j && inc b j v) = oddB n b v := xorN_congr fun j hj => by
     cases q : inc b j v with
     | false => rw [Bool.and_false]
     | true =>
       have e : lab N n b (b j 0) = lab N n b (b i 0) := (B.lab_inc hj q).symm.trans ((B.in_grp hs).1 hv)
       rw [M.uni j hj i hi e, hl]; rfl
   have e2 : (jnL (oddL n b (b i 0)) v).isSome = oddB n b v := by
     rw [jnL_some hm]
     rw [Bool.eq_iff_iff, decide_eq_true_eq, oddL_mem]
     exact ⟨fun h => h.2, fun h => ⟨hv, h⟩⟩
   show (xorN n (fun j => lf j && inc b j v) ^^ (jnL (oddL n b (b i 0)) v).isSome) = _
   rw [e1, e2]
   cases oddB n b v <;> cases decide (v = b i 0) <;> rfl
theorem wlkC {n : Nat} {b : Nat → Nat → Int} {C : Int → Prop} (hc : Cls n b C) {s : SpS} (hj : ∀ v w, s.jn v = some w → C v) : ∀ {l : List Th} {e k : Int}, C e → Walk e l k → (∀ x ∈ l, ThOk n b s x) → ∀ x ∈ l, C x.f ∧ C x.t
 | [], _, _, _, _, _, x, hx => by cases hx
 | y :: l, e, k, he, w, ok, x, hx => by
   have o := ok y (List.mem_cons.2 (.inl rfl))
   have cf : C y.f := by rw [w.1]; exact he
   have ct : C y.t := by
     unfold ThOk at o
     cases q : y.q with
     | none => rw [q] at o; exact hj _ _ o.2
     | some i =>
       rw [q] at o
       rcases o.2.2 with ⟨e1, e2⟩ | ⟨e1, e2⟩
       · rw [e2, ← hc i o.1, ← e1]; exact cf
       · rw [e2, hc i o.1, ← e1]; exact cf
   rcases List.mem_cons.1 hx with rfl | hx
   · exact ⟨cf, ct⟩
   · exact wlkC hc hj ct w.2 (fun z hz => ok z (List.mem_cons.2 (.inr hz))) x hx
theorem sub_len {l m : List Int} (h : l.Nodup) (hs : ∀ x ∈ l, x ∈ m) : l.length ≤ m.length := by
 induction l generalizing m with
 | nil => exact Nat.zero_le _
 | cons x l ih =>
   obtain ⟨h1, h2⟩ := List.nodup_cons.1 h
   have hx := hs x (List.mem_cons.2 (.inl rfl))
   have := ih h2 (m := m.erase x) fun y hy => (List.mem_erase_of_ne (by rintro rfl; exact h1 hy)).2 (hs y (List.mem_cons.2 (.inr hy)))
   rw [List.length_erase_of_mem hx] at this
   have : 0 < m.length := List.length_pos_of_mem hx
   rw [List.length_cons]; omega
def virE : List Th → List Int
 | [] => []
 | x :: l => if x.q.isNone then x.f :: x.t :: virE l else virE l
theorem virE_len : ∀ {l : List Th}, (virE l).length = 2 * virN l
 | [] => rfl
 | x :: l => by
   have ih := virE_len (l := l)
   unfold virN at ih ⊢
   rw [virE, List.countP_cons]
   cases x.q.isNone with
   | false => simp only [Bool.false_eq_true, if_false]; omega
   | true => simp only [if_true, List.length_cons]; omega
theorem virE_mem {v : Int} : ∀ {l : List Th}, v ∈ virE l ↔ ∃ x ∈ l, x.q = none ∧ (x.f = v ∨ x.t = v)
 | [] => by simp [virE]
 | x :: l => by
   have ih := virE_mem (v := v) (l := l)
   rw [virE]
   cases q : x.q with
   | none =>
     simp only [Option.isNone_none, if_true, List.mem_cons, ih]
     constructor
     · rintro (rfl | rfl | ⟨y, hy, h⟩)
       · exact ⟨x, .inl rfl, q, .inl rfl⟩
       · exact ⟨x, .inl rfl, q, .inr rfl⟩
       · exact ⟨y, .inr hy, h⟩
     · rintro ⟨y, rfl | hy, h1, h2⟩
       · rcases h2 with h2 | h2
         · exact .inl h2.symm
         · exact .inr (.inl h2.symm)
       · exact .inr (.inr ⟨y, hy, h1, h2⟩)
   | some i =>
     simp only [Option.isNone_some, Bool.false_eq_true, if_false, ih, List.mem_cons]
     constructor
     · rintro ⟨y, hy, h⟩; exact ⟨y, .inr hy, h⟩
     · rintro ⟨y, rfl | hy, h1, h2⟩
       · rw [q] at h1; cases h1
       · exact ⟨y, hy, h1, h2⟩
theorem virE_nod : ∀ {l : List Th}, l.Pairwise ThNe → (∀ x ∈ l, x.q = none → x.f ≠ x.t) → (virE l).Nodup
 | [], _, _ => List.nodup_nil
 | x :: l, h, hne => by
   obtain ⟨h1, h2⟩ := List.pairwise_cons.1 h
   have ih := virE_nod h2 fun y hy => hne y (List.mem_cons.2 (.inr hy))
   rw [virE]
   cases q : x.q with
   | some i => exact ih
   | none =>
     simp only [Option.isNone_none, if_true]
     rw [List.nodup_cons, List.nodup_cons]
     refine ⟨fun hm => ?_, fun hm => ?_, ih⟩
     · rcases List.mem_cons.1 hm with e | hm
       · exact hne x (List.mem_cons.2 (.inl rfl)) q e
       · obtain ⟨y, hy, h3, h4⟩ := virE_mem.1 hm
         have := (h1 y hy).2 q h3
         rcases h4 with h4 | h4
         · exact this.1 h4.symm
         · exact this.2.1 h4.symm
     · obtain ⟨y, hy, h3, h4⟩ := virE_mem.1 hm
       have := (h1 y hy).2 q h3
       rcases h4 with h4 | h4
       · exact this.2.2.1 h4.symm
       · exact this.2.2.2 h4.symm
theorem MdInv.step {N n : Nat} {b : Nat → Nat → Int} (B : BrOk N n b) {lf : Nat → Bool} {L : List (List Int)} (M : MdInv N n b lf L) {i : Nat} (hi : i < n) (hl : lf i = true) {s' : SpS} {W : List Th} (S : SpPost n b (· ∈ grp n b (b i 0)) ⟨lf, jnL (oddL n b (b i 0))⟩ (b i 0) (b i 0) s' W) : MdInv N n b s'.lf (L ++ cutF W) := by
 have hs := (B.kn i hi).1
 have P := M.pre B hi hl
 have hc := B.cls hs
 have hin := wlkC hc (fun v w h => (P.jo.sy v w h).2.2) P.ck S.walk S.acc.ok
 have vis : ∀ v ∈ grp n b (b i 0), v = b i 0 ∨ seen W v := fun v hv => by
   have used : ∀ j, j < n → ∀ u, inc b j u = true → u ∈ grp n b (b i 0) → (u = b i 0 ∨ seen W u) → seen W (othr b j u) := fun j hj u hu hK hu2 => by
     have c := (S.clo u hu2).1 j hj hu
     have e : lab N n b (b j 0) = lab N n b (b i 0) := (B.lab_inc hj hu).symm.trans ((B.in_grp hs).1 hK)
     have hlj : lf j = true := by rw [M.uni j hj i hi e, hl]
     have := S.acc.lf j
     rw [c] at this
     have this : false = (lf j && !usedB W j) := this
     rw [hlj] at this
     have hu3 : usedB W j = true := by
       cases q : usedB W j with
       | true => rfl
       | false => rw [q] at this; cases this
     obtain ⟨x, hx, q⟩ := usedB_iff.1 hu3
     have o := S.acc.ok x hx
     unfold ThOk at o
     rw [q] at o
     refine ⟨x, hx, ?_⟩
     rcases othr_of hu with ⟨_, e2⟩ | ⟨_, e2⟩
     · rw [e2]; rcases o.2.2 with ⟨o1, o2⟩ | ⟨o1, o2⟩
       · exact .inr o2
       · exact .inl o1
     · rw [e2]; rcases o.2.2 with ⟨o1, o2⟩ | ⟨o1, o2⟩
       · exact .inl o1
       · exact .inr o2
   have key : Cls n b fun v => v ∈ grp n b (b i 0) → (v = b i 0 ∨ seen W v) := fun j hj => by
     refine ⟨fun h hK => ?_, fun h hK => ?_⟩
     · have hK0 := (hc j hj).2 hK
       have := used j hj (b j 0) (inc_iff.2 (.inl rfl)) hK0 (h hK0)
       rw [show othr b j (b j 0) = b j 1 by unfold othr; omega] at this
       exact .inr this
     · have hK0 := (hc j hj).1 hK
       have := used j hj (b j 1) (inc_iff.2 (.inr rfl)) hK0 (h hK0)
       rw [show othr b j (b j 1) = b j 0 by unfold othr; omega] at this
       exact .inr this
   exact grp_min key (fun _ => .inl rfl) hv hv
 have usedI : ∀ j, j < n → (usedB W j = true ↔ lab N n b (b j 0) = lab N n b (b i 0)) := fun j hj => by
   constructor
   · intro h
     obtain ⟨x, hx, q⟩ := usedB_iff.1 h
     have o := S.acc.ok x hx
     unfold ThOk at o
     rw [q] at o
     have c := hin x hx
     rcases o.2.2 with ⟨o1, _⟩ | ⟨_, o2⟩
     · rw [← o1]; exact (B.in_grp hs).1 c.1
     · rw [← o2]; exact (B.in_grp hs).1 c.2
   · intro e
     have c := (S.clo _ (vis _ ((B.in_grp hs).2 e))).1 j hj (inc_iff.2 (.inl rfl))
     have := S.acc.lf j
     rw [c] at this
     have this : false = (lf j && !usedB W j) := this
     rw [M.uni j hj i hi e, hl] at this
     cases q : usedB W j with
     | true => rfl
     | false => rw [q] at this; cases this
 have neW : W ≠ [] := fun e => by
   have := (usedI i hi).2 rfl
   rw [e] at this; cases this
 have C := cut_ok B.lt B.dif (fun v w h => (P.jo.sy v w h).2.1) S.acc S.walk neW
 have lf' : ∀ j, s'.lf j = (lf j && !usedB W j) := S.acc.lf
 have mg := B.lab_rng hs
 have hvir : virN W = (oddL n b (b i 0)).length / 2 := by
   have nodE : (virE W).Nodup := virE_nod S.acc.nod fun x hx q => by
     have o := S.acc.ok x hx
     unfold ThOk at o
     rw [q] at o
     exact (P.jo.sy _ _ o.1).2.1
   have nodO : (oddL n b (b i 0)).Nodup := oddL_nod
   obtain ⟨m, hm⟩ := oddL_even B hs
   have a1 := sub_len nodE (m := oddL n b (b i 0)) fun v hv => by
     obtain ⟨x, hx, q, o⟩ := virE_mem.1 hv
     have ok := S.acc.ok x hx
     unfold ThOk at ok
     rw [q] at ok
     rcases o with rfl | rfl
     · exact (jnL_mem ok.1).1
     · exact (jnL_mem ok.1).2
   have a2 := sub_len nodO (m := virE W) fun v hv => by
     have hK := (oddL_mem.1 hv).1
     have c := (S.clo v (vis v hK)).2
     rw [S.acc.jn] at c
     have hsome : (jnL (oddL n b (b i 0)) v).isSome = true := by rw [jnL_some hm]; exact decide_eq_true hv
     split at c
     · rename_i u
       obtain ⟨x, hx, q, o⟩ := usedJ_iff.1 u
       exact virE_mem.2 ⟨x, hx, q, o⟩
     · have c : jnL (oddL n b (b i 0)) v = none := c
       rw [c] at hsome; cases hsome
   rw [virE_len] at a1 a2
   omega
 refine ⟨fun j hj => ?_, fun p hp => ?_, fun j hj k hk e => ?_, ?_⟩
 · rw [cntL_append, M.cnt j hj, C.cnt j hj, lf']
   have hu := usedI j hj
   cases q : usedB W j with
   | true =>
     have e := hu.1 q
     rw [M.uni j hj i hi e, hl]; rfl
   | false =>
     cases lf j <;> rfl
 · rcases List.mem_append.1 hp with hp | hp
   · exact M.ok p hp
   · exact C.ok p hp
 · rw [lf', lf', M.uni j hj k hk e]
   congr 2
   rw [Bool.eq_iff_iff, usedI j hj, usedI k hk, e]
 · rw [List.length_append, M.num, C.num, hvir]
   symm
   refine sumF_one (k := (lab N n b (b i 0)).toNat) (by omega) (fun g hg hne => ?_) ?_
   · have : (0 < gone N n b s'.lf g) ↔ 0 < gone N n b lf g := by
       rw [gone_iff, gone_iff]
       constructor
       · rintro ⟨j, h1, h2, h3⟩
         refine ⟨j, h1, h2, ?_⟩
         rw [lf'] at h3
         have hu : usedB W j = false := by
           cases q : usedB W j with
           | false => rfl
           | true => have := (usedI j h1).1 q; exact absurd (by omega) hne
         rw [hu] at h3
         simpa using h3
       · rintro ⟨j, h1, h2, h3⟩
         exact ⟨j, h1, h2, by rw [lf', h3]; rfl⟩
     by_cases c : 0 < gone N n b lf g
     · rw [if_pos c, if_pos (this.2 c)]
     · rw [if_neg c, if_neg fun d => c (this.1 d)]
   · have e0 : (((lab N n b (b i 0)).toNat : Nat) : Int) = lab N n b (b i 0) := by omega
     rw [if_pos (gone_iff.2 ⟨i, hi, e0.symm, by rw [lf', (usedI i hi).2 rfl]; simp⟩), if_neg, Nat.zero_add]
     · unfold needG
       rw [if_pos (anyG_iff.2 ⟨(b i 0).toNat, by omega, by rw [show (((b i 0).toNat : Nat) : Int) = b i 0 by omega, e0], by rw [show (((b i 0).toNat : Nat) : Int) = b i 0 by omega]; exact meets_pos.2 ⟨i, hi, inc_iff.2 (.inl rfl)⟩⟩)]
       congr 2
       have nodO : (oddL n b (b i 0)).Nodup := oddL_nod
       have hN : ∀ v ∈ oddL n b (b i 0), 0 ≤ v ∧ v < N := fun v hv => grp_min (P := fun v => 0 ≤ v ∧ v < (N : Int)) (fun j hj => ⟨fun _ => (B.kn j hj).2, fun _ => (B.kn j hj).1⟩) hs (oddL_mem.1 hv).1
       rw [← cnt_list nodO hN]
       have : ∀ {M : Nat}, M ≤ N → oddG n b (lab N n b) (lab N n b (b i 0)).toNat M = cntN M fun v => decide ((v : Int) ∈ oddL n b (b i 0)) := by
         intro M
         induction M with
         | zero => intro _; rfl
         | succ M ih =>
           intro hM
           rw [oddG, cntN, ih (by omega)]
           congr 1
           have hin2 : ((M : Int) ∈ oddL n b (b i 0)) ↔ lab N n b M = lab N n b (b i 0) ∧ oddB n b M = true := by
             rw [oddL_mem, B.in_grp hs]
           rw [e0]
           by_cases c : lab N n b M = lab N n b (b i 0)
           · by_cases d : 0 < meets n b M
             · rw [if_pos ⟨c, d⟩]
               by_cases f : meets n b M % 2 = 1
               · rw [if_pos (decide_eq_true (hin2.2 ⟨c, by rw [oddB_meets]; exact decide_eq_true f⟩)), f]
               · rw [if_neg]
                 · omega
                 · rw [decide_eq_true_eq, hin2, oddB_meets, decide_eq_true_eq]; exact fun h => f h.2
             · rw [if_neg fun h => d h.2, if_neg]
               rw [decide_eq_true_eq, hin2, oddB_meets, decide_eq_true_eq]
               intro h; omega
           · rw [if_neg fun h => c h.1, if_neg]
             rw [decide_eq_true_eq, hin2]; exact fun h => c h.1
       exact this (Nat.le_refl N)
     · intro h
       obtain ⟨j, h1, h2, h3⟩ := gone_iff.1 h
       rw [e0] at h2
       rw [M.uni j h1 i hi h2, hl] at h3; cases h3
theorem MdInv.end_ {N n : Nat} {b : Nat → Nat → Int} (B : BrOk N n b) {lf : Nat → Bool} {L : List (List Int)} (M : MdInv N n b lf L) (h : ∀ j, j < n → lf j = false) : (∀ j, j < n → cntL b j L = 1) ∧ (∀ p ∈ L, PcOk n b p) ∧ L.length = few N n b := by
 refine ⟨fun j hj => by rw [M.cnt j hj, h j hj]; rfl, M.ok, ?_⟩
 rw [M.num]
 unfold few
 refine sumF_congr fun g hg => ?_
 by_cases c : 0 < gone N n b lf g
 · rw [if_pos c]; rfl
 · rw [if_neg c]
   unfold needG
   rw [if_neg]
   intro a
   obtain ⟨v, h1, h2, h3⟩ := anyG_iff.1 a
   obtain ⟨j, h4, h5⟩ := meets_pos.1 h3
   exact c (gone_iff.2 ⟨j, h4, by rw [← B.lab_inc h4 h5]; exact h2, h j h4⟩)
end Nm
namespace Nm
open Go Go.Sx
def hdI (p : List Int) : Int := p.headD 0
def ltI (p : List Int) : Int := p.getLastD 0
def one (p : Prop) [Decidable p] : Nat := if p then 1 else 0
theorem one_le {p : Prop} [Decidable p] : one p ≤ 1 := by unfold one; split <;> omega
def tchP (n : Nat) (b : Nat → Nat → Int) (v : Int) (p : List Int) : Nat := sumF n fun j => if inc b j v = true then cntP b j p else 0
theorem sumF_add {f g : Nat → Nat} : ∀ {n : Nat}, sumF n (fun i => f i + g i) = sumF n f + sumF n g
 | 0 => rfl
 | n + 1 => by rw [sumF, sumF, sumF, sumF_add]; omega
theorem inc_one {b : Nat → Nat → Int} {i : Nat} (hne : b i 0 ≠ b i 1) (v : Int) : (if inc b i v = true then 1 else 0) = one (v = b i 0) + one (v = b i 1) := by
 unfold one
 by_cases h0 : v = b i 0
 · have h1 : ¬ v = b i 1 := by rw [h0]; exact hne
   rw [if_pos (inc_iff.2 (.inl h0.symm)), if_pos h0, if_neg h1]
 · by_cases h1 : v = b i 1
   · rw [if_pos (inc_iff.2 (.inr h1.symm)), if_neg h0, if_pos h1]
   · rw [if_neg (c := v = b i 0) h0, if_neg (c := v = b i 1) h1, if_neg]
     intro h
     rcases inc_iff.1 h with h | h
     · exact h0 h.symm
     · exact h1 h.symm
section
variable {N n : Nat} {b : Nat → Nat → Int}
theorem step_bar (B : BrOk N n b) {x y : Int} {j : Nat} (hj : j < n) (h : barEq b (imin x y) (imax x y) j = true) : (x = b j 0 ∧ y = b j 1) ∨ (x = b j 1 ∧ y = b j 0) := by
 obtain ⟨h0, h1⟩ := barEq_iff.1 h
 have := B.lt j hj
 unfold imin at h0
 unfold imax at h1
 split at h0 <;> split at h1 <;> omega
theorem tch_step (B : BrOk N n b) {x y : Int} (h : ∃ j, j < n ∧ barEq b (imin x y) (imax x y) j = true) (v : Int) : sumF n (fun j => if inc b j v = true then stp b x y j else 0) = one (v = x) + one (v = y) := by
 obtain ⟨j, hj, hb⟩ := h
 have he := step_bar B hj hb
 obtain ⟨_, hs⟩ := stp_bar B.lt B.dif hj he
 have := sumF_one (f := fun i => if inc b i v = true then stp b x y i else 0) (g := fun _ => 0) (k := j) (d := if inc b j v = true then 1 else 0) hj (fun i hi hne => by
   show (if inc b i v = true then stp b x y i else 0) = 0
   rw [hs i hi, if_neg hne]; split <;> rfl) (by
   show (if inc b j v = true then stp b x y j else 0) = _
   rw [hs j hj, if_pos rfl]; omega)
 rw [this, sumF_zero fun _ _ => rfl, inc_one (Int.ne_of_lt (B.lt j hj))]
 rcases he with ⟨rfl, rfl⟩ | ⟨rfl, rfl⟩ <;> omega
theorem tch_par (B : BrOk N n b) (v : Int) : ∀ {p : List Int}, p ≠ [] → hasP n b p → tchP n b v p % 2 = (one (v = hdI p) + one (v = ltI p)) % 2
 | [], h, _ => absurd rfl h
 | [x], _, _ => by
   have : tchP n b v [x] = 0 := sumF_zero fun j _ => by show (if inc b j v = true then 0 else 0) = 0; split <;> rfl
   rw [this]
   show 0 = (one (v = x) + one (v = x)) % 2
   omega
 | x :: y :: l, _, h => by
   have ih := tch_par B v (p := y :: l) (by simp) h.2
   have e : tchP n b v (x :: y :: l) = sumF n (fun j => if inc b j v = true then stp b x y j else 0) + tchP n b v (y :: l) := by
     unfold tchP
     rw [← sumF_add]
     refine sumF_congr fun j _ => ?_
     show (if inc b j v = true then stp b x y j + cntP b j (y :: l) else 0) = _
     split <;> omega
   rw [e, tch_step B h.1]
   have e1 : hdI (y :: l) = y := rfl
   have e2 : hdI (x :: y :: l) = x := rfl
   have e3 : ltI (x :: y :: l) = ltI (y :: l) := by unfold ltI; simp
   rw [e1] at ih
   rw [e2, e3]
   omega
def endsL (v : Int) : List (List Int) → Nat
 | [] => 0
 | p :: l => one (v = hdI p) + one (v = ltI p) + endsL v l
theorem tch_all (B : BrOk N n b) (v : Int) : ∀ {L : List (List Int)}, (∀ p ∈ L, PcOk n b p) → sumF n (fun j => if inc b j v = true then cntL b j L else 0) % 2 = endsL v L % 2
 | [], _ => by
   have : sumF n (fun j => if inc b j v = true then cntL b j [] else 0) = 0 := sumF_zero fun j _ => by show (if inc b j v = true then 0 else 0) = 0; split <;> rfl
   rw [this]; rfl
 | p :: L, h => by
   have ih := tch_all B v (L := L) fun q hq => h q (List.mem_cons.2 (.inr hq))
   have hp := h p (List.mem_cons.2 (.inl rfl))
   have e : sumF n (fun j => if inc b j v = true then cntL b j (p :: L) else 0) = tchP n b v p + sumF n (fun j => if inc b j v = true then cntL b j L else 0) := by
     unfold tchP
     rw [← sumF_add]
     refine sumF_congr fun j _ => ?_
     show (if inc b j v = true then cntP b j p + cntL b j L else 0) = _
     split <;> omega
   have hpar := tch_par B v (p := p) (fun e => by have := hp.1; rw [e] at this; exact absurd this (by decide)) hp.2
   rw [e]
   show _ = (one (v = hdI p) + one (v = ltI p) + endsL v L) % 2
   omega
theorem cnt_sum {p : Nat → Bool} : ∀ {n : Nat}, cntN n p = sumF n fun j => if p j = true then 1 else 0
 | 0 => rfl
 | n + 1 => by rw [cntN, sumF, cnt_sum]
theorem ends_par (B : BrOk N n b) {L : List (List Int)} (h1 : ∀ j, j < n → cntL b j L = 1) (h2 : ∀ p ∈ L, PcOk n b p) (v : Int) : endsL v L % 2 = meets n b v % 2 := by
 rw [← tch_all B v h2]
 congr 1
 unfold meets
 rw [cnt_sum]
 refine sumF_congr fun j hj => ?_
 rw [h1 j hj]
theorem lab_piece (B : BrOk N n b) : ∀ {p : List Int}, hasP n b p → ∀ v ∈ p, lab N n b v = lab N n b (hdI p)
 | [], _, v, hv => by cases hv
 | [x], _, v, hv => by rw [List.mem_singleton.1 hv]; rfl
 | x :: y :: l, h, v, hv => by
   have ih := lab_piece B (p := y :: l) h.2
   obtain ⟨j, hj, hb⟩ := h.1
   have e : lab N n b x = lab N n b y := by
     rcases step_bar B hj hb with ⟨e1, e2⟩ | ⟨e1, e2⟩
     · rw [e1, e2]; exact B.lab_bar hj
     · rw [e1, e2]; exact (B.lab_bar hj).symm
   rcases List.mem_cons.1 hv with rfl | hv
   · rfl
   · rw [ih v hv]; exact e.symm
theorem ltI_mem : ∀ {p : List Int}, p ≠ [] → ltI p ∈ p
 | [], h => absurd rfl h
 | [x], _ => by simp [ltI]
 | x :: y :: l, _ => by
   have := ltI_mem (p := y :: l) (by simp)
   have e : ltI (x :: y :: l) = ltI (y :: l) := by unfold ltI; simp
   rw [e]; exact List.mem_cons.2 (.inr this)
theorem hdI_mem : ∀ {p : List Int}, p ≠ [] → hdI p ∈ p
 | [], h => absurd rfl h
 | x :: l, _ => by simp [hdI]
theorem knot_rng (B : BrOk N n b) : ∀ {p : List Int}, 2 ≤ p.length → hasP n b p → ∀ v ∈ p, 0 ≤ v ∧ v < N
 | [], h, _, _, _ => by simp at h
 | [_], h, _, _, _ => by simp at h
 | x :: y :: l, _, h, v, hv => by
   obtain ⟨j, hj, hb⟩ := h.1
   have k := B.kn j hj
   have xy : (0 ≤ x ∧ x < N) ∧ 0 ≤ y ∧ y < N := by
     rcases step_bar B hj hb with ⟨e1, e2⟩ | ⟨e1, e2⟩
     · rw [e1, e2]; exact k
     · rw [e1, e2]; exact ⟨k.2, k.1⟩
   rcases List.mem_cons.1 hv with rfl | hv
   · exact xy.1
   · cases l with
     | nil => rw [List.mem_singleton.1 hv]; exact xy.2
     | cons z l => exact knot_rng B (p := y :: z :: l) (by simp) h.2 v hv
def ofG (N n : Nat) (b : Nat → Nat → Int) (L : List (List Int)) (g : Nat) : Nat := L.countP fun p => decide (lab N n b (hdI p) = (g : Int))
theorem ofG_sum (B : BrOk N n b) : ∀ {L : List (List Int)}, (∀ p ∈ L, PcOk n b p) → sumF N (ofG N n b L) = L.length
 | [], _ => sumF_zero fun _ _ => rfl
 | p :: L, h => by
   have ih := ofG_sum B (L := L) fun q hq => h q (List.mem_cons.2 (.inr hq))
   have hp := h p (List.mem_cons.2 (.inl rfl))
   have ne : p ≠ [] := fun e => by have := hp.1; rw [e] at this; exact absurd this (by decide)
   have r := B.lab_rng (knot_rng B hp.1 hp.2 _ (hdI_mem ne))
   rw [List.length_cons, ← ih]
   refine sumF_one (k := (lab N n b (hdI p)).toNat) (by omega) (fun g hg hne => ?_) ?_
   · unfold ofG
     rw [List.countP_cons, if_neg]
     · rfl
     · rw [decide_eq_true_eq]; intro e; omega
   · unfold ofG
     rw [List.countP_cons, if_pos]
     rw [decide_eq_true_eq]; omega
theorem sum_one {v : Int} {M : Nat} {p : Nat → Prop} [DecidablePred p] : sumF M (fun u => if p u then one ((u : Int) = v) else 0) = if 0 ≤ v ∧ v < M ∧ p v.toNat then 1 else 0 := by
 induction M with
 | zero => rw [if_neg (by omega)]; rfl
 | succ M ih =>
   rw [sumF, ih]
   unfold one
   by_cases c : (M : Int) = v
   · rw [if_neg (show ¬ (0 ≤ v ∧ v < M ∧ p v.toNat) by omega)]
     have e : v.toNat = M := by omega
     by_cases d : p M
     · rw [if_pos d, if_pos c, if_pos ⟨by omega, by omega, by rw [e]; exact d⟩]
     · rw [if_neg d, if_neg fun h => d (by rw [← e]; exact h.2.2)]
   · have : (if p M then (if (M : Int) = v then 1 else 0) else 0) = 0 := by split <;> simp [c]
     rw [this]
     by_cases d : 0 ≤ v ∧ v < M ∧ p v.toNat
     · rw [if_pos d, if_pos ⟨d.1, by omega, d.2.2⟩]
     · rw [if_neg d, if_neg fun h => d ⟨h.1, by omega, h.2.2⟩]
theorem ends_grp (B : BrOk N n b) (g : Nat) : ∀ {L : List (List Int)}, (∀ p ∈ L, PcOk n b p) → sumF N (fun v => if lab N n b v = (g : Int) then endsL v L else 0) = 2 * ofG N n b L g
 | [], _ => sumF_zero fun v _ => by show (if _ then 0 else 0) = 0; split <;> rfl
 | p :: L, h => by
   have ih := ends_grp B g (L := L) fun q hq => h q (List.mem_cons.2 (.inr hq))
   have hp := h p (List.mem_cons.2 (.inl rfl))
   have ne : p ≠ [] := fun e => by have := hp.1; rw [e] at this; exact absurd this (by decide)
   have rh := knot_rng B hp.1 hp.2 _ (hdI_mem ne)
   have rl := knot_rng B hp.1 hp.2 _ (ltI_mem ne)
   have ll := lab_piece B hp.2 _ (ltI_mem ne)
   have e : sumF N (fun v => if lab N n b v = (g : Int) then endsL v (p :: L) else 0) = sumF N (fun v => if lab N n b v = (g : Int) then one ((v : Int) = hdI p) else 0) + sumF N (fun v => if lab N n b v = (g : Int) then one ((v : Int) = ltI p) else 0) + sumF N (fun v => if lab N n b v = (g : Int) then endsL v L else 0) := by
     rw [← sumF_add, ← sumF_add]
     refine sumF_congr fun v _ => ?_
     show (if lab N n b v = (g : Int) then one ((v : Int) = hdI p) + one ((v : Int) = ltI p) + endsL v L else 0) = _
     split <;> omega
   rw [e, ih, sum_one (p := fun v => lab N n b v = (g : Int)), sum_one (p := fun v => lab N n b v = (g : Int))]
   unfold ofG
   rw [List.countP_cons]
   rw [show (((hdI p).toNat : Nat) : Int) = hdI p by omega, show (((ltI p).toNat : Nat) : Int) = ltI p by omega, ll]
   by_cases c : lab N n b (hdI p) = (g : Int)
   · rw [if_pos ⟨rh.1, rh.2, c⟩, if_pos ⟨rl.1, rl.2, c⟩, if_pos (decide_eq_true c)]; omega
   · rw [if_neg fun h => c h.2.2, if_neg fun h => c h.2.2, if_neg (by rw [decide_eq_true_eq]; exact c)]; omega
theorem cntP_pos {j : Nat} : ∀ {p : List Int}, 0 < cntP b j p → ∃ x y, x ∈ p ∧ y ∈ p ∧ barEq b (imin x y) (imax x y) j = true
 | [], h => by simp [cntP] at h
 | [_], h => by simp [cntP] at h
 | x :: y :: l, h => by
   have h : 0 < stp b x y j + cntP b j (y :: l) := h
   by_cases c : barEq b (imin x y) (imax x y) j = true
   · exact ⟨x, y, by simp, by simp, c⟩
   · unfold stp at h
     rw [if_neg c] at h
     rw [Nat.zero_add] at h
     obtain ⟨x', y', h1, h2, h3⟩ := cntP_pos (p := y :: l) h
     exact ⟨x', y', List.mem_cons.2 (.inr h1), List.mem_cons.2 (.inr h2), h3⟩
theorem cntL_pos {j : Nat} : ∀ {L : List (List Int)}, 0 < cntL b j L → ∃ p ∈ L, 0 < cntP b j p
 | [], h => by simp [cntL] at h
 | p :: L, h => by
   have h : 0 < cntP b j p + cntL b j L := h
   by_cases c : 0 < cntP b j p
   · exact ⟨p, by simp, c⟩
   · have h' : 0 < cntL b j L := by generalize cntL b j L = y at h ⊢; generalize cntP b j p = z at h c; omega
     obtain ⟨q, h1, h2⟩ := cntL_pos (L := L) h'
     exact ⟨q, List.mem_cons.2 (.inr h1), h2⟩
theorem few_le (B : BrOk N n b) {L : List (List Int)} (h1 : ∀ j, j < n → cntL b j L = 1) (h2 : ∀ p ∈ L, PcOk n b p) : few N n b ≤ L.length := by
 rw [← ofG_sum B h2]
 unfold few
 refine sumF_le fun g hg => ?_
 show needG N n b (lab N n b) g ≤ _
 unfold needG
 split
 · rename_i a
   obtain ⟨v, v1, v2, v3⟩ := anyG_iff.1 a
   obtain ⟨j, j1, j2⟩ := meets_pos.1 v3
   have c1 : 0 < ofG N n b L g := by
     obtain ⟨p, p1, p2⟩ := cntL_pos (b := b) (j := j) (L := L) (by rw [h1 j j1]; omega)
     obtain ⟨x, y, x1, _, x3⟩ := cntP_pos p2
     unfold ofG
     rw [List.countP_pos_iff]
     refine ⟨p, p1, ?_⟩
     rw [decide_eq_true_eq, ← lab_piece B (h2 p p1).2 x x1]
     rw [← v2, B.lab_inc j1 j2]
     rcases step_bar B j1 x3 with ⟨e, _⟩ | ⟨e, _⟩
     · rw [e]
     · rw [e]; exact (B.lab_bar j1).symm
   have c2 : oddG n b (lab N n b) g N ≤ 2 * ofG N n b L g := by
     rw [← ends_grp B g h2]
     have : ∀ {M : Nat}, oddG n b (lab N n b) g M ≤ sumF M fun v => if lab N n b v = (g : Int) then endsL v L else 0 := by
       intro M
       induction M with
       | zero => exact Nat.le_refl _
       | succ M ih =>
         rw [oddG, sumF]
         have := ends_par B h1 h2 (M : Int)
         by_cases c : lab N n b M = (g : Int)
         · rw [if_pos c]
           split <;> omega
         · rw [if_neg fun h => c h.1, if_neg c]; omega
     exact this
   omega
 · exact Nat.zero_le _
theorem ends_sum (B : BrOk N n b) : ∀ {L : List (List Int)}, (∀ p ∈ L, PcOk n b p) → sumF N (fun v => endsL v L) = 2 * L.length
 | [], _ => sumF_zero fun _ _ => rfl
 | p :: L, h => by
   have ih := ends_sum B (L := L) fun q hq => h q (List.mem_cons.2 (.inr hq))
   have hp := h p (List.mem_cons.2 (.inl rfl))
   have ne : p ≠ [] := fun e => by have := hp.1; rw [e] at this; exact absurd this (by decide)
   have rh := knot_rng B hp.1 hp.2 _ (hdI_mem ne)
   have rl := knot_rng B hp.1 hp.2 _ (ltI_mem ne)
   have q : ∀ x : Int, 0 ≤ x ∧ x < N → sumF N (fun v => one ((v : Int) = x)) = 1 := fun x hx => by
     have := sum_one (v := x) (M := N) (p := fun _ => True)
     rw [if_pos ⟨hx.1, hx.2, trivial⟩] at this
     rw [← this]
     refine sumF_congr fun v _ => ?_
     rw [if_pos trivial]
   have e : sumF N (fun v => endsL v (p :: L)) = sumF N (fun v => one ((v : Int) = hdI p)) + sumF N (fun v => one ((v : Int) = ltI p)) + sumF N (fun v => endsL v L) := by
     rw [← sumF_add, ← sumF_add]
     rfl
   rw [e, ih, q _ rh, q _ rl, List.length_cons]; omega
end
def pcsOf (L : List (List Int)) : Pcs := ⟨L.length, fun i => (L.getD i []).length, fun i k => (L.getD i []).getD k 0⟩
def lstP (p : Pcs) (i : Nat) : List Int := (List.range (p.len i)).map (p.kn i)
def lstOf (p : Pcs) : List (List Int) := (List.range p.np).map (lstP p)
def cntF (b : Nat → Nat → Int) (j : Nat) (f : Nat → Int) : Nat → Nat
 | 0 => 0
 | k + 1 => cntF b j f k + stp b (f k) (f (k + 1)) j
theorem cntF_congr {b : Nat → Nat → Int} {j : Nat} {f g : Nat → Int} : ∀ {k : Nat}, (∀ i, i ≤ k → f i = g i) → cntF b j f k = cntF b j g k
 | 0, _ => rfl
 | k + 1, h => by rw [cntF, cntF, cntF_congr fun i hi => h i (by omega), h k (by omega), h (k + 1) (by omega)]
theorem cntF_list {b : Nat → Nat → Int} {j : Nat} (l : List Int) : cntF b j (fun k => l.getD k 0) (l.length - 1) = cntP b j l := by
 have : ∀ (m : Nat) (l : List Int), l.length = m → cntF b j (fun k => l.getD k 0) (l.length - 1) = cntP b j l := by
   intro m
   induction m with
   | zero => intro l h; rw [List.length_eq_zero_iff.1 h]; rfl
   | succ m ih =>
     intro l h
     rcases List.eq_nil_or_concat l with rfl | ⟨l1, y, rfl⟩
     · simp at h
     · rw [List.concat_eq_append] at h ⊢
       rcases List.eq_nil_or_concat l1 with rfl | ⟨l2, x, rfl⟩
       · rfl
       · rw [List.concat_eq_append] at h ⊢
         rw [cntP_snoc]
         have hl : (l2 ++ [x]).length = m := by simp only [List.length_append, List.length_singleton] at h ⊢; omega
         have := ih (l2 ++ [x]) hl
         rw [← this]
         have e1 : (l2 ++ [x] ++ [y]).length - 1 = l2.length + 1 := by simp only [List.length_append, List.length_singleton]; omega
         have e2 : (l2 ++ [x]).length - 1 = l2.length := by simp only [List.length_append, List.length_singleton]; omega
         rw [e1, e2, cntF]
         congr 1
         · refine cntF_congr fun i hi => ?_
           show (l2 ++ [x] ++ [y]).getD i 0 = (l2 ++ [x]).getD i 0
           rw [List.getD_eq_getElem?_getD, List.getD_eq_getElem?_getD, List.getElem?_append_left (by simp only [List.length_append, List.length_singleton]; omega)]
         · have g1 : (l2 ++ [x] ++ [y]).getD l2.length 0 = x := by
             rw [List.getD_eq_getElem?_getD, List.getElem?_append_left (by simp only [List.length_append, List.length_singleton]; omega), List.getElem?_append_right (Nat.le_refl _)]; simp
           have g2 : (l2 ++ [x] ++ [y]).getD (l2.length + 1) 0 = y := by
             rw [List.getD_eq_getElem?_getD, List.getElem?_append_right (by simp only [List.length_append, List.length_singleton]; omega)]; simp
           show stp b ((l2 ++ [x] ++ [y]).getD l2.length 0) ((l2 ++ [x] ++ [y]).getD (l2.length + 1) 0) j = _
           rw [g1, g2]
 exact this _ l rfl
theorem hasP_iff {n : Nat} {b : Nat → Nat → Int} : ∀ {l : List Int}, hasP n b l ↔ ∀ k, k < l.length - 1 → ∃ j, j < n ∧ barEq b (imin (l.getD k 0) (l.getD (k + 1) 0)) (imax (l.getD k 0) (l.getD (k + 1) 0)) j = true
 | [] => by simp [hasP]
 | [_] => by simp [hasP]
 | x :: y :: l => by
   rw [hasP, hasP_iff]
   constructor
   · rintro ⟨h1, h2⟩ k hk
     cases k with
     | zero => exact h1
     | succ k => exact h2 k (by simp only [List.length_cons] at hk ⊢; omega)
   · intro h
     refine ⟨h 0 (by simp), fun k hk => ?_⟩
     exact h (k + 1) (by simp only [List.length_cons] at hk ⊢; omega)
theorem cntK_F {t : Torn} {p : Pcs} {i j : Nat} : ∀ {k : Nat}, cntK t p i j k = cntF t.b j (p.kn i) k
 | 0 => rfl
 | k + 1 => by rw [cntK, cntF, cntK_F]; rfl
theorem lstP_get {p : Pcs} {i k : Nat} (h : k < p.len i) : (lstP p i).getD k 0 = p.kn i k := by
 unfold lstP
 rw [List.getD_eq_getElem?_getD, List.getElem?_map, List.getElem?_range h]; rfl
theorem lstP_len {p : Pcs} {i : Nat} : (lstP p i).length = p.len i := by unfold lstP; simp
theorem cntK_lst {t : Torn} {p : Pcs} {i j : Nat} : cntK t p i j (p.len i - 1) = cntP t.b j (lstP p i) := by
 rw [cntK_F, ← cntF_list, lstP_len]
 by_cases c : p.len i = 0
 · rw [c]; rfl
 · exact cntF_congr fun k hk => (lstP_get (by omega)).symm
theorem cntI_lst {t : Torn} {p : Pcs} {j : Nat} : ∀ {m : Nat}, cntI t p j m = cntL t.b j ((List.range m).map (lstP p))
 | 0 => rfl
 | m + 1 => by rw [cntI, cntI_lst, List.range_succ, List.map_append, cntL_append, cntK_lst]; rfl
theorem isM_iff {t : Torn} {p : Pcs} : isM t p = true ↔ (∀ q ∈ lstOf p, PcOk t.n t.b q) ∧ ∀ j, j < t.n → cntL t.b j (lstOf p) = 1 := by
 have pc : ∀ i, i < p.np → (PcOk t.n t.b (lstP p i) ↔ (2 ≤ p.len i ∧ fndK t p i (p.len i - 1) = true)) := fun i _ => by
   unfold PcOk
   rw [lstP_len, hasP_iff, lstP_len]
   refine and_congr_right fun _ => ?_
   unfold fndK
   rw [allB_iff]
   refine forall_congr' fun k => imp_congr_right fun hk => ?_
   rw [lstP_get (by omega), lstP_get (by omega), hasB_iff]
   refine exists_congr fun j => and_congr_right fun _ => ?_
   rw [barEq_iff]; rfl
 unfold isM okI
 rw [Bool.and_eq_true, allB_iff, allB_iff]
 constructor
 · rintro ⟨h1, h2⟩
   refine ⟨fun q hq => ?_, fun j hj => ?_⟩
   · unfold lstOf at hq
     obtain ⟨i, hi, rfl⟩ := List.mem_map.1 hq
     have hi := List.mem_range.1 hi
     have := h1 i hi
     rw [Bool.and_eq_true, decide_eq_true_eq] at this
     exact (pc i hi).2 this
   · have := h2 j hj
     rw [decide_eq_true_eq, cntI_lst] at this
     exact this
 · rintro ⟨h1, h2⟩
   refine ⟨fun i hi => ?_, fun j hj => ?_⟩
   · rw [Bool.and_eq_true, decide_eq_true_eq]
     exact (pc i hi).1 (h1 _ (List.mem_map.2 ⟨i, List.mem_range.2 hi, rfl⟩))
   · rw [decide_eq_true_eq, cntI_lst]
     exact h2 j hj
theorem lst_pcs {L : List (List Int)} : lstOf (pcsOf L) = L := by
 refine List.ext_getElem? fun i => ?_
 unfold lstOf
 by_cases h : i < L.length
 · rw [List.getElem?_map, List.getElem?_range (show i < (pcsOf L).np from h), List.getElem?_eq_getElem h]
   show some (lstP (pcsOf L) i) = some L[i]
   congr 1
   have e : L.getD i [] = L[i] := by rw [List.getD_eq_getElem?_getD, List.getElem?_eq_getElem h]; rfl
   refine List.ext_getElem? fun k => ?_
   unfold lstP
   show ((List.range (L.getD i []).length).map fun k => (L.getD i []).getD k 0)[k]? = _
   rw [e]
   by_cases hk : k < L[i].length
   · rw [List.getElem?_map, List.getElem?_range hk, List.getElem?_eq_getElem hk]
     show some (L[i].getD k 0) = _
     rw [List.getD_eq_getElem?_getD, List.getElem?_eq_getElem hk]; rfl
   · rw [List.getElem?_eq_none (by simp; omega), List.getElem?_eq_none (by omega)]
 · rw [List.getElem?_eq_none (by rw [List.length_map, List.length_range]; show L.length ≤ i; omega), List.getElem?_eq_none (by omega)]
theorem BrOk.of {t : Torn} (T : TkOk t) : BrOk (t.w * t.h).toNat t.n t.b := by
 have P := Go.Proofs.YtcfmdhlohahhcaaDoor.wh_bd T.wl T.wu T.hl T.hu
 refine ⟨by omega, fun i hi => ?_, T.dif, fun i hi => ?_⟩
 · obtain ⟨_, _, h⟩ := barB_iff.1 (T.bar i hi)
   have := T.wl
   omega
 · obtain ⟨h1, h2, _⟩ := barB_iff.1 (T.bar i hi)
   omega
end Nm
namespace Go.Proofs.YtcfmdhlohahhcaaDoor
open Go Go.Sx Nm
set_option maxRecDepth 100000
set_option maxHeartbeats 1000000
structure MdAsk where
 t : Torn
 p : Pcs
def mdV (t : Torn) (p : Pcs) : Int := if tchk t = true then (if isM t p = true then twV t p.np else 0) else 0
def mdB (t : Torn) (p : Pcs) : Bool := tchk t && isM t p
def sMd : Sig := ⟨MdAsk, fun a => [tornTV a.t, pcsTV a.p], fun a => a.t.wf ∧ a.p.wf, fun a => [.v (intC (mdV a.t a.p)), .v (.c (.bool (mdB a.t a.p))), .v (intC (tchkE a.t))]⟩
theorem exTn {t : Torn} {R : Torn → Prop} (h : R t) : ∃ a : Torn, t.w = a.w ∧ t.h = a.h ∧ t.n = a.n ∧ (∀ i, i < t.n → t.b i 0 = a.b i 0 ∧ t.b i 1 = a.b i 1) ∧ t.m = a.m ∧ t.k = a.k ∧ R a :=
 ⟨t, rfl, rfl, rfl, fun _ _ => ⟨rfl, rfl⟩, rfl, rfl, h⟩
theorem exTw {t : Torn} {n : Nat} {R : TwAsk → Prop} (h : R ⟨t, n⟩) : ∃ a : TwAsk, t.w = a.t.w ∧ t.h = a.t.h ∧ t.n = a.t.n ∧ (∀ i, i < t.n → t.b i 0 = a.t.b i 0 ∧ t.b i 1 = a.t.b i 1) ∧ t.m = a.t.m ∧ t.k = a.t.k ∧ (n : Int) = a.p ∧ R a :=
 ⟨⟨t, n⟩, rfl, rfl, rfl, fun _ _ => ⟨rfl, rfl⟩, rfl, rfl, rfl, h⟩
theorem tk_of {t : Torn} (e : tchkE t = 0) : tchk t = true := by
 unfold tchkE at e
 split at e
 · assumption
 · cases e
theorem not_tk {t : Torn} (e : ¬ tchkE t = 0) : tchk t = false ∧ tchkE t = 23 := by
 unfold tchkE at e ⊢
 cases h : tchk t with
 | false => exact ⟨rfl, rfl⟩
 | true => rw [if_pos h] at e; exact absurd rfl e
theorem md_no {t : Torn} {p : Pcs} (e : ¬ tchkE t = 0) : 0 = mdV t p ∧ mdB t p = false := by
 unfold mdV mdB; rw [(not_tk e).1]; exact ⟨rfl, rfl⟩
theorem md_is {t : Torn} {p : Pcs} (hc : tchk t = true) (h : isM t p = true) : twV t p.np = mdV t p ∧ mdB t p = true ∧ 0 = tchkE t := by
 unfold mdV mdB tchkE; rw [hc, h]; exact ⟨rfl, rfl, rfl⟩
theorem md_isnt {t : Torn} {p : Pcs} (hc : tchk t = true) (h : isM t p = false) : 0 = mdV t p ∧ mdB t p = false ∧ 0 = tchkE t := by
 unfold mdV mdB tchkE; rw [hc, h]; exact ⟨rfl, rfl, rfl⟩
def aAl (t : Torn) : Ann := { G := Nat, ok := fun _ g => g ≤ t.n, dom := fun st => [osN (st.tm 4), osN (st.tm 5)], tm := fun _ g => [(13, .t (intC g))], hp := fun st g => [(osN (st.tm 4), .self, some (.box 72 (fun j => .bool (decide (j < g))))), (osN (st.tm 5), .self, some (.mp MI (numM t.b g)))], mu := fun _ g => t.n - g }
def lvB (t : Torn) (p : Pcs) (i k j : Nat) : Bool := decide (j < t.n) && decide (cntI t p j i + cntK t p i j k = 0)
structure LvOk (t : Torn) (p : Pcs) (i k : Nat) : Prop where
 fnd : fndK t p i k = true
 le : ∀ j, j < t.n → cntI t p j i + cntK t p i j k ≤ 1
def aM1 (t : Torn) (p : Pcs) : Ann := { G := Nat, ok := fun _ g => g ≤ p.np ∧ okI t p g = true ∧ LvOk t p g 0, dom := fun st => [osN (st.tm 9)], tm := fun _ g => [(32, .t (intC g))], hp := fun st g => [(osN (st.tm 9), .self, some (.box 72 (fun j => .bool (lvB t p g 0 j))))], mu := fun _ g => p.np - g }
def aM2 (t : Torn) (p : Pcs) : Ann := { G := Nat × Nat, ok := fun st g => isI (st.tm 32) g.2 ∧ g.1 ≤ p.len g.2 - 1 ∧ LvOk t p g.2 g.1, dom := fun st => [osN (st.tm 9)], tm := fun _ g => [(42, .t (intC g.1))], hp := fun st g => [(osN (st.tm 9), .self, some (.box 72 (fun j => .bool (lvB t p g.2 g.1 j))))], mu := fun _ g => p.len g.2 - g.1 }
theorem st_R {p : Pcs} {i k : Nat} (h1 : iR (p.kn i k)) (h2 : iR (p.kn i (k + 1))) : iR (stL p i k) ∧ iR (stH p i k) := by
 unfold stL stH imin imax
 constructor <;> split <;> assumption
def noneF (f : Nat → Bool) : Nat → Nat → Bool
 | 0, _ => true
 | n + 1, i => (f i == false) && noneF f n (i + 1)
theorem noneF_iff {f : Nat → Bool} : ∀ {n i : Nat}, noneF f n i = true ↔ ∀ j, i ≤ j → j < i + n → f j = false
 | 0, i => ⟨fun _ j h1 h2 => by omega, fun _ => rfl⟩
 | n + 1, i => by
   rw [noneF, Bool.and_eq_true, noneF_iff]
   constructor
   · intro ⟨h1, h2⟩ j h3 h4
     by_cases d : j = i
     · subst d; simpa using h1
     · exact h2 j (by omega) (by omega)
   · intro h
     exact ⟨by simpa using h i (by omega) (by omega), fun j h1 h2 => h j (by omega) (by omega)⟩
theorem q28 (a : sMd.α) (ha : sMd.pre a) : CallQ Tryd.prog E0 28 (sMd.arg a) (sMd.res a) := by
 obtain ⟨t, p⟩ := a
 refine bare_say E0_ok [(75, sTwi), (30, sCkT), (74, sEnds)] (show SigsOk Tryd.prog E0 [(75, sTwi), (30, sCkT), (74, sEnds)] from (((SigsOk.nil.cons u74 fun x _ => q74 x).cons u30 q30).cons u75 q75)) [] EvensOk.nil runs { live := true, l := [(73, 4, aAl t), (28, 7, aM1 t p), (28, 12, aM2 t p)] } (fuel := 8) ?_
 refine of_red (q := ∃ (x : Torn), ((True ∧ ((((True ∧ True ∧ t.w = x.w) ∧ True ∧ t.h = x.h) ∧ True ∧ True ∧ t.n = x.n ∧ ∀ (i : Nat), i < t.n → (True ∧ t.b i 0 = x.b i 0) ∧ t.b i 1 = x.b i 1) ∧ True ∧ t.m = x.m) ∧ True ∧ t.k = x.k) ∧ True) ∧ (x.n < (4611686018427387904 : Nat) ∧ ∀ (i : Nat), i < x.n → ((-9223372036854775808 : Int) ≤ x.b i (0 : Nat) ∧ x.b i (0 : Nat) ≤ (9223372036854775807 : Int)) ∧ (-9223372036854775808 : Int) ≤ x.b i (1 : Nat) ∧ x.b i (1 : Nat) ≤ (9223372036854775807 : Int)) ∧ ((tchkE x != (0 : Int)) = true → (True ∧ (0 : Int) = mdV t p) ∧ (True ∧ mdB t p = false) ∧ (True ∧ tchkE x = tchkE t) ∧ True) ∧ ((tchkE x != (0 : Int)) = false → (∃ (g : Nat), g ≤ t.n ∧ True ∧ ((True ∧ (0 : Int) = (↑g : Int)) ∧ True) ∧ (True ∧ ∀ (j : Nat), j < (72 : Nat) → True ∧ decide (j < g) = false) ∧ (True ∧ ∀ (ks : List Int), none = numM t.b g ks) ∧ True) ∧ ∀ (g : Nat), g ≤ t.n → (decide ((↑g : Int) < (↑t.n : Int)) = true → (0 : Int) ≤ (↑g : Int) ∧ (↑g : Int) < (↑t.n : Int) ∧ (0 : Int) ≤ (↑g : Int) ∧ (↑g : Int) < (↑(72 : Nat) : Int) ∧ inRange IntKind.i64 (t.b g (0 : Nat)) ∧ inRange IntKind.i64 (t.b g ((0 : Nat) + (1 : Nat))) ∧ inRange IntKind.i64 ((↑g : Int) + (1 : Int)) ∧ ∃ (g' : Nat), g' ≤ t.n ∧ t.n - g' < t.n - g ∧ True ∧ ((True ∧ (↑g : Int) + (1 : Int) = (↑g' : Int)) ∧ True) ∧ (True ∧ ∀ (j : Nat), j < (72 : Nat) → True ∧ (if j = (0 : Nat) + g * (1 : Nat) + (0 : Nat) then true else decide (j < g)) = decide (j < g')) ∧ (True ∧ ∀ (ks : List Int), (if ks = [t.b g (0 : Nat), t.b g ((0 : Nat) + (1 : Nat))] then some (↑g : Int) else numM t.b g ks) = numM t.b g' ks) ∧ True) ∧ (decide ((↑g : Int) < (↑t.n : Int)) = false → (∃ (g_1 : Nat), (g_1 ≤ p.np ∧ okI t p g_1 = true ∧ LvOk t p g_1 (0 : Nat)) ∧ True ∧ ((True ∧ (0 : Int) = (↑g_1 : Int)) ∧ True) ∧ (True ∧ ∀ (j : Nat), j < (72 : Nat) → True ∧ decide (j < g) = lvB t p g_1 (0 : Nat) j) ∧ True) ∧ ∀ (g_1 : Nat), g_1 ≤ p.np ∧ okI t p g_1 = true ∧ LvOk t p g_1 (0 : Nat) → (decide ((↑g_1 : Int) < (↑p.np : Int)) = true → (0 : Int) ≤ (↑g_1 : Int) ∧ (↑g_1 : Int) < (↑p.np : Int) ∧ (decide ((↑(p.len g_1) : Int) < (2 : Int)) = true → (True ∧ (0 : Int) = mdV t p) ∧ (True ∧ mdB t p = false) ∧ (True ∧ (0 : Int) = tchkE t) ∧ True) ∧ (decide ((↑(p.len g_1) : Int) < (2 : Int)) = false → inRange IntKind.i64 ((↑(p.len g_1) : Int) - (1 : Int)) ∧ (∃ (g : Nat × Nat), ((↑g_1 : Int) = (↑g.snd : Int) ∧ g.fst ≤ p.len g.snd - (1 : Nat) ∧ LvOk t p g.snd g.fst) ∧ True ∧ ((True ∧ (0 : Int) = (↑g.fst : Int)) ∧ True) ∧ (True ∧ ∀ (j : Nat), j < (72 : Nat) → True ∧ lvB t p g_1 (0 : Nat) j = lvB t p g.snd g.fst j) ∧ True) ∧ ∀ (g_2 : Nat × Nat), (↑g_1 : Int) = (↑g_2.snd : Int) ∧ g_2.fst ≤ p.len g_2.snd - (1 : Nat) ∧ LvOk t p g_2.snd g_2.fst → (decide ((↑g_2.fst : Int) < (↑(p.len g_1) : Int) - (1 : Int)) = true → (0 : Int) ≤ (↑g_2.fst : Int) ∧ (↑g_2.fst : Int) < (↑(p.len g_1) : Int) ∧ inRange IntKind.i64 ((↑g_2.fst : Int) + (1 : Int)) ∧ (0 : Int) ≤ (↑g_2.fst : Int) + (1 : Int) ∧ (↑g_2.fst : Int) + (1 : Int) < (↑(p.len g_1) : Int) ∧ ∃ (x : Int × Int), ((True ∧ p.kn g_1 g_2.fst = x.fst) ∧ (True ∧ True ∧ (1 : Nat) = (1 : Nat) ∧ ∀ (i : Nat), i < (1 : Nat) → True ∧ (if i = (0 : Nat) then p.kn g_1 ((↑g_2.fst : Int) + (1 : Int)).toNat else (0 : Int)) = x.snd) ∧ True) ∧ True ∧ inRange IntKind.i64 (imin x.fst x.snd) ∧ inRange IntKind.i64 (imax x.fst x.snd) ∧ ((!isSm (numM t.b g [imin x.fst x.snd, imax x.fst x.snd])) = true → (True ∧ (0 : Int) = mdV t p) ∧ (True ∧ mdB t p = false) ∧ (True ∧ (0 : Int) = tchkE t) ∧ True) ∧ ((!isSm (numM t.b g [imin x.fst x.snd, imax x.fst x.snd])) = false → (0 : Int) ≤ valOf (numM t.b g [imin x.fst x.snd, imax x.fst x.snd]) ∧ valOf (numM t.b g [imin x.fst x.snd, imax x.fst x.snd]) < (↑(72 : Nat) : Int) ∧ ((!lvB t p g_2.snd g_2.fst ((0 : Nat) + (valOf (numM t.b g [imin x.fst x.snd, imax x.fst x.snd])).toNat * (1 : Nat) + (0 : Nat) + (0 : Nat))) = true → (True ∧ (0 : Int) = mdV t p) ∧ (True ∧ mdB t p = false) ∧ (True ∧ (0 : Int) = tchkE t) ∧ True) ∧ ((!lvB t p g_2.snd g_2.fst ((0 : Nat) + (valOf (numM t.b g [imin x.fst x.snd, imax x.fst x.snd])).toNat * (1 : Nat) + (0 : Nat) + (0 : Nat))) = false → (0 : Int) ≤ valOf (numM t.b g [imin x.fst x.snd, imax x.fst x.snd]) ∧ valOf (numM t.b g [imin x.fst x.snd, imax x.fst x.snd]) < (↑(72 : Nat) : Int) ∧ inRange IntKind.i64 ((↑g_2.fst : Int) + (1 : Int)) ∧ ∃ (g' : Nat × Nat), ((↑g_1 : Int) = (↑g'.snd : Int) ∧ g'.fst ≤ p.len g'.snd - (1 : Nat) ∧ LvOk t p g'.snd g'.fst) ∧ p.len g'.snd - g'.fst < p.len g_2.snd - g_2.fst ∧ True ∧ ((True ∧ (↑g_2.fst : Int) + (1 : Int) = (↑g'.fst : Int)) ∧ True) ∧ (True ∧ ∀ (j : Nat), j < (72 : Nat) → True ∧ (if j = (0 : Nat) + (valOf (numM t.b g [imin x.fst x.snd, imax x.fst x.snd])).toNat * (1 : Nat) + (0 : Nat) then false else lvB t p g_2.snd g_2.fst j) = lvB t p g'.snd g'.fst j) ∧ True))) ∧ (decide ((↑g_2.fst : Int) < (↑(p.len g_1) : Int) - (1 : Int)) = false → inRange IntKind.i64 ((↑g_1 : Int) + (1 : Int)) ∧ ∃ (g' : Nat), (g' ≤ p.np ∧ okI t p g' = true ∧ LvOk t p g' (0 : Nat)) ∧ p.np - g' < p.np - g_1 ∧ True ∧ ((True ∧ (↑g_1 : Int) + (1 : Int) = (↑g' : Int)) ∧ True) ∧ (True ∧ ∀ (j : Nat), j < (72 : Nat) → True ∧ lvB t p g_2.snd g_2.fst j = lvB t p g' (0 : Nat) j) ∧ True))) ∧ (decide ((↑g_1 : Int) < (↑p.np : Int)) = false → ((!(lvB t p g_1 (0 : Nat) 0 == false && (lvB t p g_1 (0 : Nat) 1 == false && (lvB t p g_1 (0 : Nat) 2 == false && (lvB t p g_1 (0 : Nat) 3 == false && (lvB t p g_1 (0 : Nat) 4 == false && (lvB t p g_1 (0 : Nat) 5 == false && (lvB t p g_1 (0 : Nat) 6 == false && (lvB t p g_1 (0 : Nat) 7 == false && (lvB t p g_1 (0 : Nat) 8 == false && (lvB t p g_1 (0 : Nat) 9 == false && (lvB t p g_1 (0 : Nat) 10 == false && (lvB t p g_1 (0 : Nat) 11 == false && (lvB t p g_1 (0 : Nat) 12 == false && (lvB t p g_1 (0 : Nat) 13 == false && (lvB t p g_1 (0 : Nat) 14 == false && (lvB t p g_1 (0 : Nat) 15 == false && (lvB t p g_1 (0 : Nat) 16 == false && (lvB t p g_1 (0 : Nat) 17 == false && (lvB t p g_1 (0 : Nat) 18 == false && (lvB t p g_1 (0 : Nat) 19 == false && (lvB t p g_1 (0 : Nat) 20 == false && (lvB t p g_1 (0 : Nat) 21 == false && (lvB t p g_1 (0 : Nat) 22 == false && (lvB t p g_1 (0 : Nat) 23 == false && (lvB t p g_1 (0 : Nat) 24 == false && (lvB t p g_1 (0 : Nat) 25 == false && (lvB t p g_1 (0 : Nat) 26 == false && (lvB t p g_1 (0 : Nat) 27 == false && (lvB t p g_1 (0 : Nat) 28 == false && (lvB t p g_1 (0 : Nat) 29 == false && (lvB t p g_1 (0 : Nat) 30 == false && (lvB t p g_1 (0 : Nat) 31 == false && (lvB t p g_1 (0 : Nat) 32 == false && (lvB t p g_1 (0 : Nat) 33 == false && (lvB t p g_1 (0 : Nat) 34 == false && (lvB t p g_1 (0 : Nat) 35 == false && (lvB t p g_1 (0 : Nat) 36 == false && (lvB t p g_1 (0 : Nat) 37 == false && (lvB t p g_1 (0 : Nat) 38 == false && (lvB t p g_1 (0 : Nat) 39 == false && (lvB t p g_1 (0 : Nat) 40 == false && (lvB t p g_1 (0 : Nat) 41 == false && (lvB t p g_1 (0 : Nat) 42 == false && (lvB t p g_1 (0 : Nat) 43 == false && (lvB t p g_1 (0 : Nat) 44 == false && (lvB t p g_1 (0 : Nat) 45 == false && (lvB t p g_1 (0 : Nat) 46 == false && (lvB t p g_1 (0 : Nat) 47 == false && (lvB t p g_1 (0 : Nat) 48 == false && (lvB t p g_1 (0 : Nat) 49 == false && (lvB t p g_1 (0 : Nat) 50 == false && (lvB t p g_1 (0 : Nat) 51 == false && (lvB t p g_1 (0 : Nat) 52 == false && (lvB t p g_1 (0 : Nat) 53 == false && (lvB t p g_1 (0 : Nat) 54 == false && (lvB t p g_1 (0 : Nat) 55 == false && (lvB t p g_1 (0 : Nat) 56 == false && (lvB t p g_1 (0 : Nat) 57 == false && (lvB t p g_1 (0 : Nat) 58 == false && (lvB t p g_1 (0 : Nat) 59 == false && (lvB t p g_1 (0 : Nat) 60 == false && (lvB t p g_1 (0 : Nat) 61 == false && (lvB t p g_1 (0 : Nat) 62 == false && (lvB t p g_1 (0 : Nat) 63 == false && (lvB t p g_1 (0 : Nat) 64 == false && (lvB t p g_1 (0 : Nat) 65 == false && (lvB t p g_1 (0 : Nat) 66 == false && (lvB t p g_1 (0 : Nat) 67 == false && (lvB t p g_1 (0 : Nat) 68 == false && (lvB t p g_1 (0 : Nat) 69 == false && (lvB t p g_1 (0 : Nat) 70 == false && (lvB t p g_1 (0 : Nat) 71 == false && true))))))))))))))))))))))))))))))))))))))))))))))))))))))))))))))))))))))))) = true → (True ∧ (0 : Int) = mdV t p) ∧ (True ∧ mdB t p = false) ∧ (True ∧ (0 : Int) = tchkE t) ∧ True) ∧ ((!(lvB t p g_1 (0 : Nat) 0 == false && (lvB t p g_1 (0 : Nat) 1 == false && (lvB t p g_1 (0 : Nat) 2 == false && (lvB t p g_1 (0 : Nat) 3 == false && (lvB t p g_1 (0 : Nat) 4 == false && (lvB t p g_1 (0 : Nat) 5 == false && (lvB t p g_1 (0 : Nat) 6 == false && (lvB t p g_1 (0 : Nat) 7 == false && (lvB t p g_1 (0 : Nat) 8 == false && (lvB t p g_1 (0 : Nat) 9 == false && (lvB t p g_1 (0 : Nat) 10 == false && (lvB t p g_1 (0 : Nat) 11 == false && (lvB t p g_1 (0 : Nat) 12 == false && (lvB t p g_1 (0 : Nat) 13 == false && (lvB t p g_1 (0 : Nat) 14 == false && (lvB t p g_1 (0 : Nat) 15 == false && (lvB t p g_1 (0 : Nat) 16 == false && (lvB t p g_1 (0 : Nat) 17 == false && (lvB t p g_1 (0 : Nat) 18 == false && (lvB t p g_1 (0 : Nat) 19 == false && (lvB t p g_1 (0 : Nat) 20 == false && (lvB t p g_1 (0 : Nat) 21 == false && (lvB t p g_1 (0 : Nat) 22 == false && (lvB t p g_1 (0 : Nat) 23 == false && (lvB t p g_1 (0 : Nat) 24 == false && (lvB t p g_1 (0 : Nat) 25 == false && (lvB t p g_1 (0 : Nat) 26 == false && (lvB t p g_1 (0 : Nat) 27 == false && (lvB t p g_1 (0 : Nat) 28 == false && (lvB t p g_1 (0 : Nat) 29 == false && (lvB t p g_1 (0 : Nat) 30 == false && (lvB t p g_1 (0 : Nat) 31 == false && (lvB t p g_1 (0 : Nat) 32 == false && (lvB t p g_1 (0 : Nat) 33 == false && (lvB t p g_1 (0 : Nat) 34 == false && (lvB t p g_1 (0 : Nat) 35 == false && (lvB t p g_1 (0 : Nat) 36 == false && (lvB t p g_1 (0 : Nat) 37 == false && (lvB t p g_1 (0 : Nat) 38 == false && (lvB t p g_1 (0 : Nat) 39 == false && (lvB t p g_1 (0 : Nat) 40 == false && (lvB t p g_1 (0 : Nat) 41 == false && (lvB t p g_1 (0 : Nat) 42 == false && (lvB t p g_1 (0 : Nat) 43 == false && (lvB t p g_1 (0 : Nat) 44 == false && (lvB t p g_1 (0 : Nat) 45 == false && (lvB t p g_1 (0 : Nat) 46 == false && (lvB t p g_1 (0 : Nat) 47 == false && (lvB t p g_1 (0 : Nat) 48 == false && (lvB t p g_1 (0 : Nat) 49 == false && (lvB t p g_1 (0 : Nat) 50 == false && (lvB t p g_1 (0 : Nat) 51 == false && (lvB t p g_1 (0 : Nat) 52 == false && (lvB t p g_1 (0 : Nat) 53 == false && (lvB t p g_1 (0 : Nat) 54 == false && (lvB t p g_1 (0 : Nat) 55 == false && (lvB t p g_1 (0 : Nat) 56 == false && (lvB t p g_1 (0 : Nat) 57 == false && (lvB t p g_1 (0 : Nat) 58 == false && (lvB t p g_1 (0 : Nat) 59 == false && (lvB t p g_1 (0 : Nat) 60 == false && (lvB t p g_1 (0 : Nat) 61 == false && (lvB t p g_1 (0 : Nat) 62 == false && (lvB t p g_1 (0 : Nat) 63 == false && (lvB t p g_1 (0 : Nat) 64 == false && (lvB t p g_1 (0 : Nat) 65 == false && (lvB t p g_1 (0 : Nat) 66 == false && (lvB t p g_1 (0 : Nat) 67 == false && (lvB t p g_1 (0 : Nat) 68 == false && (lvB t p g_1 (0 : Nat) 69 == false && (lvB t p g_1 (0 : Nat) 70 == false && (lvB t p g_1 (0 : Nat) 71 == false && true))))))))))))))))))))))))))))))))))))))))))))))))))))))))))))))))))))))))) = false → ∃ (x : TwAsk), ((True ∧ ((((True ∧ True ∧ t.w = x.t.w) ∧ True ∧ t.h = x.t.h) ∧ True ∧ True ∧ t.n = x.t.n ∧ ∀ (i : Nat), i < t.n → (True ∧ t.b i 0 = x.t.b i 0) ∧ t.b i 1 = x.t.b i 1) ∧ True ∧ t.m = x.t.m) ∧ True ∧ t.k = x.t.k) ∧ (True ∧ (↑p.np : Int) = (↑x.p : Int)) ∧ True) ∧ (tk0 x.t = true ∧ x.t.n ≤ (72 : Nat) ∧ x.p ≤ (1000 : Nat)) ∧ (True ∧ twV x.t (↑x.p : Int) = mdV t p) ∧ (True ∧ mdB t p = true) ∧ (True ∧ (0 : Int) = tchkE t) ∧ True))))) (by kernel_rfl) ?_
 simp only [true_and, and_true, inR, Prod.exists, Prod.forall, and_assoc, exists_and_left, exists_eq_left', exists_eq_left, forall_eq, exists_const, forall_const, loopN, loopM, fa2, fas, fas2, dup1, dup2, dup3, dup4, ite_true, exhs, exhn, exhz, exho, exA, ex1, ex2, ex3, ex4, ex5, beqI, bneI, decide_true, Bool.true_and, decide_eq_true_eq, decide_eq_false_iff_not, ne_eq, Decidable.not_not]
 obtain ⟨⟨hn, hb⟩, hp⟩ := (show (t.n < 4611686018427387904 ∧ ∀ i, i < t.n → iR (t.b i 0) ∧ iR (t.b i 1)) ∧ p.wf from ha)
 have hnp := hp.1
 refine exTn ⟨hn, fun i hi => ⟨(hb i hi).1.1, (hb i hi).1.2, (hb i hi).2.1, (hb i hi).2.2⟩, fun e => ⟨(md_no e).1, (md_no e).2, rfl⟩, fun e => ?_⟩
 have hc := tk_of e
 have T := tchk_ok hc
 have h72 := T.few
 refine ⟨⟨0, by omega, rfl, fun j _ => by omega, fun _ => rfl⟩, fun g hg => ⟨by omega, by omega, by omega, by omega, (hb g hg).1.1, (hb g hg).1.2, (hb g hg).2.1, (hb g hg).2.2, by omega, by omega, g + 1, by omega, by omega, rfl, fun j hj => ?_, fun ks => rfl⟩, ⟨0, by omega, rfl, ⟨rfl, fun j hj => by simp [cntI, cntK]⟩, rfl, fun j hj => ?_⟩, fun g hg hh => ⟨by omega, by omega, fun hl => md_isnt hc (no_len hg (by omega)), fun hl => ⟨by omega, by have := (hp.2 g hg).1; omega, ⟨0, by omega, hh.2, rfl, fun _ _ => rfl⟩, fun a b hab => ⟨fun hlt => ?_, fun hge => ?_⟩⟩⟩, fun hh => ⟨fun h => ?_, fun h => ?_⟩⟩
 · by_cases d : j = g
   · rw [if_pos (by omega), decide_eq_true (show j < g + 1 by omega)]
   · rw [if_neg (by omega)]; apply decide_eq_decide.2; omega
 · unfold lvB cntI cntK; simp
 · obtain ⟨eb, hal, hL⟩ := hab
   obtain rfl : b = g := by omega
   have hlen := (hp.2 b hg).1
   have r1 := (hp.2 b hg).2 a (by omega)
   have r2 := (hp.2 b hg).2 (a + 1) (by omega)
   have up : ((a : Int) + 1).toNat = a + 1 := by omega
   rw [up]
   refine ⟨by omega, by omega, by omega, by omega, by omega, by omega, p.kn b (a + 1), fun i hi => if_pos (by omega), ?_⟩
   have eL : imin (p.kn b a) (p.kn b (a + 1)) = stL p b a := rfl
   have eH : imax (p.kn b a) (p.kn b (a + 1)) = stH p b a := rfl
   rw [eL, eH]
   obtain ⟨rl, rh⟩ := st_R r1 r2
   refine ⟨rl.1, rl.2, rh.1, rh.2, ?_⟩
   cases q : numM t.b t.n [stL p b a, stH p b a] with
   | none => exact ⟨fun _ => md_isnt hc (no_has (k := a) hg (by omega) (by unfold hasB; rw [numM_none q]; rfl)), fun h => by cases h⟩
   | some v =>
     obtain ⟨c, hcn, rfl, c0, c1⟩ := numM_some q
     have qe : barEq t.b (stL p b a) (stH p b a) c = true := barEq_iff.2 ⟨c0, c1⟩
     have ix : 0 + (valOf (some (c : Int))).toNat * 1 + 0 = c := by show 0 + (c : Int).toNat * 1 + 0 = c; omega
     have ix2 : 0 + (valOf (some (c : Int))).toNat * 1 + 0 + 0 = c := ix
     have other : ∀ j, j < t.n → j ≠ c → barEq t.b (stL p b a) (stH p b a) j = false := fun j hj ne => by
       cases e : barEq t.b (stL p b a) (stH p b a) j with
       | false => rfl
       | true =>
         obtain ⟨e0, e1⟩ := barEq_iff.1 e
         exact absurd (T.dif j hj c hcn (e0.trans c0.symm) (e1.trans c1.symm)) ne
     have sc : cntK t p b c (a + 1) = cntK t p b c a + 1 := by rw [cntK, if_pos qe]
     have so : ∀ j, j < t.n → j ≠ c → cntK t p b j (a + 1) = cntK t p b j a := fun j hj ne => by rw [cntK, if_neg (by rw [other j hj ne]; decide)]; rfl
     refine ⟨fun h => (by cases h), fun _ => ⟨by show 0 ≤ (c : Int); omega, by show (c : Int) < 72; omega, ?_⟩⟩
     rw [ix2]
     refine ⟨fun h => md_isnt hc (no_two hg (by omega) hcn qe ?_), fun h => ?_⟩
     · rw [Bool.not_eq_true'] at h
       unfold lvB at h
       rw [decide_eq_true hcn, Bool.true_and, decide_eq_false_iff_not] at h
       omega
     · rw [Bool.not_eq_false'] at h
       unfold lvB at h
       rw [decide_eq_true hcn, Bool.true_and, decide_eq_true_eq] at h
       refine ⟨by show 0 ≤ (c : Int); omega, by show (c : Int) < 72; omega, by omega, by omega, a + 1, by omega, ⟨?_, fun j hj => ?_⟩, by omega, rfl, fun j hj => ?_⟩
       · rw [fndK_succ, hL.fnd]; exact hasB_iff.2 ⟨c, hcn, c0, c1⟩
       · by_cases d : j = c
         · subst d; omega
         · rw [so j hj d]; exact hL.le j hj
       · by_cases d : j = c
         · subst d
           rw [if_pos rfl]; unfold lvB
           rw [decide_eq_false (show ¬ cntI t p j b + cntK t p b j (a + 1) = 0 by omega), Bool.and_false]
         · rw [if_neg d]
           unfold lvB
           by_cases hjn : j < t.n
           · rw [so j hjn d]
           · rw [decide_eq_false hjn]; rfl
 · obtain ⟨eb, hal, hL⟩ := hab
   obtain rfl : b = g := by omega
   have hlen := (hp.2 b hg).1
   obtain rfl : a = p.len b - 1 := by omega
   have e : ∀ j, cntI t p j (b + 1) + cntK t p (b + 1) j 0 = cntI t p j b + cntK t p b j (p.len b - 1) := fun j => rfl
   refine ⟨by omega, by omega, b + 1, by omega, ?_, ⟨rfl, fun j hj => by rw [e]; exact hL.le j hj⟩, by omega, rfl, fun j hj => ?_⟩
   · rw [okI_succ, hh.1, hL.fnd, decide_eq_true (by omega)]; rfl
   · unfold lvB; rw [e]
 · obtain ⟨ho, hL⟩ := hh
   have h : (!noneF (lvB t p p.np 0) 72 0) = true := h
   rw [Bool.not_eq_true'] at h
   refine md_isnt hc ?_
   cases q : isM t p with
   | false => rfl
   | true =>
     unfold isM at q
     rw [Bool.and_eq_true, allB_iff] at q
     have : noneF (lvB t p p.np 0) 72 0 = true := noneF_iff.2 fun j _ hj => by
       unfold lvB
       by_cases hjn : j < t.n
       · have := q.2 j hjn
         rw [decide_eq_true_eq] at this
         rw [decide_eq_false (show ¬ cntI t p j p.np + cntK t p p.np j 0 = 0 by omega), Bool.and_false]
       · rw [decide_eq_false hjn]; rfl
     rw [this] at h; cases h
 · obtain ⟨ho, hL⟩ := hh
   have h : (!noneF (lvB t p p.np 0) 72 0) = false := h
   rw [Bool.not_eq_false'] at h
   have hM : isM t p = true := by
     unfold isM
     rw [ho, Bool.true_and, allB_iff]
     intro j hj
     have a := noneF_iff.1 h j (by omega) (by omega)
     unfold lvB at a
     rw [decide_eq_true hj, Bool.true_and, decide_eq_false_iff_not] at a
     have b := hL.le j hj
     have c : cntK t p p.np j 0 = 0 := rfl
     rw [decide_eq_true_eq]; omega
   exact exTw ⟨T.t0, h72, by have := np_few hM; show p.np ≤ 1000; omega, md_is hc hM⟩
end Go.Proofs.YtcfmdhlohahhcaaDoor
namespace Go.Proofs.YtcfmdhlohahhcaaDoor
open Go Go.Sx Nm
set_option maxRecDepth 100000
set_option maxHeartbeats 8000000
def bars0 (i j : Nat) : Int := ([[0, 1], [1, 2], [1, 4]].getD i []).getD j 0
def toT (m : Nat) (f : Nat → Nat → Int) : Torn := ⟨3, 2, 3 + m, fun i j => if i < 3 then bars0 i j else f (i - 3) j, 10, 3⟩
structure ToAsk where
 m : Nat
 f : Nat → Nat → Int
def sTo : Sig := ⟨ToAsk, fun a => [.c (.vs 2 a.m fun i j => .int .i64 (a.f i j))], fun a => a.m < 100, fun a => [.v (tornTV (toT a.m a.f))]⟩
theorem q52 (a : sTo.α) (ha : sTo.pre a) : CallQ Tryd.prog E0 52 (sTo.arg a) (sTo.res a) := by
 obtain ⟨m, f⟩ := a
 refine bare_say E0_ok [] (show SigsOk Tryd.prog E0 [] from SigsOk.nil) [] EvensOk.nil runs { live := true } (fuel := 8) ?_
 refine of_red (q := ((3 : Nat) + m) * (16 : Nat) ≤ (140737488355328 : Nat) ∧ (3 : Nat) + m < (4611686018427387904 : Nat) ∧ True ∧ ((((True ∧ True ∧ (3 : Int) = (toT m f).w) ∧ True ∧ (2 : Int) = (toT m f).h) ∧ True ∧ True ∧ (3 : Nat) + m = (toT m f).n ∧ ∀ (i : Nat), i < (3 : Nat) + m → (True ∧ (if i < (3 : Nat) then if i = (2 : Nat) then (1 : Int) else if i = (1 : Nat) then (1 : Int) else if i = (0 : Nat) then (0 : Int) else (0 : Int) else f (i - (3 : Nat)) 0) = (toT m f).b i 0) ∧ (if i < (3 : Nat) then if i = (2 : Nat) then (4 : Int) else if i = (1 : Nat) then (2 : Int) else if i = (0 : Nat) then (1 : Int) else (0 : Int) else f (i - (3 : Nat)) 1) = (toT m f).b i 1) ∧ True ∧ (10 : Int) = (toT m f).m) ∧ True ∧ (3 : Int) = (toT m f).k) (by kernel_rfl) ?_
 simp only [true_and, and_true, inR, Prod.exists, Prod.forall, and_assoc, exists_and_left, exists_eq_left', exists_eq_left, forall_eq, exists_const, forall_const, loopN, loopM, fa2, fas, fas2, dup1, dup2, dup3, dup4, ite_true, exhs, exhn, exhz, exho, exA, ex1, ex2, ex3, ex4, ex5, beqI, bneI, decide_true, Bool.true_and, decide_eq_true_eq, decide_eq_false_iff_not, ne_eq, Decidable.not_not]
 have hm : m < 100 := ha
 refine ⟨by omega, by omega, rfl, rfl, rfl, fun i hi => ?_, rfl, rfl⟩
 by_cases c : i < 3
 · have e : ∀ j, (toT m f).b i j = bars0 i j := fun j => if_pos c
   rw [e, e, if_pos c, if_pos c]
   exact all3 (P := fun i => (if i = 2 then 1 else if i = 1 then 1 else if i = 0 then 0 else 0) = bars0 i 0 ∧ (if i = 2 then 4 else if i = 1 then 2 else if i = 0 then 1 else 0) = bars0 i 1) ⟨rfl, rfl⟩ ⟨rfl, rfl⟩ ⟨rfl, rfl⟩ i c
 · have e : ∀ j, (toT m f).b i j = f (i - 3) j := fun j => if_neg c
   rw [e, e, if_neg c, if_neg c]
   exact ⟨rfl, rfl⟩
end Go.Proofs.YtcfmdhlohahhcaaDoor
