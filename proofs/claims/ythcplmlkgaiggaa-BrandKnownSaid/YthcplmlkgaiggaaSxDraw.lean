/- The framework Sx, part 13: regions that draw their order. -/
import Derived.Test.YthcplmlkgaiggaaSxSteady
set_option linter.unusedSimpArgs false
set_option linter.unusedVariables false
namespace Go.Sx

/-- An operation of a stretch without bars, at the text's states. -/
def SegAt (P : Program) (E : Env) (ops : List Oper) (bs : List Nat) (base ib : Nat) (k : Nat) (st st1 : St) (run : Bool) (v : AV) (D : Option (Nat × Option Blk)) : Prop :=
  ∃ o, ops[k]? = some o ∧ isBar bs k = false ∧ st.has o.dst = true ∧
    GSay ops o st.tm run ∧
    st1 = st.next o.dst v st1.hp (st.nx + 4) st.wl ∧ (∀ n, ¬ (st.nx ≤ n ∧ n < st.nx + 4) → st1.hp n = setO D st.hp n) ∧ (∀ n x, D = some (n, x) → mayDrop bs k base ib n = true ∧ n < st.nx) ∧
    (run = true → StepSem P E (maskHp base ib (bs.getD k 0) st.hp) (masked st.tm (looks ops o)) st.nx o v st1.hp D) ∧ (run = false → v = .tup [] ∧ st1.hp = st.hp ∧ D = none)

section
variable {P : Program} {E : Env} {β β' : Nat → Loc} {Z Z' : Nat → Prop} {hp : Hp} {w w' : World} {inl : CallVC} {yld : YieldVC}

theorem guard_abs {ops : List Oper} {kn : Nat → Option Bool} {o : Oper} {st : St} {K : (Nat → Option Bool) → Bool → Prop} (h : vcGuard ops kn o st K) (hk : KnT kn st.tm) :
    ∃ kn' run, K kn' run ∧ KnT kn' st.tm ∧ GSay ops o st.tm run := by
  unfold vcGuard at h
  split at h
  · rename_i hg; exact ⟨kn, true, h, hk, .inl ⟨hg, rfl⟩⟩
  · rename_i j want hg
    split at h
    · rename_i d hd
      split at h
      · rename_i hsk
        exact ⟨kn, false, h, hk, .inr (.inr ⟨j, want, d, hg, hd, isSkip_ok hsk, rfl⟩)⟩
      · obtain ⟨kn', t, h1, h2, h3⟩ := split_abs h hk
        exact ⟨kn', _, h1, h3, .inr (.inl ⟨j, want, d, t, hg, hd, h2, rfl⟩)⟩
    · exact h.elim

def Extr (P : Program) (E : Env) (inl : CallVC) (yld : YieldVC) (ops : List Oper) (bs : List Nat) (base ib : Nat) (K : St → Prop) (i : Nat) (st : St) : Prop :=
  ∃ (b : Nat) (sts : Nat → St) (runs : Nat → Bool) (vs : Nat → AV) (ds : Nat → Option (Nat × Option Blk)), i ≤ b ∧ b ≤ ops.length ∧ sts i = st ∧ (∀ k, i ≤ k → k < b → SegAt P E ops bs base ib k (sts k) (sts (k + 1)) (runs k) (vs k) (ds k)) ∧ (∀ n, (sts b).nx ≤ n → (sts b).hp n = none) ∧
      ((b = ops.length ∧ K (sts b)) ∨ (∃ o, ops[b]? = some o ∧ isBar bs b = true ∧ ∃ kn', KnT kn' (sts b).tm ∧ vcDraw E inl yld ops bs (ops.drop b) b base ib kn' (sts b) K))

theorem extract (hE : EnvOk P E) {ops : List Oper} {bs : List Nat} {base ib : Nat} {K : St → Prop} : ∀ (rest : List Oper) (i : Nat), rest = ops.drop i → i ≤ ops.length → ∀ (kn : Nat → Option Bool) (st : St), vcDraw E inl yld ops bs rest i base ib kn st K → KnT kn st.tm → (∀ n, st.nx ≤ n → st.hp n = none) →
    Extr P E inl yld ops bs base ib K i st
  | [], i, hr, hi, kn, st, h, hk, hf => by
    have : i = ops.length := by
      have := congrArg List.length hr
      simp at this; omega
    exact ⟨i, fun _ => st, fun _ => true, fun _ => .any, fun _ => none, Nat.le_refl _, hi, rfl, fun k h1 h2 => by omega, hf, .inl ⟨this, h⟩⟩
  | o :: rest, i, hr, hi, kn, st, h, hk, hf => by
    have hlt : i < ops.length := by
      have := congrArg List.length hr
      simp at this; omega
    have ho : ops[i]? = some o := by
      have := congrArg (fun l => l[0]?) hr
      simp at this
      exact this.symm
    have hrest : rest = ops.drop (i + 1) := by
      have := congrArg List.tail hr
      simpa using this
    have h0 := h
    simp only [vcDraw] at h
    obtain ⟨kn1, run, h1, h2, h3⟩ := guard_abs h hk
    split at h1
    · rename_i hb
      exact ⟨i, fun _ => st, fun _ => true, fun _ => .any, fun _ => none, Nat.le_refl _, hi, rfl, fun k h1 h2 => by omega, hf, .inr ⟨o, ho, hb, kn, hk, hr ▸ h0⟩⟩
    · rename_i hb
      have go : ∀ (v : AV) (st1 : St) (kn2 : Nat → Option Bool) (D : Option (Nat × Option Blk)), SegAt P E ops bs base ib i st st1 run v D → KnT kn2 st1.tm → (∀ n, st1.nx ≤ n → st1.hp n = none) → vcDraw E inl yld ops bs rest (i + 1) base ib kn2 st1 K → Extr P E inl yld ops bs base ib K i st := fun v st1 kn2 D hseg hk2 hf2 hvc => by
        obtain ⟨b, sts, runs, vs, ds, q1, q2, q3, q4, q5, q6⟩ := extract hE rest (i + 1) hrest hlt kn2 st1 hvc hk2 hf2
        refine ⟨b, fun k => if k = i then st else sts k, fun k => if k = i then run else runs k, fun k => if k = i then v else vs k, fun k => if k = i then D else ds k, by omega, q2, by simp, fun k hk1 hk2 => ?_, ?_, ?_⟩
        · by_cases e : k = i
          · subst e; simp only [if_true]; rw [if_neg (by omega), q3]; exact hseg
          · simp only [e, if_false]; rw [if_neg (by omega)]; exact q4 k (by omega) hk2
        · simp only; rw [if_neg (by omega)]; exact q5
        · simp only; rw [if_neg (by omega)]; exact q6
      split at h1
      · obtain ⟨hh, kn2, v, hp', D, k1, k2, k3, k5, k4⟩ := steady_one hE h1 h2 hf
        refine go v (st.next o.dst v hp' (st.nx + 4) st.wl) kn2 D ⟨o, ho, hb, hh, h3, rfl, k3, k5, fun _ => k4, fun h => by simp at h⟩ k1 (fun n hn => ?_) k2
        have hn' : st.nx + 4 ≤ n := hn
        show hp' n = none
        rw [k3 n (by omega)]
        cases D with
        | none => exact hf n (by omega)
        | some m => have := (k5 m.1 m.2 rfl).2; show upd st.hp m.1 m.2 n = none; rw [upd_ne _ _ (by omega)]; exact hf n (by omega)
      · split at h1
        · rename_i hh
          refine go (.tup []) (st.next o.dst (.tup []) st.hp (st.nx + 4) st.wl) _ none ⟨o, ho, hb, hh, h3, rfl, fun _ _ => rfl, fun _ _ h => by simp at h, fun h => by simp at h, fun _ => ⟨rfl, rfl, rfl⟩⟩ (forget_abs h2) (fun n hn => ?_) h1
          have hn' : st.nx + 4 ≤ n := hn
          exact hf n (by omega)
        · exact h1.elim

/-! ### What the text's checks say -/

theorem zip_mem {ops : List Oper} {i : Nat} {o : Oper} (h : ops[i]? = some o) : (o, i) ∈ ops.zipIdx := by
  rw [List.mem_zipIdx_iff_getElem?]; exact h

theorem ssa_ok {ops : List Oper} {bs : List Nat} (h : ssa ops bs = true) {m i : Nat} {om oi : Oper} (hm : ops[m]? = some om) (hi : ops[i]? = some oi) (hne : m ≠ i) {d : Nat} (hd : om.dst = some d) :
    oi.dst ≠ some d ∧ (d ∈ looks ops oi → (bs.getD i 0).testBit m = true ∨ (bs.getD m 0).testBit i = true) := by
  simp only [ssa, List.all_eq_true] at h
  have h1 := h _ (zip_mem hm)
  simp only [hd, List.all_eq_true] at h1
  have h2 := h1 _ (zip_mem hi)
  simp only [Bool.or_eq_true, Bool.and_eq_true, Bool.not_eq_true'] at h2
  rcases h2 with h2 | ⟨h2, h3⟩
  · exact absurd (Nat.eq_of_beq_eq_true h2) hne
  · refine ⟨fun e => ?_, fun hl => ?_⟩
    · rw [e] at h2; simp at h2
    · rcases h3 with (h3 | h3) | h3
      · exact absurd (List.any_eq_true.2 ⟨d, hl, Nat.beq_refl d⟩) (by rw [h3]; simp)
      · exact .inl h3
      · exact .inr h3

theorem sound_ok {ops : List Oper} {bs : List Nat} (h : sound ops bs = true) {i : Nat} {o : Oper} (hi : ops[i]? = some o) :
    (∀ k, (bs.getD i 0).testBit k = true → k < i) ∧ (∀ e ∈ o.after, Region.binds .any e = true → e.on < i) ∧ (∀ k, k < i → (bs.getD i 0).testBit k = true → ∃ e ∈ o.after, Region.binds .any e = true ∧ (e.on = k ∨ (bs.getD e.on 0).testBit k = true)) := by
  simp only [sound, Bool.and_eq_true, List.all_eq_true] at h
  obtain ⟨⟨h0, h1⟩, h2⟩ := h.2 _ (zip_mem hi)
  refine ⟨fun k hk => ?_, fun e he hb => ?_, fun k hk hb => ?_⟩
  · have hlt : bs.getD i 0 < 2 ^ i := Nat.le_of_ble_eq_true h0
    apply Nat.lt_of_not_le
    intro hle
    have : bs.getD i 0 < 2 ^ k := Nat.lt_of_lt_of_le hlt (Nat.pow_le_pow_right (by omega) hle)
    rw [Nat.testBit_lt_two_pow this] at hk
    simp at hk
  · have := h1 e (by simpa using he)
    simp only [Bool.or_eq_true, Bool.not_eq_true'] at this
    rcases this with h3 | h3
    · rw [hb] at h3; simp at h3
    · exact Nat.le_of_ble_eq_true h3
  · have := h2 k (List.mem_range.2 hk)
    simp only [Bool.or_eq_true, Bool.not_eq_true', List.any_eq_true, Bool.and_eq_true] at this
    rcases this with h3 | ⟨e, he, h3, h4⟩
    · rw [hb] at h3; simp at h3
    · exact ⟨e, by simpa using he, h3, h4.imp Nat.eq_of_beq_eq_true id⟩

theorem bar_ok {bs : List Nat} {i : Nat} (h : isBar bs i = true) : (∀ k, k < i → (bs.getD i 0).testBit k = true) ∧ (∀ j, i < j → j < bs.length → (bs.getD j 0).testBit i = true) := by
  simp only [isBar, Bool.and_eq_true, List.all_eq_true, Bool.or_eq_true] at h
  refine ⟨fun k hk => ?_, fun j hj hl => ?_⟩
  · rw [Nat.eq_of_beq_eq_true h.1, Nat.testBit_two_pow_sub_one]; simp [hk]
  · rcases h.2 j (List.mem_range.2 hl) with h1 | h1
    · exact absurd (Nat.le_of_ble_eq_true h1) (by omega)
    · exact h1

/-! ### How many are left -/

def unl (l : Array Bool) : Nat → Nat
  | 0 => 0
  | k + 1 => unl l k + (if l.getD k true = true then 0 else 1)

theorem getD_set {l : Array Bool} {i k : Nat} (hi : i < l.size) : (l.setIfInBounds i true).getD k true = if k = i then true else l.getD k true := by
  by_cases e : k = i
  · subst e; simp [Array.getD, hi]
  · simp [e, Array.getD_eq_getD_getElem?, Array.getElem?_setIfInBounds_ne (Ne.symm e)]

theorem unl_set {l : Array Bool} {i : Nat} (hi : i < l.size) (hf : l.getD i true = false) : ∀ k, unl (l.setIfInBounds i true) k + (if i < k then 1 else 0) = unl l k
  | 0 => by simp [unl]
  | k + 1 => by
    have ih := unl_set hi hf k
    simp only [unl, getD_set hi]
    by_cases e : k = i
    · subst e
      rw [if_neg (by omega)] at ih
      simp only [if_true, hf]
      rw [if_pos (by omega)]
      simp
      omega
    · simp only [e, if_false]
      generalize (if l.getD k true = true then 0 else 1) = x
      by_cases h2 : i < k
      · rw [if_pos h2] at ih; rw [if_pos (by omega : i < k + 1)]; omega
      · rw [if_neg h2] at ih; rw [if_neg (by omega : ¬ i < k + 1)]; omega

theorem unl_zero {l : Array Bool} : ∀ {k : Nat}, unl l k = 0 → ∀ j, j < k → l.getD j true = true
  | 0, _, j, hj => absurd hj (Nat.not_lt_zero j)
  | k + 1, h, j, hj => by
    simp only [unl] at h
    by_cases e : j = k
    · subst e
      by_cases h2 : l.getD j true = true
      · exact h2
      · rw [if_neg h2] at h; omega
    · exact unl_zero (k := k) (by omega) j (by omega)

theorem ready_iff {ops : Array Oper} {listed : Array Bool} {i : Nat} : i ∈ Region.ready .any ops listed ↔ ∃ o, ops[i]? = some o ∧ listed.getD i true = false ∧ ∀ e ∈ o.after, Region.binds .any e = true → listed.getD e.on false = true := by
  simp only [Region.ready, List.mem_filter, List.mem_range, Bool.and_eq_true, Bool.not_eq_true']
  constructor
  · rintro ⟨h1, h2, h3⟩
    have ho : ops[i]? = some ops[i] := by simp [h1]
    rw [ho] at h3
    simp only [Option.map_some, Option.getD_some, Array.all_eq_true] at h3
    refine ⟨ops[i], ho, h2, fun e he hb => ?_⟩
    obtain ⟨j, hj, rfl⟩ := Array.getElem_of_mem he
    have := h3 j hj
    rw [hb] at this
    simpa using this
  · rintro ⟨o, ho, h2, h3⟩
    have h1 : i < ops.size := (Array.getElem?_eq_some_iff.1 ho).1
    refine ⟨h1, h2, ?_⟩
    rw [ho]
    simp only [Option.map_some, Option.getD_some, Array.all_eq_true]
    intro j hj
    cases hb : Region.binds .any o.after[j] with
    | false => rfl
    | true => rw [h3 _ (Array.getElem_mem hj) hb]; rfl
end
end Go.Sx
