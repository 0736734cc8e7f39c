/- The framework Sx, part 7b: the state at a loop's head. -/
import Derived.Test.YthcplmlkgaiggaaSxRec
set_option linter.unusedSimpArgs false
set_option linter.unusedVariables false
namespace Go.Sx
section
variable {P : Program} {E : Env} {β0 β1 : Nat → Loc} {Z0 Z1 : Nat → Prop} {w0 w1 : World}

/-- The places of the head's names. -/
def headLoc (nx : Nat) (ss : List (Nat × Src)) (β1 : Nat → Loc) : Nat → Loc := fun m =>
  if m < nx + 16 then (match findSrc ss m with | .nm n => β1 n | .virt => .virt | .bad => .no) else .no

theorem headLoc_named {nx : Nat} {ss : List (Nat × Src)} : Named (bound nx (findSrc ss)) β1 (headLoc nx ss β1) := by
  have lt : ∀ m, Nat.blt m (nx + 16) = true → m < nx + 16 := fun m h => Nat.le_of_ble_eq_true h
  refine ⟨fun m n h => ?_, fun m h => ?_⟩
  · unfold bound at h
    split at h
    · rename_i hb; simp only [headLoc, lt m hb, if_true, h]
    · simp at h
  · unfold bound at h
    split at h
    · rename_i hb; simp only [headLoc, lt m hb, if_true, h]
    · simp at h

theorem arrive {A : Ann} {c : Code} {st st1 : St} {g : A.G} {a0 a1 : Act} (h0 : Sat E st β0 Z0 a0 w0) (h1 : SatH E 0 (fun n => st1.nx ≤ n) β1 Z1 st1.hp w1) (tm1 : ∀ t, RA β1 Z1 w1 (st1.tm t) (a1.tmps.getD t undef)) (sz1 : a1.tmps.size = st.sz)
    (ev : Evo (Own β0 st.hp) Z0 w0 Z1 w1) (ext : Ext β0 β1) (own : ∀ b, Own β1 st1.hp b → Own β0 st.hp b ∨ w0.heap.size ≤ b) (zown : ∀ b, Z1 b → Z0 b ∨ Own β0 st.hp b ∨ w0.heap.size ≤ b)
    (kept : ∀ n, n < st.nx → n ∉ A.dom st → st1.hp n = st.hp n) (slots : ∀ t, writes c t = false → a1.tmps.getD t undef = a0.tmps.getD t undef) (hc : comesTo A st st1 g) :
    ∃ β2, Sat E (headSt A c st g) β2 Z1 a1 w1 ∧ Turn (HS.of st β0 Z0 w0) ⟨β2, Z1, (headSt A c st g).hp, st.nx + 16, A.dom st ++ st.wl, w1⟩ := by
  obtain ⟨hchk, htms, hhps⟩ := hc
  have hchk := chk_iff.1 hchk
  simp only [Bool.and_eq_true] at hchk
  obtain ⟨⟨hsame, hnames⟩, _⟩ := hchk
  have hdom := sameNames_ok hsame
  obtain ⟨n1, n2, n3, n4⟩ := fitNames_ok hnames
  let l := A.hp st g
  let ss := srcs st1 l
  let β2 := headLoc st.nx ss β1
  have hρ : Named (bound st.nx (findSrc ss)) β1 β2 := headLoc_named
  have bnd : ∀ m, m < st.nx + 16 → bound st.nx (findSrc ss) m = findSrc ss m := fun m hm => by
    unfold bound
    rw [show Nat.blt m (st.nx + 16) = true from Nat.ble_eq_true_of_le hm]
  -- elder names keep their places
  have old : ∀ n, n < st.nx → findSrc ss n = .nm n := fun n hn => by
    rcases findSrc_or (ss := ss) (n := n) with ⟨h, _⟩ | h
    · exact h
    · obtain ⟨w, b, hm, e⟩ := srcs_mem h
      rcases (n1 _ hm).2 with h2 | h2
      · exact absurd h2 (by show ¬ st.nx ≤ n; omega)
      · simp only at h2; subst h2; exact e
  have oldβ : ∀ n, n < st.nx → β2 n = β1 n := fun n hn => hρ.nm n n (by rw [bnd n (by omega)]; exact old n hn)
  have known : ∀ n, β0 n ≠ .no → n < st.nx := fun n hn => by
    apply Nat.lt_of_not_le; intro hle; exact hn (h0.heap.fresh n hle)
  have ext2 : Ext β0 β2 := fun n hn => by rw [oldβ n (known n hn)]; exact ext n hn
  have ag : ∀ n, β0 n ≠ .no → β2 n = β1 n := fun n hn => oldβ n (known n hn)
  -- a block of the head's state, and where it comes from
  have hph : ∀ n, (headSt A c st g).hp n = match findHp l n with | some (_, b) => b | none => st.hp n := fun n => rfl
  have src : ∀ n blk, (headSt A c st g).hp n = some blk → RB β2 Z1 w1 (β2 n) blk ∧ n < st.nx + 16 ∧
      ((findHp l n = none ∧ n < st.nx ∧ findSrc ss n = .nm n ∧ ∃ b1, st1.hp n = some b1) ∨
       (∃ k b1, (n, Src.nm k) ∈ ss ∧ findSrc ss n = .nm k ∧ st1.hp k = some b1) ∨ findSrc ss n = .virt) := fun n blk hn => by
    rw [hph] at hn
    cases hf : findHp l n with
    | none =>
      rw [hf] at hn
      simp only at hn
      have hβ0 : β0 n ≠ .no := fun e => by
        have := h0.heap.rb n blk hn
        rw [e] at this; cases blk <;> exact this.elim
      have hlt := known n hβ0
      have hnd : n ∉ A.dom st := fun hm => by
        rw [hdom] at hm
        obtain ⟨x, hx, hxe⟩ := List.mem_map.1 hm
        exact findHp_none.1 hf x hx hxe
      have hk := kept n hlt hnd
      rw [hn] at hk
      refine ⟨?_, by omega, .inl ⟨rfl, hlt, old n hlt, blk, hk⟩⟩
      rw [oldβ n hlt]
      refine RB.rebase ag (h0.heap.rb n blk hn) (h1.rb n blk hk) (fun b ln hb => ?_)
      rw [ext n hβ0] at hb
      exact ⟨b, ln, hb⟩
    | some r =>
      obtain ⟨w, ob⟩ := r
      rw [hf] at hn
      simp only at hn
      subst hn
      obtain ⟨e1, e2⟩ := findSrc_some (st1 := st1) hf
      have hmem := findHp_mem hf
      have hlt := (n1 _ hmem).1
      have hone := fitHps_get hhps hmem
      unfold fitOne at hone
      have hb := bnd n hlt
      split at hone
      · rename_i k hk
        have hk0 : findSrc ss n = .nm k := by rw [← hb]; exact hk
        split at hone
        · rename_i b1 hb1
          refine ⟨?_, hlt, .inr (.inl ⟨k, b1, ?_, hk0, hb1⟩)⟩
          · rw [hρ.nm n k hk]
            exact fitBlk_ok hρ hone (h1.rb k b1 hb1)
          · have : srcOf st1 n w = .nm k := by rw [← e1]; exact hk0
            rw [← this]; exact e2
        · exact hone.elim
      · rename_i hv
        refine ⟨?_, hlt, .inr (.inr (by rw [← hb]; exact hv))⟩
        rw [hρ.virt n hv]
        split at hone
        · exact hone
        · exact hone.elim
      · exact hone.elim
  -- a placed block's source
  have plc : ∀ n blk b ln, (headSt A c st g).hp n = some blk → β2 n = .at b ln → ∃ k b1, findSrc ss n = .nm k ∧ st1.hp k = some b1 ∧ β1 k = .at b ln ∧ ((findHp l n = none ∧ k = n) ∨ (n, Src.nm k) ∈ ss) := fun n blk b ln hn hb => by
    obtain ⟨_, hlt, hcase⟩ := src n blk hn
    rcases hcase with ⟨h2, h3, h4, b1, h5⟩ | ⟨k, b1, h2, h3, h4⟩ | h2
    · exact ⟨n, b1, h4, h5, by rw [← oldβ n h3]; exact hb, .inl ⟨h2, rfl⟩⟩
    · exact ⟨k, b1, h3, h4, by rw [← hρ.nm n k (by rw [bnd n hlt]; exact h3)]; exact hb, .inr h2⟩
    · rw [hρ.virt n (by rw [bnd n hlt]; exact h2)] at hb; simp at hb
  have hsat : SatH E 0 (fun n => (headSt A c st g).nx ≤ n) β2 Z1 (headSt A c st g).hp w1 := by
    refine ⟨fun n blk hn => (src n blk hn).1, fun n blk b ln hn hb => ?_, fun n m x y b l1 l2 hn hm hb1 hb2 => ?_, h1.zlt, fun n hn => ?_, h1.gl⟩
    · obtain ⟨k, b1, _, h2, h3, _⟩ := plc n blk b ln hn hb
      exact h1.own k b1 b ln h2 h3
    · obtain ⟨k, bk, e1, h2, h3, h4⟩ := plc n x b l1 hn hb1
      obtain ⟨k', bk', e1', h2', h3', h4'⟩ := plc m y b l2 hm hb2
      have hkk := h1.inj k k' bk bk' b l1 l2 h2 h2' h3 h3'
      subst hkk
      have mixed : ∀ {n m : Nat}, findHp l n = none → n < st.nx + 16 → (m, Src.nm n) ∈ ss → n ∉ A.dom st → n < st.nx → n = m := fun {n m} hf hlt hm hnd hnx => by
        rcases n2 m n hm with h | h | ⟨z, hz, hze⟩
        · exact h
        · omega
        · exact absurd hze (findHp_none.1 hf z hz)
      rcases h4 with ⟨f1, rfl⟩ | h4
      · rcases h4' with ⟨f2, rfl⟩ | h4'
        · rfl
        · rcases n2 m k h4' with h | h | ⟨z, hz, hze⟩
          · exact h
          · have hblk : st.hp k = some x := by rw [hph, f1] at hn; exact hn
            have hβ0 : β0 k ≠ .no := fun e => by
              have := h0.heap.rb k x hblk
              rw [e] at this; cases x <;> exact this.elim
            exact absurd (known k hβ0) (by omega)
          · exact absurd hze (findHp_none.1 f1 z hz)
      · rcases h4' with ⟨f2, rfl⟩ | h4'
        · rcases n2 n k h4 with h | h | ⟨z, hz, hze⟩
          · exact h.symm
          · have hblk : st.hp k = some y := by rw [hph, f2] at hm; exact hm
            have hβ0 : β0 k ≠ .no := fun e => by
              have := h0.heap.rb k y hblk
              rw [e] at this; cases y <;> exact this.elim
            exact absurd (known k hβ0) (by omega)
          · exact absurd hze (findHp_none.1 f2 z hz)
        · exact n4 n m k h4 h4'
    · show headLoc st.nx ss β1 n = .no
      unfold headLoc
      rw [if_neg (by have : st.nx + 16 ≤ n := hn; omega)]
  refine ⟨β2, ⟨hsat, fun t => ?_, sz1⟩, ⟨ev, ext2, fun b hb => ?_, zown, Nat.le_add_right _ _, fun n hn => by simp [HS.of] at hn; simp [hn], fun n hn hw => ?_⟩⟩
  · show RA β2 Z1 w1 (match findTm (A.tm st g) t with | some v => v | none => (match writes c t with | true => .any | false => st.tm t)) _
    cases hf : findTm (A.tm st g) t with
    | some v => exact fitAV_ok hρ (fitTms_get htms hf) (tm1 t)
    | none =>
      cases hw : writes c t with
      | true => trivial
      | false =>
        simp only
        rw [slots t hw]
        exact RA.mono ev h0.heap.calm ext2 (h0.tm t)
  · obtain ⟨n, blk, ln, hn, hb⟩ := hb
    obtain ⟨k, b1, _, h2, h3, _⟩ := plc n blk b ln hn hb
    exact own b ⟨k, b1, ln, h2, h3⟩
  · simp only [List.mem_append, not_or] at hw
    have : findHp l n = none := findHp_none.2 fun x hx e => hw.1 (by rw [hdom]; exact List.mem_map.2 ⟨x, hx, e⟩)
    show (match findHp l n with | some (_, b) => b | none => st.hp n) = st.hp n
    rw [this]
end
end Go.Sx
