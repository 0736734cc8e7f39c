/- The framework Sx, part 6b: calls of functions that share blocks with their callers. -/
import Derived.Test.YthcplmlkgaiggaaSxLoop
set_option linter.unusedSimpArgs false
set_option linter.unusedVariables false
namespace Go.Sx
section
variable {P : Program} {E : Env} {β : Nat → Loc} {Z : Nat → Prop} {hp : Hp} {w : World}

theorem lenR_eq : ∀ {l : List (RW × Blk)}, lenR l = l.length
  | [] => rfl
  | _ :: l => by simp [lenR, lenR_eq (l := l)]

theorem nthN_mem : ∀ {ns : List Nat} {m n : Nat}, nthN ns m = some n → n ∈ ns
  | [], _, _, h => by cases h
  | k :: l, 0, n, h => by simp only [nthN, Option.some.injEq] at h; simp [h]
  | k :: l, m + 1, n, h => List.mem_cons_of_mem _ (nthN_mem (ns := l) h)

theorem nthN_lt : ∀ {ns : List Nat} {m n : Nat}, nthN ns m = some n → m < ns.length
  | [], _, _, h => by cases h
  | k :: l, 0, n, h => by simp
  | k :: l, m + 1, n, h => by have := nthN_lt (ns := l) h; simp; omega

theorem apart_inj : ∀ {ns : List Nat} {m m' n : Nat}, apart ns = true → nthN ns m = some n → nthN ns m' = some n → m = m'
  | [], _, _, _, _, h, _ => by cases h
  | k :: l, m, m', n, h, h1, h2 => by
    simp only [apart, Bool.and_eq_true, Bool.not_eq_true', List.any_eq_false] at h
    have no : n ∈ l → k ≠ n := fun hm e => h.1 n hm (by rw [e]; exact Nat.beq_refl n)
    match m, m', h1, h2 with
    | 0, 0, _, _ => rfl
    | 0, m' + 1, h1, h2 => simp only [nthN, Option.some.injEq] at h1; exact absurd h1 (no (nthN_mem (ns := l) h2))
    | m + 1, 0, h1, h2 => simp only [nthN, Option.some.injEq] at h2; exact absurd h2 (no (nthN_mem (ns := l) h1))
    | m + 1, m' + 1, h1, h2 => rw [apart_inj (ns := l) h.2 h1 h2]

theorem recBlks_get {ρ : Nat → Src} : ∀ {ns : List Nat} {l : List (RW × Blk)}, recBlks ρ hp ns l → ns.length = l.length ∧ ∀ m blk, canonHp l m = some blk → ∃ n b1, nthN ns m = some n ∧ hp n = some b1 ∧ fitBlk ρ b1 blk
  | [], [], _ => ⟨rfl, fun m blk h => by cases h⟩
  | n :: ns, (r, b) :: l, h => by
    obtain ⟨h1, h2⟩ := h
    obtain ⟨e, ih⟩ := recBlks_get h2
    refine ⟨by simp [e], fun m blk hm => ?_⟩
    match m, hm with
    | 0, hm =>
      simp only [canonHp, Option.some.injEq] at hm
      subst hm
      split at h1
      · rename_i b1 hb1; exact ⟨n, b1, rfl, hb1, h1⟩
      · exact h1.elim
    | m + 1, hm => exact ih m blk hm
  | [], _ :: _, h => h.elim
  | _ :: _, [], h => h.elim

theorem recTVs_ok {ρ : Nat → Src} {β1 β2 : Nat → Loc} (hρ : Named ρ β1 β2) : ∀ {l r : List TV} {vs : List Value}, recTVs ρ l r → RL β1 Z w l vs → RL β2 Z w r vs
  | [], [], [], _, _ => trivial
  | [], [], _ :: _, _, h => h.elim
  | x :: l, y :: r, v :: vs, h, h' => ⟨fitTV_ok hρ h.1 h'.1, recTVs_ok hρ h.2 h'.2⟩
  | x :: l, y :: r, [], _, h => by cases x <;> exact h.elim
  | [], _ :: _, _, h, _ => h.elim
  | _ :: _, [], _, h, _ => h.elim

theorem rec_ok {f : FuncId} {R : RSpec} (hR : ∀ g, R.ok g → SemRec P E f R g) {args : List TV} {x : HS} {K : AV → Hp → Nat → List Nat → Prop} (h : recCall R args x.hp x.nx x.wl K) (hok : x.ok E) {vs : List Value} (hr : RL x.β x.Z x.w args vs) :
    CallsIn Fence.wide 0 P f vs.toArray x.w (CallPost E x K) := by
  obtain ⟨g, hg, h⟩ := h
  split at h
  · rename_i ns hns
    obtain ⟨hap, htv, hbl, hk⟩ := h
    have hap := chk_iff.1 hap
    obtain ⟨hlen, hget⟩ := recBlks_get hbl
    let βc : Nat → Loc := fun m => match nthN ns m with | some n => x.β n | none => .no
    have hρ : Named (recSrc ns) x.β βc := by
      refine ⟨fun m n e => ?_, fun m e => ?_⟩
      · unfold recSrc at e
        show (match nthN ns m with | some n => x.β n | none => .no) = x.β n
        cases hn : nthN ns m with
        | none => rw [hn] at e; cases e
        | some k => rw [hn] at e; injection e with e; subst e; rfl
      · unfold recSrc at e
        split at e <;> cases e
    have βc_of : ∀ {m n}, nthN ns m = some n → βc m = x.β n := fun {m n} e => by show (match nthN ns m with | some n => x.β n | none => .no) = _; rw [e]
    have hsat : SatH E 0 (fun m => lenR (R.hp g) ≤ m) βc x.Z (canonHp (R.hp g)) x.w := by
      refine ⟨fun m blk hm => ?_, fun m blk b ln hm hb => ?_, fun m m' b1 b2 b l1 l2 hm hm' hb hb' => ?_, hok.zlt, fun m hm => ?_, hok.gl⟩
      · obtain ⟨n, b1, e1, e2, e3⟩ := hget m blk hm
        rw [βc_of e1]
        exact fitBlk_ok hρ e3 (hok.rb n b1 e2)
      · obtain ⟨n, b1, e1, e2, e3⟩ := hget m blk hm
        rw [βc_of e1] at hb
        exact hok.own n b1 b ln e2 hb
      · obtain ⟨n, c1, e1, e2, _⟩ := hget m b1 hm
        obtain ⟨n', c1', e1', e2', _⟩ := hget m' b2 hm'
        rw [βc_of e1] at hb
        rw [βc_of e1'] at hb'
        have := hok.inj n n' c1 c1' b l1 l2 e2 e2' hb hb'
        subst this
        exact apart_inj hap e1 e1'
      · show (match nthN ns m with | some n => x.β n | none => .no) = .no
        cases hn : nthN ns m with
        | none => rfl
        | some n => have := nthN_lt hn; have hm' : lenR (R.hp g) ≤ m := hm; rw [lenR_eq] at hm'; omega
    have ownc : ∀ b, Own βc (canonHp (R.hp g)) b → ∃ n b1 ln, n ∈ ns ∧ x.hp n = some b1 ∧ x.β n = .at b ln := fun b ⟨m, blk, ln, hm, hb⟩ => by
      obtain ⟨n, b1, e1, e2, _⟩ := hget m blk hm
      rw [βc_of e1] at hb
      exact ⟨n, b1, ln, nthN_mem e1, e2, hb⟩
    have ownx : ∀ b, Own βc (canonHp (R.hp g)) b → Own x.β x.hp b := fun b hb => let ⟨n, b1, ln, _, h2, h3⟩ := ownc b hb; ⟨n, b1, ln, h2, h3⟩
    have away : ∀ {n blk b ln}, n ∉ ns → x.hp n = some blk → x.β n = .at b ln → ¬ Own βc (canonHp (R.hp g)) b := fun {n blk b ln} h1 h2 h3 hb => by
      obtain ⟨n', b1, ln', k1, k2, k3⟩ := ownc b hb
      have := hok.inj n n' blk b1 b ln ln' h2 k2 h3 k3
      subst this
      exact h1 k1
    refine CallsIn.mono (hR g hg x.Z βc x.w vs hsat (recTVs_ok hρ htv hr)) fun e w' ⟨val, l, Z', he, hrb, hl, hv, ev, hz, hzlt, hgl⟩ => ?_
    have hno : x.β x.nx = .no := hok.fresh x.nx (Nat.le_refl _)
    have ext : Ext x.β (upd x.β x.nx l) := fun n hn => upd_ne _ _ (fun e => hn (by rw [e]; exact hno))
    have old : ∀ n blk, upd (dropAll x.hp ns) x.nx (some (.row R.e R.size (R.len g) (R.get g))) n = some blk → (n = x.nx ∧ blk = .row R.e R.size (R.len g) (R.get g)) ∨ (n ≠ x.nx ∧ n ∉ ns ∧ x.hp n = some blk) := fun n blk hn => by
      by_cases e0 : n = x.nx
      · subst e0; rw [upd_same] at hn; simp at hn; exact .inl ⟨rfl, hn.symm⟩
      · rw [upd_ne _ _ e0] at hn
        obtain ⟨k1, k2⟩ := dropAll_some hn
        exact .inr ⟨e0, k1, k2⟩
    refine ⟨val, _, ⟨upd x.β x.nx l, Z', upd (dropAll x.hp ns) x.nx (some (.row R.e R.size (R.len g) (R.get g))), x.nx + 4, ns ++ x.wl, w'⟩, he, hk, rfl, ⟨fun n blk hn => ?_, fun n blk b ln hn hb => ?_, fun n m b1 b2 b l1 l2 hn hm hb hb' => ?_, hzlt, fun n hn => ?_, hgl⟩, ?_, ⟨ev.weaken ownx, ext, fun b hb => ?_, fun b hb => ?_, Nat.le_add_right _ _, fun n hn => List.mem_append.2 (.inr hn), fun n hn hw => ?_⟩⟩
    · rcases old n blk hn with ⟨rfl, rfl⟩ | ⟨k1, k2, k3⟩
      · show RB (upd x.β x.nx l) Z' w' (upd x.β x.nx l x.nx) _
        rw [upd_same]
        cases l with
        | no => exact hrb.elim
        | virt => exact hrb
        | «at» b ln => exact hrb
      · show RB (upd x.β x.nx l) Z' w' (upd x.β x.nx l n) _
        rw [upd_ne _ _ k1]
        refine RB.mono ev hsat.calm ext (fun b ln hb => ev.same b (hok.own n blk b ln k3 hb).1 (away k2 k3 hb)) (hok.rb n blk k3)
    · rcases old n blk hn with ⟨rfl, rfl⟩ | ⟨k1, k2, k3⟩
      · have hb' : upd x.β x.nx l x.nx = .at b ln := hb
        rw [upd_same] at hb'
        obtain ⟨q1, q2, _⟩ := hl b ln hb'
        exact ⟨q1, q2, Nat.zero_le _⟩
      · have hb' : upd x.β x.nx l n = .at b ln := hb
        rw [upd_ne _ _ k1] at hb'
        obtain ⟨q1, q2, q3⟩ := hok.own n blk b ln k3 hb'
        refine ⟨Nat.lt_of_lt_of_le q1 ev.size, fun hzb => ?_, q3⟩
        rcases hz b hzb with h | h | h
        · exact q2 h
        · exact away k2 k3 hb' h
        · exact absurd q1 (Nat.not_lt.2 h)
    · have mix : ∀ {n blk b ln ln'}, n ≠ x.nx → n ∉ ns → x.hp n = some blk → upd x.β x.nx l n = .at b ln → l = .at b ln' → False := fun {n blk b ln ln'} k1 k2 k3 hb hb' => by
        rw [upd_ne _ _ k1] at hb
        rcases (hl b ln' hb').2.2 with h | h
        · exact away k2 k3 hb h
        · exact absurd (hok.own n blk b ln k3 hb).1 (Nat.not_lt.2 h)
      have hb : upd x.β x.nx l n = .at b l1 := hb
      have hb' : upd x.β x.nx l m = .at b l2 := hb'
      rcases old n b1 hn with ⟨rfl, _⟩ | ⟨k1, k2, k3⟩
      · rcases old m b2 hm with ⟨rfl, _⟩ | ⟨j1, j2, j3⟩
        · rfl
        · rw [upd_same] at hb
          exact (mix j1 j2 j3 hb' hb).elim
      · rcases old m b2 hm with ⟨rfl, _⟩ | ⟨j1, j2, j3⟩
        · rw [upd_same] at hb'
          exact (mix k1 k2 k3 hb hb').elim
        · rw [upd_ne _ _ k1] at hb
          rw [upd_ne _ _ j1] at hb'
          exact hok.inj n m b1 b2 b l1 l2 k3 j3 hb hb'
    · have hn : x.nx + 4 ≤ n := hn
      show upd x.β x.nx l n = .no
      rw [upd_ne _ _ (by omega)]
      exact hok.fresh n (by show x.nx ≤ n; omega)
    · show ROs w' (upd x.β x.nx l x.nx) _ _ val
      rw [upd_same]; exact hv
    · obtain ⟨n, blk, ln, hn, hb⟩ := hb
      rcases old n blk hn with ⟨rfl, _⟩ | ⟨k1, k2, k3⟩
      · have hb : upd x.β x.nx l x.nx = .at b ln := hb
        rw [upd_same] at hb
        rcases (hl b ln hb).2.2 with h | h
        · exact .inl (ownx b h)
        · exact .inr h
      · have hb : upd x.β x.nx l n = .at b ln := hb
        rw [upd_ne _ _ k1] at hb
        exact .inl ⟨n, blk, ln, k3, hb⟩
    · rcases hz b hb with h | h | h
      · exact .inl h
      · exact .inr (.inl (ownx b h))
      · exact .inr (.inr h)
    · simp only [List.mem_append, not_or] at hw
      show upd (dropAll x.hp ns) x.nx _ n = x.hp n
      rw [upd_ne _ _ (by omega), dropAll_get hw.1]
  · exact h.elim
end
end Go.Sx
