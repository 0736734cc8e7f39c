/- Texts for the law of the last part, part 7. -/
import Derived.Test.YtpigkgoooekcgaaTopEqualsP06
import Derived.Sort.LoopGhostIn
set_option linter.unusedSimpArgs false
set_option linter.unusedVariables false
namespace Go.Sx
section
variable {P : Program} {E : Env} {β0 β1 : Nat → Loc} {Z0 Z1 : Nat → Prop} {w0 w1 : World}
def headLoc (nx : Nat) (ss : List (Nat × Src)) (β1 : Nat → Loc) : Nat → Loc := fun m =>
 if m < nx + 16 then (match findSrc ss m with | .nm n => β1 n | .virt => .virt | .bad => .no) else .no
theorem headLoc_named {nx : Nat} {ss : List (Nat × Src)} : Named (bound nx (findSrc ss)) β1 (headLoc nx ss β1) := by
 have lt : ∀ m, Nat.blt m (nx + 16) = true → m < nx + 16 := fun m h => Nat.le_of_ble_eq_true h
 refine ⟨fun m n h => ?_, fun m h => ?_⟩
 · unfold bound at h
   split at h
   · rename_i hb; simp only [headLoc, lt m hb, if_true, h]
   · simp at h
 · unfold bound at h
   split at h
   · rename_i hb; simp only [headLoc, lt m hb, if_true, h]
   · simp at h
theorem arrive {A : Ann} {c : Code} {st st1 : St} {g : A.G} {a0 a1 : Act} (h0 : Sat E st β0 Z0 a0 w0) (h1 : SatH E 0 (fun n => st1.nx ≤ n) β1 Z1 st1.hp w1) (tm1 : ∀ t, RA β1 Z1 w1 (st1.tm t) (a1.tmps.getD t undef)) (sz1 : a1.tmps.size = st.sz)
   (ev : Evo (Own β0 st.hp) Z0 w0 Z1 w1) (ext : Ext β0 β1) (own : ∀ b, Own β1 st1.hp b → Own β0 st.hp b ∨ w0.heap.size ≤ b) (zown : ∀ b, Z1 b → Z0 b ∨ Own β0 st.hp b ∨ w0.heap.size ≤ b)
   (kept : ∀ n, n < st.nx → n ∉ A.dom st → st1.hp n = st.hp n) (slots : ∀ t, writes c t = false → a1.tmps.getD t undef = a0.tmps.getD t undef) (hc : comesTo A st st1 g) :
   ∃ β2, Sat E (headSt A c st g) β2 Z1 a1 w1 ∧ Turn (HS.of st β0 Z0 w0) ⟨β2, Z1, (headSt A c st g).hp, st.nx + 16, A.dom st ++ st.wl, w1⟩ := by
 obtain ⟨hchk, htms, hhps⟩ := hc
 have hchk := chk_iff.1 hchk
 simp only [Bool.and_eq_true] at hchk
 obtain ⟨⟨hsame, hnames⟩, _⟩ := hchk
 have hdom := sameNames_ok hsame
 obtain ⟨n1, n2, n3, n4⟩ := fitNames_ok hnames
 let l := A.hp st g
 let ss := srcs st1 l
 let β2 := headLoc st.nx ss β1
 have hρ : Named (bound st.nx (findSrc ss)) β1 β2 := headLoc_named
 have bnd : ∀ m, m < st.nx + 16 → bound st.nx (findSrc ss) m = findSrc ss m := fun m hm => by
   unfold bound
   rw [show Nat.blt m (st.nx + 16) = true from Nat.ble_eq_true_of_le hm]
 have old : ∀ n, n < st.nx → findSrc ss n = .nm n := fun n hn => by
   rcases findSrc_or (ss := ss) (n := n) with ⟨h, _⟩ | h
   · exact h
   · obtain ⟨w, b, hm, e⟩ := srcs_mem h
     rcases (n1 _ hm).2 with h2 | h2
     · exact absurd h2 (by show ¬ st.nx ≤ n; omega)
     · simp only at h2; subst h2; exact e
 have oldβ : ∀ n, n < st.nx → β2 n = β1 n := fun n hn => hρ.nm n n (by rw [bnd n (by omega)]; exact old n hn)
 have known : ∀ n, β0 n ≠ .no → n < st.nx := fun n hn => by
   apply Nat.lt_of_not_le; intro hle; exact hn (h0.heap.fresh n hle)
 have ext2 : Ext β0 β2 := fun n hn => by rw [oldβ n (known n hn)]; exact ext n hn
 have ag : ∀ n, β0 n ≠ .no → β2 n = β1 n := fun n hn => oldβ n (known n hn)
 have hph : ∀ n, (headSt A c st g).hp n = match findHp l n with | some (_, b) => b | none => st.hp n := fun n => rfl
 have src : ∀ n blk, (headSt A c st g).hp n = some blk → RB β2 Z1 w1 (β2 n) blk ∧ n < st.nx + 16 ∧
     ((findHp l n = none ∧ n < st.nx ∧ findSrc ss n = .nm n ∧ ∃ b1, st1.hp n = some b1) ∨
      (∃ k b1, (n, Src.nm k) ∈ ss ∧ findSrc ss n = .nm k ∧ st1.hp k = some b1) ∨ findSrc ss n = .virt) := fun n blk hn => by
   rw [hph] at hn
   cases hf : findHp l n with
   | none =>
     rw [hf] at hn
     simp only at hn
     have hβ0 : β0 n ≠ .no := fun e => by
       have := h0.heap.rb n blk hn
       rw [e] at this; cases blk <;> exact this.elim
     have hlt := known n hβ0
     have hnd : n ∉ A.dom st := fun hm => by
       rw [hdom] at hm
       obtain ⟨x, hx, hxe⟩ := List.mem_map.1 hm
       exact findHp_none.1 hf x hx hxe
     have hk := kept n hlt hnd
     rw [hn] at hk
     refine ⟨?_, by omega, .inl ⟨rfl, hlt, old n hlt, blk, hk⟩⟩
     rw [oldβ n hlt]
     refine RB.rebase ag (h0.heap.rb n blk hn) (h1.rb n blk hk) (fun b ln hb => ?_)
     rw [ext n hβ0] at hb
     exact ⟨b, ln, hb⟩
   | some r =>
     obtain ⟨w, ob⟩ := r
     rw [hf] at hn
     simp only at hn
     subst hn
     obtain ⟨e1, e2⟩ := findSrc_some (st1 := st1) hf
     have hmem := findHp_mem hf
     have hlt := (n1 _ hmem).1
     have hone := fitHps_get hhps hmem
     unfold fitOne at hone
     have hb := bnd n hlt
     split at hone
     · rename_i k hk
       have hk0 : findSrc ss n = .nm k := by rw [← hb]; exact hk
       split at hone
       · rename_i b1 hb1
         refine ⟨?_, hlt, .inr (.inl ⟨k, b1, ?_, hk0, hb1⟩)⟩
         · rw [hρ.nm n k hk]
           exact fitBlk_ok hρ hone (h1.rb k b1 hb1)
         · have : srcOf st1 n w = .nm k := by rw [← e1]; exact hk0
           rw [← this]; exact e2
       · exact hone.elim
     · rename_i hv
       refine ⟨?_, hlt, .inr (.inr (by rw [← hb]; exact hv))⟩
       rw [hρ.virt n hv]
       split at hone
       · exact hone
       · exact hone.elim
     · exact hone.elim
 have plc : ∀ n blk b ln, (headSt A c st g).hp n = some blk → β2 n = .at b ln → ∃ k b1, findSrc ss n = .nm k ∧ st1.hp k = some b1 ∧ β1 k = .at b ln ∧ ((findHp l n = none ∧ k = n) ∨ (n, Src.nm k) ∈ ss) := fun n blk b ln hn hb => by
   obtain ⟨_, hlt, hcase⟩ := src n blk hn
   rcases hcase with ⟨h2, h3, h4, b1, h5⟩ | ⟨k, b1, h2, h3, h4⟩ | h2
   · exact ⟨n, b1, h4, h5, by rw [← oldβ n h3]; exact hb, .inl ⟨h2, rfl⟩⟩
   · exact ⟨k, b1, h3, h4, by rw [← hρ.nm n k (by rw [bnd n hlt]; exact h3)]; exact hb, .inr h2⟩
   · rw [hρ.virt n (by rw [bnd n hlt]; exact h2)] at hb; simp at hb
 have hsat : SatH E 0 (fun n => (headSt A c st g).nx ≤ n) β2 Z1 (headSt A c st g).hp w1 := by
   refine ⟨fun n blk hn => (src n blk hn).1, fun n blk b ln hn hb => ?_, fun n m x y b l1 l2 hn hm hb1 hb2 => ?_, h1.zlt, fun n hn => ?_, h1.gl⟩
   · obtain ⟨k, b1, _, h2, h3, _⟩ := plc n blk b ln hn hb
     exact h1.own k b1 b ln h2 h3
   · obtain ⟨k, bk, e1, h2, h3, h4⟩ := plc n x b l1 hn hb1
     obtain ⟨k', bk', e1', h2', h3', h4'⟩ := plc m y b l2 hm hb2
     have hkk := h1.inj k k' bk bk' b l1 l2 h2 h2' h3 h3'
     subst hkk
     have mixed : ∀ {n m : Nat}, findHp l n = none → n < st.nx + 16 → (m, Src.nm n) ∈ ss → n ∉ A.dom st → n < st.nx → n = m := fun {n m} hf hlt hm hnd hnx => by
       rcases n2 m n hm with h | h | ⟨z, hz, hze⟩
       · exact h
       · omega
       · exact absurd hze (findHp_none.1 hf z hz)
     rcases h4 with ⟨f1, rfl⟩ | h4
     · rcases h4' with ⟨f2, rfl⟩ | h4'
       · rfl
       · rcases n2 m k h4' with h | h | ⟨z, hz, hze⟩
         · exact h
         · have hblk : st.hp k = some x := by rw [hph, f1] at hn; exact hn
           have hβ0 : β0 k ≠ .no := fun e => by
             have := h0.heap.rb k x hblk
             rw [e] at this; cases x <;> exact this.elim
           exact absurd (known k hβ0) (by omega)
         · exact absurd hze (findHp_none.1 f1 z hz)
     · rcases h4' with ⟨f2, rfl⟩ | h4'
       · rcases n2 n k h4 with h | h | ⟨z, hz, hze⟩
         · exact h.symm
         · have hblk : st.hp k = some y := by rw [hph, f2] at hm; exact hm
           have hβ0 : β0 k ≠ .no := fun e => by
             have := h0.heap.rb k y hblk
             rw [e] at this; cases y <;> exact this.elim
           exact absurd (known k hβ0) (by omega)
         · exact absurd hze (findHp_none.1 f2 z hz)
       · exact n4 n m k h4 h4'
   · show headLoc st.nx ss β1 n = .no
     unfold headLoc
     rw [if_neg (by have : st.nx + 16 ≤ n := hn; omega)]
 refine ⟨β2, ⟨hsat, fun t => ?_, sz1⟩, ⟨ev, ext2, fun b hb => ?_, zown, Nat.le_add_right _ _, fun n hn => by simp [HS.of] at hn; simp [hn], fun n hn hw => ?_⟩⟩
 · show RA β2 Z1 w1 (match findTm (A.tm st g) t with | some v => v | none => (match writes c t with | true => .any | false => st.tm t)) _
   cases hf : findTm (A.tm st g) t with
   | some v => exact fitAV_ok hρ (fitTms_get htms hf) (tm1 t)
   | none =>
     cases hw : writes c t with
     | true => trivial
     | false =>
       simp only
       rw [slots t hw]
       exact RA.mono ev h0.heap.calm ext2 (h0.tm t)
 · obtain ⟨n, blk, ln, hn, hb⟩ := hb
   obtain ⟨k, b1, _, h2, h3, _⟩ := plc n blk b ln hn hb
   exact own b ⟨k, b1, ln, h2, h3⟩
 · simp only [List.mem_append, not_or] at hw
   have : findHp l n = none := findHp_none.2 fun x hx e => hw.1 (by rw [hdom]; exact List.mem_map.2 ⟨x, hx, e⟩)
   show (match findHp l n with | some (_, b) => b | none => st.hp n) = st.hp n
   rw [this]
end
end Go.Sx
namespace Go.Sx
def markOf (r : Nat) : Deferred := { target := .collected r, args := #[] }
def Marks (B0 : Nat) (x : HS) (ds : List Deferred) : Prop :=
 B0 ≤ x.w.heap.size ∧ ∃ l : List Nat, ds = l.map markOf ∧ l.Nodup ∧ ∀ r ∈ l, B0 ≤ r ∧ x.w.heap[r]? = some (.deferred (some [])) ∧ ¬ Own x.β x.hp r ∧ ¬ x.Z r
def RoundOk (ro : Option Nat) (w : World) : Prop := ∀ l, ro = some l → ∃ r, w.heap[l]? = some (.loop r)
theorem Marks.turn {B0 : Nat} {x y : HS} {ds : List Deferred} (h : Marks B0 x ds) (t : Turn x y) : Marks B0 y ds := by
 obtain ⟨h0, l, rfl, h2, h3⟩ := h
 refine ⟨Nat.le_trans h0 t.ev.size, l, rfl, h2, fun r hr => ?_⟩
 obtain ⟨a0, a1, a2, a3⟩ := h3 r hr
 have hlt : r < x.w.heap.size := (Array.getElem?_eq_some_iff.1 a1).1
 refine ⟨a0, by rw [t.ev.same r hlt a2]; exact a1, fun ho => ?_, fun hz => ?_⟩
 · rcases t.own r ho with h | h
   · exact a2 h
   · omega
 · rcases t.zown r hz with h | h | h
   · exact a3 h
   · exact a2 h
   · omega
theorem RoundOk.turn {ro : Option Nat} {x y : HS} (h : RoundOk ro x.w) (t : Turn x y) : RoundOk ro y.w := fun l hl =>
 let ⟨r, hr⟩ := h l hl
 let ⟨r', hr', _⟩ := t.ev.loops l r hr
 ⟨r', hr'⟩
def Post (E : Env) (B0 : Nat) (Q : Exit → St → Prop) (c : Code) (x : HS) (sz : Nat) (a : Act) : Exit → Act → World → Prop := fun e a' w' =>
 ∃ st' β' Z', Q e st' ∧ Sat E st' β' Z' a' w' ∧ Turn x (HS.of st' β' Z' w') ∧ st'.sz = sz ∧ (∀ t, writes c t = false → a'.tmps.getD t undef = a.tmps.getD t undef) ∧ Marks B0 (HS.of st' β' Z' w') a'.defers
def CodeOk (P : Program) (E : Env) (c : Code) (f : St → (Exit → St → Prop) → Prop) : Prop :=
 ∀ st Q, f st Q → ∀ ro B0 β Z a w, Sat E st β Z a w → Marks B0 (HS.of st β Z w) a.defers → RoundOk ro w → c.wpIn (Fn ro) 0 P (Post E B0 Q c (HS.of st β Z w) st.sz a) a w
section
variable {P : Program} {E : Env} {β β' : Nat → Loc} {Z Z' : Nat → Prop} {hp : Hp} {w w' : World} {inl : CallVC} {yld : YieldVC}
def KnOk (kn : Nat → Option Bool) (a : Act) : Prop := ∀ d b, kn d = some b → a.tmps.getD d undef = .bool b
theorem KnOk.upd {kn : Nat → Option Bool} {a : Act} (h : KnOk kn a) {d : Nat} {b : Bool} (hb : a.tmps.getD d undef = .bool b) : KnOk (upd kn d (some b)) a := fun d' b' h' => by
 by_cases e : d' = d
 · subst e; rw [upd_same] at h'; injection h' with h'; subst h'; exact hb
 · rw [upd_ne _ _ e] at h'; exact h d' b' h'
theorem split_ok {kn : Nat → Option Bool} {d : Nat} {x : AV} {K : (Nat → Option Bool) → Bool → Prop} {a : Act} (h : split kn d x K) (hx : RA β Z w x (a.tmps.getD d undef)) (hk : KnOk kn a) :
   ∃ kn' t, K kn' t ∧ a.tmps.getD d undef = .bool t ∧ KnOk kn' a := by
 unfold split at h
 split at h
 · rename_i t ht
   exact ⟨kn, t, h, hk d t ht, hk⟩
 · split at h
   · exact ⟨kn, true, h, hx, hk⟩
   · exact ⟨kn, false, h, hx, hk⟩
   · rename_i b
     have hb : a.tmps.getD d undef = .bool b := hx
     cases b
     · exact ⟨_, false, h.2 rfl, hb, hk.upd hb⟩
     · exact ⟨_, true, h.1 rfl, hb, hk.upd hb⟩
   · exact h.elim
theorem forget_ok {kn : Nat → Option Bool} {a a' : Act} (h : KnOk kn a) {dst : Option Nat} (keep : ∀ t, dst ≠ some t → a'.tmps.getD t undef = a.tmps.getD t undef) : KnOk (forget kn dst) a' := fun d b hb => by
 cases dst with
 | none => rw [keep d (by simp)]; exact h d b hb
 | some e =>
   simp only [forget] at hb
   by_cases e1 : d = e
   · subst e1; rw [upd_same] at hb; simp at hb
   · rw [upd_ne _ _ e1] at hb
     rw [keep d (by simp [Ne.symm e1])]; exact h d b hb
theorem wanted_of {ops : Array Oper} {o : Oper} {j d : Nat} {want t : Bool} {a : Act} (hg : o.guard = some (j, want)) (hs : slotOf ops.toList j = some d) (ht : a.tmps.getD d undef = .bool t) :
   Region.wanted o (yielded ops a.tmps) = same t want := by
 have hd : (ops[j]?).bind (·.dst) = some d := by
   unfold slotOf at hs
   rw [Array.getElem?_toList] at hs
   split at hs
   · rename_i o' ho'; simp [ho', hs]
   · simp at hs
 have hv : a.tmps[d]? = some (.bool t) := by
   rw [Array.getD_eq_getD_getElem?] at ht
   cases h : a.tmps[d]? with
   | none => rw [h] at ht; simp [undef] at ht
   | some v => rw [h] at ht; simp at ht; rw [ht]
 have hy : yielded ops a.tmps j = some t := by
   unfold yielded
   simp [hd, hv]
 unfold Region.wanted
 simp only [hg, hy]
 cases t <;> cases want <;> rfl
theorem isSkip_ok {x : AV} (h : isSkip x = true) : x = .tup [] := by
 unfold isSkip at h
 split at h
 · rfl
 · cases h
theorem ra_skip {w : World} {β : Nat → Loc} {Z : Nat → Prop} : RA β Z w (.tup []) undef := ⟨#[], rfl, rfl, fun i x h => by simp at h⟩
theorem ra_skip_eq {w : World} {β : Nat → Loc} {Z : Nat → Prop} {v : Value} (h : RA β Z w (.tup []) v) : v = undef := by
 obtain ⟨vs, rfl, h1, _⟩ := h
 have : vs = #[] := by simpa using h1
 rw [this]; rfl
theorem wanted_skip {ops : Array Oper} {o : Oper} {j d : Nat} {want : Bool} {a : Act} (hg : o.guard = some (j, want)) (hs : slotOf ops.toList j = some d) (ht : a.tmps.getD d undef = undef) :
   Region.wanted o (yielded ops a.tmps) = false := by
 have hd : (ops[j]?).bind (·.dst) = some d := by
   unfold slotOf at hs
   rw [Array.getElem?_toList] at hs
   split at hs
   · rename_i o' ho'; simp [ho', hs]
   · simp at hs
 have hy : yielded ops a.tmps j = none := by
   unfold yielded
   rw [hd]
   rw [Array.getD_eq_getD_getElem?] at ht
   cases h : a.tmps[d]? with
   | none => simp [h]
   | some v => rw [h] at ht; simp at ht; subst ht; simp [h, undef]
 unfold Region.wanted
 simp only [hg, hy]
 rfl
def GSay (ops : List Oper) (o : Oper) (tm : Nat → AV) (run : Bool) : Prop :=
 (o.guard = none ∧ run = true) ∨ (∃ j want d t, o.guard = some (j, want) ∧ slotOf ops j = some d ∧ truth (tm d) = some t ∧ run = same t want) ∨
 (∃ j want d, o.guard = some (j, want) ∧ slotOf ops j = some d ∧ tm d = .tup [] ∧ run = false)
theorem frzOne_ok {st : St} {a : Act} {t : Nat} (h : Sat E st β Z a w) : ∃ Z', Sat E (frzOne t st) β Z' a w ∧ Turn (HS.of st β Z w) (HS.of (frzOne t st) β Z' w) ∧ (frzOne t st).sz = st.sz := by
 have id_ : frzOne t st = st → ∃ Z', Sat E (frzOne t st) β Z' a w ∧ Turn (HS.of st β Z w) (HS.of (frzOne t st) β Z' w) ∧ (frzOne t st).sz = st.sz := fun e => by rw [e]; exact ⟨Z, h, Turn.refl _, rfl⟩
 cases htm : st.tm t with
 | any => exact id_ (by unfold frzOne; rw [htm])
 | tup => exact id_ (by unfold frzOne; rw [htm])
 | t x =>
   cases x with
   | a => exact id_ (by unfold frzOne; rw [htm])
   | c x =>
     by_cases hx : ∃ n sz l, x = .os n sz l
     · obtain ⟨n, sz, l, rfl⟩ := hx
       cases hn : st.hp n with
       | none => exact id_ (by unfold frzOne; rw [htm]; simp only [hn])
       | some b =>
         cases b with
         | box => exact id_ (by unfold frzOne; rw [htm]; simp only [hn])
         | mp => exact id_ (by unfold frzOne; rw [htm]; simp only [hn])
         | mpI => exact id_ (by unfold frzOne; rw [htm]; simp only [hn])
         | mq => exact id_ (by unfold frzOne; rw [htm]; simp only [hn])
         | lp => exact id_ (by unfold frzOne; rw [htm]; simp only [hn])
         | row e size len get =>
           cases hb : Nat.beq sz size with
           | false => exact id_ (by unfold frzOne; rw [htm]; simp only [hn, hb])
           | true =>
             have e1 : frzOne t st = { tm := upd st.tm t (.t (.c (.vs size len get))), sz := st.sz, hp := upd st.hp n none, nx := st.nx, wl := n :: st.wl } := by unfold frzOne; rw [htm]; simp only [hn, hb]
             rw [e1]
             have hfz := h.heap.freeze n
             have hu : ROs w (β n) sz l (a.tmps.getD t undef) := by have := h.tm t; rw [htm] at this; exact this
             refine ⟨_, ⟨hfz.sat, fun d => ?_, h.sz⟩, ⟨hfz.ev, hfz.ext, hfz.own, hfz.zown, Nat.le_refl _, fun m hm => List.mem_cons_of_mem _ hm, fun m _ hm => ?_⟩, rfl⟩
             · show RA β _ w (upd st.tm t (.t (.c (.vs size len get))) d) _
               by_cases e : d = t
               · subst e; rw [upd_same]; exact RC.of_RP (os_froze h.heap hn hu)
               · rw [upd_ne _ _ e]; exact RA.mono hfz.ev h.heap.calm hfz.ext (h.tm d)
             · show upd st.hp n none m = st.hp m
               exact upd_ne _ _ (fun e => hm (by rw [e]; exact List.mem_cons_self ..))
     · refine id_ ?_
       unfold frzOne
       rw [htm]
       cases x <;> first | rfl | exact absurd ⟨_, _, _, rfl⟩ hx
theorem frzAll_ok : ∀ {l : List Nat} {st : St} {Z : Nat → Prop} {a : Act}, Sat E st β Z a w → ∃ Z', Sat E (frzAll l st) β Z' a w ∧ Turn (HS.of st β Z w) (HS.of (frzAll l st) β Z' w) ∧ (frzAll l st).sz = st.sz
 | [], st, Z, a, h => ⟨Z, h, Turn.refl _, rfl⟩
 | t :: l, st, Z, a, h => by
   obtain ⟨Z1, h1, t1, s1⟩ := frzOne_ok (t := t) h
   obtain ⟨Z2, h2, t2, s2⟩ := frzAll_ok (l := l) h1
   exact ⟨Z2, h2, t1.trans t2, s2.trans s1⟩
theorem SatH.freezes {B : Nat} {Fr : Nat → Prop} {hp : Hp} (h : SatH E B Fr β Z hp w) : ∀ l : List Nat, ∃ Z' : Nat → Prop, SatH E B Fr β Z' (dropAll hp l) w ∧ Evo (Own β hp) Z w Z' w ∧ (∀ b, Z' b → Z b ∨ Own β hp b) ∧ ∀ n, n ∈ l → ∀ blk b ln, hp n = some blk → β n = .at b ln → Z' b
 | [] => ⟨Z, h, Evo.refl _ _ _, fun _ h => .inl h, fun n hn => by simp at hn⟩
 | n :: l => by
   obtain ⟨Z1, h1, e1, z1, m1⟩ := SatH.freezes h l
   have hf := h1.freeze n
   have sub : ∀ b, Own β (dropAll hp l) b → Own β hp b := fun b ⟨m, blk, ln, h2, h3⟩ => ⟨m, blk, ln, (dropAll_some h2).2, h3⟩
   refine ⟨_, hf.sat, e1.trans hf.ev (fun b hb => .inl (sub b hb)), fun b hb => ?_, fun k hk blk b ln h2 h3 => ?_⟩
   · rcases hb with hb | ⟨blk, ln, h2, h3⟩
     · exact z1 b hb
     · exact .inr ⟨n, blk, ln, (dropAll_some h2).2, h3⟩
   · by_cases hkl : k ∈ l
     · exact .inl (m1 k hkl blk b ln h2 h3)
     · have : k = n := by simpa [hkl] using hk
       subst this
       exact .inr ⟨blk, ln, by rw [dropAll_get hkl]; exact h2, h3⟩
theorem frzOneD_ok {st : St} {a : Act} {t : Nat} (h : Sat E st β Z a w) : ∃ Z', Sat E (frzOneD t st) β Z' a w ∧ Turn (HS.of st β Z w) (HS.of (frzOneD t st) β Z' w) ∧ (frzOneD t st).sz = st.sz := by
 have id_ : frzOneD t st = st → ∃ Z', Sat E (frzOneD t st) β Z' a w ∧ Turn (HS.of st β Z w) (HS.of (frzOneD t st) β Z' w) ∧ (frzOneD t st).sz = st.sz := fun e => by rw [e]; exact ⟨Z, h, Turn.refl _, rfl⟩
 generalize hq : frzOneD t st = q at id_ ⊢
 unfold frzOneD at hq
 split at hq
 · rename_i n sz len htm
   split at hq
   · rename_i m get hn
     split at hq
     · rename_i g hble hg
       subst hq
       have hle := Nat.le_of_ble_eq_true hble
       have hx : ROs w (β n) sz len (a.tmps.getD t undef) := by have := h.tm t; rw [htm] at this; exact this
       have hrb := h.heap.rb n _ hn
       obtain ⟨Z', f1, f2, f3, f4⟩ := h.heap.freezes (n :: ownGetD st.hp get m)
       refine ⟨Z', ⟨f1, fun d => ?_, h.sz⟩, ⟨f2, Ext.refl _, fun b hb => ?_, fun b hb => (f3 b hb).elim .inl (fun h => .inr (.inl h)), Nat.le_refl _, fun k hk => List.mem_append_right _ hk, fun k _ hk => ?_⟩, rfl⟩
       · show RA β _ w (upd st.tm t (.t (.c (.vs sz len (fun i j => g (i * sz + j))))) d) _
         by_cases e : d = t
         · subst e
           rw [upd_same]
           refine RC.of_RP (β := β) (x := .vs sz len (fun i j => g (i * sz + j))) ?_
           cases hβ : β n with
           | no => rw [hβ] at hx; exact hx.elim
           | virt => rw [hβ] at hrb; exact hrb.elim
           | «at» b ln =>
             rw [hβ] at hx hrb
             obtain ⟨rfl, cap, e0, q1, _⟩ := hx
             obtain ⟨cs, e, g1, g2, g3⟩ := hrb
             obtain ⟨q, _⟩ := pureGetD_ok (β' := β) (Z1 := Z') h.heap (fun _ _ h => h) f2.zmono (vs := fun j => cs[j]?) g3 (fun k hk => f4 k (List.mem_cons_of_mem _ hk)) hg
             refine ⟨some ⟨b, 0, none⟩, cap, e0, q1, fun _ => ⟨b, 0, rfl, f4 n (List.mem_cons_self ..) _ b _ hn hβ, fun i hi j hj => ?_⟩⟩
             have hlt : i * sz + j < m := by
               have : (i + 1) * sz ≤ ln * sz := Nat.mul_le_mul_right _ hi
               rw [Nat.add_mul] at this
               omega
             obtain ⟨u, hu, hr⟩ := q _ hlt
             exact ⟨u, by rw [cell_of_heap g1, Nat.zero_add]; exact hu, RP.of_RC (pureGetD_pure hg _ hlt) hr⟩
         · rw [upd_ne _ _ e]; exact RA.mono f2 h.heap.calm (Ext.refl _) (h.tm d)
       · obtain ⟨k, blk, ln, h2, h3⟩ := hb
         exact .inl ⟨k, blk, ln, (dropAll_some h2).2, h3⟩
       · exact dropAll_get (fun hm => hk (List.mem_append_left _ hm))
     · exact id_ hq.symm
   · subst hq; exact frzOne_ok h
 · exact id_ hq.symm
theorem frzAllD_ok : ∀ {l : List Nat} {st : St} {Z : Nat → Prop} {a : Act}, Sat E st β Z a w → ∃ Z', Sat E (frzAllD l st) β Z' a w ∧ Turn (HS.of st β Z w) (HS.of (frzAllD l st) β Z' w) ∧ (frzAllD l st).sz = st.sz
 | [], st, Z, a, h => ⟨Z, h, Turn.refl _, rfl⟩
 | t :: l, st, Z, a, h => by
   obtain ⟨Z1, h1, t1, s1⟩ := frzOneD_ok (t := t) h
   obtain ⟨Z2, h2, t2, s2⟩ := frzAllD_ok (l := l) h1
   exact ⟨Z2, h2, t1.trans t2, s2.trans s1⟩
theorem frzAll_has : ∀ {l : List Nat} {st : St} {d : Option Nat}, (frzAll l st).sz = st.sz → st.has d = true → (frzAll l st).has d = true := fun {l st d} hs h => by
 cases d with
 | none => rfl
 | some d => simpa only [St.has, hs] using h
theorem one_sound (hE : EnvOk P E) (hI : InlOk P E inl) (hIf : InlFn E inl) (hY : YldOk P E yld) {kn : Nat → Option Bool} {o : Oper} {st : St} {K : (Nat → Option Bool) → St → Prop} {a : Act} {ro : Option Nat} {Q' : Exit → Act → World → Prop}
   (h : vcOne E inl yld kn o st K) (hs : Sat E st β Z a w) (hk : KnOk kn a) : o.wpIn (Fn ro) 0 P a w (fun a' w' => ∃ kn', KnOk kn' a' ∧ OpPost E (HS.of st β Z w) st.sz o.dst a (K kn') a' w') Q' := by
 unfold vcOne at h
 split at h
 · rename_i hh
   split at h
   · rename_i c x y hop
     obtain ⟨kn', t, h1, h2, h3⟩ := split_ok h (hs.tm c) hk
     refine ⟨fun _ _ => trivial, ?_⟩
     rw [Oper.semAt_eq _ _ _ (fun c hc => by rw [hop] at hc; simp at hc)]
     have hrun : (execOp a.eval o).run P w = .ok (.value (if t then a.eval x else a.eval y)) w := by
       have : a.eval (.tmp c) = .bool t := h2
       simp [execOp, hop, this, asBool]
     rw [hrun]
     have hok4 : (⟨β, Z, st.hp, st.nx + 4, st.wl, w⟩ : HS).ok E := hs.heap.weaken (fun n (hn : st.nx + 4 ≤ n) => by omega)
     have hp1 := OpPost.of (val := if t then a.eval x else a.eval y) (K := K (forget kn' o.dst)) hs hh hok4 ⟨Evo.refl _ _ _, Ext.refl _, fun _ h => .inl h, fun _ h => .inl h, Nat.le_add_right _ _, fun _ h => h, fun _ _ _ => rfl⟩
       (v := pickV t (evalO E st.tm x) (evalO E st.tm y)) (by cases t; exact eval_ok hs.heap.gl hs.tm y; exact eval_ok hs.heap.gl hs.tm x) h1
     exact ⟨_, forget_ok h3 (fun t' ht' => by rw [getD_put, if_neg (fun hh => ht' hh.1)]), hp1⟩
   · obtain ⟨Z1, hs1, ht1, hz1⟩ := frzAll_ok (l := tmpsOf o) hs
     have := step_sound (K := K (forget kn o.dst)) hE hI hIf hY (ro := ro) (Q' := Q') (frzAll_has hz1 hh) h hs1
     refine Oper.wpIn_mono (fun a' w' hp => ?_) this
     obtain ⟨st', β', Z', q1, q2, q3, q4, q5, q6⟩ := hp
     exact ⟨_, forget_ok hk q5, st', β', Z', q1, q2, ht1.trans q3, q4.trans hz1, q5, q6⟩
   · split at h
     · have := step_sound (K := K (forget kn o.dst)) hE hI hIf hY (ro := ro) (Q' := Q') hh h hs
       refine Oper.wpIn_mono (fun a' w' hp => ?_) this
       obtain ⟨st', β', Z', q1, q2, q3, q4, q5, q6⟩ := hp
       exact ⟨_, forget_ok hk q5, st', β', Z', q1, q2, q3, q4, q5, q6⟩
     · rename_i t l _
       obtain ⟨Z1, hs1, ht1, hz1⟩ := frzAll_ok (l := t :: l) hs
       have := step_sound (K := K (forget kn o.dst)) hE hI hIf hY (ro := ro) (Q' := Q') (frzAll_has hz1 hh) h hs1
       refine Oper.wpIn_mono (fun a' w' hp => ?_) this
       obtain ⟨st', β', Z', q1, q2, q3, q4, q5, q6⟩ := hp
       exact ⟨_, forget_ok hk q5, st', β', Z', q1, q2, ht1.trans q3, q4.trans hz1, q5, q6⟩
 · exact h.elim
theorem skip_ok {st : St} {a : Act} {dst : Option Nat} (hs : Sat E st β Z a w) (hd : st.has dst = true) : Sat E (st.next dst (.tup []) st.hp (st.nx + 4) st.wl) β Z (a.put dst undef) w ∧ Turn (HS.of st β Z w) (HS.of (st.next dst (.tup []) st.hp (st.nx + 4) st.wl) β Z w) := by
 have hok4 : (⟨β, Z, st.hp, st.nx + 4, st.wl, w⟩ : HS).ok E := hs.heap.weaken (fun n (hn : st.nx + 4 ≤ n) => by omega)
 exact ⟨hs.next (y := ⟨β, Z, st.hp, st.nx + 4, st.wl, w⟩) hd hok4 (Evo.refl _ _ _) (Ext.refl _) ra_skip,
   ⟨Evo.refl _ _ _, Ext.refl _, fun _ h => .inl h, fun _ h => .inl h, Nat.le_add_right _ _, fun _ h => h, fun _ _ _ => rfl⟩⟩
theorem ops_sound (hE : EnvOk P E) (hI : InlOk P E inl) (hIf : InlFn E inl) (hY : YldOk P E yld) {ops : Array Oper} {K : St → Prop} {ro : Option Nat} {Q : Exit → Act → World → Prop} {x0 : HS} {sz : Nat} {a0 : Act}
   (hK : ∀ st' β' Z' a' w', K st' → Sat E st' β' Z' a' w' → Turn x0 (HS.of st' β' Z' w') → st'.sz = sz → (∀ t, (∀ o ∈ ops.toList, o.dst ≠ some t) → a'.tmps.getD t undef = a0.tmps.getD t undef) → a'.defers = a0.defers → Q .normal a' w') :
   ∀ (rest : List Oper), (∀ o ∈ rest, o ∈ ops.toList) → ∀ (kn : Nat → Option Bool) (st : St) (β : Nat → Loc) (Z : Nat → Prop) (a : Act) (w : World), vcOps E inl yld ops.toList rest kn st K → KnOk kn a → Sat E st β Z a w → Turn x0 (HS.of st β Z w) → st.sz = sz →
     (∀ t, (∀ o ∈ ops.toList, o.dst ≠ some t) → a.tmps.getD t undef = a0.tmps.getD t undef) → a.defers = a0.defers → wpListIn (Fn ro) 0 P ops Q rest a w
 | [], _, kn, st, β, Z, a, w, h, hk, hs, ht, hsz, hkeep, hdef => hK st β Z a w h hs ht hsz hkeep hdef
 | o :: rest, hsub, kn, st, β, Z, a, w, h, hk, hs, ht, hsz, hkeep, hdef => by
   have ho : o ∈ ops.toList := hsub o (by simp)
   have go := ops_sound hE hI hIf hY (ro := ro) (Q := Q) hK rest (fun o' h' => hsub o' (by simp [h']))
   have one : ∀ {kn : Nat → Option Bool}, KnOk kn a → vcOne E inl yld kn o st (fun kn st => vcOps E inl yld ops.toList rest kn st K) → o.wpIn (Fn ro) 0 P a w (wpListIn (Fn ro) 0 P ops Q rest) Q := fun {kn} hk h => by
     refine Oper.wpIn_mono (fun a' w' hp => ?_) (one_sound hE hI hIf hY h hs hk)
     obtain ⟨kn', hk', st', β', Z', q1, q2, q3, q4, q5, q6⟩ := hp
     exact go kn' st' β' Z' a' w' q1 hk' q2 (ht.trans q3) (q4.trans hsz) (fun t h => (q5 t (h o ho)).trans (hkeep t h)) (q6.trans hdef)
   simp only [vcOps] at h
   simp only [wpListIn]
   split at h
   · rename_i hg
     rw [if_pos (by simp [Region.wanted, hg])]
     exact one hk h
   · rename_i j want hg
     split at h
     · rename_i d hd
       have skip : ∀ kn', KnOk kn' a → Region.wanted o (yielded ops a.tmps) = false → (match st.has o.dst with
         | true => vcOps E inl yld ops.toList rest (forget kn' o.dst) (st.next o.dst (.tup []) st.hp (st.nx + 4) st.wl) K
         | false => False) → (if Region.wanted o (yielded ops a.tmps) = true then o.wpIn (Fn ro) 0 P a w (wpListIn (Fn ro) 0 P ops Q rest) Q else (∀ f, o.about P w a.eval = some f → (Fn ro).fn f) ∧ wpListIn (Fn ro) 0 P ops Q rest (a.put o.dst undef) w) := fun kn' h3 hw h1 => by
         rw [hw, if_neg (by simp)]
         split at h1
         · rename_i hh
           obtain ⟨s1, s2⟩ := skip_ok hs hh
           refine ⟨fun _ _ => trivial, go _ _ β Z _ w h1 (forget_ok h3 (fun t' ht' => by rw [getD_put, if_neg (fun hh => ht' hh.1)])) s1 (ht.trans s2) hsz (fun t h => ?_) ?_⟩
           · rw [getD_put, if_neg (fun hh => h o ho hh.1)]; exact hkeep t h
           · rw [← hdef]; cases o.dst <;> rfl
         · exact h1.elim
       split at h
       · rename_i hsk
         have hr := hs.tm d
         rw [isSkip_ok hsk] at hr
         exact skip kn hk (wanted_skip hg hd (ra_skip_eq hr)) h
       · obtain ⟨kn', t, h1, h2, h3⟩ := split_ok h (hs.tm d) hk
         have hwt := wanted_of hg hd h2
         split at h1
         · rename_i he
           rw [hwt, he, if_pos rfl]
           exact one h3 h1
         · rename_i he
           exact skip kn' h3 (hwt.trans he) h1
     · exact h.elim
end
end Go.Sx
namespace Go.Sx
section
variable {P : Program} {E : Env} {β β' : Nat → Loc} {Z Z' : Nat → Prop} {hp : Hp} {w w' : World} {inl : CallVC} {yld : YieldVC}
def setO (D : Option (Nat × Option Blk)) (hp : Hp) : Hp := match D with | some m => upd hp m.1 m.2 | none => hp
def wlO (D : Option (Nat × Option Blk)) (wl : List Nat) : List Nat := match D with | some m => m.1 :: wl | none => wl
def StepSem (P : Program) (E : Env) (far : Nat) (hpM : Hp) (tmM : Nat → AV) (nx : Nat) (o : Oper) (v : AV) (hp' : Hp) (D : Option (Nat × Option Blk)) : Prop :=
 ∀ (ro : Option Nat) (Fr : Nat → Prop) (β : Nat → Loc) (Z : Nat → Prop) (hp : Hp) (w : World) (a : Act) (Q' : Exit → Act → World → Prop), SatH E 0 Fr β Z hp w → (∀ n, nx ≤ n → n < nx + 4 → Fr n) → (∀ n, nx + far ≤ n → Fr n) →
   (∀ n blk, hpM n = some blk → hp n = some blk) → (∀ t, RA β Z w (tmM t) (a.tmps.getD t undef)) →
   o.wpIn (Fn ro) 0 P a w (fun a' w' => ∃ val β' Z', a' = a.put o.dst val ∧ RA β' Z' w' v val ∧ Left E 0 (fun n => Fr n ∧ ¬ (nx ≤ n ∧ n < nx + 4)) β Z hp w β' Z' (fun n => if nx ≤ n ∧ n < nx + 4 then hp' n else setO D hp n) w') Q'
theorem evenPre_val {R : ESpec} {args : List TV} {hp : Nat → Option Blk} {K : AV → Prop} (h : evenPre R args hp K) : ∃ v, evenPre R args hp (fun v' => v' = v) ∧ K v := by
 obtain ⟨g, hg, h⟩ := h
 split at h
 · rename_i ns hns
   obtain ⟨h1, h2, h3, h4, h5⟩ := h
   exact ⟨_, ⟨g, hg, by rw [hns]; exact ⟨h1, h2, h3, h4, rfl⟩⟩, h5⟩
 · exact h.elim
theorem Left.hp_eq {Fr' : Nat → Prop} {hp1 hp2 : Hp} (h : Left E 0 Fr' β Z hp w β' Z' hp1 w') (e : ∀ n, hp2 n = hp1 n) : Left E 0 Fr' β Z hp w β' Z' hp2 w' := by
 have : hp2 = hp1 := funext e
 rw [this]; exact h
def KnT (kn : Nat → Option Bool) (tm : Nat → AV) : Prop := ∀ d t, kn d = some t → truth (tm d) = some t
theorem split_abs {kn : Nat → Option Bool} {d : Nat} {tm : Nat → AV} {K : (Nat → Option Bool) → Bool → Prop} (h : split kn d (tm d) K) (hk : KnT kn tm) : ∃ kn' t, K kn' t ∧ truth (tm d) = some t ∧ KnT kn' tm := by
 unfold split at h
 split at h
 · rename_i t ht
   exact ⟨kn, t, h, hk d t ht, hk⟩
 · have up : ∀ {b : Bool}, truth (tm d) = some b → KnT (upd kn d (some b)) tm := fun {b} hb d' b' h' => by
     by_cases e : d' = d
     · subst e; rw [upd_same] at h'; injection h' with h'; subst h'; exact hb
     · rw [upd_ne _ _ e] at h'; exact hk d' b' h'
   split at h
   · rename_i hd; exact ⟨kn, true, h, by rw [hd]; rfl, hk⟩
   · rename_i hd; exact ⟨kn, false, h, by rw [hd]; rfl, hk⟩
   · rename_i b hd
     have hb : truth (tm d) = some b := by rw [hd]; rfl
     cases b
     · exact ⟨_, false, h.2 rfl, hb, up hb⟩
     · exact ⟨_, true, h.1 rfl, hb, up hb⟩
   · exact h.elim
theorem forget_abs {kn : Nat → Option Bool} {tm : Nat → AV} {dst : Option Nat} {v : AV} (h : KnT kn tm) : KnT (forget kn dst) (match dst with | some d => upd tm d v | none => tm) := fun d b hb => by
 cases dst with
 | none => exact h d b hb
 | some e =>
   simp only [forget] at hb
   by_cases e1 : d = e
   · subst e1; rw [upd_same] at hb; simp at hb
   · rw [upd_ne _ _ e1] at hb
     simp only; rw [upd_ne _ _ e1]; exact h d b hb
theorem masked_mem {tm : Nat → AV} {l : List Nat} {t : Nat} (h : t ∈ l) : masked tm l t = tm t := by
 unfold masked
 have : l.any (Nat.beq t) = true := List.any_eq_true.2 ⟨t, h, Nat.beq_refl t⟩
 rw [this]
theorem masked_or {tm : Nat → AV} {l : List Nat} {t : Nat} : (t ∈ l ∧ masked tm l t = tm t) ∨ masked tm l t = .any := by
 unfold masked
 cases h : l.any (Nat.beq t) with
 | true =>
   obtain ⟨x, hx, e⟩ := List.any_eq_true.1 h
   have := Nat.eq_of_beq_eq_true e
   subst this
   exact .inl ⟨hx, rfl⟩
 | false => exact .inr rfl
theorem RC.swap (hx : Ext β β') : ∀ {x : CV} {v0 v : Value}, RC β Z w x v0 → RC β' Z' w' x v → RC β Z' w' x v := by
 have at_ : ∀ {n b ln b' ln' : Nat}, β n = .at b ln → β' n = .at b' ln' → β n = .at b' ln' := fun {n b ln b' ln'} h h' => by rw [← hx n (by rw [h]; simp), h']
 intro x
 induction x with
 | ptr n off => rintro v0 v ⟨b, ln, hb, _⟩ ⟨b', ln', hb', h⟩; exact ⟨b', ln', at_ hb hb', h⟩
 | ep n size i off => rintro v0 v ⟨b, ln, hb, _⟩ ⟨b', ln', hb', h⟩; exact ⟨b', ln', at_ hb hb', h⟩
 | ax n off i sz len fo => rintro v0 v ⟨b, ln, hb, _⟩ ⟨b', ln', hb', h⟩; exact ⟨b', ln', at_ hb hb', h⟩
 | mp n => rintro v0 v ⟨b, ln, hb, _⟩ ⟨b', ln', hb', h⟩; exact ⟨b', ln', at_ hb hb', h⟩
 | yl n => rintro v0 v ⟨b, ln, hb, _⟩ ⟨b', ln', hb', h⟩; exact ⟨b', ln', at_ hb hb', h⟩
 | os n size len =>
   intro v0 v h h'
   have h0 : ROs w (β n) size len v0 := h
   have h1 : ROs w' (β' n) size len v := h'
   show ROs w' (β n) size len v
   rw [← hx n (fun e => by rw [e] at h0; exact h0)]; exact h1
 | fn f sh first nc cap ih1 ih2 =>
   rintro v0 v ⟨fs0, cs0, _, a1, a2, a3, a4⟩ ⟨fs, cs, rfl, b1, b2, b3, b4⟩
   refine ⟨fs, cs, rfl, b1, b2, fun i hi => ?_, fun i s hs => ?_⟩
   · obtain ⟨u0, _, r0⟩ := a3 i hi
     obtain ⟨u, hu, r⟩ := b3 i hi
     exact ⟨u, hu, ih2 i r0 r⟩
   · obtain ⟨u0, _, r0⟩ := a4 i s hs
     obtain ⟨u, hu, r⟩ := b4 i s hs
     refine ⟨u, hu, ?_⟩
     cases s with
     | none => exact ih1 i 0 r0 r
     | some n =>
       obtain ⟨xs0, _, _, y0⟩ := r0
       obtain ⟨xs, e, hx, y1⟩ := r
       exact ⟨xs, e, hx, fun j hj => let ⟨_, _, p0⟩ := y0 j hj; let ⟨y, hy, p⟩ := y1 j hj; ⟨y, hy, ih1 i j p0 p⟩⟩
 | ip n get => intro v0 v _ h; exact h
 | vs size len get => intro v0 v _ h; exact h
 | vx size len get => intro v0 v _ h; exact h
 | _ => intro v0 v _ h; exact h
theorem RT.swap (hx : Ext β β') {x : TV} {v0 v : Value} (h0 : RT β Z w x v0) (h : RT β' Z' w' x v) : RT β Z' w' x v := by
 cases x with
 | c x => exact RC.swap hx h0 h
 | a n get =>
   obtain ⟨cs0, _, _, y0⟩ := h0
   obtain ⟨cs, e, h1, y⟩ := h
   exact ⟨cs, e, h1, fun j hj => let ⟨_, _, p0⟩ := y0 j hj; let ⟨u, hu, p⟩ := y j hj; ⟨u, hu, RC.swap hx p0 p⟩⟩
theorem RA.swap (hx : Ext β β') {x : AV} {v0 v : Value} (h0 : RA β Z w x v0) (h : RA β' Z' w' x v) : RA β Z' w' x v := by
 cases x with
 | any => trivial
 | t x => exact RT.swap hx h0 h
 | tup l =>
   obtain ⟨vs0, _, _, y0⟩ := h0
   obtain ⟨vs, e, h1, y⟩ := h
   exact ⟨vs, e, h1, fun i x hi => let ⟨_, _, p0⟩ := y0 i x hi; let ⟨u, hu, p⟩ := y i x hi; ⟨u, hu, RT.swap hx p0 p⟩⟩
theorem RB.swap (hx : Ext β β') {l : Loc} {x : Blk} (h0 : RB β Z w l x) (h : RB β' Z' w' l x) : RB β Z' w' l x := by
 cases l with
 | no => cases x <;> exact h.elim
 | virt => cases x <;> first | exact h | exact h.elim
 | «at» b ln =>
   cases x with
   | box n get =>
     obtain ⟨cs0, e0, _, q0, y0⟩ := h0
     obtain ⟨cs, e, h1, h2, y⟩ := h
     exact ⟨cs, e, h1, h2, fun j hj => let ⟨_, _, p0⟩ := y0 j hj; let ⟨u, hu, p⟩ := y j hj; ⟨u, hu, RC.swap hx p0 p⟩⟩
   | row e size len get => exact h
   | mp T m => exact h
   | mpI T I => exact h
   | mq T m c => exact h
   | lp fid sz tm ps asg body busy pend =>
     obtain ⟨r0, _, _, y0, _⟩ := h0
     obtain ⟨r, h1, h2, y, h4⟩ := h
     exact ⟨r, h1, h2, fun t => RA.swap hx (y0 t) (y t), h4⟩
theorem fitRes_ok {v : AV} {l : List TV} {val : Value} (hres : fitRes v l) (yv : RA β Z w v val) : RA (fun _ => .no) Z w (resAV l) val := by
 unfold fitRes at hres
 split at hres
 · rename_i x0
   split at hres
   · exact fitTV_ok (β1 := β) (β2 := fun _ => .no) named_bad hres yv
   · exact hres.elim
 · rename_i xs
   have tups : recTVs (fun _ => .bad) xs l → RA (fun _ => .no) Z w (.tup l) val := fun hres => by
     obtain ⟨us, rfl, u1, u2⟩ := yv
     have key : ∀ {xs l : List TV}, recTVs (fun _ => .bad) xs l → xs.length = l.length ∧ ∀ (i : Nat) (y0 : TV), l[i]? = some y0 → ∃ x0, xs[i]? = some x0 ∧ fitTV (fun _ => .bad) x0 y0 := by
       intro xs
       induction xs with
       | nil => intro l h; cases l with
         | nil => exact ⟨rfl, fun i y0 h => by simp at h⟩
         | cons => exact h.elim
       | cons a xs ih => intro l h; cases l with
         | nil => exact h.elim
         | cons c l =>
           obtain ⟨k1, k2⟩ := ih h.2
           refine ⟨by simp [k1], fun i y0 hy => ?_⟩
           cases i with
           | zero => simp at hy; subst hy; exact ⟨a, by simp, h.1⟩
           | succ i => obtain ⟨x0, q1, q2⟩ := k2 i y0 (by simpa using hy); exact ⟨x0, by simpa using q1, q2⟩
     obtain ⟨k1, k2⟩ := key hres
     refine ⟨us, rfl, by rw [u1, k1], fun i y0 hy => ?_⟩
     obtain ⟨x0, q1, q2⟩ := k2 i y0 hy
     obtain ⟨u, hu, hr⟩ := u2 i x0 q1
     exact ⟨u, hu, fitTV_ok (β1 := β) (β2 := fun _ => .no) named_bad q2 hr⟩
   split at hres
   · exact hres.elim
   · rename_i hne
     have : resAV l = .tup l := by
       match l, hne with
       | [], _ => rfl
       | [z], hne => exact absurd rfl (hne z)
       | _ :: _ :: _, _ => rfl
     rw [this]
     exact tups hres
 · exact hres.elim
theorem peek_core (hI : InlOk P E inl) {f : FuncId} {args : List TV} {Fr : Nat → Prop} {hpT : Hp} {nx far : Nat} {see : Nat → Bool} {res : List TV}
   (h : inl f args (masH see hpT) (nx + far) [] fun v _ _ wl' => chk (wl'.all (Nat.ble (nx + far))) ∧ fitRes v res) (hs : SatH E 0 Fr β Z hp w) (hFar : ∀ n, nx + far ≤ n → Fr n) (hsub : ∀ n blk, masH see hpT n = some blk → hp n = some blk) (hfree : ∀ n, nx ≤ n → hpT n = none)
   {vs : List Value} (hr : RL β Z w args vs) : CallsIn Fence.wide 0 P f vs.toArray w (fun e w' => ∃ val Z', e = .returned val ∧ RA β Z' w' (resAV res) val ∧ Left E 0 Fr β Z hp w β Z' hp w') := by
 have hin : ∀ n blk, masH see hpT n = some blk → n < nx := fun n blk hn => by
   apply Nat.lt_of_not_le
   intro hle
   unfold masH at hn
   split at hn
   · rw [hfree n hle] at hn; cases hn
   · cases hn
 have ownx : ∀ b, Own β (masH see hpT) b → Own β hp b := fun b ⟨n, blk, ln, h1, h2⟩ => ⟨n, blk, ln, hsub n blk h1, h2⟩
 have away : ∀ {n blk b ln}, masH see hpT n = none → hp n = some blk → β n = .at b ln → ¬ Own β (masH see hpT) b := fun {n blk b ln} h1 h2 h3 ⟨n', blk', ln', k1, k2⟩ => by
   have := hs.inj n n' blk blk' b ln ln' h2 (hsub _ _ k1) h3 k2
   subst this
   rw [h1] at k1; cases k1
 have hok : (HS.mk β Z (masH see hpT) (nx + far) [] w).ok E :=
   ⟨fun n blk hn => hs.rb n blk (hsub n blk hn), fun n blk b ln hn hb => hs.own n blk b ln (hsub n blk hn) hb, fun n m x y b l1 l2 h1 h2 => hs.inj n m x y b l1 l2 (hsub _ _ h1) (hsub _ _ h2), hs.zlt, fun n hn => hs.fresh n (hFar n hn), hs.gl⟩
 refine CallsIn.mono (hI f args ⟨β, Z, masH see hpT, nx + far, [], w⟩ _ h hok vs hr) fun e w' hp' => ?_
 obtain ⟨val, v, y, rfl, ⟨hwl, hres⟩, rfl, yok, yv, yt⟩ := hp'
 have hwl := chk_iff.1 hwl
 simp only [List.all_eq_true] at hwl
 have same : ∀ n blk, masH see hpT n = some blk → y.hp n = some blk := fun n blk hn => by
   rw [← hn]
   exact yt.frame n (by have := hin n blk hn; show n < nx + far; omega) (fun hm => by have := Nat.le_of_ble_eq_true (hwl n hm); have := hin n blk hn; omega)
 have yev : Evo (Own β (masH see hpT)) Z w y.Z y.w := yt.ev
 have hne : ∀ n blk, masH see hpT n = some blk → y.β n = β n := fun n blk hn => yt.ext n (fun e => by
   have hrb := hs.rb n blk (hsub n blk hn)
   have e : β n = .no := e
   rw [e] at hrb
   cases blk <;> exact hrb.elim)
 have zown : ∀ b, y.Z b → Z b ∨ Own β (masH see hpT) b ∨ w.heap.size ≤ b := fun b hb => yt.zown b hb
 refine ⟨val, y.Z, rfl, RA.mono (Evo.refl (fun _ => False) y.Z y.w) (fun b hb => ⟨yok.zlt b hb, fun h => h⟩) (fun n hn => absurd rfl hn) (fitRes_ok hres yv), ⟨⟨fun n blk hn => ?_, fun n blk b ln hn hb => ?_, hs.inj, yok.zlt, hs.fresh, yok.gl⟩, yev.weaken ownx, Ext.refl _, fun b hb => .inl hb, fun b hb => (zown b hb).imp id (fun h => h.imp (ownx b) id)⟩⟩
 · cases hm : masH see hpT n with
   | some blk' =>
     have := hsub n blk' hm
     rw [hn] at this
     injection this with this
     subst this
     have hrb := yok.rb n blk (same n blk hm)
     rw [hne n blk hm] at hrb
     exact RB.swap (β' := y.β) (fun n hn => yt.ext n hn) (hs.rb n blk hn) hrb
   | none =>
     exact RB.mono yev hok.calm (Ext.refl _) (fun b ln hb => yev.same b (hs.own n blk b ln hn hb).1 (away hm hn hb)) (hs.rb n blk hn)
 · obtain ⟨q1, q2, q3⟩ := hs.own n blk b ln hn hb
   refine ⟨Nat.lt_of_lt_of_le q1 yev.size, fun hz => ?_, q3⟩
   cases hm : masH see hpT n with
   | some blk' =>
     have := hsub n blk' hm
     rw [hn] at this
     injection this with this
     subst this
     exact (yok.own n blk b ln (same n blk hm) (by rw [hne n blk hm]; exact hb)).2.1 hz
   | none =>
     rcases zown b hz with h | h | h
     · exact q2 h
     · exact away hm hn hb h
     · omega
theorem steady_one (hE : EnvOk P E) (hI : InlOk P E inl) {far : Nat} {may see : Nat → Bool} {ops : List Oper} {kn : Nat → Option Bool} {o : Oper} {st : St} {K : (Nat → Option Bool) → St → Prop} (h : vcSteadyOne E inl far may see (looks ops o) kn o st K) (hk : KnT kn st.tm) (hfree : ∀ n, st.nx ≤ n → st.hp n = none) :
   st.has o.dst = true ∧ ∃ kn' v hp' D, KnT kn' (st.next o.dst v hp' (st.nx + 4) (wlO D st.wl)).tm ∧ K kn' (st.next o.dst v hp' (st.nx + 4) (wlO D st.wl)) ∧ (∀ n, ¬ (st.nx ≤ n ∧ n < st.nx + 4) → hp' n = setO D st.hp n) ∧ (∀ n x, D = some (n, x) → may n = true ∧ n < st.nx) ∧
     StepSem P E far (masH see st.hp) (masked st.tm (looks ops o)) st.nx o v hp' D := by
 unfold vcSteadyOne at h
 split at h
 · rename_i hh
   refine ⟨hh, ?_⟩
   split at h
   · rename_i c x y hop
     obtain ⟨kn', t, h1, h2, h3⟩ := split_abs h hk
     refine ⟨forget kn' o.dst, _, st.hp, none, forget_abs h3, h1, fun _ _ => rfl, fun _ _ h => by simp at h, ?_⟩
     intro ro Fr β Z hp w a Q' hs hFr hFar hsub ht
     refine ⟨fun _ _ => trivial, ?_⟩
     rw [Oper.semAt_eq _ _ _ (fun c hc => by rw [hop] at hc; simp at hc)]
     have hc : c ∈ looks ops o := List.mem_append_left _ (by unfold tmpsOf; rw [hop]; simp [Op.operands])
     have hb := ht c
     rw [masked_mem hc] at hb
     have hb' := truth_ok hb h2
     have hrun : (execOp a.eval o).run P w = .ok (.value (if t then a.eval x else a.eval y)) w := by
       have : a.eval (.tmp c) = .bool t := hb'
       simp [execOp, hop, this, asBool]
     rw [hrun]
     refine ⟨_, β, Z, rfl, ?_, (Left.same hs (fun n hn => hn.1)).hp_eq (fun n => ?_)⟩
     · cases t
       · exact eval_ok hs.gl ht y
       · exact eval_ok hs.gl ht x
     · split
       · rename_i hr; rw [hfree n hr.1]; exact (not_known hs (hs.fresh n (hFr n hr.1 hr.2))).symm
       · rfl
   · rename_i hnp
     have nodef : ∀ c, o.op ≠ .defer c := by
       intro c hc
       have : planOp E (masked st.tm (looks ops o)) (masH see st.hp) o = .bad := by unfold planOp; rw [hc]
       rw [this] at h
       exact h
     generalize hp0 : planOp E (masked st.tm (looks ops o)) (masH see st.hp) o = p at h
     cases p with
     | bad => exact h.elim
     | fz => exact h.elim
     | wz => exact h.elim
     | ycall => exact h.elim
     | ok c v =>
       simp only [vcSteady, conj_iff] at h
       refine ⟨forget kn o.dst, v, st.hp, none, forget_abs hk, h.2, fun _ _ => rfl, fun _ _ h => by simp at h, ?_⟩
       intro ro Fr β Z hp w a Q' hs hFr hFar hsub ht
       refine ⟨fun _ _ => trivial, ?_⟩
       rw [Oper.semAt_eq _ _ _ nodef]
       obtain ⟨nx, val, w', β', Z', hrun, hnx, hl, hv⟩ := op_ok hE.tab hE.maps hs (Nat.zero_le _) (nm := st.nx) (hFr _ (Nat.le_refl _) (by omega)) hsub ht (o := o) (hp' := hp) (v := v) (by rw [hp0]; exact h.1) (by rw [hp0]; rfl)
       rw [hrun]
       have hl' : Left E 0 (fun n => Fr n ∧ ¬ (st.nx ≤ n ∧ n < st.nx + 4)) β Z hp w β' Z' (fun n => if st.nx ≤ n ∧ n < st.nx + 4 then st.hp n else hp n) w' :=
         Left.hp_eq ⟨hl.sat.weaken (fun n hn => ⟨hn.1, by omega⟩), hl.ev, hl.ext, hl.own, hl.zown⟩ (fun n => by
           split
           · rename_i hr; rw [hfree n hr.1]; exact (not_known hs (hs.fresh n (hFr n hr.1 hr.2))).symm
           · rfl)
       rcases hnx with rfl | ⟨rfl, rfl⟩
       · exact ⟨val, β', Z', rfl, hv, hl'⟩
       · exact ⟨undef, β', Z', rfl, hv, hl'⟩
     | mk c b v =>
       simp only [vcSteady, conj_iff] at h
       refine ⟨forget kn o.dst, v st.nx, upd st.hp st.nx (some b), none, forget_abs hk, h.2, fun n hn => upd_ne _ _ (by omega), fun _ _ h => by simp at h, ?_⟩
       intro ro Fr β Z hp w a Q' hs hFr hFar hsub ht
       refine ⟨fun _ _ => trivial, ?_⟩
       rw [Oper.semAt_eq _ _ _ nodef]
       obtain ⟨nx, val, w', β', Z', hrun, hnx, hl, hv⟩ := op_ok hE.tab hE.maps hs (Nat.zero_le _) (nm := st.nx) (hFr _ (Nat.le_refl _) (by omega)) hsub ht (o := o) (hp' := upd hp st.nx (some b)) (v := v st.nx) (by rw [hp0]; exact h.1) (by rw [hp0]; rfl)
       rw [hrun]
       have hl' : Left E 0 (fun n => Fr n ∧ ¬ (st.nx ≤ n ∧ n < st.nx + 4)) β Z hp w β' Z' (fun n => if st.nx ≤ n ∧ n < st.nx + 4 then upd st.hp st.nx (some b) n else hp n) w' :=
         Left.hp_eq ⟨hl.sat.weaken (fun n hn => ⟨hn.1, by omega⟩), hl.ev, hl.ext, hl.own, hl.zown⟩ (fun n => by
           by_cases e : n = st.nx
           · subst e; simp [upd_same]
           · rw [upd_ne _ _ e, upd_ne _ _ e]
             split
             · rename_i hr; rw [hfree n hr.1]; exact (not_known hs (hs.fresh n (hFr n hr.1 hr.2))).symm
             · rfl)
       rcases hnx with rfl | ⟨rfl, rfl⟩
       · exact ⟨val, β', Z', rfl, hv, hl'⟩
       · exact ⟨undef, β', Z', rfl, hv, hl'⟩
     | mv c n b v =>
       simp only [vcSteady] at h
       split at h
       · rename_i hmay
         simp only [Bool.and_eq_true] at hmay
         have hlt : n < st.nx := Nat.le_of_ble_eq_true hmay.2
         rw [conj_iff] at h
         refine ⟨forget kn o.dst, v st.nx, upd (upd st.hp n none) st.nx (some b), some (n, none), forget_abs hk, h.2, fun q hq => upd_ne _ _ (by omega), fun q x hq => by injection hq with hq; injection hq with h1 h2; subst h1; exact ⟨hmay.1, hlt⟩, ?_⟩
         intro ro Fr β Z hp w a Q' hs hFr hFar hsub ht
         refine ⟨fun _ _ => trivial, ?_⟩
         rw [Oper.semAt_eq _ _ _ nodef]
         obtain ⟨nx, val, w', β', Z', hrun, hnx, hl, hv⟩ := op_ok hE.tab hE.maps hs (Nat.zero_le _) (nm := st.nx) (hFr _ (Nat.le_refl _) (by omega)) hsub ht (o := o) (hp' := upd (upd hp n none) st.nx (some b)) (v := v st.nx) (by rw [hp0]; exact h.1) (by rw [hp0]; rfl)
         rw [hrun]
         have hl' : Left E 0 (fun n => Fr n ∧ ¬ (st.nx ≤ n ∧ n < st.nx + 4)) β Z hp w β' Z' (fun q => if st.nx ≤ q ∧ q < st.nx + 4 then upd (upd st.hp n none) st.nx (some b) q else setO (some (n, none)) hp q) w' :=
           Left.hp_eq ⟨hl.sat.weaken (fun n hn => ⟨hn.1, by omega⟩), hl.ev, hl.ext, hl.own, hl.zown⟩ (fun q => by
             by_cases e : q = st.nx
             · subst e; simp [upd_same]
             · rw [upd_ne _ _ e, upd_ne _ _ e]
               split
               · rename_i hr; rw [upd_ne _ _ (by omega), upd_ne _ _ (by omega), hfree q hr.1]; exact (not_known hs (hs.fresh q (hFr q hr.1 hr.2))).symm
               · rfl)
         rcases hnx with rfl | ⟨rfl, rfl⟩
         · exact ⟨val, β', Z', rfl, hv, hl'⟩
         · exact ⟨undef, β', Z', rfl, hv, hl'⟩
       · exact h.elim
     | wr c n b =>
       simp only [vcSteady] at h
       split at h
       · rename_i hmay
         simp only [Bool.and_eq_true] at hmay
         have hlt : n < st.nx := Nat.le_of_ble_eq_true hmay.2
         rw [conj_iff] at h
         refine ⟨forget kn o.dst, .any, upd st.hp n (some b), some (n, some b), forget_abs hk, h.2, fun q hq => rfl, fun q x hq => by injection hq with hq; injection hq with h1 h2; subst h1; exact ⟨hmay.1, hlt⟩, ?_⟩
         intro ro Fr β Z hp w a Q' hs hFr hFar hsub ht
         refine ⟨fun _ _ => trivial, ?_⟩
         rw [Oper.semAt_eq _ _ _ nodef]
         obtain ⟨nx, val, w', β', Z', hrun, hnx, hl, hv⟩ := op_ok hE.tab hE.maps hs (Nat.zero_le _) (nm := st.nx) (hFr _ (Nat.le_refl _) (by omega)) hsub ht (o := o) (hp' := upd hp n (some b)) (v := .any) (by rw [hp0]; exact h.1) (by rw [hp0]; rfl)
         rw [hrun]
         have hl' : Left E 0 (fun n => Fr n ∧ ¬ (st.nx ≤ n ∧ n < st.nx + 4)) β Z hp w β' Z' (fun q => if st.nx ≤ q ∧ q < st.nx + 4 then upd st.hp n (some b) q else setO (some (n, some b)) hp q) w' :=
           Left.hp_eq ⟨hl.sat.weaken (fun n hn => ⟨hn.1, by omega⟩), hl.ev, hl.ext, hl.own, hl.zown⟩ (fun q => by
             split
             · rename_i hr; rw [upd_ne _ _ (by omega), upd_ne _ _ (by omega), hfree q hr.1]; exact (not_known hs (hs.fresh q (hFr q hr.1 hr.2))).symm
             · rfl)
         rcases hnx with rfl | ⟨rfl, rfl⟩
         · exact ⟨val, β', Z', rfl, hv, hl'⟩
         · exact ⟨undef, β', Z', rfl, hv, hl'⟩
       · exact h.elim
     | we c n b v =>
       simp only [vcSteady] at h
       split at h
       · rename_i hmay
         simp only [Bool.and_eq_true] at hmay
         have hlt : n < st.nx := Nat.le_of_ble_eq_true hmay.2
         rw [conj_iff] at h
         refine ⟨forget kn o.dst, v, upd st.hp n (some b), some (n, some b), forget_abs hk, h.2, fun q hq => rfl, fun q x hq => by injection hq with hq; injection hq with h1 h2; subst h1; exact ⟨hmay.1, hlt⟩, ?_⟩
         intro ro Fr β Z hp w a Q' hs hFr hFar hsub ht
         refine ⟨fun _ _ => trivial, ?_⟩
         rw [Oper.semAt_eq _ _ _ nodef]
         obtain ⟨nx, val, w', β', Z', hrun, hnx, hl, hv⟩ := op_ok hE.tab hE.maps hs (Nat.zero_le _) (nm := st.nx) (hFr _ (Nat.le_refl _) (by omega)) hsub ht (o := o) (hp' := upd hp n (some b)) (v := v) (by rw [hp0]; exact h.1) (by rw [hp0]; rfl)
         rw [hrun]
         have hl' : Left E 0 (fun n => Fr n ∧ ¬ (st.nx ≤ n ∧ n < st.nx + 4)) β Z hp w β' Z' (fun q => if st.nx ≤ q ∧ q < st.nx + 4 then upd st.hp n (some b) q else setO (some (n, some b)) hp q) w' :=
           Left.hp_eq ⟨hl.sat.weaken (fun n hn => ⟨hn.1, by omega⟩), hl.ev, hl.ext, hl.own, hl.zown⟩ (fun q => by
             split
             · rename_i hr; rw [upd_ne _ _ (by omega), upd_ne _ _ (by omega), hfree q hr.1]; exact (not_known hs (hs.fresh q (hFr q hr.1 hr.2))).symm
             · rfl)
         rcases hnx with rfl | ⟨rfl, rfl⟩
         · exact ⟨val, β', Z', rfl, hv, hl'⟩
         · exact ⟨undef, β', Z', rfl, hv, hl'⟩
       · exact h.elim
     | call f args =>
       simp only [vcSteady] at h
       split at h
       · rename_i s hsig
         have main : ∀ (x : s.α), ownCount (s.res x) ≤ 4 → (∀ {Fr : Nat → Prop} {β : Nat → Loc} {Z : Nat → Prop} {hp : Hp} {w : World} {vs : List Value}, SatH E 0 Fr β Z hp w → (∀ n, st.nx ≤ n → n < st.nx + 4 → Fr n) → (∀ n blk, masH see st.hp n = some blk → hp n = some blk) → RL β Z w args vs →
             CallsIn Fence.wide 0 P f vs.toArray w fun e w' => ∃ val β' Z', e = .returned val ∧ Left E 0 (fun n => Fr n ∧ ¬ (st.nx ≤ n ∧ n < st.nx + 4)) β Z hp w β' Z' (resHp hp (s.res x) st.nx) w' ∧ RA β' Z' w' (resAV (resTVs (s.res x) st.nx)) val) → K (forget kn o.dst) (st.next o.dst (resAV (resTVs (s.res x) st.nx)) (resHp st.hp (s.res x) st.nx) (st.nx + 4) st.wl) →
                 ∃ kn' v hp' D, KnT kn' (st.next o.dst v hp' (st.nx + 4) (wlO D st.wl)).tm ∧ K kn' (st.next o.dst v hp' (st.nx + 4) (wlO D st.wl)) ∧ (∀ n, ¬ (st.nx ≤ n ∧ n < st.nx + 4) → hp' n = setO D st.hp n) ∧ (∀ n x, D = some (n, x) → may n = true ∧ n < st.nx) ∧ StepSem P E far (masH see st.hp) (masked st.tm (looks ops o)) st.nx o v hp' D := by
           intro x hle4 core hK
           refine ⟨forget kn o.dst, _, _, none, forget_abs hk, hK, fun n hn => resHp_get (by omega), fun _ _ h => by simp at h, ?_⟩
           intro ro Fr β Z hp w a Q' hs hFr hFar hsub ht
           refine ⟨fun _ _ => trivial, ?_⟩
           rw [Oper.semAt_eq _ _ _ nodef]
           obtain ⟨c, fo, l, hop, hcal, hargs, hcase⟩ := plan_call (tm := masked st.tm (looks ops o)) (hp := masH see st.hp) (E := E) (o := o) (by rw [hp0]; exact fun h => h)
           have hl := args_ok hs.gl ht hargs
           have hfo := eval_ok hs.gl ht fo
           rcases hcase with ⟨g, sh, first, nc, cap, hev, hplan⟩ | ⟨n, hev, hplan⟩
           · rw [hp0] at hplan
             injection hplan with e1 e2
             subst e1
             rw [hev] at hfo
             obtain ⟨fs, cs, hv, q1, q2⟩ := fn_ok hfo
             have hrl : RL β Z w args (fs.toList ++ c.args.toList.map a.eval ++ cs.toList) := by rw [e2]; exact (q1.append hl).append q2
             have hrun : (execOp a.eval o).run P w = .ok (.enter f (fs.toList ++ c.args.toList.map a.eval ++ cs.toList).toArray) w := by
               have hex : execOp a.eval o = (do let d ← resolve a.eval c o.type; invoke d.target d.args) := by simp [execOp, hop]
               rw [hex]
               have := run_enter (w := w) (args := (fs ++ c.args.map a.eval) ++ cs) (hE.runs f (.inr (by rw [hsig]; rfl)))
               simp only [resolve, hcal, hv, Deferred.ofValue, Sem.run_bind, Sem.run_pure, Result.andThen_ok, invoke]
               rw [this]
               congr 2
               apply Array.ext'
               simp
             rw [hrun]
             refine ⟨fun hd => by simp [Fn, Fence.wide] at hd, ?_⟩
             refine CallsIn.mono (core hs hFr hsub hrl) (R' := fun
               | .returned v, w' => ∃ val β' Z', a.put o.dst v = a.put o.dst val ∧ RA β' Z' w' (resAV (resTVs (s.res x) st.nx)) val ∧ Left E 0 (fun n => Fr n ∧ ¬ (st.nx ≤ n ∧ n < st.nx + 4)) β Z hp w β' Z' (fun n => if st.nx ≤ n ∧ n < st.nx + 4 then resHp st.hp (s.res x) st.nx n else hp n) w'
               | .panicked chain, w' => Q' (.panic chain) a w'
               | .outgrown, _ => LetsOut Q') fun e w' ⟨val, β', Z', he, hL, hV⟩ => by
                 subst he
                 refine ⟨val, β', Z', rfl, hV, hL.hp_eq (fun n => ?_)⟩
                 by_cases hr : st.nx ≤ n ∧ n < st.nx + 4
                 · rw [if_pos hr]
                   by_cases hr2 : n < st.nx + ownCount (s.res x)
                   · obtain ⟨e, size, len, get, k1, k2, _⟩ := resHp_own (base := hp) (rs := s.res x) (m := st.nx) (i := n - st.nx) (by omega)
                     rw [show st.nx + (n - st.nx) = n by omega] at k1
                     have k2' := k2 st.hp st.nx
                     rw [show st.nx + (n - st.nx) = n by omega] at k2'
                     rw [k1, k2']
                   · rw [resHp_get (by omega), resHp_get (by omega), hfree n hr.1]
                     exact (not_known hs (hs.fresh n (hFr n hr.1 hr.2))).symm
                 · rw [if_neg hr, resHp_get (by omega)]
           · rw [hp0] at hplan; simp at hplan
         split at h
         · rename_i pargs hpure
           obtain ⟨x, hq1, hq2, h⟩ := h
           have hq := And.intro hq1 hq2
           split at h
           · rename_i hle
             have hle' := hle
             simp only [Bool.and_eq_true] at hle'
             have hle4 := Nat.le_of_ble_eq_true hle'.1
             split at h
             · rename_i hemp
               exact main x hle4 (fun hs hFr hsub hrl => sig_core hE hsig hq hs hFr hsub hpure hle hrl (.inl ⟨by simpa [List.isEmpty_iff] using hemp, rfl⟩)) h
             · split at h
               · rename_i hfl
                 rw [conj_iff] at h
                 exact main x hle4 (fun hs hFr hsub hrl => sig_core hE hsig hq hs hFr hsub hpure hle hrl (.inr (.inl ⟨hfl, h.1, rfl⟩))) h.2
               · exact h.elim
           · exact h.elim
         · split at h
           · rename_i pargs hpure
             obtain ⟨x, hq1, hq2, h⟩ := h
             split at h
             · rename_i hle
               rw [conj_iff] at h
               have hle' := hle
               simp only [Bool.and_eq_true] at hle'
               exact main x (Nat.le_of_ble_eq_true hle'.1.1) (fun hs hFr hsub hrl => sig_deep hE hsig ⟨hq1, hq2⟩ hs hFr hsub hpure hle h.1 hrl) h.2
             · exact h.elim
           · exact h.elim
       · split at h
         · rename_i R hpeek
           obtain ⟨hfn, g, hin, hK⟩ := h
           refine ⟨forget kn o.dst, resAV (R.res g), st.hp, none, forget_abs hk, hK, fun _ _ => rfl, fun _ _ h => by simp at h, ?_⟩
           intro ro Fr β Z hp w a Q' hs hFr hFar hsub ht
           refine ⟨fun _ _ => trivial, ?_⟩
           rw [Oper.semAt_eq _ _ _ nodef]
           obtain ⟨c, fo, l, hop, hcal, hargs, hcase⟩ := plan_call (tm := masked st.tm (looks ops o)) (hp := masH see st.hp) (E := E) (o := o) (by rw [hp0]; exact fun h => h)
           have hl := args_ok hs.gl ht hargs
           have hfo := eval_ok hs.gl ht fo
           rcases hcase with ⟨g', sh, first, nc, cap, hev, hplan⟩ | ⟨n, hev, hplan⟩
           · rw [hp0] at hplan
             injection hplan with e1 e2
             subst e1
             rw [hev] at hfo
             obtain ⟨fs, cs, hv', q1, q2⟩ := fn_ok hfo
             have hrl : RL β Z w args (fs.toList ++ c.args.toList.map a.eval ++ cs.toList) := by rw [e2]; exact (q1.append hl).append q2
             have hrun : (execOp a.eval o).run P w = .ok (.enter f (fs.toList ++ c.args.toList.map a.eval ++ cs.toList).toArray) w := by
               have hex : execOp a.eval o = (do let d ← resolve a.eval c o.type; invoke d.target d.args) := by simp [execOp, hop]
               rw [hex]
               have := run_enter (w := w) (args := (fs ++ c.args.map a.eval) ++ cs) (hE.runs f (.inl hfn))
               simp only [resolve, hcal, hv', Deferred.ofValue, Sem.run_bind, Sem.run_pure, Result.andThen_ok, invoke]
               rw [this]
               congr 2
               apply Array.ext'
               simp
             rw [hrun]
             refine ⟨fun hd => by simp [Fn, Fence.wide] at hd, ?_⟩
             refine CallsIn.mono (peek_core hI hin hs hFar hsub hfree hrl) (R' := fun
               | .returned u, w' => ∃ val β' Z', a.put o.dst u = a.put o.dst val ∧ RA β' Z' w' (resAV (R.res g)) val ∧ Left E 0 (fun n => Fr n ∧ ¬ (st.nx ≤ n ∧ n < st.nx + 4)) β Z hp w β' Z' (fun n => if st.nx ≤ n ∧ n < st.nx + 4 then st.hp n else setO none hp n) w'
               | .panicked chain, w' => Q' (.panic chain) a w'
               | .outgrown, _ => LetsOut Q') fun e w' ⟨val, Z', he, hV, hL⟩ => by
                 subst he
                 refine ⟨val, β, Z', rfl, hV, Left.hp_eq ⟨hL.sat.weaken (fun n hn => hn.1), hL.ev, hL.ext, hL.own, hL.zown⟩ (fun n => ?_)⟩
                 split
                 · rename_i hr; rw [hfree n hr.1]; exact (not_known hs (hs.fresh n (hFr n hr.1 hr.2))).symm
                 · rfl
           · rw [hp0] at hplan; simp at hplan
         split at h
         · rename_i R _ _ heven
           obtain ⟨hfn, hpre⟩ := h
           obtain ⟨g, _, _⟩ := id hpre
           have hstep : ∃ v, K (forget kn o.dst) (st.next o.dst v st.hp (st.nx + 4) st.wl) ∧ StepSem P E far (masH see st.hp) (masked st.tm (looks ops o)) st.nx o v st.hp none := by
             obtain ⟨v, hv⟩ := evenPre_val hpre
             refine ⟨v, hv.2, ?_⟩
             intro ro Fr β Z hp w a Q' hs hFr hFar hsub ht
             refine ⟨fun _ _ => trivial, ?_⟩
             rw [Oper.semAt_eq _ _ _ nodef]
             obtain ⟨c, fo, l, hop, hcal, hargs, hcase⟩ := plan_call (tm := masked st.tm (looks ops o)) (hp := masH see st.hp) (E := E) (o := o) (by rw [hp0]; exact fun h => h)
             have hl := args_ok hs.gl ht hargs
             have hfo := eval_ok hs.gl ht fo
             rcases hcase with ⟨g, sh, first, nc, cap, hev, hplan⟩ | ⟨n, hev, hplan⟩
             · rw [hp0] at hplan
               injection hplan with e1 e2
               subst e1
               rw [hev] at hfo
               obtain ⟨fs, cs, hv', q1, q2⟩ := fn_ok hfo
               have hrl : RL β Z w args (fs.toList ++ c.args.toList.map a.eval ++ cs.toList) := by rw [e2]; exact (q1.append hl).append q2
               have hrun : (execOp a.eval o).run P w = .ok (.enter f (fs.toList ++ c.args.toList.map a.eval ++ cs.toList).toArray) w := by
                 have hex : execOp a.eval o = (do let d ← resolve a.eval c o.type; invoke d.target d.args) := by simp [execOp, hop]
                 rw [hex]
                 have := run_enter (w := w) (args := (fs ++ c.args.map a.eval) ++ cs) (hE.runs f (.inl hfn))
                 simp only [resolve, hcal, hv', Deferred.ofValue, Sem.run_bind, Sem.run_pure, Result.andThen_ok, invoke]
                 rw [this]
                 congr 2
                 apply Array.ext'
                 simp
               rw [hrun]
               refine ⟨fun hd => by simp [Fn, Fence.wide] at hd, ?_⟩
               refine CallsIn.mono (even_core (fun g hg => hE.even f R g heven hg) (hv.1) hs hsub hrl) (R' := fun
                 | .returned u, w' => ∃ val β' Z', a.put o.dst u = a.put o.dst val ∧ RA β' Z' w' v val ∧ Left E 0 (fun n => Fr n ∧ ¬ (st.nx ≤ n ∧ n < st.nx + 4)) β Z hp w β' Z' (fun n => if st.nx ≤ n ∧ n < st.nx + 4 then st.hp n else setO none hp n) w'
                 | .panicked chain, w' => Q' (.panic chain) a w'
                 | .outgrown, _ => LetsOut Q') fun e w' ⟨val, v', Z', he, hkv, hV, hL⟩ => by
                   subst he
                   have hkv : v' = v := hkv
                   subst hkv
                   refine ⟨val, β, Z', rfl, hV, Left.hp_eq ⟨hL.sat.weaken (fun n hn => hn.1), hL.ev, hL.ext, hL.own, hL.zown⟩ (fun n => ?_)⟩
                   split
                   · rename_i hr; rw [hfree n hr.1]; exact (not_known hs (hs.fresh n (hFr n hr.1 hr.2))).symm
                   · rfl
             · rw [hp0] at hplan; simp at hplan
           obtain ⟨v, hv1, hv2⟩ := hstep
           exact ⟨forget kn o.dst, v, st.hp, none, forget_abs hk, hv1, fun _ _ => rfl, fun _ _ h => by simp at h, hv2⟩
         · exact h.elim
 · exact h.elim
end
end Go.Sx
namespace Go.Sx
def SegAt (P : Program) (E : Env) (ops : List Oper) (bs : List Nat) (W : List (Nat × List Nat)) (base ib : Nat) (k : Nat) (st st1 : St) (run : Bool) (v : AV) (D : Option (Nat × Option Blk)) : Prop :=
 ∃ o, ops[k]? = some o ∧ isBar bs k = false ∧ st.has o.dst = true ∧
   GSay ops o st.tm run ∧
   st1 = st.next o.dst v st1.hp (st.nx + 4) (wlO D st.wl) ∧ (∀ n, ¬ (st.nx ≤ n ∧ n < st.nx + 4) → st1.hp n = setO D st.hp n) ∧ (∀ n x, D = some (n, x) → mayDrop bs W k base ib n = true ∧ n < st.nx) ∧
   (run = true → StepSem P E (4 * ops.length) (masH (sees bs W base ib k) st.hp) (masked st.tm (looks ops o)) st.nx o v st1.hp D) ∧ (run = false → v = .tup [] ∧ st1.hp = st.hp ∧ D = none)
section
variable {P : Program} {E : Env} {β β' : Nat → Loc} {Z Z' : Nat → Prop} {hp : Hp} {w w' : World} {inl : CallVC} {yld : YieldVC}
theorem guard_abs {ops : List Oper} {kn : Nat → Option Bool} {o : Oper} {st : St} {K : (Nat → Option Bool) → Bool → Prop} (h : vcGuard ops kn o st K) (hk : KnT kn st.tm) :
   ∃ kn' run, K kn' run ∧ KnT kn' st.tm ∧ GSay ops o st.tm run := by
 unfold vcGuard at h
 split at h
 · rename_i hg; exact ⟨kn, true, h, hk, .inl ⟨hg, rfl⟩⟩
 · rename_i j want hg
   split at h
   · rename_i d hd
     split at h
     · rename_i hsk
       exact ⟨kn, false, h, hk, .inr (.inr ⟨j, want, d, hg, hd, isSkip_ok hsk, rfl⟩)⟩
     · obtain ⟨kn', t, h1, h2, h3⟩ := split_abs h hk
       exact ⟨kn', _, h1, h3, .inr (.inl ⟨j, want, d, t, hg, hd, h2, rfl⟩)⟩
   · exact h.elim
def Extr (P : Program) (E : Env) (inl : CallVC) (yld : YieldVC) (ops : List Oper) (bs : List Nat) (W : List (Nat × List Nat)) (base ib : Nat) (K : St → Prop) (i : Nat) (st : St) : Prop :=
 ∃ (b : Nat) (sts : Nat → St) (runs : Nat → Bool) (vs : Nat → AV) (ds : Nat → Option (Nat × Option Blk)), i ≤ b ∧ b ≤ ops.length ∧ sts i = st ∧ (∀ k, i ≤ k → k < b → SegAt P E ops bs W base ib k (sts k) (sts (k + 1)) (runs k) (vs k) (ds k)) ∧ (∀ n, (sts b).nx ≤ n → (sts b).hp n = none) ∧
     ((b = ops.length ∧ K (sts b)) ∨ (∃ o, ops[b]? = some o ∧ isBar bs b = true ∧ ∃ kn', KnT kn' (sts b).tm ∧ vcDraw E inl yld ops bs W (ops.drop b) b base ib kn' (sts b) K))
theorem extract (hE : EnvOk P E) (hI : InlOk P E inl) {ops : List Oper} {bs : List Nat} {W : List (Nat × List Nat)} {base ib : Nat} {K : St → Prop} : ∀ (rest : List Oper) (i : Nat), rest = ops.drop i → i ≤ ops.length → ∀ (kn : Nat → Option Bool) (st : St), vcDraw E inl yld ops bs W rest i base ib kn st K → KnT kn st.tm → (∀ n, st.nx ≤ n → st.hp n = none) →
   Extr P E inl yld ops bs W base ib K i st
 | [], i, hr, hi, kn, st, h, hk, hf => by
   have : i = ops.length := by
     have := congrArg List.length hr
     simp at this; omega
   exact ⟨i, fun _ => st, fun _ => true, fun _ => .any, fun _ => none, Nat.le_refl _, hi, rfl, fun k h1 h2 => by omega, hf, .inl ⟨this, h⟩⟩
 | o :: rest, i, hr, hi, kn, st, h, hk, hf => by
   have hlt : i < ops.length := by
     have := congrArg List.length hr
     simp at this; omega
   have ho : ops[i]? = some o := by
     have := congrArg (fun l => l[0]?) hr
     simp at this
     exact this.symm
   have hrest : rest = ops.drop (i + 1) := by
     have := congrArg List.tail hr
     simpa using this
   have h0 := h
   simp only [vcDraw] at h
   obtain ⟨kn1, run, h1, h2, h3⟩ := guard_abs h hk
   split at h1
   · rename_i hb
     exact ⟨i, fun _ => st, fun _ => true, fun _ => .any, fun _ => none, Nat.le_refl _, hi, rfl, fun k h1 h2 => by omega, hf, .inr ⟨o, ho, hb, kn, hk, hr ▸ h0⟩⟩
   · rename_i hb
     have go : ∀ (v : AV) (st1 : St) (kn2 : Nat → Option Bool) (D : Option (Nat × Option Blk)), SegAt P E ops bs W base ib i st st1 run v D → KnT kn2 st1.tm → (∀ n, st1.nx ≤ n → st1.hp n = none) → vcDraw E inl yld ops bs W rest (i + 1) base ib kn2 st1 K → Extr P E inl yld ops bs W base ib K i st := fun v st1 kn2 D hseg hk2 hf2 hvc => by
       obtain ⟨b, sts, runs, vs, ds, q1, q2, q3, q4, q5, q6⟩ := extract hE hI rest (i + 1) hrest hlt kn2 st1 hvc hk2 hf2
       refine ⟨b, fun k => if k = i then st else sts k, fun k => if k = i then run else runs k, fun k => if k = i then v else vs k, fun k => if k = i then D else ds k, by omega, q2, by simp, fun k hk1 hk2 => ?_, ?_, ?_⟩
       · by_cases e : k = i
         · subst e; simp only [if_true]; rw [if_neg (by omega), q3]; exact hseg
         · simp only [e, if_false]; rw [if_neg (by omega)]; exact q4 k (by omega) hk2
       · simp only; rw [if_neg (by omega)]; exact q5
       · simp only; rw [if_neg (by omega)]; exact q6
     split at h1
     · obtain ⟨hh, kn2, v, hp', D, k1, k2, k3, k5, k4⟩ := steady_one hE hI h1 h2 hf
       refine go v (st.next o.dst v hp' (st.nx + 4) (wlO D st.wl)) kn2 D ⟨o, ho, hb, hh, h3, rfl, k3, k5, fun _ => k4, fun h => by simp at h⟩ k1 (fun n hn => ?_) k2
       have hn' : st.nx + 4 ≤ n := hn
       show hp' n = none
       rw [k3 n (by omega)]
       cases D with
       | none => exact hf n (by omega)
       | some m => have := (k5 m.1 m.2 rfl).2; show upd st.hp m.1 m.2 n = none; rw [upd_ne _ _ (by omega)]; exact hf n (by omega)
     · split at h1
       · rename_i hh
         refine go (.tup []) (st.next o.dst (.tup []) st.hp (st.nx + 4) st.wl) _ none ⟨o, ho, hb, hh, h3, rfl, fun _ _ => rfl, fun _ _ h => by simp at h, fun h => by simp at h, fun _ => ⟨rfl, rfl, rfl⟩⟩ (forget_abs h2) (fun n hn => ?_) h1
         have hn' : st.nx + 4 ≤ n := hn
         exact hf n (by omega)
       · exact h1.elim
theorem zip_mem {ops : List Oper} {i : Nat} {o : Oper} (h : ops[i]? = some o) : (o, i) ∈ ops.zipIdx := by
 rw [List.mem_zipIdx_iff_getElem?]; exact h
theorem ssa_ok {ops : List Oper} {bs : List Nat} (h : ssa ops bs = true) {m i : Nat} {om oi : Oper} (hm : ops[m]? = some om) (hi : ops[i]? = some oi) (hne : m ≠ i) {d : Nat} (hd : om.dst = some d) :
   oi.dst ≠ some d ∧ (d ∈ looks ops oi → (bs.getD i 0).testBit m = true ∨ (bs.getD m 0).testBit i = true) := by
 simp only [ssa, List.all_eq_true] at h
 have h1 := h _ (zip_mem hm)
 simp only [hd, List.all_eq_true] at h1
 have h2 := h1 _ (zip_mem hi)
 simp only [Bool.or_eq_true, Bool.and_eq_true, Bool.not_eq_true'] at h2
 rcases h2 with h2 | ⟨h2, h3⟩
 · exact absurd (Nat.eq_of_beq_eq_true h2) hne
 · refine ⟨fun e => ?_, fun hl => ?_⟩
   · rw [e] at h2; simp at h2
   · rcases h3 with (h3 | h3) | h3
     · exact absurd (List.any_eq_true.2 ⟨d, hl, Nat.beq_refl d⟩) (by rw [h3]; simp)
     · exact .inl h3
     · exact .inr h3
theorem sound_ok {ops : List Oper} {bs : List Nat} (h : sound ops bs = true) {i : Nat} {o : Oper} (hi : ops[i]? = some o) :
   (∀ k, (bs.getD i 0).testBit k = true → k < i) ∧ (∀ e ∈ o.after, Region.binds .any e = true → e.on < i) ∧ (∀ k, k < i → (bs.getD i 0).testBit k = true → ∃ e ∈ o.after, Region.binds .any e = true ∧ (e.on = k ∨ (bs.getD e.on 0).testBit k = true)) := by
 simp only [sound, Bool.and_eq_true, List.all_eq_true] at h
 obtain ⟨⟨h0, h1⟩, h2⟩ := h.2 _ (zip_mem hi)
 refine ⟨fun k hk => ?_, fun e he hb => ?_, fun k hk hb => ?_⟩
 · have hlt : bs.getD i 0 < 2 ^ i := Nat.le_of_ble_eq_true h0
   apply Nat.lt_of_not_le
   intro hle
   have : bs.getD i 0 < 2 ^ k := Nat.lt_of_lt_of_le hlt (Nat.pow_le_pow_right (by omega) hle)
   rw [Nat.testBit_lt_two_pow this] at hk
   simp at hk
 · have := h1 e (by simpa using he)
   simp only [Bool.or_eq_true, Bool.not_eq_true'] at this
   rcases this with h3 | h3
   · rw [hb] at h3; simp at h3
   · exact Nat.le_of_ble_eq_true h3
 · have := h2 k (List.mem_range.2 hk)
   simp only [Bool.or_eq_true, Bool.not_eq_true', List.any_eq_true, Bool.and_eq_true] at this
   rcases this with h3 | ⟨e, he, h3, h4⟩
   · rw [hb] at h3; simp at h3
   · exact ⟨e, by simpa using he, h3, h4.imp Nat.eq_of_beq_eq_true id⟩
theorem bar_ok {bs : List Nat} {i : Nat} (h : isBar bs i = true) : (∀ k, k < i → (bs.getD i 0).testBit k = true) ∧ (∀ j, i < j → j < bs.length → (bs.getD j 0).testBit i = true) := by
 simp only [isBar, Bool.and_eq_true, List.all_eq_true, Bool.or_eq_true] at h
 refine ⟨fun k hk => ?_, fun j hj hl => ?_⟩
 · rw [Nat.eq_of_beq_eq_true h.1, Nat.testBit_two_pow_sub_one]; simp [hk]
 · rcases h.2 j (List.mem_range.2 hl) with h1 | h1
   · exact absurd (Nat.le_of_ble_eq_true h1) (by omega)
   · exact h1
def unl (l : Array Bool) : Nat → Nat
 | 0 => 0
 | k + 1 => unl l k + (if l.getD k true = true then 0 else 1)
theorem getD_set {l : Array Bool} {i k : Nat} (hi : i < l.size) : (l.setIfInBounds i true).getD k true = if k = i then true else l.getD k true := by
 by_cases e : k = i
 · subst e; simp [Array.getD, hi]
 · simp [e, Array.getD_eq_getD_getElem?, Array.getElem?_setIfInBounds_ne (Ne.symm e)]
theorem unl_set {l : Array Bool} {i : Nat} (hi : i < l.size) (hf : l.getD i true = false) : ∀ k, unl (l.setIfInBounds i true) k + (if i < k then 1 else 0) = unl l k
 | 0 => by simp [unl]
 | k + 1 => by
   have ih := unl_set hi hf k
   simp only [unl, getD_set hi]
   by_cases e : k = i
   · subst e
     rw [if_neg (by omega)] at ih
     simp only [if_true, hf]
     rw [if_pos (by omega)]
     simp
     omega
   · simp only [e, if_false]
     generalize (if l.getD k true = true then 0 else 1) = x
     by_cases h2 : i < k
     · rw [if_pos h2] at ih; rw [if_pos (by omega : i < k + 1)]; omega
     · rw [if_neg h2] at ih; rw [if_neg (by omega : ¬ i < k + 1)]; omega
theorem unl_zero {l : Array Bool} : ∀ {k : Nat}, unl l k = 0 → ∀ j, j < k → l.getD j true = true
 | 0, _, j, hj => absurd hj (Nat.not_lt_zero j)
 | k + 1, h, j, hj => by
   simp only [unl] at h
   by_cases e : j = k
   · subst e
     by_cases h2 : l.getD j true = true
     · exact h2
     · rw [if_neg h2] at h; omega
   · exact unl_zero (k := k) (by omega) j (by omega)
theorem ready_iff {ops : Array Oper} {listed : Array Bool} {i : Nat} : i ∈ Region.ready .any ops listed ↔ ∃ o, ops[i]? = some o ∧ listed.getD i true = false ∧ ∀ e ∈ o.after, Region.binds .any e = true → listed.getD e.on false = true := by
 simp only [Region.ready, List.mem_filter, List.mem_range, Bool.and_eq_true, Bool.not_eq_true']
 constructor
 · rintro ⟨h1, h2, h3⟩
   have ho : ops[i]? = some ops[i] := by simp [h1]
   rw [ho] at h3
   simp only [Option.map_some, Option.getD_some, Array.all_eq_true] at h3
   refine ⟨ops[i], ho, h2, fun e he hb => ?_⟩
   obtain ⟨j, hj, rfl⟩ := Array.getElem_of_mem he
   have := h3 j hj
   rw [hb] at this
   simpa using this
 · rintro ⟨o, ho, h2, h3⟩
   have h1 : i < ops.size := (Array.getElem?_eq_some_iff.1 ho).1
   refine ⟨h1, h2, ?_⟩
   rw [ho]
   simp only [Option.map_some, Option.getD_some, Array.all_eq_true]
   intro j hj
   cases hb : Region.binds .any o.after[j] with
   | false => rfl
   | true => rw [h3 _ (Array.getElem_mem hj) hb]; rfl
end
end Go.Sx
