/- Texts for the law of the last part, part 14. -/
import Derived.Test.YtcfmdhlohahhcaaDoorMendsUptoP13
set_option linter.unusedSimpArgs false
set_option linter.unusedVariables false
namespace Nm
open Go Go.Sx
def othr (b : Nat → Nat → Int) (i : Nat) (v : Int) : Int := b i 0 + b i 1 - v
def grpB (b : Nat → Nat → Int) (v : Int) : Nat → List Int → List Int
 | 0, K => K
 | j + 1, K => if inc b j v = true ∧ othr b j v ∉ grpB b v j K then grpB b v j K ++ [othr b j v] else grpB b v j K
def grpK (n : Nat) (b : Nat → Nat → Int) (s : Int) : Nat → List Int
 | 0 => [s]
 | i + 1 => if i < (grpK n b s i).length then grpB b ((grpK n b s i).getD i 0) n (grpK n b s i) else grpK n b s i
def grp (n : Nat) (b : Nat → Nat → Int) (s : Int) : List Int := grpK n b s (n + 36 - n)
theorem grp_eq {n : Nat} {b : Nat → Nat → Int} {s : Int} : grp n b s = grpK n b s 36 := by unfold grp; rw [Nat.add_sub_cancel_left]
def oddB (n : Nat) (b : Nat → Nat → Int) (v : Int) : Bool := xorN n fun i => inc b i v
def Cls (n : Nat) (b : Nat → Nat → Int) (P : Int → Prop) : Prop := ∀ i, i < n → (P (b i 0) ↔ P (b i 1))
theorem othr_of {b : Nat → Nat → Int} {i : Nat} {v : Int} (h : inc b i v = true) : (v = b i 0 ∧ othr b i v = b i 1) ∨ (v = b i 1 ∧ othr b i v = b i 0) := by
 unfold othr
 rcases inc_iff.1 h with h | h
 · exact .inl ⟨h.symm, by omega⟩
 · exact .inr ⟨h.symm, by omega⟩
theorem Cls.othr {n : Nat} {b : Nat → Nat → Int} {P : Int → Prop} (h : Cls n b P) {i : Nat} (hi : i < n) {v : Int} (hv : inc b i v = true) : P v ↔ P (othr b i v) := by
 rcases othr_of hv with ⟨e1, e2⟩ | ⟨e1, e2⟩
 · rw [e2, e1]; exact h i hi
 · rw [e2, e1]; exact (h i hi).symm
theorem grpB_pre {b : Nat → Nat → Int} {v : Int} {K : List Int} : ∀ {j : Nat}, ∃ m, grpB b v j K = K ++ m
 | 0 => ⟨[], (List.append_nil K).symm⟩
 | j + 1 => by
   obtain ⟨m, h⟩ := grpB_pre (b := b) (v := v) (K := K) (j := j)
   rw [grpB]
   split
   · exact ⟨m ++ [othr b j v], by rw [h, List.append_assoc]⟩
   · exact ⟨m, h⟩
theorem grpB_nod {b : Nat → Nat → Int} {v : Int} {K : List Int} (h : K.Nodup) : ∀ {j : Nat}, (grpB b v j K).Nodup
 | 0 => h
 | j + 1 => by
   have ih := grpB_nod (b := b) (v := v) h (j := j)
   rw [grpB]
   split
   · rename_i c
     rw [List.nodup_append]
     exact ⟨ih, by simp, fun x hx y hy => by rw [List.mem_singleton.1 hy]; rintro rfl; exact c.2 hx⟩
   · exact ih
theorem grpB_mem {b : Nat → Nat → Int} {v : Int} {K : List Int} : ∀ {j : Nat} {x : Int}, x ∈ grpB b v j K → x ∈ K ∨ ∃ i, i < j ∧ inc b i v = true ∧ x = othr b i v
 | 0, x, h => .inl h
 | j + 1, x, h => by
   have lift : x ∈ grpB b v j K → x ∈ K ∨ ∃ i, i < j + 1 ∧ inc b i v = true ∧ x = othr b i v := fun h => (grpB_mem h).imp id fun ⟨i, h1, h2⟩ => ⟨i, by omega, h2⟩
   rw [grpB] at h
   split at h
   · rename_i c
     rcases List.mem_append.1 h with h | h
     · exact lift h
     · exact .inr ⟨j, by omega, c.1, List.mem_singleton.1 h⟩
   · exact lift h
theorem grpB_has {b : Nat → Nat → Int} {v : Int} {K : List Int} : ∀ {j : Nat} {i : Nat}, i < j → inc b i v = true → othr b i v ∈ grpB b v j K
 | 0, i, h, _ => by omega
 | j + 1, i, h, hv => by
   rw [grpB]
   by_cases c : i = j
   · subst c
     split
     · exact List.mem_append.2 (.inr (List.mem_singleton.2 rfl))
     · rename_i d
       simp only [not_and, Decidable.not_not] at d
       exact d hv
   · have := grpB_has (b := b) (v := v) (K := K) (j := j) (i := i) (by omega) hv
     split
     · exact List.mem_append.2 (.inl this)
     · exact this
section
variable {n : Nat} {b : Nat → Nat → Int} {s : Int}
theorem grpK_pre : ∀ {i : Nat}, ∃ m, grpK n b s (i + 1) = grpK n b s i ++ m := by
 intro i
 rw [grpK]
 split
 · exact grpB_pre
 · exact ⟨[], (List.append_nil _).symm⟩
theorem grpK_pres {i : Nat} : ∀ {d : Nat}, ∃ m, grpK n b s (i + d) = grpK n b s i ++ m
 | 0 => ⟨[], (List.append_nil _).symm⟩
 | d + 1 => by
   obtain ⟨m, h⟩ := grpK_pres (i := i) (d := d)
   obtain ⟨m', h'⟩ := grpK_pre (n := n) (b := b) (s := s) (i := i + d)
   exact ⟨m ++ m', by rw [← Nat.add_assoc, h', h, List.append_assoc]⟩
theorem grpK_nod : ∀ {i : Nat}, (grpK n b s i).Nodup
 | 0 => by simp [grpK]
 | i + 1 => by
   rw [grpK]
   split
   · exact grpB_nod grpK_nod
   · exact grpK_nod
theorem grpK_getD {i : Nat} (h : i < (grpK n b s i).length) : (grpK n b s i).getD i 0 ∈ grpK n b s i := by
 rw [List.getD_eq_getElem?_getD, List.getElem?_eq_getElem h]; exact List.getElem_mem h
theorem grpK_min {P : Int → Prop} (hP : Cls n b P) (h0 : P s) : ∀ {i : Nat} {v : Int}, v ∈ grpK n b s i → P v
 | 0, v, h => by rw [List.mem_singleton.1 h]; exact h0
 | i + 1, v, h => by
   rw [grpK] at h
   split at h
   · rename_i hi
     rcases grpB_mem h with h | ⟨j, hj, hv, rfl⟩
     · exact grpK_min hP h0 h
     · exact (hP.othr hj hv).1 (grpK_min hP h0 (grpK_getD hi))
   · exact grpK_min hP h0 h
theorem grpK_stop {i : Nat} (h : (grpK n b s i).length ≤ i) : ∀ {d : Nat}, grpK n b s (i + d) = grpK n b s i
 | 0 => rfl
 | d + 1 => by
   have ih := grpK_stop h (d := d)
   rw [← Nat.add_assoc, grpK, if_neg (by rw [ih]; omega), ih]
theorem nod_few {N : Nat} {l : List Int} (h : l.Nodup) (hb : ∀ v ∈ l, 0 ≤ v ∧ v < N) : l.length ≤ N := by
 refine pigeon N l.length (fun i => (l.getD i 0).toNat) (fun i hi => ?_) fun i hi j hj e => ?_
 · have : l.getD i 0 ∈ l := by rw [List.getD_eq_getElem?_getD, List.getElem?_eq_getElem hi]; exact List.getElem_mem hi
   have := hb _ this
   show (l.getD i 0).toNat < N
   omega
 · have m : ∀ i, i < l.length → l.getD i 0 ∈ l := fun i hi => by rw [List.getD_eq_getElem?_getD, List.getElem?_eq_getElem hi]; exact List.getElem_mem hi
   have a := hb _ (m i hi)
   have c := hb _ (m j hj)
   have e : (l.getD i 0).toNat = (l.getD j 0).toNat := e
   have e2 : l.getD i 0 = l.getD j 0 := by omega
   rw [List.getD_eq_getElem?_getD, List.getD_eq_getElem?_getD, List.getElem?_eq_getElem hi, List.getElem?_eq_getElem hj] at e2
   have e2 : l[i] = l[j] := e2
   exact (List.getElem_inj h).1 e2
theorem grpK_kn (hk : ∀ i, i < n → (0 ≤ b i 0 ∧ b i 0 < 36) ∧ 0 ≤ b i 1 ∧ b i 1 < 36) (hs : 0 ≤ s ∧ s < 36) {i : Nat} : ∀ v ∈ grpK n b s i, 0 ≤ v ∧ v < 36 := fun v hv =>
 grpK_min (P := fun v => 0 ≤ v ∧ v < 36) (fun j hj => ⟨fun _ => (hk j hj).2, fun _ => (hk j hj).1⟩) hs hv
theorem grpK_few (hk : ∀ i, i < n → (0 ≤ b i 0 ∧ b i 0 < 36) ∧ 0 ≤ b i 1 ∧ b i 1 < 36) (hs : 0 ≤ s ∧ s < 36) {i : Nat} : (grpK n b s i).length ≤ 36 := nod_few grpK_nod (grpK_kn hk hs)
theorem grpK_end (hk : ∀ i, i < n → (0 ≤ b i 0 ∧ b i 0 < 36) ∧ 0 ≤ b i 1 ∧ b i 1 < 36) (hs : 0 ≤ s ∧ s < 36) {i : Nat} (hi : i ≤ 36) (h : (grpK n b s i).length ≤ i) : grpK n b s i = grp n b s := by
 have := grpK_stop h (d := 36 - i)
 rw [show i + (36 - i) = 36 by omega] at this
 rw [grp_eq]
 exact this.symm
theorem grp_self : s ∈ grp n b s := by
 obtain ⟨m, h⟩ := grpK_pres (n := n) (b := b) (s := s) (i := 0) (d := 36)
 rw [grp_eq]
 rw [Nat.zero_add] at h
 rw [h]
 exact List.mem_append.2 (.inl (List.mem_singleton.2 rfl))
theorem grp_min {P : Int → Prop} (hP : Cls n b P) (h0 : P s) {v : Int} (h : v ∈ grp n b s) : P v := grpK_min hP h0 (i := 36) (by rw [← grp_eq]; exact h)
theorem grp_nod : (grp n b s).Nodup := by rw [grp_eq]; exact grpK_nod
theorem grp_cls (hk : ∀ i, i < n → (0 ≤ b i 0 ∧ b i 0 < 36) ∧ 0 ≤ b i 1 ∧ b i 1 < 36) (hs : 0 ≤ s ∧ s < 36) : Cls n b (· ∈ grp n b s) := by
 have nb : ∀ v ∈ grp n b s, ∀ i, i < n → inc b i v = true → othr b i v ∈ grp n b s := fun v hv i hi hiv => by
   obtain ⟨p, hp, e⟩ := List.getElem_of_mem hv
   have hp36 : (grp n b s).length ≤ 36 := by rw [grp_eq]; exact grpK_few hk hs
   have hlt : p < (grpK n b s p).length := by
     apply Nat.lt_of_not_le
     intro hle
     have := grpK_end hk hs (by omega) hle
     rw [this] at hle; omega
   obtain ⟨m, h1⟩ := grpK_pres (n := n) (b := b) (s := s) (i := p) (d := 36 - p)
   rw [show p + (36 - p) = 36 by omega] at h1
   have ev : (grpK n b s p).getD p 0 = v := by
     have e' : (grp n b s)[p]? = some v := by rw [List.getElem?_eq_getElem hp, e]
     rw [grp_eq] at e'
     rw [h1, List.getElem?_append_left hlt] at e'
     rw [List.getD_eq_getElem?_getD, e']; rfl
   obtain ⟨m', h2⟩ := grpK_pres (n := n) (b := b) (s := s) (i := p + 1) (d := 36 - (p + 1))
   rw [show p + 1 + (36 - (p + 1)) = 36 by omega] at h2
   rw [grp_eq, h2]
   refine List.mem_append.2 (.inl ?_)
   rw [grpK, if_pos hlt, ev]
   exact grpB_has hi hiv
 intro i hi
 refine ⟨fun h => ?_, fun h => ?_⟩
 · have := nb _ h i hi (inc_iff.2 (.inl rfl))
   rwa [show othr b i (b i 0) = b i 1 by unfold othr; omega] at this
 · have := nb _ h i hi (inc_iff.2 (.inr rfl))
   rwa [show othr b i (b i 1) = b i 0 by unfold othr; omega] at this
end
def jnL : List Int → Int → Option Int
 | x :: y :: l, v => if v = x then some y else if v = y then some x else jnL l v
 | _, _ => none
theorem jnL_mem : ∀ {l : List Int} {v w : Int}, jnL l v = some w → v ∈ l ∧ w ∈ l
 | [], _, _, h => by cases h
 | [_], _, _, h => by cases h
 | x :: y :: l, v, w, h => by
   rw [jnL] at h
   split at h
   · rename_i c; injection h with h; subst c; subst h; simp
   · split at h
     · rename_i c; injection h with h; subst c; subst h; simp
     · have := jnL_mem h
       simp [this.1, this.2]
theorem jnL_sy : ∀ {l : List Int}, l.Nodup → ∀ {v w : Int}, jnL l v = some w → jnL l w = some v ∧ v ≠ w
 | [], _, _, _, h => by cases h
 | [_], _, _, _, h => by cases h
 | x :: y :: l, hn, v, w, h => by
   obtain ⟨h1, h2⟩ := List.nodup_cons.1 hn
   obtain ⟨h3, h4⟩ := List.nodup_cons.1 h2
   have xy : x ≠ y := fun e => h1 (by rw [e]; simp)
   rw [jnL] at h
   split at h
   · rename_i c; injection h with h; subst c; subst h
     rw [jnL, if_neg (Ne.symm xy), if_pos rfl]; exact ⟨rfl, xy⟩
   · rename_i c
     split at h
     · rename_i d; injection h with h; subst d; subst h
       rw [jnL, if_pos rfl]; exact ⟨rfl, Ne.symm xy⟩
     · rename_i d
       obtain ⟨k1, k2⟩ := jnL_sy h4 h
       have hw := (jnL_mem h).2
       refine ⟨?_, k2⟩
       rw [jnL, if_neg (by rintro rfl; exact h1 (by simp [hw])), if_neg (by rintro rfl; exact h3 hw), k1]
theorem jnL_some : ∀ {l : List Int} {m : Nat}, l.length = 2 * m → ∀ {v : Int}, (jnL l v).isSome = decide (v ∈ l)
 | [], m, _, v => by simp [jnL]
 | [_], m, h, v => by simp only [List.length_singleton] at h; omega
 | x :: y :: l, m, h, v => by
   have ih := jnL_some (l := l) (m := m - 1) (by simp only [List.length_cons] at h; omega) (v := v)
   rw [jnL]
   by_cases c : v = x
   · rw [if_pos c]; simp [c]
   · by_cases d : v = y
     · rw [if_neg c, if_pos d]; simp [d]
     · rw [if_neg c, if_neg d, ih]; simp [c, d]
theorem jnL_two : ∀ {l : List Int} {m : Nat} {x y : Int}, l.length = 2 * m → (l ++ [x, y]).Nodup → ∀ v, jnL (l ++ [x, y]) v = if v = y then some x else if v = x then some y else jnL l v
 | [], m, x, y, _, hn, v => by
   have xy : x ≠ y := fun e => by subst e; simp at hn
   show (if v = x then some y else if v = y then some x else none) = _
   by_cases c : v = x
   · subst c; rw [if_pos rfl, if_neg xy, if_pos rfl]
   · rw [if_neg c, if_neg c]; rfl
 | [_], m, _, _, h, _, _ => by simp only [List.length_singleton] at h; omega
 | p :: q :: l, m, x, y, h, hn, v => by
   obtain ⟨h1, h2⟩ := List.nodup_cons.1 hn
   obtain ⟨h3, h4⟩ := List.nodup_cons.1 h2
   have ih := jnL_two (l := l) (m := m - 1) (by simp only [List.length_cons] at h; omega) h4 v
   show (if v = p then some q else if v = q then some p else jnL (l ++ [x, y]) v) = if v = y then some x else if v = x then some y else if v = p then some q else if v = q then some p else jnL l v
   rw [ih]
   by_cases c : v = p
   · subst c
     have e1 : v ≠ y := fun e => h1 (by subst e; simp)
     have e2 : v ≠ x := fun e => h1 (by subst e; simp)
     rw [if_pos rfl, if_neg e1, if_neg e2, if_pos rfl]
   · by_cases d : v = q
     · subst d
       have e1 : v ≠ y := fun e => h3 (by subst e; simp)
       have e2 : v ≠ x := fun e => h3 (by subst e; simp)
       rw [if_neg c, if_pos rfl, if_neg e1, if_neg e2, if_neg c, if_pos rfl]
     · rw [if_neg c, if_neg d]
       by_cases e : v = y
       · rw [if_pos e, if_pos e]
       · rw [if_neg e, if_neg e]
         by_cases f : v = x
         · rw [if_pos f, if_pos f]
         · rw [if_neg f, if_neg f, if_neg c, if_neg d]
theorem xorN_xor {p q : Nat → Bool} : ∀ {n : Nat}, (xorN n p ^^ xorN n q) = xorN n fun i => p i ^^ q i
 | 0 => rfl
 | n + 1 => by
   rw [xorN, xorN, xorN, ← xorN_xor]
   cases xorN n p <;> cases xorN n q <;> cases p n <;> cases q n <;> rfl
theorem xorL_swap {n : Nat} (f : Nat → Int → Bool) : ∀ {K : List Int}, K.foldr (fun v a => xorN n (fun i => f i v) ^^ a) false = xorN n fun i => K.foldr (fun v a => f i v ^^ a) false
 | [] => by
   rw [xorN_false]
   · rfl
   · intro i _; rfl
 | v :: K => by
   have ih := xorL_swap (n := n) f (K := K)
   rw [List.foldr_cons, ih]
   rw [xorN_xor]
   rfl
theorem xorL_in {K : List Int} (h : K.Nodup) {f : Int → Bool} {x : Int} (hx : x ∈ K) (hf : ∀ v ∈ K, f v = decide (v = x)) : K.foldr (fun v a => f v ^^ a) false = true := by
 induction K with
 | nil => cases hx
 | cons v K ih =>
   obtain ⟨h1, h2⟩ := List.nodup_cons.1 h
   rw [List.foldr_cons, hf v (List.mem_cons.2 (.inl rfl))]
   rcases List.mem_cons.1 hx with e | hx
   · subst e
     have : K.foldr (fun v a => f v ^^ a) false = false := by
       have : ∀ L : List Int, (∀ w ∈ L, f w = false) → L.foldr (fun v a => f v ^^ a) false = false := by
         intro L
         induction L with
         | nil => intro _; rfl
         | cons w L ih => intro h; rw [List.foldr_cons, h w (List.mem_cons.2 (.inl rfl)), ih fun y hy => h y (List.mem_cons.2 (.inr hy))]; rfl
       exact this K fun w hw => by rw [hf w (List.mem_cons.2 (.inr hw)), decide_eq_false]; rintro rfl; exact h1 hw
     rw [this, decide_eq_true rfl]; rfl
   · rw [ih h2 hx fun w hw => hf w (List.mem_cons.2 (.inr hw)), decide_eq_false]
     · rfl
     · rintro rfl; exact h1 hx
theorem xorL_out {K : List Int} {f : Int → Bool} (hf : ∀ v ∈ K, f v = false) : K.foldr (fun v a => f v ^^ a) false = false := by
 induction K with
 | nil => rfl
 | cons v K ih => rw [List.foldr_cons, hf v (List.mem_cons.2 (.inl rfl)), ih fun w hw => hf w (List.mem_cons.2 (.inr hw))]; rfl
theorem xorL_xor {f g : Int → Bool} : ∀ {K : List Int}, K.foldr (fun v a => (f v ^^ g v) ^^ a) false = (K.foldr (fun v a => f v ^^ a) false ^^ K.foldr (fun v a => g v ^^ a) false)
 | [] => rfl
 | v :: K => by
   rw [List.foldr_cons, List.foldr_cons, List.foldr_cons, xorL_xor]
   cases f v <;> cases g v <;> cases K.foldr (fun v a => f v ^^ a) false <;> cases K.foldr (fun v a => g v ^^ a) false <;> rfl
theorem xorL_len {f : Int → Bool} : ∀ {K : List Int}, K.foldr (fun v a => f v ^^ a) false = decide ((K.filter f).length % 2 = 1)
 | [] => rfl
 | v :: K => by
   rw [List.foldr_cons, xorL_len, List.filter_cons]
   cases f v with
   | false => simp
   | true =>
     simp only [if_true, List.length_cons, Bool.true_xor]
     rw [← decide_not]
     apply decide_eq_decide.2
     omega
theorem odd_even {n : Nat} {b : Nat → Nat → Int} (hne : ∀ i, i < n → b i 0 ≠ b i 1) {K : List Int} (hn : K.Nodup) (hc : Cls n b (· ∈ K)) : ∃ m, (K.filter (oddB n b)).length = 2 * m := by
 have e : K.foldr (fun v a => oddB n b v ^^ a) false = false := by
   unfold oddB
   rw [xorL_swap fun i v => inc b i v]
   refine xorN_false fun i hi => ?_
   by_cases c : b i 0 ∈ K
   · have d := (hc i hi).1 c
     have : (fun (v : Int) (a : Bool) => inc b i v ^^ a) = fun v a => (decide (v = b i 0) ^^ decide (v = b i 1)) ^^ a := by
       funext v a
       rw [inc_ends (hne i hi) (.inl ⟨rfl, rfl⟩)]
     rw [this, xorL_xor, xorL_in hn c fun v _ => rfl, xorL_in hn d fun v _ => rfl]; rfl
   · have d : b i 1 ∉ K := fun d => c ((hc i hi).2 d)
     refine xorL_out fun v hv => ?_
     cases q : inc b i v with
     | false => rfl
     | true =>
       rcases inc_iff.1 q with e | e
       · rw [← e] at hv; exact absurd hv c
       · rw [← e] at hv; exact absurd hv d
 rw [xorL_len, decide_eq_false_iff_not] at e
 exact ⟨(K.filter (oddB n b)).length / 2, by omega⟩
end Nm
namespace Nm
open Go Go.Sx
def setI (g : Int → Int) (x m : Int) : Int → Int := fun v => if v = x then m else g v
def fwB (b : Nat → Nat → Int) : Nat → (Int → Int) → Int → Int
 | 0, g => g
 | i + 1, g => setI (setI (fwB b i g) (b i 0) (imin (fwB b i g (b i 0)) (fwB b i g (b i 1)))) (b i 1) (imin (fwB b i g (b i 0)) (fwB b i g (b i 1)))
def fwR (n : Nat) (b : Nat → Nat → Int) : Nat → Int → Int
 | 0 => fun v => v
 | r + 1 => fwB b n (fwR n b r)
theorem imin_le {x y : Int} : imin x y ≤ x ∧ imin x y ≤ y ∧ (imin x y = x ∨ imin x y = y) := by
 unfold imin; split <;> omega
section
variable {n : Nat} {b : Nat → Nat → Int}
theorem fwB_le {g : Int → Int} : ∀ {i : Nat} {v : Int}, fwB b i g v ≤ g v
 | 0, v => Int.le_refl _
 | i + 1, v => by
   have m := imin_le (x := fwB b i g (b i 0)) (y := fwB b i g (b i 1))
   have h0 := fwB_le (g := g) (i := i) (v := b i 0)
   have h1 := fwB_le (g := g) (i := i) (v := b i 1)
   have hv := fwB_le (g := g) (i := i) (v := v)
   unfold fwB setI
   split
   · rename_i e; subst e; omega
   · split
     · rename_i e; subst e; omega
     · exact hv
theorem fwB_cls {P : Int → Prop} (hP : Cls n b P) {g : Int → Int} (hg : ∀ v, P v ↔ P (g v)) : ∀ {i : Nat}, i ≤ n → ∀ v, P v ↔ P (fwB b i g v)
 | 0, _, v => hg v
 | i + 1, hi, v => by
   have ih := fwB_cls hP hg (i := i) (by omega)
   have c := hP i (by omega)
   have m := (imin_le (x := fwB b i g (b i 0)) (y := fwB b i g (b i 1))).2.2
   have hm : P (imin (fwB b i g (b i 0)) (fwB b i g (b i 1))) ↔ P (b i 0) := by
     rcases m with m | m
     · rw [m]; exact (ih _).symm
     · rw [m, ← ih]; exact c.symm
   unfold fwB setI
   split
   · rename_i e; subst e; rw [hm]; exact c.symm
   · split
     · rename_i e; subst e; rw [hm]
     · exact ih v
theorem fwR_cls {P : Int → Prop} (hP : Cls n b P) : ∀ {r : Nat} (v : Int), P v ↔ P (fwR n b r v)
 | 0, v => Iff.rfl
 | r + 1, v => fwB_cls hP (fwR_cls hP) (Nat.le_refl n) v
theorem fwR_le {r : Nat} {v : Int} : fwR n b (r + 1) v ≤ fwR n b r v := fwB_le
theorem fwB_least {K : List Int} (hc : Cls n b (· ∈ K)) {m : Int} (hm : ∀ v ∈ K, m ≤ v) {g : Int → Int} (hg : ∀ v, v ∈ K ↔ g v ∈ K) {i j : Nat} (hj : j < i) (hi : i ≤ n) {u : Int} (hu : u ∈ K) (h : inc b j u = true) (e : g u = m) : fwB b i g (othr b j u) = m := by
 have low : ∀ {i : Nat}, i ≤ n → ∀ v ∈ K, m ≤ fwB b i g v := fun {i} hi v hv => hm _ ((fwB_cls hc hg hi v).1 hv)
 have keep : ∀ {i : Nat}, i ≤ n → ∀ v ∈ K, ∀ {k : Nat}, k ≤ i → fwB b k g v = m → fwB b i g v = m := by
   intro i
   induction i with
   | zero => intro _ v _ k hk e; rw [show k = 0 by omega] at e; exact e
   | succ i ih =>
     intro hi v hv k hk e
     by_cases c : k = i + 1
     · rw [c] at e; exact e
     · have e1 := ih (by omega) v hv (by omega) e
       have l := low hi v hv
       have l2 : fwB b (i + 1) g v ≤ fwB b i g v := by
         have mm := imin_le (x := fwB b i g (b i 0)) (y := fwB b i g (b i 1))
         show setI _ _ _ v ≤ _
         unfold setI
         split
         · rename_i q; subst q; omega
         · split
           · rename_i q; subst q; omega
           · omega
       omega
 have hj' := keep (i := j) (by omega) u hu (Nat.zero_le j) (show fwB b 0 g u = m from e)
 have hjn : j < n := by omega
 have ho : othr b j u ∈ K := (hc.othr hjn h).1 hu
 refine keep hi _ ho (k := j + 1) (by omega) ?_
 have l0 := low (i := j) (by omega) (b j 0)
 have l1 := low (i := j) (by omega) (b j 1)
 have mm := imin_le (x := fwB b j g (b j 0)) (y := fwB b j g (b j 1))
 show setI _ _ _ (othr b j u) = m
 unfold setI
 rcases othr_of h with ⟨e1, e2⟩ | ⟨e1, e2⟩
 · rw [if_pos e2]
   rw [e2] at ho
   rw [e1] at hj'
   have := l1 ho
   omega
 · rw [e2]
   rw [e2] at ho
   rw [e1] at hj' hu
   have := l0 ho
   split <;> first | omega | (rw [if_pos rfl]; omega)
theorem fwB_keep {K : List Int} (hc : Cls n b (· ∈ K)) {m : Int} (hm : ∀ v ∈ K, m ≤ v) {g : Int → Int} (hg : ∀ v, v ∈ K ↔ g v ∈ K) {v : Int} (hv : v ∈ K) (e : g v = m) : fwB b n g v = m := by
 have := hm _ ((fwB_cls hc hg (Nat.le_refl n) v).1 hv)
 have := fwB_le (b := b) (g := g) (i := n) (v := v)
 omega
theorem least : ∀ {K : List Int}, K ≠ [] → ∃ m ∈ K, ∀ v ∈ K, m ≤ v
 | [], h => absurd rfl h
 | [x], _ => ⟨x, by simp, fun v hv => by rw [List.mem_singleton.1 hv]; exact Int.le_refl _⟩
 | x :: y :: l, _ => by
   obtain ⟨m, h1, h2⟩ := least (K := y :: l) (by simp)
   by_cases c : m ≤ x
   · exact ⟨m, List.mem_cons.2 (.inr h1), fun v hv => (List.mem_cons.1 hv).elim (fun e => by rw [e]; exact c) (h2 v)⟩
   · exact ⟨x, by simp, fun v hv => (List.mem_cons.1 hv).elim (fun e => by rw [e]; exact Int.le_refl _) (fun hv => by have := h2 v hv; omega)⟩
theorem fwR_same {N : Nat} (hN : N ≤ 36) (hk : ∀ i, i < n → (0 ≤ b i 0 ∧ b i 0 < N) ∧ 0 ≤ b i 1 ∧ b i 1 < N) {s : Int} (hs : 0 ≤ s ∧ s < N) : ∃ m, m ∈ grp n b s ∧ ∀ v ∈ grp n b s, fwR n b N v = m := by
 have hk36 : ∀ i, i < n → (0 ≤ b i 0 ∧ b i 0 < 36) ∧ 0 ≤ b i 1 ∧ b i 1 < 36 := fun i hi => by have := hk i hi; omega
 have hc := grp_cls hk36 (s := s) (by omega)
 have hkn : ∀ v ∈ grp n b s, 0 ≤ v ∧ v < N := fun v hv => grp_min (P := fun v => 0 ≤ v ∧ v < (N : Int)) (fun j hj => ⟨fun _ => (hk j hj).2, fun _ => (hk j hj).1⟩) hs hv
 obtain ⟨m, hm, hle⟩ := least (K := grp n b s) (fun e => by have := grp_self (n := n) (b := b) (s := s); rw [e] at this; cases this)
 refine ⟨m, hm, ?_⟩
 have gK : ∀ {r : Nat} (v : Int), v ∈ grp n b s ↔ fwR n b r v ∈ grp n b s := fun {r} v => fwR_cls hc v
 let f : Nat → Nat → Bool := fun r v => decide ((v : Int) ∈ grp n b s) && decide (fwR n b r (v : Int) = m)
 have f_iff : ∀ r (v : Nat), f r v = true ↔ (v : Int) ∈ grp n b s ∧ fwR n b r (v : Int) = m := fun r v => by
   show (decide _ && decide _) = true ↔ _
   rw [Bool.and_eq_true, decide_eq_true_eq, decide_eq_true_eq]
 have sub : ∀ r v, f r v = true → f (r + 1) v = true := fun r v h => by
   rw [f_iff] at h ⊢
   exact ⟨h.1, fwB_keep hc hle gK h.1 h.2⟩
 have step : ∀ r, (∀ v ∈ grp n b s, fwR n b r v = m) ∨ cntN N (f r) < cntN N (f (r + 1)) := fun r => by
   by_cases h : ∃ v : Nat, v < N ∧ f r v = false ∧ f (r + 1) v = true
   · obtain ⟨v, h1, h2, h3⟩ := h
     exact .inr (cntN_lt h1 (fun i _ => sub r i) h2 h3)
   · refine .inl fun v hv => ?_
     have clo : Cls n b fun v => v ∈ grp n b s ∧ fwR n b r v = m := by
       have one : ∀ i, i < n → ∀ u, inc b i u = true → (u ∈ grp n b s ∧ fwR n b r u = m) → (othr b i u ∈ grp n b s ∧ fwR n b r (othr b i u) = m) := fun i hi u hu ⟨h1, h2⟩ => by
         have ho := (hc.othr hi hu).1 h1
         refine ⟨ho, ?_⟩
         have e := fwB_least hc hle gK hi (Nat.le_refl n) h1 hu h2
         have hb := hkn _ ho
         cases q : f r (othr b i u).toNat with
         | true => rw [f_iff, show (((othr b i u).toNat : Nat) : Int) = othr b i u by omega] at q; exact q.2
         | false =>
           refine absurd ⟨(othr b i u).toNat, by omega, q, ?_⟩ h
           rw [f_iff, show (((othr b i u).toNat : Nat) : Int) = othr b i u by omega]
           exact ⟨ho, e⟩
       intro i hi
       refine ⟨fun h => ?_, fun h => ?_⟩
       · have := one i hi _ (inc_iff.2 (.inl rfl)) h
         rwa [show othr b i (b i 0) = b i 1 by unfold othr; omega] at this
       · have := one i hi _ (inc_iff.2 (.inr rfl)) h
         rwa [show othr b i (b i 1) = b i 0 by unfold othr; omega] at this
     have m0 : m ∈ grp n b s ∧ fwR n b r m = m := by
       refine ⟨hm, ?_⟩
       have h1 := hle _ ((gK (r := r) m).1 hm)
       have : ∀ r, fwR n b r m ≤ m := fun r => by
         induction r with
         | zero => exact Int.le_refl _
         | succ r ih => have := fwR_le (n := n) (b := b) (r := r) (v := m); omega
       have := this r
       omega
     have : s ∈ grp n b s ∧ fwR n b r s = m := by
       apply Classical.byContradiction
       intro ns
       exact grp_min (P := fun v => ¬ (v ∈ grp n b s ∧ fwR n b r v = m)) (fun i hi => not_congr (clo i hi)) ns hm m0
     exact (grp_min clo this hv).2
 have grow : ∀ r, (∀ v ∈ grp n b s, fwR n b r v = m) ∨ r + 1 ≤ cntN N (f r) := fun r => by
   induction r with
   | zero =>
     refine .inr ?_
     have hb := hkn m hm
     have := cntN_lt (n := N) (i := m.toNat) (p := fun _ => false) (q := f 0) (by omega) (fun _ _ h => by cases h) rfl (by rw [f_iff, show ((m.toNat : Nat) : Int) = m by omega]; exact ⟨hm, rfl⟩)
     omega
   | succ r ih =>
     rcases ih with ih | ih
     · exact .inl fun v hv => fwB_keep hc hle gK hv (ih v hv)
     · rcases step r with h | h
       · exact .inl fun v hv => fwB_keep hc hle gK hv (h v hv)
       · exact .inr (by omega)
 rcases grow N with h | h
 · exact h
 · have := cntN_max (p := f N) (n := N); omega
end
def meets (n : Nat) (b : Nat → Nat → Int) (v : Int) : Nat := cntN n fun i => inc b i v
theorem cnt_odd {p : Nat → Bool} : ∀ {n : Nat}, xorN n p = decide (cntN n p % 2 = 1)
 | 0 => rfl
 | n + 1 => by
   rw [xorN, cntN, cnt_odd]
   cases p n with
   | false => simp
   | true =>
     simp only [if_true, Bool.xor_true]
     rw [← decide_not]
     apply decide_eq_decide.2
     omega
theorem oddB_meets {n : Nat} {b : Nat → Nat → Int} {v : Int} : oddB n b v = decide (meets n b v % 2 = 1) := cnt_odd
theorem meets_pos {n : Nat} {b : Nat → Nat → Int} {v : Int} : 0 < meets n b v ↔ ∃ i, i < n ∧ inc b i v = true := by
 unfold meets
 have : ∀ {n : Nat} {p : Nat → Bool}, 0 < cntN n p ↔ ∃ i, i < n ∧ p i = true := by
   intro n p
   induction n with
   | zero => simp [cntN]
   | succ n ih =>
     rw [cntN]
     constructor
     · intro h
       by_cases c : p n = true
       · exact ⟨n, by omega, c⟩
       · rw [if_neg c] at h
         obtain ⟨i, h1, h2⟩ := ih.1 (by omega)
         exact ⟨i, by omega, h2⟩
     · intro ⟨i, h1, h2⟩
       by_cases c : i = n
       · subst c; rw [if_pos h2]; omega
       · have := ih.2 ⟨i, by omega, h2⟩; omega
 exact this
def anyG (N n : Nat) (b : Nat → Nat → Int) (G : Int → Int) (g : Nat) : Nat → Bool
 | 0 => false
 | i + 1 => anyG N n b G g i || (decide (G (i : Int) = g) && decide (0 < meets n b (i : Int)))
def oddG (n : Nat) (b : Nat → Nat → Int) (G : Int → Int) (g : Nat) : Nat → Nat
 | 0 => 0
 | i + 1 => oddG n b G g i + if G (i : Int) = g ∧ 0 < meets n b (i : Int) then meets n b (i : Int) % 2 else 0
def needG (N n : Nat) (b : Nat → Nat → Int) (G : Int → Int) (g : Nat) : Nat := if anyG N n b G g N = true then max 1 (oddG n b G g N / 2) else 0
def sumF : Nat → (Nat → Nat) → Nat
 | 0, _ => 0
 | n + 1, f => sumF n f + f n
def few (N n : Nat) (b : Nat → Nat → Int) : Nat := sumF N (needG N n b (fwR n b N))
theorem anyG_iff {N n : Nat} {b : Nat → Nat → Int} {G : Int → Int} {g : Nat} : ∀ {i : Nat}, anyG N n b G g i = true ↔ ∃ v : Nat, v < i ∧ G v = g ∧ 0 < meets n b v
 | 0 => by simp [anyG]
 | i + 1 => by
   rw [anyG, Bool.or_eq_true, anyG_iff, Bool.and_eq_true, decide_eq_true_eq, decide_eq_true_eq]
   constructor
   · rintro (⟨v, h1, h2⟩ | h)
     · exact ⟨v, by omega, h2⟩
     · exact ⟨i, by omega, h⟩
   · intro ⟨v, h1, h2⟩
     by_cases c : v = i
     · subst c; exact .inr h2
     · exact .inl ⟨v, by omega, h2⟩
theorem sumF_congr {f g : Nat → Nat} : ∀ {n : Nat}, (∀ i, i < n → f i = g i) → sumF n f = sumF n g
 | 0, _ => rfl
 | n + 1, h => by rw [sumF, sumF, sumF_congr fun i hi => h i (by omega), h n (by omega)]
theorem sumF_le {f g : Nat → Nat} : ∀ {n : Nat}, (∀ i, i < n → f i ≤ g i) → sumF n f ≤ sumF n g
 | 0, _ => Nat.le_refl _
 | n + 1, h => by
   have := sumF_le (f := f) (g := g) (n := n) fun i hi => h i (by omega)
   have := h n (by omega)
   rw [sumF, sumF]; omega
theorem sumF_one {f g : Nat → Nat} {k d : Nat} : ∀ {n : Nat}, k < n → (∀ i, i < n → i ≠ k → f i = g i) → f k = g k + d → sumF n f = sumF n g + d
 | 0, h, _, _ => by omega
 | n + 1, h, hn, hk => by
   rw [sumF, sumF]
   by_cases c : k = n
   · subst c
     rw [sumF_congr (f := f) (g := g) fun i hi => hn i (by omega) (by omega), hk]; omega
   · rw [sumF_one (n := n) (by omega) (fun i hi => hn i (by omega)) hk, hn n (by omega) fun e => c e.symm]; omega
theorem sumF_zero {f : Nat → Nat} : ∀ {n : Nat}, (∀ i, i < n → f i = 0) → sumF n f = 0
 | 0, _ => rfl
 | n + 1, h => by rw [sumF, sumF_zero fun i hi => h i (by omega), h n (by omega)]
theorem cnt_list {N : Nat} : ∀ {l : List Int}, l.Nodup → (∀ v ∈ l, 0 ≤ v ∧ v < N) → cntN N (fun v => decide ((v : Int) ∈ l)) = l.length
 | [], _, _ => by
   have : ∀ {n : Nat}, cntN n (fun v => decide ((v : Int) ∈ ([] : List Int))) = 0 := by
     intro n
     induction n with
     | zero => rfl
     | succ n ih => rw [cntN, ih]; simp
   exact this
 | x :: l, h, hb => by
   obtain ⟨h1, h2⟩ := List.nodup_cons.1 h
   have ih := cnt_list (N := N) h2 fun v hv => hb v (List.mem_cons.2 (.inr hv))
   have hx := hb x (List.mem_cons.2 (.inl rfl))
   rw [List.length_cons, ← ih]
   have : ∀ {n : Nat}, cntN n (fun v => decide ((v : Int) ∈ x :: l)) = cntN n (fun v => decide ((v : Int) ∈ l)) + if x.toNat < n then 1 else 0 := by
     intro n
     induction n with
     | zero => simp [cntN]
     | succ n ihn =>
       rw [cntN, cntN, ihn]
       by_cases c : x.toNat = n
       · have e : (n : Int) = x := by omega
         rw [e, if_neg (show ¬ x.toNat < n by omega), if_pos (show x.toNat < n + 1 by omega), if_pos (by simp), if_neg (by simp [h1])]
       · have e : ¬ (n : Int) = x := by omega
         have q : decide ((n : Int) ∈ x :: l) = decide ((n : Int) ∈ l) := by
           apply decide_eq_decide.2
           rw [List.mem_cons]
           exact ⟨fun h => h.resolve_left e, .inr⟩
         rw [q]
         by_cases d : x.toNat < n
         · rw [if_pos d, if_pos (show x.toNat < n + 1 by omega)]; omega
         · rw [if_neg d, if_neg (show ¬ x.toNat < n + 1 by omega)]; omega
   rw [this, if_pos (by omega)]
end Nm
namespace Nm
open Go Go.Sx
theorem cntN_pos {p : Nat → Bool} : ∀ {n : Nat}, 0 < cntN n p ↔ ∃ i, i < n ∧ p i = true
 | 0 => by simp [cntN]
 | n + 1 => by
   rw [cntN]
   constructor
   · intro h
     by_cases c : p n = true
     · exact ⟨n, by omega, c⟩
     · rw [if_neg c] at h
       obtain ⟨i, h1, h2⟩ := cntN_pos.1 (show 0 < cntN n p by omega)
       exact ⟨i, by omega, h2⟩
   · intro ⟨i, h1, h2⟩
     by_cases c : i = n
     · subst c; rw [if_pos h2]; omega
     · have := cntN_pos.2 (⟨i, by omega, h2⟩ : ∃ i, i < n ∧ p i = true); omega
structure BrOk (N n : Nat) (b : Nat → Nat → Int) : Prop where
 N36 : N ≤ 36
 lt : ∀ i, i < n → b i 0 < b i 1
 dif : ∀ i, i < n → ∀ j, j < n → b i 0 = b j 0 → b i 1 = b j 1 → i = j
 kn : ∀ i, i < n → (0 ≤ b i 0 ∧ b i 0 < N) ∧ 0 ≤ b i 1 ∧ b i 1 < N
theorem BrOk.k36 {N n : Nat} {b : Nat → Nat → Int} (B : BrOk N n b) : ∀ i, i < n → (0 ≤ b i 0 ∧ b i 0 < 36) ∧ 0 ≤ b i 1 ∧ b i 1 < 36 := fun i hi => by
 have := B.kn i hi; have := B.N36; omega
def lab (N n : Nat) (b : Nat → Nat → Int) : Int → Int := fwR n b N
theorem BrOk.cls {N n : Nat} {b : Nat → Nat → Int} (B : BrOk N n b) {s : Int} (hs : 0 ≤ s ∧ s < N) : Cls n b (· ∈ grp n b s) := grp_cls B.k36 (by have := B.N36; omega)
theorem BrOk.in_grp {N n : Nat} {b : Nat → Nat → Int} (B : BrOk N n b) {s : Int} (hs : 0 ≤ s ∧ s < N) {v : Int} : v ∈ grp n b s ↔ lab N n b v = lab N n b s := by
 obtain ⟨m, hm, h⟩ := fwR_same B.N36 B.kn hs
 have c := fwR_cls (B.cls hs) (r := N)
 constructor
 · intro hv
   unfold lab
   rw [h v hv, h s grp_self]
 · intro e
   unfold lab at e
   rw [h s grp_self] at e
   rw [c v, e]; exact hm
theorem BrOk.lab_bar {N n : Nat} {b : Nat → Nat → Int} (B : BrOk N n b) {i : Nat} (hi : i < n) : lab N n b (b i 0) = lab N n b (b i 1) := by
 have hs := (B.kn i hi).1
 exact ((B.in_grp hs).1 ((B.cls hs i hi).1 grp_self)).symm
theorem BrOk.lab_inc {N n : Nat} {b : Nat → Nat → Int} (B : BrOk N n b) {i : Nat} (hi : i < n) {v : Int} (hv : inc b i v = true) : lab N n b v = lab N n b (b i 0) := by
 rcases inc_iff.1 hv with rfl | rfl
 · rfl
 · exact (B.lab_bar hi).symm
theorem BrOk.lab_rng {N n : Nat} {b : Nat → Nat → Int} (B : BrOk N n b) {s : Int} (hs : 0 ≤ s ∧ s < N) : 0 ≤ lab N n b s ∧ lab N n b s < N := by
 have c : Cls n b fun v => 0 ≤ v ∧ v < (N : Int) := fun i hi => ⟨fun _ => (B.kn i hi).2, fun _ => (B.kn i hi).1⟩
 exact (fwR_cls c (r := N) s).1 hs
def oddL (n : Nat) (b : Nat → Nat → Int) (s : Int) : List Int := (grp n b s).filter (oddB n b)
theorem oddL_mem {n : Nat} {b : Nat → Nat → Int} {s v : Int} : v ∈ oddL n b s ↔ v ∈ grp n b s ∧ oddB n b v = true := by
 unfold oddL; rw [List.mem_filter]
theorem oddL_nod {n : Nat} {b : Nat → Nat → Int} {s : Int} : (oddL n b s).Nodup := by
 unfold oddL; exact grp_nod.sublist List.filter_sublist
theorem oddL_even {N n : Nat} {b : Nat → Nat → Int} (B : BrOk N n b) {s : Int} (hs : 0 ≤ s ∧ s < N) : ∃ m, (oddL n b s).length = 2 * m := by
 unfold oddL; exact odd_even (fun i hi => Int.ne_of_lt (B.lt i hi)) grp_nod (B.cls hs)
def gone (N n : Nat) (b : Nat → Nat → Int) (lf : Nat → Bool) (g : Nat) : Nat := cntN n fun j => decide (lab N n b (b j 0) = (g : Int)) && !lf j
structure MdInv (N n : Nat) (b : Nat → Nat → Int) (lf : Nat → Bool) (L : List (List Int)) : Prop where
 cnt : ∀ j, j < n → cntL b j L = if lf j = true then 0 else 1
 ok : ∀ p ∈ L, PcOk n b p
 uni : ∀ i, i < n → ∀ j, j < n → lab N n b (b i 0) = lab N n b (b j 0) → lf i = lf j
 num : L.length = sumF N fun g => if 0 < gone N n b lf g then needG N n b (lab N n b) g else 0
theorem gone_iff {N n : Nat} {b : Nat → Nat → Int} {lf : Nat → Bool} {g : Nat} : 0 < gone N n b lf g ↔ ∃ j, j < n ∧ lab N n b (b j 0) = (g : Int) ∧ lf j = false := by
 unfold gone
 rw [cntN_pos]
 constructor
 · rintro ⟨j, h1, h2⟩
   rw [Bool.and_eq_true, decide_eq_true_eq, Bool.not_eq_true'] at h2
   exact ⟨j, h1, h2⟩
 · rintro ⟨j, h1, h2, h3⟩
   exact ⟨j, h1, by rw [decide_eq_true h2, h3]; rfl⟩
theorem MdInv.start {N n : Nat} {b : Nat → Nat → Int} : MdInv N n b (fun j => decide (j < n)) [] := by
 refine ⟨fun j hj => by rw [decide_eq_true hj]; rfl, fun p h => (by cases h), fun i hi j hj _ => by rw [decide_eq_true hi, decide_eq_true hj], ?_⟩
 symm
 refine sumF_zero fun g _ => ?_
 rw [if_neg]
 intro h
 obtain ⟨j, h1, _, h3⟩ := gone_iff.1 h
 rw [decide_eq_true h1] at h3; cases h3
theorem MdInv.pre {N n : Nat} {b : Nat → Nat → Int} (B : BrOk N n b) {lf : Nat → Bool} {L : List (List Int)} (M : MdInv N n b lf L) {i : Nat} (hi : i < n) (hl : lf i = true) : SpPre n b (· ∈ grp n b (b i 0)) ⟨lf, jnL (oddL n b (b i 0))⟩ (b i 0) (b i 0) := by
 have hs := (B.kn i hi).1
 have nod : (oddL n b (b i 0)).Nodup := oddL_nod
 have hkn : ∀ v ∈ grp n b (b i 0), 0 ≤ v ∧ v < 36 := fun v hv => grpK_kn (s := b i 0) B.k36 (by have := B.N36; omega) (i := 36) v (by rw [← grp_eq]; exact hv)
 refine ⟨⟨fun v w h => ?_, fun v w h => ?_⟩, grp_self, fun v hv => ?_⟩
 · obtain ⟨h1, h2⟩ := jnL_sy nod h
   exact ⟨h1, h2, (oddL_mem.1 (jnL_mem h).1).1⟩
 · exact hkn v (oddL_mem.1 (jnL_mem h).1).1
 · obtain ⟨m, hm⟩ := oddL_even B hs
   have e1 : xorN n (fun j => lf j && inc b j v) = oddB n b v := xorN_congr fun j hj => by
     cases q : inc b j v with
     | false => rw [Bool.and_false]
     | true =>
       have e : lab N n b (b j 0) = lab N n b (b i 0) := (B.lab_inc hj q).symm.trans ((B.in_grp hs).1 hv)
       rw [M.uni j hj i hi e, hl]; rfl
   have e2 : (jnL (oddL n b (b i 0)) v).isSome = oddB n b v := by
     rw [jnL_some hm]
     rw [Bool.eq_iff_iff, decide_eq_true_eq, oddL_mem]
     exact ⟨fun h => h.2, fun h => ⟨hv, h⟩⟩
   show (xorN n (fun j => lf j && inc b j v) ^^ (jnL (oddL n b (b i 0)) v).isSome) = _
   rw [e1, e2]
   cases oddB n b v <;> cases decide (v = b i 0) <;> rfl
theorem wlkC {n : Nat} {b : Nat → Nat → Int} {C : Int → Prop} (hc : Cls n b C) {s : SpS} (hj : ∀ v w, s.jn v = some w → C v) : ∀ {l : List Th} {e k : Int}, C e → Walk e l k → (∀ x ∈ l, ThOk n b s x) → ∀ x ∈ l, C x.f ∧ C x.t
 | [], _, _, _, _, _, x, hx => by cases hx
 | y :: l, e, k, he, w, ok, x, hx => by
   have o := ok y (List.mem_cons.2 (.inl rfl))
   have cf : C y.f := by rw [w.1]; exact he
   have ct : C y.t := by
     unfold ThOk at o
     cases q : y.q with
     | none => rw [q] at o; exact hj _ _ o.2
     | some i =>
       rw [q] at o
       rcases o.2.2 with ⟨e1, e2⟩ | ⟨e1, e2⟩
       · rw [e2, ← hc i o.1, ← e1]; exact cf
       · rw [e2, hc i o.1, ← e1]; exact cf
   rcases List.mem_cons.1 hx with rfl | hx
   · exact ⟨cf, ct⟩
   · exact wlkC hc hj ct w.2 (fun z hz => ok z (List.mem_cons.2 (.inr hz))) x hx
theorem sub_len {l m : List Int} (h : l.Nodup) (hs : ∀ x ∈ l, x ∈ m) : l.length ≤ m.length := by
 induction l generalizing m with
 | nil => exact Nat.zero_le _
 | cons x l ih =>
   obtain ⟨h1, h2⟩ := List.nodup_cons.1 h
   have hx := hs x (List.mem_cons.2 (.inl rfl))
   have := ih h2 (m := m.erase x) fun y hy => (List.mem_erase_of_ne (by rintro rfl; exact h1 hy)).2 (hs y (List.mem_cons.2 (.inr hy)))
   rw [List.length_erase_of_mem hx] at this
   have : 0 < m.length := List.length_pos_of_mem hx
   rw [List.length_cons]; omega
def virE : List Th → List Int
 | [] => []
 | x :: l => if x.q.isNone then x.f :: x.t :: virE l else virE l
theorem virE_len : ∀ {l : List Th}, (virE l).length = 2 * virN l
 | [] => rfl
 | x :: l => by
   have ih := virE_len (l := l)
   unfold virN at ih ⊢
   rw [virE, List.countP_cons]
   cases x.q.isNone with
   | false => simp only [Bool.false_eq_true, if_false]; omega
   | true => simp only [if_true, List.length_cons]; omega
theorem virE_mem {v : Int} : ∀ {l : List Th}, v ∈ virE l ↔ ∃ x ∈ l, x.q = none ∧ (x.f = v ∨ x.t = v)
 | [] => by simp [virE]
 | x :: l => by
   have ih := virE_mem (v := v) (l := l)
   rw [virE]
   cases q : x.q with
   | none =>
     simp only [Option.isNone_none, if_true, List.mem_cons, ih]
     constructor
     · rintro (rfl | rfl | ⟨y, hy, h⟩)
       · exact ⟨x, .inl rfl, q, .inl rfl⟩
       · exact ⟨x, .inl rfl, q, .inr rfl⟩
       · exact ⟨y, .inr hy, h⟩
     · rintro ⟨y, rfl | hy, h1, h2⟩
       · rcases h2 with h2 | h2
         · exact .inl h2.symm
         · exact .inr (.inl h2.symm)
       · exact .inr (.inr ⟨y, hy, h1, h2⟩)
   | some i =>
     simp only [Option.isNone_some, Bool.false_eq_true, if_false, ih, List.mem_cons]
     constructor
     · rintro ⟨y, hy, h⟩; exact ⟨y, .inr hy, h⟩
     · rintro ⟨y, rfl | hy, h1, h2⟩
       · rw [q] at h1; cases h1
       · exact ⟨y, hy, h1, h2⟩
theorem virE_nod : ∀ {l : List Th}, l.Pairwise ThNe → (∀ x ∈ l, x.q = none → x.f ≠ x.t) → (virE l).Nodup
 | [], _, _ => List.nodup_nil
 | x :: l, h, hne => by
   obtain ⟨h1, h2⟩ := List.pairwise_cons.1 h
   have ih := virE_nod h2 fun y hy => hne y (List.mem_cons.2 (.inr hy))
   rw [virE]
   cases q : x.q with
   | some i => exact ih
   | none =>
     simp only [Option.isNone_none, if_true]
     rw [List.nodup_cons, List.nodup_cons]
     refine ⟨fun hm => ?_, fun hm => ?_, ih⟩
     · rcases List.mem_cons.1 hm with e | hm
       · exact hne x (List.mem_cons.2 (.inl rfl)) q e
       · obtain ⟨y, hy, h3, h4⟩ := virE_mem.1 hm
         have := (h1 y hy).2 q h3
         rcases h4 with h4 | h4
         · exact this.1 h4.symm
         · exact this.2.1 h4.symm
     · obtain ⟨y, hy, h3, h4⟩ := virE_mem.1 hm
       have := (h1 y hy).2 q h3
       rcases h4 with h4 | h4
       · exact this.2.2.1 h4.symm
       · exact this.2.2.2 h4.symm
theorem MdInv.step {N n : Nat} {b : Nat → Nat → Int} (B : BrOk N n b) {lf : Nat → Bool} {L : List (List Int)} (M : MdInv N n b lf L) {i : Nat} (hi : i < n) (hl : lf i = true) {s' : SpS} {W : List Th} (S : SpPost n b (· ∈ grp n b (b i 0)) ⟨lf, jnL (oddL n b (b i 0))⟩ (b i 0) (b i 0) s' W) : MdInv N n b s'.lf (L ++ cutF W) := by
 have hs := (B.kn i hi).1
 have P := M.pre B hi hl
 have hc := B.cls hs
 have hin := wlkC hc (fun v w h => (P.jo.sy v w h).2.2) P.ck S.walk S.acc.ok
 have vis : ∀ v ∈ grp n b (b i 0), v = b i 0 ∨ seen W v := fun v hv => by
   have used : ∀ j, j < n → ∀ u, inc b j u = true → u ∈ grp n b (b i 0) → (u = b i 0 ∨ seen W u) → seen W (othr b j u) := fun j hj u hu hK hu2 => by
     have c := (S.clo u hu2).1 j hj hu
     have e : lab N n b (b j 0) = lab N n b (b i 0) := (B.lab_inc hj hu).symm.trans ((B.in_grp hs).1 hK)
     have hlj : lf j = true := by rw [M.uni j hj i hi e, hl]
     have := S.acc.lf j
     rw [c] at this
     have this : false = (lf j && !usedB W j) := this
     rw [hlj] at this
     have hu3 : usedB W j = true := by
       cases q : usedB W j with
       | true => rfl
       | false => rw [q] at this; cases this
     obtain ⟨x, hx, q⟩ := usedB_iff.1 hu3
     have o := S.acc.ok x hx
     unfold ThOk at o
     rw [q] at o
     refine ⟨x, hx, ?_⟩
     rcases othr_of hu with ⟨_, e2⟩ | ⟨_, e2⟩
     · rw [e2]; rcases o.2.2 with ⟨o1, o2⟩ | ⟨o1, o2⟩
       · exact .inr o2
       · exact .inl o1
     · rw [e2]; rcases o.2.2 with ⟨o1, o2⟩ | ⟨o1, o2⟩
       · exact .inl o1
       · exact .inr o2
   have key : Cls n b fun v => v ∈ grp n b (b i 0) → (v = b i 0 ∨ seen W v) := fun j hj => by
     refine ⟨fun h hK => ?_, fun h hK => ?_⟩
     · have hK0 := (hc j hj).2 hK
       have := used j hj (b j 0) (inc_iff.2 (.inl rfl)) hK0 (h hK0)
       rw [show othr b j (b j 0) = b j 1 by unfold othr; omega] at this
       exact .inr this
     · have hK0 := (hc j hj).1 hK
       have := used j hj (b j 1) (inc_iff.2 (.inr rfl)) hK0 (h hK0)
       rw [show othr b j (b j 1) = b j 0 by unfold othr; omega] at this
       exact .inr this
   exact grp_min key (fun _ => .inl rfl) hv hv
 have usedI : ∀ j, j < n → (usedB W j = true ↔ lab N n b (b j 0) = lab N n b (b i 0)) := fun j hj => by
   constructor
   · intro h
     obtain ⟨x, hx, q⟩ := usedB_iff.1 h
     have o := S.acc.ok x hx
     unfold ThOk at o
     rw [q] at o
     have c := hin x hx
     rcases o.2.2 with ⟨o1, _⟩ | ⟨_, o2⟩
     · rw [← o1]; exact (B.in_grp hs).1 c.1
     · rw [← o2]; exact (B.in_grp hs).1 c.2
   · intro e
     have c := (S.clo _ (vis _ ((B.in_grp hs).2 e))).1 j hj (inc_iff.2 (.inl rfl))
     have := S.acc.lf j
     rw [c] at this
     have this : false = (lf j && !usedB W j) := this
     rw [M.uni j hj i hi e, hl] at this
     cases q : usedB W j with
     | true => rfl
     | false => rw [q] at this; cases this
 have neW : W ≠ [] := fun e => by
   have := (usedI i hi).2 rfl
   rw [e] at this; cases this
 have C := cut_ok B.lt B.dif (fun v w h => (P.jo.sy v w h).2.1) S.acc S.walk neW
 have lf' : ∀ j, s'.lf j = (lf j && !usedB W j) := S.acc.lf
 have mg := B.lab_rng hs
 have hvir : virN W = (oddL n b (b i 0)).length / 2 := by
   have nodE : (virE W).Nodup := virE_nod S.acc.nod fun x hx q => by
     have o := S.acc.ok x hx
     unfold ThOk at o
     rw [q] at o
     exact (P.jo.sy _ _ o.1).2.1
   have nodO : (oddL n b (b i 0)).Nodup := oddL_nod
   obtain ⟨m, hm⟩ := oddL_even B hs
   have a1 := sub_len nodE (m := oddL n b (b i 0)) fun v hv => by
     obtain ⟨x, hx, q, o⟩ := virE_mem.1 hv
     have ok := S.acc.ok x hx
     unfold ThOk at ok
     rw [q] at ok
     rcases o with rfl | rfl
     · exact (jnL_mem ok.1).1
     · exact (jnL_mem ok.1).2
   have a2 := sub_len nodO (m := virE W) fun v hv => by
     have hK := (oddL_mem.1 hv).1
     have c := (S.clo v (vis v hK)).2
     rw [S.acc.jn] at c
     have hsome : (jnL (oddL n b (b i 0)) v).isSome = true := by rw [jnL_some hm]; exact decide_eq_true hv
     split at c
     · rename_i u
       obtain ⟨x, hx, q, o⟩ := usedJ_iff.1 u
       exact virE_mem.2 ⟨x, hx, q, o⟩
     · have c : jnL (oddL n b (b i 0)) v = none := c
       rw [c] at hsome; cases hsome
   rw [virE_len] at a1 a2
   omega
 refine ⟨fun j hj => ?_, fun p hp => ?_, fun j hj k hk e => ?_, ?_⟩
 · rw [cntL_append, M.cnt j hj, C.cnt j hj, lf']
   have hu := usedI j hj
   cases q : usedB W j with
   | true =>
     have e := hu.1 q
     rw [M.uni j hj i hi e, hl]; rfl
   | false =>
     cases lf j <;> rfl
 · rcases List.mem_append.1 hp with hp | hp
   · exact M.ok p hp
   · exact C.ok p hp
 · rw [lf', lf', M.uni j hj k hk e]
   congr 2
   rw [Bool.eq_iff_iff, usedI j hj, usedI k hk, e]
 · rw [List.length_append, M.num, C.num, hvir]
   symm
   refine sumF_one (k := (lab N n b (b i 0)).toNat) (by omega) (fun g hg hne => ?_) ?_
   · have : (0 < gone N n b s'.lf g) ↔ 0 < gone N n b lf g := by
       rw [gone_iff, gone_iff]
       constructor
       · rintro ⟨j, h1, h2, h3⟩
         refine ⟨j, h1, h2, ?_⟩
         rw [lf'] at h3
         have hu : usedB W j = false := by
           cases q : usedB W j with
           | false => rfl
           | true => have := (usedI j h1).1 q; exact absurd (by omega) hne
         rw [hu] at h3
         simpa using h3
       · rintro ⟨j, h1, h2, h3⟩
         exact ⟨j, h1, h2, by rw [lf', h3]; rfl⟩
     by_cases c : 0 < gone N n b lf g
     · rw [if_pos c, if_pos (this.2 c)]
     · rw [if_neg c, if_neg fun d => c (this.1 d)]
   · have e0 : (((lab N n b (b i 0)).toNat : Nat) : Int) = lab N n b (b i 0) := by omega
     rw [if_pos (gone_iff.2 ⟨i, hi, e0.symm, by rw [lf', (usedI i hi).2 rfl]; simp⟩), if_neg, Nat.zero_add]
     · unfold needG
       rw [if_pos (anyG_iff.2 ⟨(b i 0).toNat, by omega, by rw [show (((b i 0).toNat : Nat) : Int) = b i 0 by omega, e0], by rw [show (((b i 0).toNat : Nat) : Int) = b i 0 by omega]; exact meets_pos.2 ⟨i, hi, inc_iff.2 (.inl rfl)⟩⟩)]
       congr 2
       have nodO : (oddL n b (b i 0)).Nodup := oddL_nod
       have hN : ∀ v ∈ oddL n b (b i 0), 0 ≤ v ∧ v < N := fun v hv => grp_min (P := fun v => 0 ≤ v ∧ v < (N : Int)) (fun j hj => ⟨fun _ => (B.kn j hj).2, fun _ => (B.kn j hj).1⟩) hs (oddL_mem.1 hv).1
       rw [← cnt_list nodO hN]
       have : ∀ {M : Nat}, M ≤ N → oddG n b (lab N n b) (lab N n b (b i 0)).toNat M = cntN M fun v => decide ((v : Int) ∈ oddL n b (b i 0)) := by
         intro M
         induction M with
         | zero => intro _; rfl
         | succ M ih =>
           intro hM
           rw [oddG, cntN, ih (by omega)]
           congr 1
           have hin2 : ((M : Int) ∈ oddL n b (b i 0)) ↔ lab N n b M = lab N n b (b i 0) ∧ oddB n b M = true := by
             rw [oddL_mem, B.in_grp hs]
           rw [e0]
           by_cases c : lab N n b M = lab N n b (b i 0)
           · by_cases d : 0 < meets n b M
             · rw [if_pos ⟨c, d⟩]
               by_cases f : meets n b M % 2 = 1
               · rw [if_pos (decide_eq_true (hin2.2 ⟨c, by rw [oddB_meets]; exact decide_eq_true f⟩)), f]
               · rw [if_neg]
                 · omega
                 · rw [decide_eq_true_eq, hin2, oddB_meets, decide_eq_true_eq]; exact fun h => f h.2
             · rw [if_neg fun h => d h.2, if_neg]
               rw [decide_eq_true_eq, hin2, oddB_meets, decide_eq_true_eq]
               intro h; omega
           · rw [if_neg fun h => c h.1, if_neg]
             rw [decide_eq_true_eq, hin2]; exact fun h => c h.1
       exact this (Nat.le_refl N)
     · intro h
       obtain ⟨j, h1, h2, h3⟩ := gone_iff.1 h
       rw [e0] at h2
       rw [M.uni j h1 i hi h2, hl] at h3; cases h3
theorem MdInv.end_ {N n : Nat} {b : Nat → Nat → Int} (B : BrOk N n b) {lf : Nat → Bool} {L : List (List Int)} (M : MdInv N n b lf L) (h : ∀ j, j < n → lf j = false) : (∀ j, j < n → cntL b j L = 1) ∧ (∀ p ∈ L, PcOk n b p) ∧ L.length = few N n b := by
 refine ⟨fun j hj => by rw [M.cnt j hj, h j hj]; rfl, M.ok, ?_⟩
 rw [M.num]
 unfold few
 refine sumF_congr fun g hg => ?_
 by_cases c : 0 < gone N n b lf g
 · rw [if_pos c]; rfl
 · rw [if_neg c]
   unfold needG
   rw [if_neg]
   intro a
   obtain ⟨v, h1, h2, h3⟩ := anyG_iff.1 a
   obtain ⟨j, h4, h5⟩ := meets_pos.1 h3
   exact c (gone_iff.2 ⟨j, h4, by rw [← B.lab_inc h4 h5]; exact h2, h j h4⟩)
end Nm
namespace Nm
open Go Go.Sx
def hdI (p : List Int) : Int := p.headD 0
def ltI (p : List Int) : Int := p.getLastD 0
def one (p : Prop) [Decidable p] : Nat := if p then 1 else 0
def tchP (n : Nat) (b : Nat → Nat → Int) (v : Int) (p : List Int) : Nat := sumF n fun j => if inc b j v = true then cntP b j p else 0
theorem sumF_add {f g : Nat → Nat} : ∀ {n : Nat}, sumF n (fun i => f i + g i) = sumF n f + sumF n g
 | 0 => rfl
 | n + 1 => by rw [sumF, sumF, sumF, sumF_add]; omega
theorem inc_one {b : Nat → Nat → Int} {i : Nat} (hne : b i 0 ≠ b i 1) (v : Int) : (if inc b i v = true then 1 else 0) = one (v = b i 0) + one (v = b i 1) := by
 unfold one
 by_cases h0 : v = b i 0
 · have h1 : ¬ v = b i 1 := by rw [h0]; exact hne
   rw [if_pos (inc_iff.2 (.inl h0.symm)), if_pos h0, if_neg h1]
 · by_cases h1 : v = b i 1
   · rw [if_pos (inc_iff.2 (.inr h1.symm)), if_neg h0, if_pos h1]
   · rw [if_neg (c := v = b i 0) h0, if_neg (c := v = b i 1) h1, if_neg]
     intro h
     rcases inc_iff.1 h with h | h
     · exact h0 h.symm
     · exact h1 h.symm
section
variable {N n : Nat} {b : Nat → Nat → Int}
theorem step_bar (B : BrOk N n b) {x y : Int} {j : Nat} (hj : j < n) (h : barEq b (imin x y) (imax x y) j = true) : (x = b j 0 ∧ y = b j 1) ∨ (x = b j 1 ∧ y = b j 0) := by
 obtain ⟨h0, h1⟩ := barEq_iff.1 h
 have := B.lt j hj
 unfold imin at h0
 unfold imax at h1
 split at h0 <;> split at h1 <;> omega
theorem tch_step (B : BrOk N n b) {x y : Int} (h : ∃ j, j < n ∧ barEq b (imin x y) (imax x y) j = true) (v : Int) : sumF n (fun j => if inc b j v = true then stp b x y j else 0) = one (v = x) + one (v = y) := by
 obtain ⟨j, hj, hb⟩ := h
 have he := step_bar B hj hb
 obtain ⟨_, hs⟩ := stp_bar B.lt B.dif hj he
 have := sumF_one (f := fun i => if inc b i v = true then stp b x y i else 0) (g := fun _ => 0) (k := j) (d := if inc b j v = true then 1 else 0) hj (fun i hi hne => by
   show (if inc b i v = true then stp b x y i else 0) = 0
   rw [hs i hi, if_neg hne]; split <;> rfl) (by
   show (if inc b j v = true then stp b x y j else 0) = _
   rw [hs j hj, if_pos rfl]; omega)
 rw [this, sumF_zero fun _ _ => rfl, inc_one (Int.ne_of_lt (B.lt j hj))]
 rcases he with ⟨rfl, rfl⟩ | ⟨rfl, rfl⟩ <;> omega
theorem tch_par (B : BrOk N n b) (v : Int) : ∀ {p : List Int}, p ≠ [] → hasP n b p → tchP n b v p % 2 = (one (v = hdI p) + one (v = ltI p)) % 2
 | [], h, _ => absurd rfl h
 | [x], _, _ => by
   have : tchP n b v [x] = 0 := sumF_zero fun j _ => by show (if inc b j v = true then 0 else 0) = 0; split <;> rfl
   rw [this]
   show 0 = (one (v = x) + one (v = x)) % 2
   omega
 | x :: y :: l, _, h => by
   have ih := tch_par B v (p := y :: l) (by simp) h.2
   have e : tchP n b v (x :: y :: l) = sumF n (fun j => if inc b j v = true then stp b x y j else 0) + tchP n b v (y :: l) := by
     unfold tchP
     rw [← sumF_add]
     refine sumF_congr fun j _ => ?_
     show (if inc b j v = true then stp b x y j + cntP b j (y :: l) else 0) = _
     split <;> omega
   rw [e, tch_step B h.1]
   have e1 : hdI (y :: l) = y := rfl
   have e2 : hdI (x :: y :: l) = x := rfl
   have e3 : ltI (x :: y :: l) = ltI (y :: l) := by unfold ltI; simp
   rw [e1] at ih
   rw [e2, e3]
   omega
def endsL (v : Int) : List (List Int) → Nat
 | [] => 0
 | p :: l => one (v = hdI p) + one (v = ltI p) + endsL v l
theorem tch_all (B : BrOk N n b) (v : Int) : ∀ {L : List (List Int)}, (∀ p ∈ L, PcOk n b p) → sumF n (fun j => if inc b j v = true then cntL b j L else 0) % 2 = endsL v L % 2
 | [], _ => by
   have : sumF n (fun j => if inc b j v = true then cntL b j [] else 0) = 0 := sumF_zero fun j _ => by show (if inc b j v = true then 0 else 0) = 0; split <;> rfl
   rw [this]; rfl
 | p :: L, h => by
   have ih := tch_all B v (L := L) fun q hq => h q (List.mem_cons.2 (.inr hq))
   have hp := h p (List.mem_cons.2 (.inl rfl))
   have e : sumF n (fun j => if inc b j v = true then cntL b j (p :: L) else 0) = tchP n b v p + sumF n (fun j => if inc b j v = true then cntL b j L else 0) := by
     unfold tchP
     rw [← sumF_add]
     refine sumF_congr fun j _ => ?_
     show (if inc b j v = true then cntP b j p + cntL b j L else 0) = _
     split <;> omega
   have hpar := tch_par B v (p := p) (fun e => by have := hp.1; rw [e] at this; exact absurd this (by decide)) hp.2
   rw [e]
   show _ = (one (v = hdI p) + one (v = ltI p) + endsL v L) % 2
   omega
theorem cnt_sum {p : Nat → Bool} : ∀ {n : Nat}, cntN n p = sumF n fun j => if p j = true then 1 else 0
 | 0 => rfl
 | n + 1 => by rw [cntN, sumF, cnt_sum]
theorem ends_par (B : BrOk N n b) {L : List (List Int)} (h1 : ∀ j, j < n → cntL b j L = 1) (h2 : ∀ p ∈ L, PcOk n b p) (v : Int) : endsL v L % 2 = meets n b v % 2 := by
 rw [← tch_all B v h2]
 congr 1
 unfold meets
 rw [cnt_sum]
 refine sumF_congr fun j hj => ?_
 rw [h1 j hj]
theorem lab_piece (B : BrOk N n b) : ∀ {p : List Int}, hasP n b p → ∀ v ∈ p, lab N n b v = lab N n b (hdI p)
 | [], _, v, hv => by cases hv
 | [x], _, v, hv => by rw [List.mem_singleton.1 hv]; rfl
 | x :: y :: l, h, v, hv => by
   have ih := lab_piece B (p := y :: l) h.2
   obtain ⟨j, hj, hb⟩ := h.1
   have e : lab N n b x = lab N n b y := by
     rcases step_bar B hj hb with ⟨e1, e2⟩ | ⟨e1, e2⟩
     · rw [e1, e2]; exact B.lab_bar hj
     · rw [e1, e2]; exact (B.lab_bar hj).symm
   rcases List.mem_cons.1 hv with rfl | hv
   · rfl
   · rw [ih v hv]; exact e.symm
theorem ltI_mem : ∀ {p : List Int}, p ≠ [] → ltI p ∈ p
 | [], h => absurd rfl h
 | [x], _ => by simp [ltI]
 | x :: y :: l, _ => by
   have := ltI_mem (p := y :: l) (by simp)
   have e : ltI (x :: y :: l) = ltI (y :: l) := by unfold ltI; simp
   rw [e]; exact List.mem_cons.2 (.inr this)
theorem hdI_mem : ∀ {p : List Int}, p ≠ [] → hdI p ∈ p
 | [], h => absurd rfl h
 | x :: l, _ => by simp [hdI]
theorem knot_rng (B : BrOk N n b) : ∀ {p : List Int}, 2 ≤ p.length → hasP n b p → ∀ v ∈ p, 0 ≤ v ∧ v < N
 | [], h, _, _, _ => by simp at h
 | [_], h, _, _, _ => by simp at h
 | x :: y :: l, _, h, v, hv => by
   obtain ⟨j, hj, hb⟩ := h.1
   have k := B.kn j hj
   have xy : (0 ≤ x ∧ x < N) ∧ 0 ≤ y ∧ y < N := by
     rcases step_bar B hj hb with ⟨e1, e2⟩ | ⟨e1, e2⟩
     · rw [e1, e2]; exact k
     · rw [e1, e2]; exact ⟨k.2, k.1⟩
   rcases List.mem_cons.1 hv with rfl | hv
   · exact xy.1
   · cases l with
     | nil => rw [List.mem_singleton.1 hv]; exact xy.2
     | cons z l => exact knot_rng B (p := y :: z :: l) (by simp) h.2 v hv
def ofG (N n : Nat) (b : Nat → Nat → Int) (L : List (List Int)) (g : Nat) : Nat := L.countP fun p => decide (lab N n b (hdI p) = (g : Int))
theorem ofG_sum (B : BrOk N n b) : ∀ {L : List (List Int)}, (∀ p ∈ L, PcOk n b p) → sumF N (ofG N n b L) = L.length
 | [], _ => sumF_zero fun _ _ => rfl
 | p :: L, h => by
   have ih := ofG_sum B (L := L) fun q hq => h q (List.mem_cons.2 (.inr hq))
   have hp := h p (List.mem_cons.2 (.inl rfl))
   have ne : p ≠ [] := fun e => by have := hp.1; rw [e] at this; exact absurd this (by decide)
   have r := B.lab_rng (knot_rng B hp.1 hp.2 _ (hdI_mem ne))
   rw [List.length_cons, ← ih]
   refine sumF_one (k := (lab N n b (hdI p)).toNat) (by omega) (fun g hg hne => ?_) ?_
   · unfold ofG
     rw [List.countP_cons, if_neg]
     · rfl
     · rw [decide_eq_true_eq]; intro e; omega
   · unfold ofG
     rw [List.countP_cons, if_pos]
     rw [decide_eq_true_eq]; omega
theorem sum_one {v : Int} {M : Nat} {p : Nat → Prop} [DecidablePred p] : sumF M (fun u => if p u then one ((u : Int) = v) else 0) = if 0 ≤ v ∧ v < M ∧ p v.toNat then 1 else 0 := by
 induction M with
 | zero => rw [if_neg (by omega)]; rfl
 | succ M ih =>
   rw [sumF, ih]
   unfold one
   by_cases c : (M : Int) = v
   · rw [if_neg (show ¬ (0 ≤ v ∧ v < M ∧ p v.toNat) by omega)]
     have e : v.toNat = M := by omega
     by_cases d : p M
     · rw [if_pos d, if_pos c, if_pos ⟨by omega, by omega, by rw [e]; exact d⟩]
     · rw [if_neg d, if_neg fun h => d (by rw [← e]; exact h.2.2)]
   · have : (if p M then (if (M : Int) = v then 1 else 0) else 0) = 0 := by split <;> simp [c]
     rw [this]
     by_cases d : 0 ≤ v ∧ v < M ∧ p v.toNat
     · rw [if_pos d, if_pos ⟨d.1, by omega, d.2.2⟩]
     · rw [if_neg d, if_neg fun h => d ⟨h.1, by omega, h.2.2⟩]
theorem ends_grp (B : BrOk N n b) (g : Nat) : ∀ {L : List (List Int)}, (∀ p ∈ L, PcOk n b p) → sumF N (fun v => if lab N n b v = (g : Int) then endsL v L else 0) = 2 * ofG N n b L g
 | [], _ => sumF_zero fun v _ => by show (if _ then 0 else 0) = 0; split <;> rfl
 | p :: L, h => by
   have ih := ends_grp B g (L := L) fun q hq => h q (List.mem_cons.2 (.inr hq))
   have hp := h p (List.mem_cons.2 (.inl rfl))
   have ne : p ≠ [] := fun e => by have := hp.1; rw [e] at this; exact absurd this (by decide)
   have rh := knot_rng B hp.1 hp.2 _ (hdI_mem ne)
   have rl := knot_rng B hp.1 hp.2 _ (ltI_mem ne)
   have ll := lab_piece B hp.2 _ (ltI_mem ne)
   have e : sumF N (fun v => if lab N n b v = (g : Int) then endsL v (p :: L) else 0) = sumF N (fun v => if lab N n b v = (g : Int) then one ((v : Int) = hdI p) else 0) + sumF N (fun v => if lab N n b v = (g : Int) then one ((v : Int) = ltI p) else 0) + sumF N (fun v => if lab N n b v = (g : Int) then endsL v L else 0) := by
     rw [← sumF_add, ← sumF_add]
     refine sumF_congr fun v _ => ?_
     show (if lab N n b v = (g : Int) then one ((v : Int) = hdI p) + one ((v : Int) = ltI p) + endsL v L else 0) = _
     split <;> omega
   rw [e, ih, sum_one (p := fun v => lab N n b v = (g : Int)), sum_one (p := fun v => lab N n b v = (g : Int))]
   unfold ofG
   rw [List.countP_cons]
   rw [show (((hdI p).toNat : Nat) : Int) = hdI p by omega, show (((ltI p).toNat : Nat) : Int) = ltI p by omega, ll]
   by_cases c : lab N n b (hdI p) = (g : Int)
   · rw [if_pos ⟨rh.1, rh.2, c⟩, if_pos ⟨rl.1, rl.2, c⟩, if_pos (decide_eq_true c)]; omega
   · rw [if_neg fun h => c h.2.2, if_neg fun h => c h.2.2, if_neg (by rw [decide_eq_true_eq]; exact c)]; omega
theorem cntP_pos {j : Nat} : ∀ {p : List Int}, 0 < cntP b j p → ∃ x y, x ∈ p ∧ y ∈ p ∧ barEq b (imin x y) (imax x y) j = true
 | [], h => by simp [cntP] at h
 | [_], h => by simp [cntP] at h
 | x :: y :: l, h => by
   have h : 0 < stp b x y j + cntP b j (y :: l) := h
   by_cases c : barEq b (imin x y) (imax x y) j = true
   · exact ⟨x, y, by simp, by simp, c⟩
   · unfold stp at h
     rw [if_neg c] at h
     rw [Nat.zero_add] at h
     obtain ⟨x', y', h1, h2, h3⟩ := cntP_pos (p := y :: l) h
     exact ⟨x', y', List.mem_cons.2 (.inr h1), List.mem_cons.2 (.inr h2), h3⟩
theorem cntL_pos {j : Nat} : ∀ {L : List (List Int)}, 0 < cntL b j L → ∃ p ∈ L, 0 < cntP b j p
 | [], h => by simp [cntL] at h
 | p :: L, h => by
   have h : 0 < cntP b j p + cntL b j L := h
   by_cases c : 0 < cntP b j p
   · exact ⟨p, by simp, c⟩
   · have h' : 0 < cntL b j L := by generalize cntL b j L = y at h ⊢; generalize cntP b j p = z at h c; omega
     obtain ⟨q, h1, h2⟩ := cntL_pos (L := L) h'
     exact ⟨q, List.mem_cons.2 (.inr h1), h2⟩
theorem few_le (B : BrOk N n b) {L : List (List Int)} (h1 : ∀ j, j < n → cntL b j L = 1) (h2 : ∀ p ∈ L, PcOk n b p) : few N n b ≤ L.length := by
 rw [← ofG_sum B h2]
 unfold few
 refine sumF_le fun g hg => ?_
 show needG N n b (lab N n b) g ≤ _
 unfold needG
 split
 · rename_i a
   obtain ⟨v, v1, v2, v3⟩ := anyG_iff.1 a
   obtain ⟨j, j1, j2⟩ := meets_pos.1 v3
   have c1 : 0 < ofG N n b L g := by
     obtain ⟨p, p1, p2⟩ := cntL_pos (b := b) (j := j) (L := L) (by rw [h1 j j1]; omega)
     obtain ⟨x, y, x1, _, x3⟩ := cntP_pos p2
     unfold ofG
     rw [List.countP_pos_iff]
     refine ⟨p, p1, ?_⟩
     rw [decide_eq_true_eq, ← lab_piece B (h2 p p1).2 x x1]
     rw [← v2, B.lab_inc j1 j2]
     rcases step_bar B j1 x3 with ⟨e, _⟩ | ⟨e, _⟩
     · rw [e]
     · rw [e]; exact (B.lab_bar j1).symm
   have c2 : oddG n b (lab N n b) g N ≤ 2 * ofG N n b L g := by
     rw [← ends_grp B g h2]
     have : ∀ {M : Nat}, oddG n b (lab N n b) g M ≤ sumF M fun v => if lab N n b v = (g : Int) then endsL v L else 0 := by
       intro M
       induction M with
       | zero => exact Nat.le_refl _
       | succ M ih =>
         rw [oddG, sumF]
         have := ends_par B h1 h2 (M : Int)
         by_cases c : lab N n b M = (g : Int)
         · rw [if_pos c]
           split <;> omega
         · rw [if_neg fun h => c h.1, if_neg c]; omega
     exact this
   omega
 · exact Nat.zero_le _
end
def pcsOf (L : List (List Int)) : Pcs := ⟨L.length, fun i => (L.getD i []).length, fun i k => (L.getD i []).getD k 0⟩
def lstP (p : Pcs) (i : Nat) : List Int := (List.range (p.len i)).map (p.kn i)
def lstOf (p : Pcs) : List (List Int) := (List.range p.np).map (lstP p)
def cntF (b : Nat → Nat → Int) (j : Nat) (f : Nat → Int) : Nat → Nat
 | 0 => 0
 | k + 1 => cntF b j f k + stp b (f k) (f (k + 1)) j
theorem cntF_congr {b : Nat → Nat → Int} {j : Nat} {f g : Nat → Int} : ∀ {k : Nat}, (∀ i, i ≤ k → f i = g i) → cntF b j f k = cntF b j g k
 | 0, _ => rfl
 | k + 1, h => by rw [cntF, cntF, cntF_congr fun i hi => h i (by omega), h k (by omega), h (k + 1) (by omega)]
theorem cntF_list {b : Nat → Nat → Int} {j : Nat} (l : List Int) : cntF b j (fun k => l.getD k 0) (l.length - 1) = cntP b j l := by
 have : ∀ (m : Nat) (l : List Int), l.length = m → cntF b j (fun k => l.getD k 0) (l.length - 1) = cntP b j l := by
   intro m
   induction m with
   | zero => intro l h; rw [List.length_eq_zero_iff.1 h]; rfl
   | succ m ih =>
     intro l h
     rcases List.eq_nil_or_concat l with rfl | ⟨l1, y, rfl⟩
     · simp at h
     · rw [List.concat_eq_append] at h ⊢
       rcases List.eq_nil_or_concat l1 with rfl | ⟨l2, x, rfl⟩
       · rfl
       · rw [List.concat_eq_append] at h ⊢
         rw [cntP_snoc]
         have hl : (l2 ++ [x]).length = m := by simp only [List.length_append, List.length_singleton] at h ⊢; omega
         have := ih (l2 ++ [x]) hl
         rw [← this]
         have e1 : (l2 ++ [x] ++ [y]).length - 1 = l2.length + 1 := by simp only [List.length_append, List.length_singleton]; omega
         have e2 : (l2 ++ [x]).length - 1 = l2.length := by simp only [List.length_append, List.length_singleton]; omega
         rw [e1, e2, cntF]
         congr 1
         · refine cntF_congr fun i hi => ?_
           show (l2 ++ [x] ++ [y]).getD i 0 = (l2 ++ [x]).getD i 0
           rw [List.getD_eq_getElem?_getD, List.getD_eq_getElem?_getD, List.getElem?_append_left (by simp only [List.length_append, List.length_singleton]; omega)]
         · have g1 : (l2 ++ [x] ++ [y]).getD l2.length 0 = x := by
             rw [List.getD_eq_getElem?_getD, List.getElem?_append_left (by simp only [List.length_append, List.length_singleton]; omega), List.getElem?_append_right (Nat.le_refl _)]; simp
           have g2 : (l2 ++ [x] ++ [y]).getD (l2.length + 1) 0 = y := by
             rw [List.getD_eq_getElem?_getD, List.getElem?_append_right (by simp only [List.length_append, List.length_singleton]; omega)]; simp
           show stp b ((l2 ++ [x] ++ [y]).getD l2.length 0) ((l2 ++ [x] ++ [y]).getD (l2.length + 1) 0) j = _
           rw [g1, g2]
 exact this _ l rfl
theorem hasP_iff {n : Nat} {b : Nat → Nat → Int} : ∀ {l : List Int}, hasP n b l ↔ ∀ k, k < l.length - 1 → ∃ j, j < n ∧ barEq b (imin (l.getD k 0) (l.getD (k + 1) 0)) (imax (l.getD k 0) (l.getD (k + 1) 0)) j = true
 | [] => by simp [hasP]
 | [_] => by simp [hasP]
 | x :: y :: l => by
   rw [hasP, hasP_iff]
   constructor
   · rintro ⟨h1, h2⟩ k hk
     cases k with
     | zero => exact h1
     | succ k => exact h2 k (by simp only [List.length_cons] at hk ⊢; omega)
   · intro h
     refine ⟨h 0 (by simp), fun k hk => ?_⟩
     exact h (k + 1) (by simp only [List.length_cons] at hk ⊢; omega)
theorem cntK_F {t : Torn} {p : Pcs} {i j : Nat} : ∀ {k : Nat}, cntK t p i j k = cntF t.b j (p.kn i) k
 | 0 => rfl
 | k + 1 => by rw [cntK, cntF, cntK_F]; rfl
theorem lstP_get {p : Pcs} {i k : Nat} (h : k < p.len i) : (lstP p i).getD k 0 = p.kn i k := by
 unfold lstP
 rw [List.getD_eq_getElem?_getD, List.getElem?_map, List.getElem?_range h]; rfl
theorem lstP_len {p : Pcs} {i : Nat} : (lstP p i).length = p.len i := by unfold lstP; simp
theorem cntK_lst {t : Torn} {p : Pcs} {i j : Nat} : cntK t p i j (p.len i - 1) = cntP t.b j (lstP p i) := by
 rw [cntK_F, ← cntF_list, lstP_len]
 by_cases c : p.len i = 0
 · rw [c]; rfl
 · exact cntF_congr fun k hk => (lstP_get (by omega)).symm
theorem cntI_lst {t : Torn} {p : Pcs} {j : Nat} : ∀ {m : Nat}, cntI t p j m = cntL t.b j ((List.range m).map (lstP p))
 | 0 => rfl
 | m + 1 => by rw [cntI, cntI_lst, List.range_succ, List.map_append, cntL_append, cntK_lst]; rfl
theorem isM_iff {t : Torn} {p : Pcs} : isM t p = true ↔ (∀ q ∈ lstOf p, PcOk t.n t.b q) ∧ ∀ j, j < t.n → cntL t.b j (lstOf p) = 1 := by
 have pc : ∀ i, i < p.np → (PcOk t.n t.b (lstP p i) ↔ (2 ≤ p.len i ∧ fndK t p i (p.len i - 1) = true)) := fun i _ => by
   unfold PcOk
   rw [lstP_len, hasP_iff, lstP_len]
   refine and_congr_right fun _ => ?_
   unfold fndK
   rw [allB_iff]
   refine forall_congr' fun k => imp_congr_right fun hk => ?_
   rw [lstP_get (by omega), lstP_get (by omega), hasB_iff]
   refine exists_congr fun j => and_congr_right fun _ => ?_
   rw [barEq_iff]; rfl
 unfold isM okI
 rw [Bool.and_eq_true, allB_iff, allB_iff]
 constructor
 · rintro ⟨h1, h2⟩
   refine ⟨fun q hq => ?_, fun j hj => ?_⟩
   · unfold lstOf at hq
     obtain ⟨i, hi, rfl⟩ := List.mem_map.1 hq
     have hi := List.mem_range.1 hi
     have := h1 i hi
     rw [Bool.and_eq_true, decide_eq_true_eq] at this
     exact (pc i hi).2 this
   · have := h2 j hj
     rw [decide_eq_true_eq, cntI_lst] at this
     exact this
 · rintro ⟨h1, h2⟩
   refine ⟨fun i hi => ?_, fun j hj => ?_⟩
   · rw [Bool.and_eq_true, decide_eq_true_eq]
     exact (pc i hi).1 (h1 _ (List.mem_map.2 ⟨i, List.mem_range.2 hi, rfl⟩))
   · rw [decide_eq_true_eq, cntI_lst]
     exact h2 j hj
theorem lst_pcs {L : List (List Int)} : lstOf (pcsOf L) = L := by
 refine List.ext_getElem? fun i => ?_
 unfold lstOf
 by_cases h : i < L.length
 · rw [List.getElem?_map, List.getElem?_range (show i < (pcsOf L).np from h), List.getElem?_eq_getElem h]
   show some (lstP (pcsOf L) i) = some L[i]
   congr 1
   have e : L.getD i [] = L[i] := by rw [List.getD_eq_getElem?_getD, List.getElem?_eq_getElem h]; rfl
   refine List.ext_getElem? fun k => ?_
   unfold lstP
   show ((List.range (L.getD i []).length).map fun k => (L.getD i []).getD k 0)[k]? = _
   rw [e]
   by_cases hk : k < L[i].length
   · rw [List.getElem?_map, List.getElem?_range hk, List.getElem?_eq_getElem hk]
     show some (L[i].getD k 0) = _
     rw [List.getD_eq_getElem?_getD, List.getElem?_eq_getElem hk]; rfl
   · rw [List.getElem?_eq_none (by simp; omega), List.getElem?_eq_none (by omega)]
 · rw [List.getElem?_eq_none (by rw [List.length_map, List.length_range]; show L.length ≤ i; omega), List.getElem?_eq_none (by omega)]
theorem BrOk.of {t : Torn} (T : TkOk t) : BrOk (t.w * t.h).toNat t.n t.b := by
 have P := Go.Proofs.YtcfmdhlohahhcaaDoor.wh_bd T.wl T.wu T.hl T.hu
 refine ⟨by omega, fun i hi => ?_, T.dif, fun i hi => ?_⟩
 · obtain ⟨_, _, h⟩ := barB_iff.1 (T.bar i hi)
   have := T.wl
   omega
 · obtain ⟨h1, h2, _⟩ := barB_iff.1 (T.bar i hi)
   omega
end Nm
