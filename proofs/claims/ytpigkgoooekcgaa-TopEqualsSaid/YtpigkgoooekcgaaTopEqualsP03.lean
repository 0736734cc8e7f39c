/- Texts for the law of the last part, part 3. -/
import Derived.Test.YtpigkgoooekcgaaTopEqualsP02
import Derived.Laws.Rows
import Derived.Laws.AppendOwnNone
import Derived.ChangeKeysEq
set_option linter.unusedSimpArgs false
set_option linter.unusedVariables false
namespace Go.Sx
section
variable {P : Program} {E : Env} {β : Nat → Loc} {Z : Nat → Prop} {w : World}
def NewOk (P : Program) (β : Nat → Loc) (Z : Nat → Prop) (w : World) (s : Sem Value) (blk : Blk) (v : Nat → AV) : Prop :=
 ∃ u cs e ln, s.run P w = .ok u (w.alloc (.cells cs e)) ∧ RBc β Z w ln cs e blk ∧
   ∀ (β' : Nat → Loc) (Z' : Nat → Prop) (w' : World) (n : Nat), β' n = .at w.heap.size ln → (∃ cs' e' , w'.heap[w.heap.size]? = some (.cells cs' e' (0, 0)) ∧ cs'.size = cs.size) → RA β' Z' w' (v n) u
theorem getD_of {l : List CV} {j : Nat} (h : j < l.length) : ofList l j = l[j] := by simp [ofList, h]
theorem zero_cells {t : Nat} {ti : TI} {i : TypeInfo} {d : TypeDesc} {z : Value} (hF : TyF P t ti i d z) : z.cells.size = ti.size ∧ ∀ j, j < ti.size → ∃ u, z.cells[j]? = some u ∧ RP Z w (ofList ti.zero j) u := by
 have h1 := lits_length hF.zlits
 have h2 := hF.zlen
 refine ⟨by simpa [h2] using h1.symm, fun j hj => ?_⟩
 obtain ⟨u, hu, hl⟩ := lits_get hF.zlits j (ofList ti.zero j) (by rw [getD_of (by omega)]; simp)
 exact ⟨u, by simpa using hu, RC.lit hl⟩
theorem zeroG_eq {ti : TI} {j : Nat} (hl : ti.zero.length = ti.size) (hj : j < ti.size) : zeroG ti j = ofList ti.zero j := by
 unfold zeroG
 cases h1 : Nat.ble 40 ti.size with
 | false => rfl
 | true =>
   cases h : ti.zero.all isFF with
   | false => rfl
   | true =>
     have hj' : j < ti.zero.length := by omega
     have := List.all_eq_true.1 h _ (List.getElem_mem hj')
     rw [getD_of hj']
     cases e : ti.zero[j] <;> rw [e] at this <;> first | rfl | simp [isFF] at this
theorem alloc_ok (hT : TabOk P E) {t : Nat} {ti : TI} (ht : E.ty t = some ti) : NewOk P β Z w (Instr.alloc t true (.tuple #[])) (.box ti.size (zeroG ti)) (fun n => .t (.c (.ptr n 0))) := by
 obtain ⟨i, d, z, hF⟩ := tabTI_spec (hT t ti ht).1
 obtain ⟨h1, h2⟩ := zero_cells (Z := Z) (w := w) hF
 refine ⟨_, z.cells, t, 0, ?_, ⟨h1, fun j hj => let ⟨u, hu, hr⟩ := h2 j hj; ⟨u, hu, RC.of_RP (by rw [zeroG_eq hF.zlen hj]; exact hr)⟩⟩, fun β' Z' w' n hn _ => ⟨_, _, hn, rfl⟩⟩
 simp [Instr.alloc, hF.run_zero, newVar, newRow]
theorem box_ok {t : Nat} {x : TV} {v : Value} (hx : RT β Z w x v) : NewOk P β Z w (Instr.box t v) (.box x.cells.1 x.cells.2) (fun n => .t (.c (.ptr n 0))) := by
 obtain ⟨h1, h2⟩ := RT.cells hx
 refine ⟨_, v.cells, t, 0, ?_, ⟨h1, h2⟩, fun β' Z' w' n hn _ => ⟨_, _, hn, rfl⟩⟩
 simp [Instr.box, newVar, newRow]
theorem foldl_set (cs : Array Value) : ∀ (l : List Value) (k : Nat) (off : Nat) (acc : Array Value), off + k + l.length ≤ acc.size →
   (l.zipIdx k).foldl (fun (a : Array Value) (p : Value × Nat) => a.setIfInBounds (off + p.2) p.1) acc = (acc.toList.take (off + k) ++ l ++ acc.toList.drop (off + k + l.length)).toArray
 | [], k, off, acc, _ => by simp
 | v :: l, k, off, acc, h => by
   simp only [List.length_cons] at h
   simp only [List.zipIdx_cons, List.foldl_cons]
   rw [foldl_set cs l (k + 1) off _ (by simp; omega)]
   apply Array.ext'
   apply List.ext_getElem?
   intro j
   simp only [List.getElem?_append, List.length_append, List.length_take, Array.length_toList, Array.size_setIfInBounds, List.length_cons, List.getElem?_take, List.getElem?_drop, Array.getElem?_toList, Array.getElem?_setIfInBounds]
   have hs : off + k < acc.size := by omega
   have e1 : min (off + k) acc.size = off + k := by omega
   have e2 : min (off + (k + 1)) acc.size = off + k + 1 := by omega
   simp only [e1, e2]
   by_cases c1 : j < off + k
   · have : j < off + k + 1 := by omega
     have : off + k ≠ j := by omega
     simp [*, show j < off + k + 1 + l.length by omega, show j < off + k + (l.length + 1) by omega, show j < off + (k + 1) by omega]
   · by_cases c2 : j = off + k
     · subst c2
       simp [show off + k < off + k + 1 + l.length by omega, show off + k < off + k + (l.length + 1) by omega, show off + k < off + (k + 1) by omega, hs]
     · by_cases c3 : j < off + k + 1 + l.length
       · have : ¬ j < off + k + 1 := by omega
         simp [c1, c3, this, show j < off + k + (l.length + 1) by omega]
         rw [show j - (off + k) = (j - (off + k + 1)) + 1 by omega]
         simp
       · simp [c1, c3, show ¬ j < off + k + 1 by omega, show ¬ j < off + k + (l.length + 1) by omega]
         rw [if_neg (by omega)]
         congr 1
         omega
theorem foldl_set_get {v : Value} {off : Nat} {acc : Array Value} (h : off + v.cells.size ≤ acc.size) :
   let r := v.cells.zipIdx.foldl (fun cs (c, j) => cs.setIfInBounds (off + j) c) acc
   r.size = acc.size ∧ ∀ j, r[j]? = if off ≤ j ∧ j < off + v.cells.size then v.cells[j - off]? else acc[j]? := by
 intro r
 have e : r = (acc.toList.take off ++ v.cells.toList ++ acc.toList.drop (off + v.cells.size)).toArray := by
   show v.cells.zipIdx.foldl _ acc = _
   rw [← Array.foldl_toList, Array.toList_zipIdx]
   have := foldl_set v.cells v.cells.toList 0 off acc (by simpa using h)
   simpa using this
 rw [e]
 constructor
 · simp; omega
 · intro j
   simp only [List.getElem?_toArray]
   by_cases hj : off ≤ j
   · by_cases hj2 : j < off + v.cells.size
     · rw [if_pos ⟨hj, hj2⟩, List.append_assoc, List.getElem?_append_right (by simp; omega), List.getElem?_append_left (by simp; omega)]
       simp [Nat.min_eq_left (by omega : off ≤ acc.size)]
     · rw [if_neg (by omega), List.getElem?_append_right (by simp; omega)]
       simp only [List.length_append, List.length_take, Array.length_toList, Nat.min_eq_left (by omega : off ≤ acc.size), List.getElem?_drop, Array.getElem?_toList]
       congr 1; omega
   · rw [if_neg (by omega), List.append_assoc, List.getElem?_append_left (by simp; omega), List.getElem?_take, if_pos (by omega), Array.getElem?_toList]
def RParts (β : Nat → Loc) (Z : Nat → Prop) (w : World) : List (Nat × AV) → List (Nat × Value) → Prop
 | [], [] => True
 | (i, x) :: l, (j, v) :: r => i = j ∧ RA β Z w x v ∧ RParts β Z w l r
 | _, _ => False
theorem fill_struct {sizes : Array (Nat × Nat)} {fs : List (Nat × TypeId)} {size : Nat}
   (hs : ∀ (i fo ft : Nat) (ti : TI), fs[i]? = some (fo, ft) → E.ty ft = some ti → sizes[i]? = some (fo, ti.size)) :
   ∀ {parts : List (Nat × AV)} {vs : List (Nat × Value)} {get get' : Nat → CV} {cs : Array Value}, RParts β Z w parts vs → buildCells E fs size parts get = some get' → cs.size = size →
     (∀ j, j < size → ∃ u, cs[j]? = some u ∧ RC β Z w (get j) u) →
     ∃ cs' : Array Value, Instr.fill (sizes[·]?) cs vs = some cs' ∧ cs'.size = size ∧ ∀ j, j < size → ∃ u, cs'[j]? = some u ∧ RC β Z w (get' j) u
 | [], [], get, get', cs, _, h, hsz, hg => by
   simp [buildCells] at h; subst h
   exact ⟨cs, rfl, hsz, hg⟩
 | (i, .t v) :: parts, (i', u) :: vs, get, get', cs, hr, h, hsz, hg => by
   obtain ⟨rfl, hu, hr⟩ := hr
   simp only [buildCells] at h
   split at h
   · rename_i fo ft hfi
     split at h
     · rename_i ti hti
       split at h
       · rename_i hvs
         simp only [Bool.and_eq_true] at hvs
         have hvs1 : v.cells.1 = ti.size := Nat.eq_of_beq_eq_true hvs.1
         obtain ⟨q1, q2⟩ := RT.cells hu
         have hle : fo + ti.size ≤ size := Nat.le_of_ble_eq_true hvs.2
         have hu1 : u.cells.size = ti.size := q1.trans hvs1
         have hF := foldl_set_get (v := u) (off := fo) (acc := cs) (by omega)
         obtain ⟨f1, f2⟩ := hF
         obtain ⟨cs', g1, g2, g3⟩ := fill_struct hs (get := overAll size get fo v.cells.1 v.cells.2) (cs := u.cells.zipIdx.foldl (fun cs (c, j) => cs.setIfInBounds (fo + j) c) cs) hr h (f1.trans hsz) (fun j hj => by
           rw [f2, overAll_eq size get fo _ _ j hj (by omega), hvs1, hu1]
           split
           · exact q2 _ (by omega)
           · exact hg j hj)
         refine ⟨cs', ?_, g2, g3⟩
         simp only [Instr.fill, hs i fo ft ti hfi hti, hu1, ne_eq, not_true_eq_false, decide_false, Bool.false_or]
         rw [if_neg (by simp; omega)]
         exact g1
       · simp at h
     · simp at h
   · simp at h
 | (_, .any) :: _, _ :: _, _, _, _, _, h, _, _ => by simp [buildCells] at h
 | (_, .tup _) :: _, _ :: _, _, _, _, _, h, _, _ => by simp [buildCells] at h
 | [], _ :: _, _, _, _, hr, _, _, _ => hr.elim
 | _ :: _, [], _, _, _, hr, _, _, _ => hr.elim
theorem fill_arr {esz size : Nat} :
   ∀ {parts : List (Nat × AV)} {vs : List (Nat × Value)} {get get' : Nat → CV} {cs : Array Value}, RParts β Z w parts vs → buildArr esz size parts get = some get' → cs.size = size →
     (∀ j, j < size → ∃ u, cs[j]? = some u ∧ RC β Z w (get j) u) →
     ∃ cs' : Array Value, Instr.fill (fun i => some (i * esz, esz)) cs vs = some cs' ∧ cs'.size = size ∧ ∀ j, j < size → ∃ u, cs'[j]? = some u ∧ RC β Z w (get' j) u
 | [], [], get, get', cs, _, h, hsz, hg => by
   simp [buildArr] at h; subst h
   exact ⟨cs, rfl, hsz, hg⟩
 | (i, .t v) :: parts, (i', u) :: vs, get, get', cs, hr, h, hsz, hg => by
   obtain ⟨rfl, hu, hr⟩ := hr
   simp only [buildArr] at h
   split at h
   · rename_i hvs
     simp only [Bool.and_eq_true] at hvs
     have hvs1 : v.cells.1 = esz := Nat.eq_of_beq_eq_true hvs.1
     obtain ⟨q1, q2⟩ := RT.cells hu
     have hle : i * esz + esz ≤ size := Nat.le_of_ble_eq_true hvs.2
     have hu1 : u.cells.size = esz := q1.trans hvs1
     have hF := foldl_set_get (v := u) (off := i * esz) (acc := cs) (by omega)
     obtain ⟨f1, f2⟩ := hF
     obtain ⟨cs', g1, g2, g3⟩ := fill_arr (get := overAll size get (i * esz) v.cells.1 v.cells.2) (cs := u.cells.zipIdx.foldl (fun cs (c, j) => cs.setIfInBounds (i * esz + j) c) cs) hr h (f1.trans hsz) (fun j hj => by
       rw [f2, overAll_eq size get (i * esz) _ _ j hj (by omega), hvs1, hu1]
       split
       · exact q2 _ (by omega)
       · exact hg j hj)
     refine ⟨cs', ?_, g2, g3⟩
     simp only [Instr.fill, hu1, ne_eq, not_true_eq_false, decide_false, Bool.false_or]
     rw [if_neg (by simp; omega)]
     exact g1
   · simp at h
 | (_, .any) :: _, _ :: _, _, _, _, _, h, _, _ => by simp [buildArr] at h
 | (_, .tup _) :: _, _ :: _, _, _, _, _, h, _, _ => by simp [buildArr] at h
 | [], _ :: _, _, _, _, hr, _, _, _ => hr.elim
 | _ :: _, [], _, _, _, hr, _, _, _ => hr.elim
theorem mapM_sizes {fl : List Field} (hi : ∀ f ∈ fl, (P.info? f.type).isSome = true) :
   ∃ r : List (Nat × Nat), (fl.mapM fun f => do pure (f.offset, ← sizeOf f.type) : Sem (List (Nat × Nat))).run P w = .ok r w ∧ r.length = fl.length ∧ ∀ (i : Nat) (f : Field) (x : TypeInfo), fl[i]? = some f → P.info? f.type = some x → r[i]? = some (f.offset, x.size) := by
 induction fl with
 | nil => exact ⟨[], rfl, rfl, fun i f x h => by simp at h⟩
 | cons f fl ih =>
   obtain ⟨r, h1, h2, h3⟩ := ih (fun g hg => hi g (by simp [hg]))
   obtain ⟨x, hx⟩ := Option.isSome_iff_exists.1 (hi f (by simp))
   refine ⟨(f.offset, x.size) :: r, ?_, by simp [h2], fun i g y hg hy => ?_⟩
   · rw [List.mapM_cons]
     simp [sizeOf, typeInfo, hx] at h1 ⊢
     rw [h1]; rfl
   · cases i with
     | zero => simp at hg; subst hg; rw [hx] at hy; injection hy with e; subst e; rfl
     | succ i => simp at hg; simpa using h3 i g y hg hy
theorem build_ok (hT : TabOk P E) {t : Nat} {ti : TI} (ht : E.ty t = some ti) {parts : List (Nat × AV)} {vs : Array (Nat × Value)} (hr : RParts β Z w parts vs.toList) {c : List Prop} {y : AV}
   (h : planBuild E ti parts = .ok c y) : ∃ q, (Instr.build t vs).run P w = .ok q w ∧ RA β Z w y q := by
 obtain ⟨i, d, z, hF⟩ := tabTI_spec (hT t ti ht).1
 obtain ⟨z1, z2⟩ := zero_cells (Z := Z) (w := w) hF
 unfold planBuild at h
 split at h
 · rename_i fs hk
   obtain ⟨fl, rfl, rfl, hn, _, _⟩ := hF.struct hk
   split at h
   · rename_i get hb
     simp at h; obtain ⟨rfl, rfl⟩ := h
     obtain ⟨r, hr1, hr2, hr3⟩ := mapM_sizes (P := P) (w := w) (fl := fl.toList) (fun f hf => (hn f hf).2)
     obtain ⟨cs', g1, g2, g3⟩ := fill_struct (E := E) (β := β) (Z := Z) (w := w) (sizes := r.toArray) (fs := fl.toList.map (fun f => (f.offset, f.type))) (size := ti.size) (fun i fo ft ti2 h1 h2 => by
       obtain ⟨i2, d2, z2, hF2⟩ := tabTI_spec (hT ft ti2 h2).1
       simp only [List.getElem?_map, Option.map_eq_some_iff, Prod.mk.injEq] at h1
       obtain ⟨x, hx, rfl, rfl⟩ := h1
       have := hr3 i x i2 hx hF2.info
       rw [hF2.size] at this
       simpa using this) hr hb z1 (fun j hj => let ⟨u, hu, hr⟩ := z2 j hj; ⟨u, hu, RC.of_RP hr⟩)
     refine ⟨.agg cs', ?_, cs', rfl, g2, g3⟩
     have e : (fl.mapM fun f => do pure (f.offset, ← sizeOf f.type) : Sem (Array (Nat × Nat))).run P w = .ok r.toArray w := by
       rw [← Array.toArray_toList (xs := fl), List.mapM_toArray]
       simp only [Sem.run_map, hr1]
       rfl
     simp only [Instr.build, Sem.run_bind, hF.run_zero, Result.andThen_ok, Sem.run_pure, hF.run_und, e, g1]
   · simp at h
 · rename_i n e hk
   obtain ⟨rfl, hgd⟩ := hF.array hk
   split at h
   · rename_i te hte
     obtain ⟨i2, d2, z2', hF2⟩ := tabTI_spec (hT e te hte).1
     split at h
     · rename_i get hb
       obtain ⟨_, h⟩ := need_ok h (by simp)
       simp at h; obtain ⟨rfl, rfl⟩ := h
       obtain ⟨cs', g1, g2, g3⟩ := fill_arr (β := β) (Z := Z) (w := w) hr hb z1 (fun j hj => let ⟨u, hu, hr⟩ := z2 j hj; ⟨u, hu, RC.of_RP hr⟩)
       refine ⟨.agg cs', ?_, cs', rfl, g2, g3⟩
       simp only [Instr.build, Sem.run_bind, hF.run_zero, Result.andThen_ok, Sem.run_pure, hF.run_und, hF2.run_size, g1]
     · simp at h
   · simp at h
 · simp at h
theorem fill_row {size len : Nat} :
   ∀ {parts : List (Nat × AV)} {vs : List (Nat × Value)} {get get' : Nat → Nat → CV} {cs : Array Value}, RParts β Z w parts vs → buildRow size len parts get = some get' → cs.size = len * size →
     (∀ i, i < len → ∀ j, j < size → ∃ u, cs[i * size + j]? = some u ∧ RP Z w (get i j) u) →
     ∃ cs' : Array Value, Instr.fill (fun i => some (i * size, size)) cs vs = some cs' ∧ cs'.size = len * size ∧ ∀ i, i < len → ∀ j, j < size → ∃ u, cs'[i * size + j]? = some u ∧ RP Z w (get' i j) u
 | [], [], get, get', cs, _, h, hsz, hg => by
   simp [buildRow] at h; subst h
   exact ⟨cs, rfl, hsz, hg⟩
 | (i, .t v) :: parts, (i', u) :: vs, get, get', cs, hr, h, hsz, hg => by
   obtain ⟨rfl, hu, hr⟩ := hr
   simp only [buildRow] at h
   split at h
   · rename_i hvs
     simp only [Bool.and_eq_true] at hvs
     have hvs1 : v.cells.1 = size := Nat.eq_of_beq_eq_true hvs.1.1
     obtain ⟨q1, q2⟩ := RT.cells hu
     have hlt : i < len := Nat.le_of_ble_eq_true hvs.2
     have hle : (i + 1) * size ≤ len * size := Nat.mul_le_mul_right _ hlt
     rw [Nat.add_mul, Nat.one_mul] at hle
     have hu1 : u.cells.size = size := q1.trans hvs1
     have hF := foldl_set_get (v := u) (off := i * size) (acc := cs) (by omega)
     obtain ⟨f1, f2⟩ := hF
     obtain ⟨cs', g1, g2, g3⟩ := fill_row (get := fun i' => mixG (i' = i) v.cells.2 (get i')) (cs := u.cells.zipIdx.foldl (fun cs (c, j) => cs.setIfInBounds (i * size + j) c) cs) hr h (f1.trans hsz) (fun i' hi' j hj => by
       rw [f2, hu1]
       by_cases hik : i' = i
       · subst hik
         rw [if_pos (by omega), mixG_eq, if_pos rfl]
         obtain ⟨u', h1, h2⟩ := q2 j (by omega)
         exact ⟨u', by rw [show i' * size + j - i' * size = j by omega]; exact h1, RP.of_RC (allPure_get hvs.1.2 j hj) h2⟩
       · rw [mixG_eq, if_neg hik, if_neg]
         · exact hg i' hi' j hj
         · rintro ⟨a1, a2⟩
           rcases Nat.lt_or_gt_of_ne hik with hlt' | hgt
           · have : (i' + 1) * size ≤ i * size := Nat.mul_le_mul_right _ hlt'
             rw [Nat.add_mul, Nat.one_mul] at this
             omega
           · have : (i + 1) * size ≤ i' * size := Nat.mul_le_mul_right _ hgt
             rw [Nat.add_mul, Nat.one_mul] at this
             omega)
     refine ⟨cs', ?_, g2, g3⟩
     simp only [Instr.fill, hu1, ne_eq, not_true_eq_false, decide_false, Bool.false_or]
     rw [if_neg (by simp; omega)]
     exact g1
   · simp at h
 | (_, .any) :: _, _ :: _, _, _, _, _, h, _, _ => by simp [buildRow] at h
 | (_, .tup _) :: _, _ :: _, _, _, _, _, h, _, _ => by simp [buildRow] at h
 | [], _ :: _, _, _, _, hr, _, _, _ => hr.elim
 | _ :: _, [], _, _, _, hr, _, _, _ => hr.elim
theorem map_range0 (f g : Nat → Value) : (Array.range 0).map f = (Array.range 0).map g := by
 apply Array.ext'
 simp
theorem mod_row {size i j : Nat} (hj : j < size) : (i * size + j) % size = j := by
 rw [Nat.add_comm, Nat.add_mul_mod_self_right, Nat.mod_eq_of_lt hj]
theorem zero_row {t : Nat} {ti : TI} {i : TypeInfo} {d : TypeDesc} {z : Value} (hF : TyF P t ti i d z) (n k j : Nat) (hk : k < n) (hj : j < ti.size) :
   ∃ u, ((Array.range (n * ti.size)).map (fun x => z.cells[x % z.cells.size]!))[k * ti.size + j]? = some u ∧ RP Z w (ofList ti.zero j) u := by
 obtain ⟨z1, z2⟩ := zero_cells (Z := Z) (w := w) hF
 obtain ⟨u, hu, hr⟩ := z2 j hj
 have hle : (k + 1) * ti.size ≤ n * ti.size := Nat.mul_le_mul_right _ hk
 rw [Nat.add_mul, Nat.one_mul] at hle
 refine ⟨u, ?_, hr⟩
 have hlt : k * ti.size + j < n * ti.size := by omega
 simp only [Array.getElem?_map, Array.getElem?_range, hlt, if_true, Option.map_some, z1, mod_row hj, Array.getElem!_eq_getD, Array.getD_eq_getD_getElem?, hu, Option.getD_some]
theorem os_val {size len cap : Nat} {cs : Array Value} (hl : len ≤ cap) (hm : cap ≤ maxLen) (hs : cs.size = cap * size) :
   ∀ (β' : Nat → Loc) (Z' : Nat → Prop) (w' : World) (n : Nat), β' n = .at w.heap.size len → (∃ cs' e' , w'.heap[w.heap.size]? = some (.cells cs' e' (0, 0)) ∧ cs'.size = cs.size) → RA β' Z' w' (.t (.c (.os n size len))) (.slice (some ⟨w.heap.size, 0, none⟩) len cap) := by
 rintro β' Z' w' m hm' ⟨cs', e', h1, h2⟩
 show ROs w' (β' m) size len _
 rw [hm']
 exact ⟨rfl, cap, rfl, hl, hm, cs', e', h1, h2.trans hs⟩
theorem buildSlice_ok (hT : TabOk P E) {t : Nat} {ti : TI} (ht : E.ty t = some ti) {len : Nat} {parts : List (Nat × AV)} {vs : Array (Nat × Value)} (hr : RParts β Z w parts vs.toList) {c : List Prop} {blk : Blk} {v : Nat → AV}
   (h : planBuildSlice E ti len parts = .mk c blk v) : NewOk P β Z w (Instr.buildSlice t len vs) blk v := by
 obtain ⟨i, d, z, hF⟩ := tabTI_spec (hT t ti ht).1
 unfold planBuildSlice at h
 split at h
 · rename_i e hk
   obtain rfl := hF.slice hk
   split at h
   · rename_i te hte
     obtain ⟨i2, d2, z2, hF2⟩ := tabTI_spec (hT e te hte).1
     split at h
     · rename_i get hb
       obtain ⟨hble, h⟩ := need_ok h (by simp)
       simp only [Plan.mk.injEq] at h; obtain ⟨rfl, rfl, rfl⟩ := h
       simp only [Bool.and_eq_true] at hble
       have hle : len * te.size ≤ 16777216 := Nat.le_of_ble_eq_true hble.1
       have hsz : 1 ≤ te.size := Nat.le_of_ble_eq_true hble.2
       obtain ⟨z1, _⟩ := zero_cells (Z := Z) (w := w) hF2
       obtain ⟨cs', g1, g2, g3⟩ := fill_row (β := β) (Z := Z) (w := w) (cs := (Array.range (len * te.size)).map (fun x => z2.cells[x % z2.cells.size]!)) hr hb (by simp) (fun k hk j hj => zero_row hF2 len k j hk hj)
       have hlen : len ≤ 16777216 := by
         have : len * 1 ≤ len * te.size := Nat.mul_le_mul_left _ hsz
         omega
       refine ⟨.slice (some ⟨w.heap.size, 0, none⟩) len len, cs', e, len, ?_, ⟨rfl, rfl, by omega, g3⟩, fun β' Z' w' n => os_val (Nat.le_refl _) (by unfold maxLen; omega) g2 β' Z' w' n⟩
       have hnle : ¬ len * te.size > 2 ^ 24 := by omega
       by_cases h0 : len * te.size = 0
       · rw [h0] at g1
         have g1' : ∀ f : Nat → Value, Instr.fill (fun i => some (i * te.size, te.size)) ((Array.range 0).map f) vs.toList = some cs' := fun f => by rw [map_range0 f _]; exact g1
         simp [Instr.buildSlice, hF.run_und, hF2.run_size, h0, g1', newRow]
       · simp [Instr.buildSlice, hF.run_und, hF2.run_size, h0, g1, newRow, hF2.run_zero, hnle]
     · split at h
       · rename_i get hb
         obtain ⟨hble, h⟩ := need_ok h (by simp)
         simp only [Plan.mk.injEq] at h; obtain ⟨rfl, rfl, rfl⟩ := h
         simp only [Bool.and_eq_true] at hble
         have hle : len * te.size ≤ 16777216 := Nat.le_of_ble_eq_true hble.1
         have hsz : 1 ≤ te.size := Nat.le_of_ble_eq_true hble.2
         obtain ⟨cs', g1, g2, g3⟩ := fill_arr (β := β) (Z := Z) (w := w) (cs := (Array.range (len * te.size)).map (fun x => z2.cells[x % z2.cells.size]!)) hr hb (by simp) (fun j hj => by
           obtain ⟨u, hu, hr⟩ := zero_row (Z := Z) (w := w) hF2 len (j / te.size) (j % te.size) (Nat.div_lt_of_lt_mul (by rw [Nat.mul_comm]; exact hj)) (Nat.mod_lt _ (by omega))
           rw [Nat.mul_comm (j / te.size), Nat.div_add_mod] at hu
           exact ⟨u, hu, RC.of_RP hr⟩)
         have hlen : len ≤ 16777216 := by
           have : len * 1 ≤ len * te.size := Nat.mul_le_mul_left _ hsz
           omega
         refine ⟨.slice (some ⟨w.heap.size, 0, none⟩) len len, cs', e, len, ?_, ⟨g2, g3⟩, fun β' Z' w' n => os_val (Nat.le_refl _) (by unfold maxLen; omega) g2 β' Z' w' n⟩
         have hnle : ¬ len * te.size > 2 ^ 24 := by omega
         by_cases h0 : len * te.size = 0
         · rw [h0] at g1
           have g1' : ∀ f : Nat → Value, Instr.fill (fun i => some (i * te.size, te.size)) ((Array.range 0).map f) vs.toList = some cs' := fun f => by rw [map_range0 f _]; exact g1
           simp [Instr.buildSlice, hF.run_und, hF2.run_size, h0, g1', newRow]
         · simp [Instr.buildSlice, hF.run_und, hF2.run_size, h0, g1, newRow, hF2.run_zero, hnle]
       · simp at h
   · simp at h
 · simp at h
theorem makeSlice_ok (hT : TabOk P E) {t : Nat} {ti : TI} (ht : E.ty t = some ti) {x y : AV} {vx vy : Value} (hx : RA β Z w x vx) (hy : RA β Z w y vy) {c : List Prop} {blk : Blk} {v : Nat → AV}
   (h : planMakeSlice E ti x y = .mk c blk v) (hc : AllP c) : NewOk P β Z w (Instr.makeSlice t vx vy) blk v := by
 obtain ⟨i, d, z, hF⟩ := tabTI_spec (hT t ti ht).1
 unfold planMakeSlice at h
 split at h
 · rename_i k1 l k2 cc
   obtain rfl := int_of hx
   obtain rfl := int_of hy
   split at h
   · rename_i e hk
     obtain rfl := hF.slice hk
     split at h
     · rename_i te hte
       obtain ⟨i2, d2, z2, hF2⟩ := tabTI_spec (hT e te hte).1
       obtain ⟨hble, h⟩ := need_ok h (by simp)
       simp only [Plan.mk.injEq] at h; obtain ⟨rfl, rfl, rfl⟩ := h
       have hsz : 1 ≤ te.size := Nat.le_of_ble_eq_true hble
       obtain ⟨h0, rfl, hb, hl64, _⟩ := hc
       obtain ⟨n, rfl⟩ := Int.eq_ofNat_of_zero_le h0
       simp only [Int.toNat_natCast]
       have hn64 : (n : Int) < 4611686018427387904 := hl64
       have hwrap : IntKind.i64.wrap (n : Int) = n := by
         refine range_wrap ?_
         unfold inRange IntKind.min IntKind.max
         simp [IntKind.signed, IntKind.bits]
         omega
       refine ⟨.slice (some ⟨w.heap.size, 0, none⟩) n n, (Array.range (n * te.size)).map (fun x => z2.cells[x % z2.cells.size]!), e, n, ?_, ⟨rfl, rfl, by simp, fun k hk j hj => zero_row hF2 n k j hk hj⟩, fun β' Z' w' m => os_val (Nat.le_refl _) (by unfold maxLen; omega) (by simp) β' Z' w' m⟩
       have hb' : (i2.bytes : Int) * (n : Int) ≤ 281474976710656 := by rw [hF2.bytes]; omega
       have hnt : ¬ (((n : Int) < 0 || decide ((i2.bytes : Int) * (n : Int) > 2 ^ 48)) || decide ((n : Int) < 0) || decide ((n : Int) > n)) = true := by
         simp
         omega
       by_cases h0 : n * te.size = 0
       · simp only [Instr.makeSlice, Sem.run_bind, hF.run_und, Result.andThen_ok, asInt, asIntOf, Sem.run_pure, hF2.run_info, hwrap, Sem.run_ite, hnt, if_false, run_askRoom, hF2.run_size, Int.toNat_natCast, h0, if_true]
         simp [newRow]
         exact congrArg (fun c => w.alloc (Obj.cells c e)) (map_range0 _ _)
       · simp only [Instr.makeSlice, Sem.run_bind, hF.run_und, Result.andThen_ok, asInt, asIntOf, Sem.run_pure, hF2.run_info, hwrap, Sem.run_ite, hnt, if_false, run_askRoom, hF2.run_size, Int.toNat_natCast, h0, hF2.run_zero]
         simp [newRow]
     · simp at h
   · simp at h
 · simp at h
theorem rowOf_ok {hp : Nat → Option Blk} (hhp : ∀ n blk, hp n = some blk → RB β Z w (β n) blk) {y : AV} {v : Value} (hy : RA β Z w y v) {s l : Nat} {g : Nat → Nat → CV} (h : rowOf hp y = some (s, l, g)) :
   ∃ a cap, v = .slice a l cap ∧ (0 < l → ∃ b o, a = some ⟨b, o, none⟩ ∧ ∀ i, i < l → ∀ j, j < s → ∃ u, w.cell? ⟨b, o + (i * s + j), none⟩ = some u ∧ RP Z w (g i j) u) := by
 unfold rowOf at h
 split at h
 · simp only [Option.some.injEq, Prod.mk.injEq] at h
   obtain ⟨rfl, rfl, rfl⟩ := h
   obtain ⟨a, cap, rfl, _, hg⟩ := hy
   refine ⟨a, cap, rfl, fun hp => ?_⟩
   obtain ⟨b, o, h1, _, h2⟩ := hg hp
   exact ⟨b, o, h1, h2⟩
 · rename_i n sz len
   have hy' : ROs w (β n) sz len v := hy
   split at h
   · rename_i e size len' get hn
     split at h
     · rename_i hb
       simp only [Option.some.injEq, Prod.mk.injEq] at h
       obtain ⟨rfl, rfl, rfl⟩ := h
       have hss : sz = size := Nat.eq_of_beq_eq_true hb
       subst hss
       have hrb := hhp n _ hn
       cases hβ : β n with
       | no => rw [hβ] at hy'; exact hy'.elim
       | virt =>
         rw [hβ] at hy' hrb
         obtain ⟨rfl, rfl⟩ := hy'
         have : len' = 0 := hrb
         subst this
         exact ⟨none, 0, rfl, fun h => absurd h (Nat.lt_irrefl 0)⟩
       | «at» b ln =>
         rw [hβ] at hy' hrb
         obtain ⟨rfl, cap, rfl, _⟩ := hy'
         obtain ⟨rfl, cs, h1, h2, h3⟩ := hrb
         refine ⟨_, cap, rfl, fun _ => ⟨b, 0, rfl, fun i hi j hj => ?_⟩⟩
         obtain ⟨u, hu, hr⟩ := h3 i hi j hj
         exact ⟨u, by rw [cell_of_heap h1, Nat.zero_add]; exact hu, hr⟩
     · simp at h
   · simp at h
 · simp at h
theorem div_mod_row {size k : Nat} (h : 0 < size) : k / size * size + k % size = k := by
 rw [Nat.mul_comm]; exact Nat.div_add_mod k size
theorem row_cells {l s : Nat} (hs : 0 < s) {a : Option Addr} (f : Nat → Nat → Option Value) (h : ∀ i, i < l → ∀ j, j < s → ∃ u, f i j = some u) :
   ∃ news : List Value, news.length = l * s ∧ ∀ i, i < l → ∀ j, j < s → news[i * s + j]? = f i j := by
 have _ := a
 refine ⟨(List.range (l * s)).map fun k => (f (k / s) (k % s)).getD undef, by simp, fun i hi j hj => ?_⟩
 have hle : (i + 1) * s ≤ l * s := Nat.mul_le_mul_right _ hi
 rw [Nat.add_mul, Nat.one_mul] at hle
 have hlt : i * s + j < l * s := by omega
 have hd : (i * s + j) / s = i := by
   rw [Nat.mul_comm, Nat.mul_add_div hs, Nat.div_eq_of_lt hj, Nat.add_zero]
 obtain ⟨u, hu⟩ := h i hi j hj
 simp [hlt, hd, mod_row hj, hu]
def AppOk (P : Program) (Z : Nat → Prop) (w : World) (old : Option Nat) (s : Sem Value) (e size len : Nat) (get : Nat → Nat → CV) : Prop :=
 ∃ u w', s.run P w = .ok u w' ∧ w.grownBy w' old ∧ (∀ b, old = some b → ∃ cs cs' : Array Value, ∃ e', w.heap[b]? = some (.cells cs e' (0, 0)) ∧ w'.heap[b]? = some (.cells cs' e' (0, 0)) ∧ cs'.size = cs.size) ∧
   ((u = .slice none 0 0 ∧ len = 0) ∨
    ∃ b cap cs, u = .slice (some ⟨b, 0, none⟩) len cap ∧ (old = some b ∨ (w.heap.size ≤ b ∧ b < w'.heap.size)) ∧ w'.heap[b]? = some (.cells cs e (0, 0)) ∧ len ≤ cap ∧ cap ≤ maxLen ∧ cs.size = cap * size ∧
      ∀ i, i < len → ∀ j, j < size → ∃ x, cs[i * size + j]? = some x ∧ RP Z w (get i j) x)
theorem joinRow_lt {len i : Nat} {f g : Nat → Nat → CV} (h : i < len) : joinRow len f g i = f i := by simp [joinRow, mixG_eq, h]
theorem joinRow_ge {len i : Nat} {f g : Nat → Nat → CV} (h : len ≤ i) : joinRow len f g i = g (i - len) := by
 simp [joinRow, mixG_eq, show ¬ i < len by omega]
theorem list_row {xs : List Value} {n s : Nat} {f : Nat → Nat → CV} (hl : xs.length = n * s) (h : ∀ i, i < n → ∀ j, j < s → ∃ x, xs[i * s + j]? = some x ∧ RP Z w (f i j) x) : ∀ u ∈ xs, u.oneCell' = true := by
 intro u hu
 obtain ⟨k, hk, rfl⟩ := List.mem_iff_getElem.1 hu
 rcases Nat.eq_zero_or_pos s with rfl | hs
 · simp at hl; simp [hl] at hk
 · have hi : k / s < n := by
     rw [Nat.div_lt_iff_lt_mul hs]; omega
   obtain ⟨x, hx, hr⟩ := h (k / s) hi (k % s) (Nat.mod_lt _ hs)
   rw [div_mod_row hs] at hx
   simp [hk] at hx
   rw [hx]; exact RP.one hr
theorem row_bound {i n s j : Nat} (hi : i < n) (hj : j < s) : i * s + j < n * s := by
 have : (i + 1) * s ≤ n * s := Nat.mul_le_mul_right _ hi
 rw [Nat.add_mul, Nat.one_mul] at this
 omega
theorem append_core {t e ty : Nat} {te : TI} {i2 : TypeInfo} {d2 : TypeDesc} {z2 : Value} (ht : P.underlying t = some (.slice e)) (hF2 : TyF P e te i2 d2 z2) (hsz : 0 < te.size)
   {v : Value} {n : Nat} {gx : Nat → Nat → CV} {old : Option Nat}
   (hd : (v = .slice none 0 0 ∧ n = 0 ∧ old = none) ∨ (∃ b cap cs, v = .slice (some ⟨b, 0, none⟩) n cap ∧ old = some b ∧ w.heap[b]? = some (.cells cs e (0, 0)) ∧ n ≤ cap ∧ cap ≤ maxLen ∧ cs.size = cap * te.size ∧
     ∀ i, i < n → ∀ j, j < te.size → ∃ x, cs[i * te.size + j]? = some x ∧ RP Z w (gx i j) x))
   {a : Option Addr} {m c : Nat} {gy : Nat → Nat → CV} (hy : 0 < m → ∃ b o, a = some ⟨b, o, none⟩ ∧ ∀ i, i < m → ∀ j, j < te.size → ∃ u, w.cell? ⟨b, o + (i * te.size + j), none⟩ = some u ∧ RP Z w (gy i j) u)
   (hbytes : (n + m) * te.bytes ≤ 140737488355328) (h62 : n + m < 4611686018427387904) :
   AppOk P Z w old (Builtin.append_ #[t, t] ty #[v, .slice a m c]) e te.size (n + m) (joinRow n gx gy) := by
 have h63 : ((n + m : Nat) : Int) ≤ 9223372036854775807 := by omega
 have hcapLe : ∀ o, grownCap w (n + m) o e ≤ maxLen := fun o => grownCap_le_maxLen w (n + m) o e (by unfold maxLen; omega)
 rcases Nat.eq_zero_or_pos m with rfl | hm
 ·
   rcases hd with ⟨rfl, rfl, rfl⟩ | ⟨b, cap, cs, rfl, rfl, hb, hcap, hmax, hcs, hx⟩
   · refine ⟨.slice none 0 0, w, ?_, World.grownBy.refl _ _, fun b hb => by simp at hb, .inl ⟨rfl, rfl⟩⟩
     cases a <;> simp [Builtin.append_, run_underlying ht, hF2.run_size, Builtin.lenOf, Builtin.firstCells, loadCells, loadCellsFrom]
   · refine ⟨.slice (some ⟨b, 0, none⟩) n cap, w, ?_, World.grownBy.refl _ _, fun b' hb' => by injection hb' with e'; subst e'; exact ⟨cs, cs, e, hb, hb, rfl⟩, .inr ⟨b, cap, cs, rfl, .inl rfl, hb, hcap, hmax, hcs, fun i hi j hj => ?_⟩⟩
     · cases a <;> simp [Builtin.append_, run_underlying ht, hF2.run_size, Builtin.lenOf, Builtin.firstCells, loadCells, loadCellsFrom, hcap, storeCells]
     · rw [joinRow_lt (by omega)]; exact hx i (by omega) j hj
 · obtain ⟨yb, yo, rfl, hyc⟩ := hy hm
   obtain ⟨news, hnl, hng⟩ := row_cells (l := m) (s := te.size) hsz (a := none) (fun i j => w.cell? ⟨yb, yo + (i * te.size + j), none⟩) (fun i hi j hj => let ⟨u, hu, _⟩ := hyc i hi j hj; ⟨u, hu⟩)
   have hnrel : ∀ i, i < m → ∀ j, j < te.size → ∃ x, news[i * te.size + j]? = some x ∧ RP Z w (gy i j) x := fun i hi j hj => by
     obtain ⟨u, hu, hr⟩ := hyc i hi j hj
     exact ⟨u, by rw [hng i hi j hj]; exact hu, hr⟩
   have hnl' : news.length = m * i2.size := by rw [hF2.size]; exact hnl
   have hncell : ∀ (j : Nat) (u : Value), news[j]? = some u → w.cell? ((⟨yb, yo, none⟩ : Addr).add j) = some u := fun j u hj => by
     have hlt : j < m * te.size := by
       rw [← hnl]
       exact (List.getElem?_eq_some_iff.1 hj).1
     have hi : j / te.size < m := by rw [Nat.div_lt_iff_lt_mul hsz]; exact hlt
     have := hng (j / te.size) hi (j % te.size) (Nat.mod_lt _ hsz)
     rw [div_mod_row hsz] at this
     rw [addr_add, ← this]; exact hj
   have hone := list_row hnl hnrel
   obtain ⟨zz1, _⟩ := zero_cells (Z := Z) (w := w) hF2
   rcases hd with ⟨rfl, rfl, rfl⟩ | ⟨b, cap, cs, rfl, rfl, hb, hcap, hmax, hcs, hx⟩
   ·
     have hr := run_append_nil (P := P) w t ty e i2 z2 ht hF2.info hF2.zero ⟨yb, yo, none⟩ m c news hnl' hncell hm (by omega) (by rw [hF2.bytes]; simp only [Nat.zero_add] at hbytes; omega)
     simp only [Nat.zero_add] at hcapLe ⊢
     have hge := grownCap_ge w m 0 e
     refine ⟨_, _, hr, ⟨rfl, rfl, rfl, by simp, fun k hk _ => heap_alloc_old w.drew _ k hk⟩, fun b hb => by simp at hb, .inr ⟨w.heap.size, _, _, rfl, .inr ⟨Nat.le_refl _, by simp⟩, heap_alloc_new w.drew _, hge, hcapLe 0, ?_, fun i hi j hj => ?_⟩⟩
     · simp only [Array.size_append, List.size_toArray, size_zeroCells, zz1, hnl, ← Nat.add_mul]
       congr 1; omega
     · rw [joinRow_ge (Nat.zero_le _), Nat.sub_zero]
       obtain ⟨x, h1, h2⟩ := hnrel i hi j hj
       refine ⟨x, ?_, h2⟩
       rw [Array.getElem?_append_left (by simpa [hnl] using row_bound hi hj)]
       simpa using h1
   · by_cases hroom : n + m ≤ cap
     ·
       have hfit : n * i2.size + news.length ≤ cs.size := by
         rw [hF2.size, hnl, hcs, ← Nat.add_mul]; exact Nat.mul_le_mul_right _ hroom
       have hr := run_append_room (P := P) w t ty e i2 ht hF2.info b n cap cs hb ⟨yb, yo, none⟩ m c news hnl' hncell hone hroom hfit
       rw [hF2.size] at hr hfit
       refine ⟨_, _, hr, ⟨rfl, rfl, rfl, by simp, fun k _ hk => setRow_other w b k _ (fun e => hk (by rw [e]))⟩, fun b' hb' => ?_, .inr ⟨b, cap, _, rfl, .inl rfl, setRow_heap w b cs _ e _ hb, hroom, hmax, ?_, fun i hi j hj => ?_⟩⟩
       · injection hb' with e'; subst e'
         refine ⟨cs, _, e, hb, setRow_heap w b cs _ e _ hb, ?_⟩
         simp; omega
       · simp only [List.size_toArray, List.length_append, List.length_take, List.length_drop, Array.length_toList]
         omega
       · simp only [List.getElem?_toArray]
         by_cases hin : i < n
         · rw [joinRow_lt hin]
           obtain ⟨x, h1, h2⟩ := hx i hin j hj
           refine ⟨x, ?_, h2⟩
           have := row_bound hin hj
           rw [List.append_assoc, List.getElem?_append_left (by simp; omega), List.getElem?_take, if_pos this, Array.getElem?_toList]
           exact h1
         · rw [joinRow_ge (by omega)]
           obtain ⟨x, h1, h2⟩ := hnrel (i - n) (by omega) j hj
           refine ⟨x, ?_, h2⟩
           have hb1 := row_bound (show i - n < m by omega) hj
           have he : i * te.size + j - n * te.size = (i - n) * te.size + j := by
             have : i * te.size = (i - n) * te.size + n * te.size := by rw [← Nat.add_mul]; congr 1; omega
             omega
           have hge : n * te.size ≤ i * te.size := Nat.mul_le_mul_right _ (by omega)
           rw [List.append_assoc, List.getElem?_append_right (by simp; omega), List.getElem?_append_left (by simp [hnl]; omega)]
           simp only [List.length_take, Array.length_toList, Nat.min_eq_left (show n * te.size ≤ cs.size by omega), he]
           exact h1
     ·
       obtain ⟨olds, hol, hog⟩ := row_cells (l := n) (s := te.size) hsz (a := none) (fun i j => cs[i * te.size + j]?) (fun i hi j hj => let ⟨u, hu, _⟩ := hx i hi j hj; ⟨u, hu⟩)
       have hocell : ∀ (j : Nat) (u : Value), olds[j]? = some u → w.cell? ((⟨b, 0, none⟩ : Addr).add j) = some u := fun j u hj => by
         have hlt : j < n * te.size := by
           rw [← hol]
           exact (List.getElem?_eq_some_iff.1 hj).1
         have hi : j / te.size < n := by rw [Nat.div_lt_iff_lt_mul hsz]; exact hlt
         have := hog (j / te.size) hi (j % te.size) (Nat.mod_lt _ hsz)
         rw [div_mod_row hsz] at this
         rw [addr_add, cell_of_heap hb, Nat.zero_add, ← this]; exact hj
       have hr := run_append_grow (P := P) w t ty e i2 z2 ht hF2.info hF2.zero ⟨b, 0, none⟩ n cap olds (by rw [hF2.size]; exact hol) hocell ⟨yb, yo, none⟩ m c news hnl' hncell (by omega) h63 (growslice_fits (by omega) (by rw [hF2.bytes]; exact hbytes))
       have hge := grownCap_ge w (n + m) cap e
       have hblt : b < w.heap.size := (Array.getElem?_eq_some_iff.1 hb).1
       refine ⟨_, _, hr, ⟨rfl, rfl, rfl, by simp, fun k hk _ => heap_alloc_old w.drew _ k hk⟩, fun b' hb' => ?_, .inr ⟨w.heap.size, _, _, rfl, .inr ⟨Nat.le_refl _, by simp⟩, heap_alloc_new w.drew _, hge, hcapLe cap, ?_, fun i hi j hj => ?_⟩⟩
       · injection hb' with e'; subst e'
         exact ⟨cs, cs, e, hb, by rw [heap_alloc_old w.drew _ b hblt]; exact hb, rfl⟩
       · simp only [Array.size_append, List.size_toArray, size_zeroCells, zz1, hol, hnl, ← Nat.add_mul]
         congr 1; omega
       · have hb2 := row_bound hi hj
         rw [Nat.add_mul] at hb2
         rw [Array.getElem?_append_left (by simp only [Array.size_append, List.size_toArray, hol, hnl]; omega)]
         by_cases hin : i < n
         · rw [joinRow_lt hin]
           obtain ⟨x, h1, h2⟩ := hx i hin j hj
           refine ⟨x, ?_, h2⟩
           rw [Array.getElem?_append_left (by simpa [hol] using row_bound hin hj)]
           simp only [List.getElem?_toArray]
           rw [hog i hin j hj]; exact h1
         · rw [joinRow_ge (by omega)]
           obtain ⟨x, h1, h2⟩ := hnrel (i - n) (by omega) j hj
           refine ⟨x, ?_, h2⟩
           have he : i * te.size + j - n * te.size = (i - n) * te.size + j := by
             have : i * te.size = (i - n) * te.size + n * te.size := by rw [← Nat.add_mul]; congr 1; omega
             omega
           have hge : n * te.size ≤ i * te.size := Nat.mul_le_mul_right _ (by omega)
           rw [Array.getElem?_append_right (by simp [hol]; omega)]
           simp only [List.size_toArray, hol, he, List.getElem?_toArray]
           exact h1
theorem append_exact {t e ty : Nat} {te : TI} {i2 : TypeInfo} {d2 : TypeDesc} {z2 : Value} (ht : P.underlying t = some (.slice e)) (hF2 : TyF P e te i2 d2 z2) (hsz : 0 < te.size)
   {a0 : Option Addr} {n : Nat} {gx : Nat → Nat → CV}
   (hx : 0 < n → ∃ b o, a0 = some ⟨b, o, none⟩ ∧ ∀ i, i < n → ∀ j, j < te.size → ∃ u, w.cell? ⟨b, o + (i * te.size + j), none⟩ = some u ∧ RP Z w (gx i j) u)
   {a : Option Addr} {m c : Nat} (hm : 0 < m) {gy : Nat → Nat → CV} (hy : 0 < m → ∃ b o, a = some ⟨b, o, none⟩ ∧ ∀ i, i < m → ∀ j, j < te.size → ∃ u, w.cell? ⟨b, o + (i * te.size + j), none⟩ = some u ∧ RP Z w (gy i j) u)
   (hbytes : (n + m) * te.bytes ≤ 140737488355328) (h62 : n + m < 4611686018427387904) :
   AppOk P Z w none (Builtin.append_ #[t, t] ty #[.slice a0 n n, .slice a m c]) e te.size (n + m) (joinRow n gx gy) := by
 have h63 : ((n + m : Nat) : Int) ≤ 9223372036854775807 := by omega
 have hcapLe : ∀ o, grownCap w (n + m) o e ≤ maxLen := fun o => grownCap_le_maxLen w (n + m) o e (by unfold maxLen; omega)
 cases a0 with
 | none =>
   have h0 : n = 0 := by
     rcases Nat.eq_zero_or_pos n with h | h
     · exact h
     · obtain ⟨b, o, h1, _⟩ := hx h; cases h1
   subst h0
   exact append_core (P := P) (Z := Z) (w := w) (ty := ty) ht hF2 hsz (v := .slice none 0 0) (n := 0) (gx := gx) (old := none) (.inl ⟨rfl, rfl, rfl⟩) hy hbytes h62
 | some ad =>
   obtain ⟨yb, yo, rfl, hyc⟩ := hy hm
   obtain ⟨news, hnl, hng⟩ := row_cells (l := m) (s := te.size) hsz (a := none) (fun i j => w.cell? ⟨yb, yo + (i * te.size + j), none⟩) (fun i hi j hj => let ⟨u, hu, _⟩ := hyc i hi j hj; ⟨u, hu⟩)
   have hnrel : ∀ i, i < m → ∀ j, j < te.size → ∃ x, news[i * te.size + j]? = some x ∧ RP Z w (gy i j) x := fun i hi j hj => by
     obtain ⟨u, hu, hr⟩ := hyc i hi j hj
     exact ⟨u, by rw [hng i hi j hj]; exact hu, hr⟩
   have hnl' : news.length = m * i2.size := by rw [hF2.size]; exact hnl
   have hncell : ∀ (j : Nat) (u : Value), news[j]? = some u → w.cell? ((⟨yb, yo, none⟩ : Addr).add j) = some u := fun j u hj => by
     have hlt : j < m * te.size := by
       rw [← hnl]
       exact (List.getElem?_eq_some_iff.1 hj).1
     have hi : j / te.size < m := by rw [Nat.div_lt_iff_lt_mul hsz]; exact hlt
     have := hng (j / te.size) hi (j % te.size) (Nat.mod_lt _ hsz)
     rw [div_mod_row hsz] at this
     rw [addr_add, ← this]; exact hj
   obtain ⟨zz1, _⟩ := zero_cells (Z := Z) (w := w) hF2
   have hxe : ∀ i, i < n → ∀ j, j < te.size → ∃ u, w.cell? (ad.add (i * te.size + j)) = some u ∧ RP Z w (gx i j) u := fun i hi j hj => by
     obtain ⟨b, o, h1, h3⟩ := hx (by omega)
     injection h1 with h1; subst h1
     rw [addr_add]; exact h3 i hi j hj
   obtain ⟨olds, hol, hog⟩ := row_cells (l := n) (s := te.size) hsz (a := none) (fun i j => w.cell? (ad.add (i * te.size + j))) (fun i hi j hj => let ⟨u, hu, _⟩ := hxe i hi j hj; ⟨u, hu⟩)
   have hocell : ∀ (j : Nat) (u : Value), olds[j]? = some u → w.cell? (ad.add j) = some u := fun j u hj => by
     have hlt : j < n * te.size := by
       rw [← hol]
       exact (List.getElem?_eq_some_iff.1 hj).1
     have hi : j / te.size < n := by rw [Nat.div_lt_iff_lt_mul hsz]; exact hlt
     have := hog (j / te.size) hi (j % te.size) (Nat.mod_lt _ hsz)
     rw [div_mod_row hsz] at this
     rw [← this]; exact hj
   have hr := run_append_grow (P := P) w t ty e i2 z2 ht hF2.info hF2.zero ad n n olds (by rw [hF2.size]; exact hol) hocell ⟨yb, yo, none⟩ m c news hnl' hncell (by omega) h63 (growslice_fits (by omega) (by rw [hF2.bytes]; exact hbytes))
   have hge := grownCap_ge w (n + m) n e
   refine ⟨_, _, hr, ⟨rfl, rfl, rfl, by simp, fun k hk _ => heap_alloc_old w.drew _ k hk⟩, fun b' hb' => by simp at hb', .inr ⟨w.heap.size, _, _, rfl, .inr ⟨Nat.le_refl _, by simp⟩, heap_alloc_new w.drew _, hge, hcapLe n, ?_, fun i hi j hj => ?_⟩⟩
   · simp only [Array.size_append, List.size_toArray, size_zeroCells, zz1, hol, hnl, ← Nat.add_mul]
     congr 1; omega
   · have hb2 := row_bound hi hj
     rw [Nat.add_mul] at hb2
     rw [Array.getElem?_append_left (by simp only [Array.size_append, List.size_toArray, hol, hnl]; omega)]
     by_cases hin : i < n
     · rw [joinRow_lt hin]
       obtain ⟨x, h1, h2⟩ := hxe i hin j hj
       refine ⟨x, ?_, h2⟩
       rw [Array.getElem?_append_left (by simpa [hol] using row_bound hin hj)]
       simp only [List.getElem?_toArray]
       rw [hog i hin j hj]; exact h1
     · rw [joinRow_ge (by omega)]
       obtain ⟨x, h1, h2⟩ := hnrel (i - n) (by omega) j hj
       refine ⟨x, ?_, h2⟩
       have he : i * te.size + j - n * te.size = (i - n) * te.size + j := by
         have : i * te.size = (i - n) * te.size + n * te.size := by rw [← Nat.add_mul]; congr 1; omega
         omega
       have hge2 : n * te.size ≤ i * te.size := Nat.mul_le_mul_right _ (by omega)
       rw [Array.getElem?_append_right (by simp [hol]; omega)]
       simp only [List.size_toArray, hol, he, List.getElem?_toArray]
       exact h1
theorem eqCell_ok {t : Nat} {ti : TI} {i : TypeInfo} {d : TypeDesc} {z : Value} (hF : TyF P t ti i d z) {x y : CV} {u v : Value} (hx : RC β Z w x u) (hy : RC β Z w y v) {b : Bool} (h : eqCell ti.kind x y = some b) (dd : Nat) :
   (Op.equalIn (dd + 1) t u v).run P w = .ok b w ∧ ti.isAgg = false := by
 unfold eqCell at h
 split at h
 · rename_i k hk
   obtain rfl := hF.int hk
   split at h
   · rename_i k1 a k2 b'
     split at h
     · rename_i hkk
       obtain rfl := kindNo_inj hkk
       simp at h; subst h
       obtain rfl : u = .int k1 a := hx
       obtain rfl : v = .int k1 b' := hy
       exact ⟨run_equalIn_int w dd t k1 k a b' hF.und, by simp [TI.isAgg, hk, TK.isAgg]⟩
     · simp at h
   · simp at h
 · rename_i hk
   obtain rfl := hF.str hk
   split at h
   · rename_i a b'
     simp at h; subst h
     obtain rfl : u = .string a := hx
     obtain rfl : v = .string b' := hy
     exact ⟨run_equalIn_string w dd t a b' hF.und, by simp [TI.isAgg, hk, TK.isAgg]⟩
   · simp at h
 · rename_i hk
   obtain rfl := hF.bool hk
   split at h
   · rename_i a b' h1 h2
     simp at h; subst h
     obtain rfl := truth_ok (β := β) (Z := Z) (w := w) (x := .t (.c x)) hx h1
     obtain rfl := truth_ok (β := β) (Z := Z) (w := w) (x := .t (.c y)) hy h2
     exact ⟨run_equalIn_bool w dd t a b' hF.und, by simp [TI.isAgg, hk, TK.isAgg]⟩
   · simp at h
 · simp at h
theorem part_one {t : Nat} {ti : TI} {i : TypeInfo} {d : TypeDesc} {z : Value} (hF : TyF P t ti i d z) (ho : ti.kind ≠ .other) (hA : ti.isAgg = false) {cs : Array Value} {off : Nat} {u : Value} (h : cs[off]? = some u) :
   (part t cs off).run P w = .ok u w := by
 unfold part
 simp [hF.run_isAgg ho, hA, h]
theorem eqStruct_ok (hT : TabOk P E) {xs ys : Array Value} {f g : Nat → CV} {n : Nat} (hxs : ∀ j, j < n → ∃ u, xs[j]? = some u ∧ RC β Z w (f j) u) (hys : ∀ j, j < n → ∃ u, ys[j]? = some u ∧ RC β Z w (g j) u) (dd : Nat) :
   ∀ {fl : List Field} {b : Bool}, (∀ x ∈ fl, x.name ≠ "_") → (∀ x ∈ fl, x.offset < n) → eqStruct E f g (fl.map fun x => (x.offset, x.type)) = some b → (Op.eqFields (dd + 1) xs ys fl).run P w = .ok b w
 | [], b, _, _, h => by simp [eqStruct] at h; subst h; simp [Op.eqFields]
 | x :: fl, b, hn, ho, h => by
   simp only [List.map_cons, eqStruct] at h
   split at h
   · rename_i ti hti
     split at h
     · rename_i b1 b2 h1 h2
       simp at h; subst h
       obtain ⟨hTt, hok⟩ := hT x.type ti hti
       obtain ⟨i, d, z, hF⟩ := tabTI_spec hTt
       obtain ⟨u, hu, hru⟩ := hxs x.offset (ho x (by simp))
       obtain ⟨v, hv, hrv⟩ := hys x.offset (ho x (by simp))
       obtain ⟨he, hA⟩ := eqCell_ok hF hru hrv h1 dd
       have ih := eqStruct_ok hT hxs hys dd (fun y hy => hn y (by simp [hy])) (fun y hy => ho y (by simp [hy])) h2
       have hne := hn x (by simp)
       simp only [Op.eqFields, hne, ne_eq, not_false_eq_true, if_true, Sem.run_bind, part_one hF hok hA hu, part_one hF hok hA hv, he, Result.andThen_ok]
       cases b1
       · simp
       · simpa using ih
     · simp at h
   · simp at h
theorem eqDeep_ok (hT : TabOk P E) {xs ys : Array Value} {f g : Nat → CV} {n : Nat} (hn1 : xs.size = n) (hn2 : ys.size = n) (hxs : ∀ j, j < n → ∃ u, xs[j]? = some u ∧ RC β Z w (f j) u) (hys : ∀ j, j < n → ∃ u, ys[j]? = some u ∧ RC β Z w (g j) u) (dd : Nat) :
   ∀ {fl : List Field} {b : Bool}, (∀ x ∈ fl, x.name ≠ "_") → (∀ x ∈ fl, x.offset < n) → eqDeep E n f g (fl.map fun x => (x.offset, x.type)) = some b → (Op.eqFields (dd + 2) xs ys fl).run P w = .ok b w
 | [], b, _, _, h => by simp [eqDeep] at h; subst h; simp [Op.eqFields]
 | x :: fl, b, hn, ho, h => by
   simp only [List.map_cons, eqDeep] at h
   split at h
   · rename_i ti hti
     split at h
     · rename_i b1 b2 h1 h2
       simp at h; subst h
       obtain ⟨hTt, hok⟩ := hT x.type ti hti
       obtain ⟨i, d, z, hF⟩ := tabTI_spec hTt
       have ih := eqDeep_ok hT hn1 hn2 hxs hys dd (fun y hy => hn y (by simp [hy])) (fun y hy => ho y (by simp [hy])) h2
       have hne := hn x (by simp)
       have one : ∃ u v, (part x.type xs x.offset).run P w = .ok u w ∧ (part x.type ys x.offset).run P w = .ok v w ∧ (Op.equalIn (dd + 2) x.type u v).run P w = .ok b1 w := by
         split at h1
         · rename_i fs hk
           split at h1
           · rename_i hc
             simp only [Bool.and_eq_true, List.all_eq_true] at hc
             have hle : x.offset + ti.size ≤ n := Nat.le_of_ble_eq_true hc.1
             have hA : ti.isAgg = true := by simp [TI.isAgg, hk, TK.isAgg]
             obtain ⟨fl2, rfl, rfl, hnm, hst, hgd⟩ := hF.struct hk
             obtain ⟨u, hu, hru⟩ := part_ok (β := β) (Z := Z) (w := w) (P := P) hF hok (cs := xs) (off := x.offset) (get := fun j => f (x.offset + j)) (by omega) fun j hj => hxs (x.offset + j) (by omega)
             obtain ⟨v, hv, hrv⟩ := part_ok (β := β) (Z := Z) (w := w) (P := P) hF hok (cs := ys) (off := x.offset) (get := fun j => g (x.offset + j)) (by omega) fun j hj => hys (x.offset + j) (by omega)
             simp only [mkTV, hA, if_true] at hru hrv
             obtain ⟨us, rfl, _, u2⟩ := hru
             obtain ⟨vs, rfl, _, v2⟩ := hrv
             refine ⟨_, _, hu, hv, ?_⟩
             have hfo : P.fieldsOf x.type = fl2 := by simp [Program.fieldsOf, hF.und]
             rw [run_equalIn_struct w (dd + 1) x.type us vs (by rw [hfo]; exact hF.und) hst, hfo]
             refine eqStruct_ok hT u2 v2 dd (fun y hy => (hnm y hy).1) (fun y hy => ?_) h1
             have := hc.2 (y.offset, y.type) (List.mem_map_of_mem hy)
             exact Nat.le_of_ble_eq_true this
           · simp at h1
         · obtain ⟨u, hu, hru⟩ := hxs x.offset (ho x (by simp))
           obtain ⟨v, hv, hrv⟩ := hys x.offset (ho x (by simp))
           obtain ⟨he, hA⟩ := eqCell_ok hF hru hrv h1 (dd + 1)
           exact ⟨u, v, part_one hF hok hA hu, part_one hF hok hA hv, he⟩
       obtain ⟨u, v, hu, hv, he⟩ := one
       simp only [Op.eqFields, hne, ne_eq, not_false_eq_true, if_true, Sem.run_bind, hu, hv, he, Result.andThen_ok]
       cases b1
       · simp
       · simpa using ih
     · simp at h
   · simp at h
theorem eqArr_ok {t : Nat} {ti : TI} {i : TypeInfo} {d : TypeDesc} {z : Value} (hF : TyF P t ti i d z) (hok : ti.kind ≠ .other) {xs ys : Array Value} {f g : Nat → CV} {n : Nat} (hxs : ∀ j, j < n → ∃ u, xs[j]? = some u ∧ RC β Z w (f j) u) (hys : ∀ j, j < n → ∃ u, ys[j]? = some u ∧ RC β Z w (g j) u) (dd : Nat) :
   ∀ {is : List Nat} {b : Bool}, (∀ j ∈ is, j < n) → eqArr ti.kind f g is = some b → (Op.eqItems (dd + 1) t 1 xs ys is).run P w = .ok b w
 | [], b, _, h => by simp [eqArr] at h; subst h; simp [Op.eqItems]
 | j :: is, b, ho, h => by
   simp only [eqArr] at h
   split at h
   · rename_i b1 b2 h1 h2
     simp at h; subst h
     obtain ⟨u, hu, hru⟩ := hxs j (ho j (by simp))
     obtain ⟨v, hv, hrv⟩ := hys j (ho j (by simp))
     obtain ⟨he, hA⟩ := eqCell_ok hF hru hrv h1 dd
     have ih := eqArr_ok hF hok hxs hys dd (fun y hy => ho y (by simp [hy])) h2
     simp only [Op.eqItems, Nat.mul_one, Sem.run_bind, part_one hF hok hA hu, part_one hF hok hA hv, he, Result.andThen_ok]
     cases b1
     · simp
     · simpa using ih
   · simp at h
theorem eqPlan_ok {neg : Bool} {o : Option Bool} {c : List Prop} {y : AV} (h : eqPlan neg o = .ok c y) : ∃ b, o = some b ∧ RA β Z w y (.bool (if neg then !b else b)) := by
 unfold eqPlan Plan.cell at h
 split at h
 · rename_i b
   simp at h; obtain ⟨rfl, rfl⟩ := h
   exact ⟨b, rfl, rfl⟩
 · simp at h
theorem equal_ok (hT : TabOk P E) {t : Nat} {ti : TI} (ht : E.ty t = some ti) {neg : Bool} {x y : AV} {u v : Value} (hx : RA β Z w x u) (hy : RA β Z w y v) {c : List Prop} {r : AV} (h : planEq E ti neg x y = .ok c r) :
   ∃ b, (Op.equal t u v).run P w = .ok b w ∧ RA β Z w r (.bool (if neg then !b else b)) := by
 obtain ⟨hTt, hok⟩ := hT t ti ht
 obtain ⟨i, d, z, hF⟩ := tabTI_spec hTt
 unfold planEq at h
 split at h
 · rename_i n f m g
   obtain ⟨hb, h0⟩ := need_ok h (by simp)
   clear h
   rename _ => h
   simp only [Bool.and_eq_true] at hb
   have hn : n = ti.size := Nat.eq_of_beq_eq_true hb.1
   have hm : m = ti.size := Nat.eq_of_beq_eq_true hb.2
   subst hn; subst hm
   obtain ⟨xs, rfl, x1, x2⟩ := hx
   obtain ⟨ys, rfl, y1, y2⟩ := hy
   split at h
   · rename_i fs hk
     obtain ⟨fl, rfl, rfl, hnm, hst, hgd⟩ := hF.struct hk
     split at h
     · rename_i hall
       obtain ⟨b, hb', hr⟩ := eqPlan_ok (β := β) (Z := Z) (w := w) h
       refine ⟨b, ?_, hr⟩
       have hfo : P.fieldsOf t = fl := by simp [Program.fieldsOf, hF.und]
       rw [Op.equal, Op.maxDepth, run_equalIn_struct w 9999 t xs ys (by rw [hfo]; exact hF.und) hst, hfo]
       refine eqDeep_ok hT x1 y1 x2 y2 9997 (fun x hx => (hnm x hx).1) (fun x hx => ?_) hb'
       simp only [List.all_map, List.all_eq_true] at hall
       have := hall x hx
       exact Nat.le_of_ble_eq_true this
     · simp at h
   · rename_i l e hk
     obtain ⟨rfl, hgd⟩ := hF.array hk
     split at h
     · rename_i te hte
       obtain ⟨hTe, hoke⟩ := hT e te hte
       obtain ⟨i2, d2, z2, hF2⟩ := tabTI_spec hTe
       obtain ⟨hq, h0⟩ := need_ok h (by simp)
       clear h
       rename _ => h
       simp only [Bool.and_eq_true] at hq
       have h1 : te.size = 1 := Nat.eq_of_beq_eq_true hq.1
       have hl : l = ti.size := Nat.eq_of_beq_eq_true hq.2
       obtain ⟨b, hb', hr⟩ := eqPlan_ok (β := β) (Z := Z) (w := w) h
       refine ⟨b, ?_, hr⟩
       have hc : P.cellsOf e = 1 := by simp [Program.cellsOf, hF2.info, hF2.size, h1]
       rw [Op.equal, Op.maxDepth, run_equalIn_array w 9999 xs ys hF.und hF2.info, hc]
       exact eqArr_ok hF2 hoke x2 y2 9998 (fun j hj => by simpa [hl] using hj) hb'
     · simp at h
   · simp at h
 · obtain ⟨b, hb', hr⟩ := eqPlan_ok (β := β) (Z := Z) (w := w) h
   exact ⟨b, (eqCell_ok hF hx hy hb' 9999).1, hr⟩
 · simp at h
end
end Go.Sx
