/- Texts for the law of the last part, part 3. -/
import Derived.Test.YtcfmdhlohahhcaaDoorMendsUptoP02
import Derived.Laws.Rows
import Derived.Laws.AppendOwnNone
import Derived.ChangeKeysEq
set_option linter.unusedSimpArgs false
set_option linter.unusedVariables false
namespace Go.Sx
section
variable {P : Program} {E : Env} {β : Nat → Loc} {Z : Nat → Prop} {w : World}
def NewOk (P : Program) (β : Nat → Loc) (Z : Nat → Prop) (w : World) (s : Sem Value) (blk : Blk) (v : Nat → AV) : Prop :=
 ∃ u cs e ln, s.run P w = .ok u (w.alloc (.cells cs e)) ∧ RBc β Z w ln cs e blk ∧
   ∀ (β' : Nat → Loc) (Z' : Nat → Prop) (w' : World) (n : Nat), β' n = .at w.heap.size ln → (∃ cs' e' , w'.heap[w.heap.size]? = some (.cells cs' e' (0, 0)) ∧ cs'.size = cs.size) → RA β' Z' w' (v n) u
theorem getD_of {l : List CV} {j : Nat} (h : j < l.length) : ofList l j = l[j] := by simp [ofList, h]
theorem zero_cells {t : Nat} {ti : TI} {i : TypeInfo} {d : TypeDesc} {z : Value} (hF : TyF P t ti i d z) : z.cells.size = ti.size ∧ ∀ j, j < ti.size → ∃ u, z.cells[j]? = some u ∧ RP Z w (ofList ti.zero j) u := by
 have h1 := lits_length hF.zlits
 have h2 := hF.zlen
 refine ⟨by simpa [h2] using h1.symm, fun j hj => ?_⟩
 obtain ⟨u, hu, hl⟩ := lits_get hF.zlits j (ofList ti.zero j) (by rw [getD_of (by omega)]; simp)
 exact ⟨u, by simpa using hu, RC.lit hl⟩
theorem zeroG_eq {ti : TI} {j : Nat} (hl : ti.zero.length = ti.size) (hj : j < ti.size) : zeroG ti j = ofList ti.zero j := by
 unfold zeroG
 cases h1 : Nat.ble 40 ti.size with
 | false => rfl
 | true =>
   cases h : ti.zero.all isFF with
   | false => rfl
   | true =>
     have hj' : j < ti.zero.length := by omega
     have := List.all_eq_true.1 h _ (List.getElem_mem hj')
     rw [getD_of hj']
     cases e : ti.zero[j] <;> rw [e] at this <;> first | rfl | simp [isFF] at this
theorem alloc_ok (hT : TabOk P E) {t : Nat} {ti : TI} (ht : E.ty t = some ti) : NewOk P β Z w (Instr.alloc t true (.tuple #[])) (.box ti.size (zeroG ti)) (fun n => .t (.c (.ptr n 0))) := by
 obtain ⟨i, d, z, hF⟩ := tabTI_spec (hT t ti ht).1
 obtain ⟨h1, h2⟩ := zero_cells (Z := Z) (w := w) hF
 refine ⟨_, z.cells, t, 0, ?_, ⟨h1, fun j hj => let ⟨u, hu, hr⟩ := h2 j hj; ⟨u, hu, RC.of_RP (by rw [zeroG_eq hF.zlen hj]; exact hr)⟩⟩, fun β' Z' w' n hn _ => ⟨_, _, hn, rfl⟩⟩
 simp [Instr.alloc, hF.run_zero, newVar, newRow]
theorem box_ok {t : Nat} {x : TV} {v : Value} (hx : RT β Z w x v) : NewOk P β Z w (Instr.box t v) (.box x.cells.1 x.cells.2) (fun n => .t (.c (.ptr n 0))) := by
 obtain ⟨h1, h2⟩ := RT.cells hx
 refine ⟨_, v.cells, t, 0, ?_, ⟨h1, h2⟩, fun β' Z' w' n hn _ => ⟨_, _, hn, rfl⟩⟩
 simp [Instr.box, newVar, newRow]
theorem foldl_set (cs : Array Value) : ∀ (l : List Value) (k : Nat) (off : Nat) (acc : Array Value), off + k + l.length ≤ acc.size →
   (l.zipIdx k).foldl (fun (a : Array Value) (p : Value × Nat) => a.setIfInBounds (off + p.2) p.1) acc = (acc.toList.take (off + k) ++ l ++ acc.toList.drop (off + k + l.length)).toArray
 | [], k, off, acc, _ => by simp
 | v :: l, k, off, acc, h => by
   simp only [List.length_cons] at h
   simp only [List.zipIdx_cons, List.foldl_cons]
   rw [foldl_set cs l (k + 1) off _ (by simp; omega)]
   apply Array.ext'
   apply List.ext_getElem?
   intro j
   simp only [List.getElem?_append, List.length_append, List.length_take, Array.length_toList, Array.size_setIfInBounds, List.length_cons, List.getElem?_take, List.getElem?_drop, Array.getElem?_toList, Array.getElem?_setIfInBounds]
   have hs : off + k < acc.size := by omega
   have e1 : min (off + k) acc.size = off + k := by omega
   have e2 : min (off + (k + 1)) acc.size = off + k + 1 := by omega
   simp only [e1, e2]
   by_cases c1 : j < off + k
   · have : j < off + k + 1 := by omega
     have : off + k ≠ j := by omega
     simp [*, show j < off + k + 1 + l.length by omega, show j < off + k + (l.length + 1) by omega, show j < off + (k + 1) by omega]
   · by_cases c2 : j = off + k
     · subst c2
       simp [show off + k < off + k + 1 + l.length by omega, show off + k < off + k + (l.length + 1) by omega, show off + k < off + (k + 1) by omega, hs]
     · by_cases c3 : j < off + k + 1 + l.length
       · have : ¬ j < off + k + 1 := by omega
         simp [c1, c3, this, show j < off + k + (l.length + 1) by omega]
         rw [show j - (off + k) = (j - (off + k + 1)) + 1 by omega]
         simp
       · simp [c1, c3, show ¬ j < off + k + 1 by omega, show ¬ j < off + k + (l.length + 1) by omega]
         rw [if_neg (by omega)]
         congr 1
         omega
theorem foldl_set_get {v : Value} {off : Nat} {acc : Array Value} (h : off + v.cells.size ≤ acc.size) :
   let r := v.cells.zipIdx.foldl (fun cs (c, j) => cs.setIfInBounds (off + j) c) acc
   r.size = acc.size ∧ ∀ j, r[j]? = if off ≤ j ∧ j < off + v.cells.size then v.cells[j - off]? else acc[j]? := by
 intro r
 have e : r = (acc.toList.take off ++ v.cells.toList ++ acc.toList.drop (off + v.cells.size)).toArray := by
   show v.cells.zipIdx.foldl _ acc = _
   rw [← Array.foldl_toList, Array.toList_zipIdx]
   have := foldl_set v.cells v.cells.toList 0 off acc (by simpa using h)
   simpa using this
 rw [e]
 constructor
 · simp; omega
 · intro j
   simp only [List.getElem?_toArray]
   by_cases hj : off ≤ j
   · by_cases hj2 : j < off + v.cells.size
     · rw [if_pos ⟨hj, hj2⟩, List.append_assoc, List.getElem?_append_right (by simp; omega), List.getElem?_append_left (by simp; omega)]
       simp [Nat.min_eq_left (by omega : off ≤ acc.size)]
     · rw [if_neg (by omega), List.getElem?_append_right (by simp; omega)]
       simp only [List.length_append, List.length_take, Array.length_toList, Nat.min_eq_left (by omega : off ≤ acc.size), List.getElem?_drop, Array.getElem?_toList]
       congr 1; omega
   · rw [if_neg (by omega), List.append_assoc, List.getElem?_append_left (by simp; omega), List.getElem?_take, if_pos (by omega), Array.getElem?_toList]
def RParts (β : Nat → Loc) (Z : Nat → Prop) (w : World) : List (Nat × AV) → List (Nat × Value) → Prop
 | [], [] => True
 | (i, x) :: l, (j, v) :: r => i = j ∧ RA β Z w x v ∧ RParts β Z w l r
 | _, _ => False
theorem fill_struct {sizes : Array (Nat × Nat)} {fs : List (Nat × TypeId)} {size : Nat}
   (hs : ∀ (i fo ft : Nat) (ti : TI), fs[i]? = some (fo, ft) → E.ty ft = some ti → sizes[i]? = some (fo, ti.size)) :
   ∀ {parts : List (Nat × AV)} {vs : List (Nat × Value)} {get get' : Nat → CV} {cs : Array Value}, RParts β Z w parts vs → buildCells E fs size parts get = some get' → cs.size = size →
     (∀ j, j < size → ∃ u, cs[j]? = some u ∧ RC β Z w (get j) u) →
     ∃ cs' : Array Value, Instr.fill (sizes[·]?) cs vs = some cs' ∧ cs'.size = size ∧ ∀ j, j < size → ∃ u, cs'[j]? = some u ∧ RC β Z w (get' j) u
 | [], [], get, get', cs, _, h, hsz, hg => by
   simp [buildCells] at h; subst h
   exact ⟨cs, rfl, hsz, hg⟩
 | (i, .t v) :: parts, (i', u) :: vs, get, get', cs, hr, h, hsz, hg => by
   obtain ⟨rfl, hu, hr⟩ := hr
   simp only [buildCells] at h
   split at h
   · rename_i fo ft hfi
     split at h
     · rename_i ti hti
       split at h
       · rename_i hvs
         simp only [Bool.and_eq_true] at hvs
         have hvs1 : v.cells.1 = ti.size := Nat.eq_of_beq_eq_true hvs.1
         obtain ⟨q1, q2⟩ := RT.cells hu
         have hle : fo + ti.size ≤ size := Nat.le_of_ble_eq_true hvs.2
         have hu1 : u.cells.size = ti.size := q1.trans hvs1
         have hF := foldl_set_get (v := u) (off := fo) (acc := cs) (by omega)
         obtain ⟨f1, f2⟩ := hF
         obtain ⟨cs', g1, g2, g3⟩ := fill_struct hs (get := overAll size get fo v.cells.1 v.cells.2) (cs := u.cells.zipIdx.foldl (fun cs (c, j) => cs.setIfInBounds (fo + j) c) cs) hr h (f1.trans hsz) (fun j hj => by
           rw [f2, overAll_eq size get fo _ _ j hj (by omega), hvs1, hu1]
           split
           · exact q2 _ (by omega)
           · exact hg j hj)
         refine ⟨cs', ?_, g2, g3⟩
         simp only [Instr.fill, hs i fo ft ti hfi hti, hu1, ne_eq, not_true_eq_false, decide_false, Bool.false_or]
         rw [if_neg (by simp; omega)]
         exact g1
       · simp at h
     · simp at h
   · simp at h
 | (_, .any) :: _, _ :: _, _, _, _, _, h, _, _ => by simp [buildCells] at h
 | (_, .tup _) :: _, _ :: _, _, _, _, _, h, _, _ => by simp [buildCells] at h
 | [], _ :: _, _, _, _, hr, _, _, _ => hr.elim
 | _ :: _, [], _, _, _, hr, _, _, _ => hr.elim
theorem fill_arr {esz size : Nat} :
   ∀ {parts : List (Nat × AV)} {vs : List (Nat × Value)} {get get' : Nat → CV} {cs : Array Value}, RParts β Z w parts vs → buildArr esz size parts get = some get' → cs.size = size →
     (∀ j, j < size → ∃ u, cs[j]? = some u ∧ RC β Z w (get j) u) →
     ∃ cs' : Array Value, Instr.fill (fun i => some (i * esz, esz)) cs vs = some cs' ∧ cs'.size = size ∧ ∀ j, j < size → ∃ u, cs'[j]? = some u ∧ RC β Z w (get' j) u
 | [], [], get, get', cs, _, h, hsz, hg => by
   simp [buildArr] at h; subst h
   exact ⟨cs, rfl, hsz, hg⟩
 | (i, .t v) :: parts, (i', u) :: vs, get, get', cs, hr, h, hsz, hg => by
   obtain ⟨rfl, hu, hr⟩ := hr
   simp only [buildArr] at h
   split at h
   · rename_i hvs
     simp only [Bool.and_eq_true] at hvs
     have hvs1 : v.cells.1 = esz := Nat.eq_of_beq_eq_true hvs.1
     obtain ⟨q1, q2⟩ := RT.cells hu
     have hle : i * esz + esz ≤ size := Nat.le_of_ble_eq_true hvs.2
     have hu1 : u.cells.size = esz := q1.trans hvs1
     have hF := foldl_set_get (v := u) (off := i * esz) (acc := cs) (by omega)
     obtain ⟨f1, f2⟩ := hF
     obtain ⟨cs', g1, g2, g3⟩ := fill_arr (get := overAll size get (i * esz) v.cells.1 v.cells.2) (cs := u.cells.zipIdx.foldl (fun cs (c, j) => cs.setIfInBounds (i * esz + j) c) cs) hr h (f1.trans hsz) (fun j hj => by
       rw [f2, overAll_eq size get (i * esz) _ _ j hj (by omega), hvs1, hu1]
       split
       · exact q2 _ (by omega)
       · exact hg j hj)
     refine ⟨cs', ?_, g2, g3⟩
     simp only [Instr.fill, hu1, ne_eq, not_true_eq_false, decide_false, Bool.false_or]
     rw [if_neg (by simp; omega)]
     exact g1
   · simp at h
 | (_, .any) :: _, _ :: _, _, _, _, _, h, _, _ => by simp [buildArr] at h
 | (_, .tup _) :: _, _ :: _, _, _, _, _, h, _, _ => by simp [buildArr] at h
 | [], _ :: _, _, _, _, hr, _, _, _ => hr.elim
 | _ :: _, [], _, _, _, hr, _, _, _ => hr.elim
theorem mapM_sizes {fl : List Field} (hi : ∀ f ∈ fl, (P.info? f.type).isSome = true) :
   ∃ r : List (Nat × Nat), (fl.mapM fun f => do pure (f.offset, ← sizeOf f.type) : Sem (List (Nat × Nat))).run P w = .ok r w ∧ r.length = fl.length ∧ ∀ (i : Nat) (f : Field) (x : TypeInfo), fl[i]? = some f → P.info? f.type = some x → r[i]? = some (f.offset, x.size) := by
 induction fl with
 | nil => exact ⟨[], rfl, rfl, fun i f x h => by simp at h⟩
 | cons f fl ih =>
   obtain ⟨r, h1, h2, h3⟩ := ih (fun g hg => hi g (by simp [hg]))
   obtain ⟨x, hx⟩ := Option.isSome_iff_exists.1 (hi f (by simp))
   refine ⟨(f.offset, x.size) :: r, ?_, by simp [h2], fun i g y hg hy => ?_⟩
   · rw [List.mapM_cons]
     simp [sizeOf, typeInfo, hx] at h1 ⊢
     rw [h1]; rfl
   · cases i with
     | zero => simp at hg; subst hg; rw [hx] at hy; injection hy with e; subst e; rfl
     | succ i => simp at hg; simpa using h3 i g y hg hy
theorem build_ok (hT : TabOk P E) {t : Nat} {ti : TI} (ht : E.ty t = some ti) {parts : List (Nat × AV)} {vs : Array (Nat × Value)} (hr : RParts β Z w parts vs.toList) {c : List Prop} {y : AV}
   (h : planBuild E ti parts = .ok c y) : ∃ q, (Instr.build t vs).run P w = .ok q w ∧ RA β Z w y q := by
 obtain ⟨i, d, z, hF⟩ := tabTI_spec (hT t ti ht).1
 obtain ⟨z1, z2⟩ := zero_cells (Z := Z) (w := w) hF
 unfold planBuild at h
 split at h
 · rename_i fs hk
   obtain ⟨fl, rfl, rfl, hn, _, _⟩ := hF.struct hk
   split at h
   · rename_i get hb
     simp at h; obtain ⟨rfl, rfl⟩ := h
     obtain ⟨r, hr1, hr2, hr3⟩ := mapM_sizes (P := P) (w := w) (fl := fl.toList) (fun f hf => (hn f hf).2)
     obtain ⟨cs', g1, g2, g3⟩ := fill_struct (E := E) (β := β) (Z := Z) (w := w) (sizes := r.toArray) (fs := fl.toList.map (fun f => (f.offset, f.type))) (size := ti.size) (fun i fo ft ti2 h1 h2 => by
       obtain ⟨i2, d2, z2, hF2⟩ := tabTI_spec (hT ft ti2 h2).1
       simp only [List.getElem?_map, Option.map_eq_some_iff, Prod.mk.injEq] at h1
       obtain ⟨x, hx, rfl, rfl⟩ := h1
       have := hr3 i x i2 hx hF2.info
       rw [hF2.size] at this
       simpa using this) hr hb z1 (fun j hj => let ⟨u, hu, hr⟩ := z2 j hj; ⟨u, hu, RC.of_RP hr⟩)
     refine ⟨.agg cs', ?_, cs', rfl, g2, g3⟩
     have e : (fl.mapM fun f => do pure (f.offset, ← sizeOf f.type) : Sem (Array (Nat × Nat))).run P w = .ok r.toArray w := by
       rw [← Array.toArray_toList (xs := fl), List.mapM_toArray]
       simp only [Sem.run_map, hr1]
       rfl
     simp only [Instr.build, Sem.run_bind, hF.run_zero, Result.andThen_ok, Sem.run_pure, hF.run_und, e, g1]
   · simp at h
 · rename_i n e hk
   obtain ⟨rfl, hgd⟩ := hF.array hk
   split at h
   · rename_i te hte
     obtain ⟨i2, d2, z2', hF2⟩ := tabTI_spec (hT e te hte).1
     split at h
     · rename_i get hb
       obtain ⟨_, h⟩ := need_ok h (by simp)
       simp at h; obtain ⟨rfl, rfl⟩ := h
       obtain ⟨cs', g1, g2, g3⟩ := fill_arr (β := β) (Z := Z) (w := w) hr hb z1 (fun j hj => let ⟨u, hu, hr⟩ := z2 j hj; ⟨u, hu, RC.of_RP hr⟩)
       refine ⟨.agg cs', ?_, cs', rfl, g2, g3⟩
       simp only [Instr.build, Sem.run_bind, hF.run_zero, Result.andThen_ok, Sem.run_pure, hF.run_und, hF2.run_size, g1]
     · simp at h
   · simp at h
 · simp at h
theorem fill_row {size len : Nat} :
   ∀ {parts : List (Nat × AV)} {vs : List (Nat × Value)} {get get' : Nat → Nat → CV} {cs : Array Value}, RParts β Z w parts vs → buildRow size len parts get = some get' → cs.size = len * size →
     (∀ i, i < len → ∀ j, j < size → ∃ u, cs[i * size + j]? = some u ∧ RP Z w (get i j) u) →
     ∃ cs' : Array Value, Instr.fill (fun i => some (i * size, size)) cs vs = some cs' ∧ cs'.size = len * size ∧ ∀ i, i < len → ∀ j, j < size → ∃ u, cs'[i * size + j]? = some u ∧ RP Z w (get' i j) u
 | [], [], get, get', cs, _, h, hsz, hg => by
   simp [buildRow] at h; subst h
   exact ⟨cs, rfl, hsz, hg⟩
 | (i, .t v) :: parts, (i', u) :: vs, get, get', cs, hr, h, hsz, hg => by
   obtain ⟨rfl, hu, hr⟩ := hr
   simp only [buildRow] at h
   split at h
   · rename_i hvs
     simp only [Bool.and_eq_true] at hvs
     have hvs1 : v.cells.1 = size := Nat.eq_of_beq_eq_true hvs.1.1
     obtain ⟨q1, q2⟩ := RT.cells hu
     have hlt : i < len := Nat.le_of_ble_eq_true hvs.2
     have hle : (i + 1) * size ≤ len * size := Nat.mul_le_mul_right _ hlt
     rw [Nat.add_mul, Nat.one_mul] at hle
     have hu1 : u.cells.size = size := q1.trans hvs1
     have hF := foldl_set_get (v := u) (off := i * size) (acc := cs) (by omega)
     obtain ⟨f1, f2⟩ := hF
     obtain ⟨cs', g1, g2, g3⟩ := fill_row (get := fun i' => mixG (i' = i) v.cells.2 (get i')) (cs := u.cells.zipIdx.foldl (fun cs (c, j) => cs.setIfInBounds (i * size + j) c) cs) hr h (f1.trans hsz) (fun i' hi' j hj => by
       rw [f2, hu1]
       by_cases hik : i' = i
       · subst hik
         rw [if_pos (by omega), mixG_eq, if_pos rfl]
         obtain ⟨u', h1, h2⟩ := q2 j (by omega)
         exact ⟨u', by rw [show i' * size + j - i' * size = j by omega]; exact h1, RP.of_RC (allPure_get hvs.1.2 j hj) h2⟩
       · rw [mixG_eq, if_neg hik, if_neg]
         · exact hg i' hi' j hj
         · rintro ⟨a1, a2⟩
           rcases Nat.lt_or_gt_of_ne hik with hlt' | hgt
           · have : (i' + 1) * size ≤ i * size := Nat.mul_le_mul_right _ hlt'
             rw [Nat.add_mul, Nat.one_mul] at this
             omega
           · have : (i + 1) * size ≤ i' * size := Nat.mul_le_mul_right _ hgt
             rw [Nat.add_mul, Nat.one_mul] at this
             omega)
     refine ⟨cs', ?_, g2, g3⟩
     simp only [Instr.fill, hu1, ne_eq, not_true_eq_false, decide_false, Bool.false_or]
     rw [if_neg (by simp; omega)]
     exact g1
   · simp at h
 | (_, .any) :: _, _ :: _, _, _, _, _, h, _, _ => by simp [buildRow] at h
 | (_, .tup _) :: _, _ :: _, _, _, _, _, h, _, _ => by simp [buildRow] at h
 | [], _ :: _, _, _, _, hr, _, _, _ => hr.elim
 | _ :: _, [], _, _, _, hr, _, _, _ => hr.elim
theorem map_range0 (f g : Nat → Value) : (Array.range 0).map f = (Array.range 0).map g := by
 apply Array.ext'
 simp
theorem mod_row {size i j : Nat} (hj : j < size) : (i * size + j) % size = j := by
 rw [Nat.add_comm, Nat.add_mul_mod_self_right, Nat.mod_eq_of_lt hj]
theorem zero_row {t : Nat} {ti : TI} {i : TypeInfo} {d : TypeDesc} {z : Value} (hF : TyF P t ti i d z) (n k j : Nat) (hk : k < n) (hj : j < ti.size) :
   ∃ u, ((Array.range (n * ti.size)).map (fun x => z.cells[x % z.cells.size]!))[k * ti.size + j]? = some u ∧ RP Z w (ofList ti.zero j) u := by
 obtain ⟨z1, z2⟩ := zero_cells (Z := Z) (w := w) hF
 obtain ⟨u, hu, hr⟩ := z2 j hj
 have hle : (k + 1) * ti.size ≤ n * ti.size := Nat.mul_le_mul_right _ hk
 rw [Nat.add_mul, Nat.one_mul] at hle
 refine ⟨u, ?_, hr⟩
 have hlt : k * ti.size + j < n * ti.size := by omega
 simp only [Array.getElem?_map, Array.getElem?_range, hlt, if_true, Option.map_some, z1, mod_row hj, Array.getElem!_eq_getD, Array.getD_eq_getD_getElem?, hu, Option.getD_some]
theorem os_val {size len cap : Nat} {cs : Array Value} (hl : len ≤ cap) (hm : cap ≤ maxLen) (hs : cs.size = cap * size) :
   ∀ (β' : Nat → Loc) (Z' : Nat → Prop) (w' : World) (n : Nat), β' n = .at w.heap.size len → (∃ cs' e' , w'.heap[w.heap.size]? = some (.cells cs' e' (0, 0)) ∧ cs'.size = cs.size) → RA β' Z' w' (.t (.c (.os n size len))) (.slice (some ⟨w.heap.size, 0, none⟩) len cap) := by
 rintro β' Z' w' m hm' ⟨cs', e', h1, h2⟩
 show ROs w' (β' m) size len _
 rw [hm']
 exact ⟨rfl, cap, rfl, hl, hm, cs', e', h1, h2.trans hs⟩
theorem buildSlice_ok (hT : TabOk P E) {t : Nat} {ti : TI} (ht : E.ty t = some ti) {len : Nat} {parts : List (Nat × AV)} {vs : Array (Nat × Value)} (hr : RParts β Z w parts vs.toList) {c : List Prop} {blk : Blk} {v : Nat → AV}
   (h : planBuildSlice E ti len parts = .mk c blk v) : NewOk P β Z w (Instr.buildSlice t len vs) blk v := by
 obtain ⟨i, d, z, hF⟩ := tabTI_spec (hT t ti ht).1
 unfold planBuildSlice at h
 split at h
 · rename_i e hk
   obtain rfl := hF.slice hk
   split at h
   · rename_i te hte
     obtain ⟨i2, d2, z2, hF2⟩ := tabTI_spec (hT e te hte).1
     split at h
     · rename_i get hb
       obtain ⟨hble, h⟩ := need_ok h (by simp)
       simp only [Plan.mk.injEq] at h; obtain ⟨rfl, rfl, rfl⟩ := h
       simp only [Bool.and_eq_true] at hble
       have hle : len * te.size ≤ 16777216 := Nat.le_of_ble_eq_true hble.1
       have hsz : 1 ≤ te.size := Nat.le_of_ble_eq_true hble.2
       obtain ⟨z1, _⟩ := zero_cells (Z := Z) (w := w) hF2
       obtain ⟨cs', g1, g2, g3⟩ := fill_row (β := β) (Z := Z) (w := w) (cs := (Array.range (len * te.size)).map (fun x => z2.cells[x % z2.cells.size]!)) hr hb (by simp) (fun k hk j hj => zero_row hF2 len k j hk hj)
       have hlen : len ≤ 16777216 := by
         have : len * 1 ≤ len * te.size := Nat.mul_le_mul_left _ hsz
         omega
       refine ⟨.slice (some ⟨w.heap.size, 0, none⟩) len len, cs', e, len, ?_, ⟨rfl, rfl, by omega, g3⟩, fun β' Z' w' n => os_val (Nat.le_refl _) (by unfold maxLen; omega) g2 β' Z' w' n⟩
       have hnle : ¬ len * te.size > 2 ^ 24 := by omega
       by_cases h0 : len * te.size = 0
       · rw [h0] at g1
         have g1' : ∀ f : Nat → Value, Instr.fill (fun i => some (i * te.size, te.size)) ((Array.range 0).map f) vs.toList = some cs' := fun f => by rw [map_range0 f _]; exact g1
         simp [Instr.buildSlice, hF.run_und, hF2.run_size, h0, g1', newRow]
       · simp [Instr.buildSlice, hF.run_und, hF2.run_size, h0, g1, newRow, hF2.run_zero, hnle]
     · split at h
       · rename_i get hb
         obtain ⟨hble, h⟩ := need_ok h (by simp)
         simp only [Plan.mk.injEq] at h; obtain ⟨rfl, rfl, rfl⟩ := h
         simp only [Bool.and_eq_true] at hble
         have hle : len * te.size ≤ 16777216 := Nat.le_of_ble_eq_true hble.1
         have hsz : 1 ≤ te.size := Nat.le_of_ble_eq_true hble.2
         obtain ⟨cs', g1, g2, g3⟩ := fill_arr (β := β) (Z := Z) (w := w) (cs := (Array.range (len * te.size)).map (fun x => z2.cells[x % z2.cells.size]!)) hr hb (by simp) (fun j hj => by
           obtain ⟨u, hu, hr⟩ := zero_row (Z := Z) (w := w) hF2 len (j / te.size) (j % te.size) (Nat.div_lt_of_lt_mul (by rw [Nat.mul_comm]; exact hj)) (Nat.mod_lt _ (by omega))
           rw [Nat.mul_comm (j / te.size), Nat.div_add_mod] at hu
           exact ⟨u, hu, RC.of_RP hr⟩)
         have hlen : len ≤ 16777216 := by
           have : len * 1 ≤ len * te.size := Nat.mul_le_mul_left _ hsz
           omega
         refine ⟨.slice (some ⟨w.heap.size, 0, none⟩) len len, cs', e, len, ?_, ⟨g2, g3⟩, fun β' Z' w' n => os_val (Nat.le_refl _) (by unfold maxLen; omega) g2 β' Z' w' n⟩
         have hnle : ¬ len * te.size > 2 ^ 24 := by omega
         by_cases h0 : len * te.size = 0
         · rw [h0] at g1
           have g1' : ∀ f : Nat → Value, Instr.fill (fun i => some (i * te.size, te.size)) ((Array.range 0).map f) vs.toList = some cs' := fun f => by rw [map_range0 f _]; exact g1
           simp [Instr.buildSlice, hF.run_und, hF2.run_size, h0, g1', newRow]
         · simp [Instr.buildSlice, hF.run_und, hF2.run_size, h0, g1, newRow, hF2.run_zero, hnle]
       · simp at h
   · simp at h
 · simp at h
theorem makeSlice_ok (hT : TabOk P E) {t : Nat} {ti : TI} (ht : E.ty t = some ti) {x y : AV} {vx vy : Value} (hx : RA β Z w x vx) (hy : RA β Z w y vy) {c : List Prop} {blk : Blk} {v : Nat → AV}
   (h : planMakeSlice E ti x y = .mk c blk v) (hc : AllP c) : NewOk P β Z w (Instr.makeSlice t vx vy) blk v := by
 obtain ⟨i, d, z, hF⟩ := tabTI_spec (hT t ti ht).1
 unfold planMakeSlice at h
 split at h
 · rename_i k1 l k2 cc
   obtain rfl := int_of hx
   obtain rfl := int_of hy
   split at h
   · rename_i e hk
     obtain rfl := hF.slice hk
     split at h
     · rename_i te hte
       obtain ⟨i2, d2, z2, hF2⟩ := tabTI_spec (hT e te hte).1
       obtain ⟨hble, h⟩ := need_ok h (by simp)
       simp only [Plan.mk.injEq] at h; obtain ⟨rfl, rfl, rfl⟩ := h
       have hsz : 1 ≤ te.size := Nat.le_of_ble_eq_true hble
       obtain ⟨h0, rfl, hb, hl64, _⟩ := hc
       obtain ⟨n, rfl⟩ := Int.eq_ofNat_of_zero_le h0
       simp only [Int.toNat_natCast]
       have hn64 : (n : Int) < 4611686018427387904 := hl64
       have hwrap : IntKind.i64.wrap (n : Int) = n := by
         refine range_wrap ?_
         unfold inRange IntKind.min IntKind.max
         simp [IntKind.signed, IntKind.bits]
         omega
       refine ⟨.slice (some ⟨w.heap.size, 0, none⟩) n n, (Array.range (n * te.size)).map (fun x => z2.cells[x % z2.cells.size]!), e, n, ?_, ⟨rfl, rfl, by simp, fun k hk j hj => zero_row hF2 n k j hk hj⟩, fun β' Z' w' m => os_val (Nat.le_refl _) (by unfold maxLen; omega) (by simp) β' Z' w' m⟩
       have hb' : (i2.bytes : Int) * (n : Int) ≤ 281474976710656 := by rw [hF2.bytes]; omega
       have hnt : ¬ (((n : Int) < 0 || decide ((i2.bytes : Int) * (n : Int) > 2 ^ 48)) || decide ((n : Int) < 0) || decide ((n : Int) > n)) = true := by
         simp
         omega
       by_cases h0 : n * te.size = 0
       · simp only [Instr.makeSlice, Sem.run_bind, hF.run_und, Result.andThen_ok, asInt, asIntOf, Sem.run_pure, hF2.run_info, hwrap, Sem.run_ite, hnt, if_false, run_askRoom, hF2.run_size, Int.toNat_natCast, h0, if_true]
         simp [newRow]
         exact congrArg (fun c => w.alloc (Obj.cells c e)) (map_range0 _ _)
       · simp only [Instr.makeSlice, Sem.run_bind, hF.run_und, Result.andThen_ok, asInt, asIntOf, Sem.run_pure, hF2.run_info, hwrap, Sem.run_ite, hnt, if_false, run_askRoom, hF2.run_size, Int.toNat_natCast, h0, hF2.run_zero]
         simp [newRow]
     · simp at h
   · simp at h
 · simp at h
theorem rowOf_ok {hp : Nat → Option Blk} (hhp : ∀ n blk, hp n = some blk → RB β Z w (β n) blk) {y : AV} {v : Value} (hy : RA β Z w y v) {s l : Nat} {g : Nat → Nat → CV} (h : rowOf hp y = some (s, l, g)) :
   ∃ a cap, v = .slice a l cap ∧ (0 < l → ∃ b o, a = some ⟨b, o, none⟩ ∧ ∀ i, i < l → ∀ j, j < s → ∃ u, w.cell? ⟨b, o + (i * s + j), none⟩ = some u ∧ RP Z w (g i j) u) := by
 unfold rowOf at h
 split at h
 · simp only [Option.some.injEq, Prod.mk.injEq] at h
   obtain ⟨rfl, rfl, rfl⟩ := h
   obtain ⟨a, cap, rfl, _, hg⟩ := hy
   refine ⟨a, cap, rfl, fun hp => ?_⟩
   obtain ⟨b, o, h1, _, h2⟩ := hg hp
   exact ⟨b, o, h1, h2⟩
 · rename_i n sz len
   have hy' : ROs w (β n) sz len v := hy
   split at h
   · rename_i e size len' get hn
     split at h
     · rename_i hb
       simp only [Option.some.injEq, Prod.mk.injEq] at h
       obtain ⟨rfl, rfl, rfl⟩ := h
       have hss : sz = size := Nat.eq_of_beq_eq_true hb
       subst hss
       have hrb := hhp n _ hn
       cases hβ : β n with
       | no => rw [hβ] at hy'; exact hy'.elim
       | virt =>
         rw [hβ] at hy' hrb
         obtain ⟨rfl, rfl⟩ := hy'
         have : len' = 0 := hrb
         subst this
         exact ⟨none, 0, rfl, fun h => absurd h (Nat.lt_irrefl 0)⟩
       | «at» b ln =>
         rw [hβ] at hy' hrb
         obtain ⟨rfl, cap, rfl, _⟩ := hy'
         obtain ⟨rfl, cs, h1, h2, h3⟩ := hrb
         refine ⟨_, cap, rfl, fun _ => ⟨b, 0, rfl, fun i hi j hj => ?_⟩⟩
         obtain ⟨u, hu, hr⟩ := h3 i hi j hj
         exact ⟨u, by rw [cell_of_heap h1, Nat.zero_add]; exact hu, hr⟩
     · simp at h
   · simp at h
 · simp at h
theorem div_mod_row {size k : Nat} (h : 0 < size) : k / size * size + k % size = k := by
 rw [Nat.mul_comm]; exact Nat.div_add_mod k size
theorem row_cells {l s : Nat} (hs : 0 < s) {a : Option Addr} (f : Nat → Nat → Option Value) (h : ∀ i, i < l → ∀ j, j < s → ∃ u, f i j = some u) :
   ∃ news : List Value, news.length = l * s ∧ ∀ i, i < l → ∀ j, j < s → news[i * s + j]? = f i j := by
 have _ := a
 refine ⟨(List.range (l * s)).map fun k => (f (k / s) (k % s)).getD undef, by simp, fun i hi j hj => ?_⟩
 have hle : (i + 1) * s ≤ l * s := Nat.mul_le_mul_right _ hi
 rw [Nat.add_mul, Nat.one_mul] at hle
 have hlt : i * s + j < l * s := by omega
 have hd : (i * s + j) / s = i := by
   rw [Nat.mul_comm, Nat.mul_add_div hs, Nat.div_eq_of_lt hj, Nat.add_zero]
 obtain ⟨u, hu⟩ := h i hi j hj
 simp [hlt, hd, mod_row hj, hu]
def AppOk (P : Program) (Z : Nat → Prop) (w : World) (old : Option Nat) (s : Sem Value) (e size len : Nat) (get : Nat → Nat → CV) : Prop :=
 ∃ u w', s.run P w = .ok u w' ∧ w.grownBy w' old ∧ (∀ b, old = some b → ∃ cs cs' : Array Value, ∃ e', w.heap[b]? = some (.cells cs e' (0, 0)) ∧ w'.heap[b]? = some (.cells cs' e' (0, 0)) ∧ cs'.size = cs.size) ∧
   ((u = .slice none 0 0 ∧ len = 0) ∨
    ∃ b cap cs, u = .slice (some ⟨b, 0, none⟩) len cap ∧ (old = some b ∨ (w.heap.size ≤ b ∧ b < w'.heap.size)) ∧ w'.heap[b]? = some (.cells cs e (0, 0)) ∧ len ≤ cap ∧ cap ≤ maxLen ∧ cs.size = cap * size ∧
      ∀ i, i < len → ∀ j, j < size → ∃ x, cs[i * size + j]? = some x ∧ RP Z w (get i j) x)
theorem joinRow_lt {len i : Nat} {f g : Nat → Nat → CV} (h : i < len) : joinRow len f g i = f i := by simp [joinRow, mixG_eq, h]
theorem joinRow_ge {len i : Nat} {f g : Nat → Nat → CV} (h : len ≤ i) : joinRow len f g i = g (i - len) := by
 simp [joinRow, mixG_eq, show ¬ i < len by omega]
theorem list_row {xs : List Value} {n s : Nat} {f : Nat → Nat → CV} (hl : xs.length = n * s) (h : ∀ i, i < n → ∀ j, j < s → ∃ x, xs[i * s + j]? = some x ∧ RP Z w (f i j) x) : ∀ u ∈ xs, u.oneCell' = true := by
 intro u hu
 obtain ⟨k, hk, rfl⟩ := List.mem_iff_getElem.1 hu
 rcases Nat.eq_zero_or_pos s with rfl | hs
 · simp at hl; simp [hl] at hk
 · have hi : k / s < n := by
     rw [Nat.div_lt_iff_lt_mul hs]; omega
   obtain ⟨x, hx, hr⟩ := h (k / s) hi (k % s) (Nat.mod_lt _ hs)
   rw [div_mod_row hs] at hx
   simp [hk] at hx
   rw [hx]; exact RP.one hr
theorem row_bound {i n s j : Nat} (hi : i < n) (hj : j < s) : i * s + j < n * s := by
 have : (i + 1) * s ≤ n * s := Nat.mul_le_mul_right _ hi
 rw [Nat.add_mul, Nat.one_mul] at this
 omega
theorem append_core {t e ty : Nat} {te : TI} {i2 : TypeInfo} {d2 : TypeDesc} {z2 : Value} (ht : P.underlying t = some (.slice e)) (hF2 : TyF P e te i2 d2 z2) (hsz : 0 < te.size)
   {v : Value} {n : Nat} {gx : Nat → Nat → CV} {old : Option Nat}
   (hd : (v = .slice none 0 0 ∧ n = 0 ∧ old = none) ∨ (∃ b cap cs, v = .slice (some ⟨b, 0, none⟩) n cap ∧ old = some b ∧ w.heap[b]? = some (.cells cs e (0, 0)) ∧ n ≤ cap ∧ cap ≤ maxLen ∧ cs.size = cap * te.size ∧
     ∀ i, i < n → ∀ j, j < te.size → ∃ x, cs[i * te.size + j]? = some x ∧ RP Z w (gx i j) x))
   {a : Option Addr} {m c : Nat} {gy : Nat → Nat → CV} (hy : 0 < m → ∃ b o, a = some ⟨b, o, none⟩ ∧ ∀ i, i < m → ∀ j, j < te.size → ∃ u, w.cell? ⟨b, o + (i * te.size + j), none⟩ = some u ∧ RP Z w (gy i j) u)
   (hbytes : (n + m) * te.bytes ≤ 140737488355328) (h62 : n + m < 4611686018427387904) :
   AppOk P Z w old (Builtin.append_ #[t, t] ty #[v, .slice a m c]) e te.size (n + m) (joinRow n gx gy) := by
 have h63 : ((n + m : Nat) : Int) ≤ 9223372036854775807 := by omega
 have hcapLe : ∀ o, grownCap w (n + m) o e ≤ maxLen := fun o => grownCap_le_maxLen w (n + m) o e (by unfold maxLen; omega)
 rcases Nat.eq_zero_or_pos m with rfl | hm
 ·
   rcases hd with ⟨rfl, rfl, rfl⟩ | ⟨b, cap, cs, rfl, rfl, hb, hcap, hmax, hcs, hx⟩
   · refine ⟨.slice none 0 0, w, ?_, World.grownBy.refl _ _, fun b hb => by simp at hb, .inl ⟨rfl, rfl⟩⟩
     cases a <;> simp [Builtin.append_, run_underlying ht, hF2.run_size, Builtin.lenOf, Builtin.firstCells, loadCells, loadCellsFrom]
   · refine ⟨.slice (some ⟨b, 0, none⟩) n cap, w, ?_, World.grownBy.refl _ _, fun b' hb' => by injection hb' with e'; subst e'; exact ⟨cs, cs, e, hb, hb, rfl⟩, .inr ⟨b, cap, cs, rfl, .inl rfl, hb, hcap, hmax, hcs, fun i hi j hj => ?_⟩⟩
     · cases a <;> simp [Builtin.append_, run_underlying ht, hF2.run_size, Builtin.lenOf, Builtin.firstCells, loadCells, loadCellsFrom, hcap, storeCells]
     · rw [joinRow_lt (by omega)]; exact hx i (by omega) j hj
 · obtain ⟨yb, yo, rfl, hyc⟩ := hy hm
   obtain ⟨news, hnl, hng⟩ := row_cells (l := m) (s := te.size) hsz (a := none) (fun i j => w.cell? ⟨yb, yo + (i * te.size + j), none⟩) (fun i hi j hj => let ⟨u, hu, _⟩ := hyc i hi j hj; ⟨u, hu⟩)
   have hnrel : ∀ i, i < m → ∀ j, j < te.size → ∃ x, news[i * te.size + j]? = some x ∧ RP Z w (gy i j) x := fun i hi j hj => by
     obtain ⟨u, hu, hr⟩ := hyc i hi j hj
     exact ⟨u, by rw [hng i hi j hj]; exact hu, hr⟩
   have hnl' : news.length = m * i2.size := by rw [hF2.size]; exact hnl
   have hncell : ∀ (j : Nat) (u : Value), news[j]? = some u → w.cell? ((⟨yb, yo, none⟩ : Addr).add j) = some u := fun j u hj => by
     have hlt : j < m * te.size := by
       rw [← hnl]
       exact (List.getElem?_eq_some_iff.1 hj).1
     have hi : j / te.size < m := by rw [Nat.div_lt_iff_lt_mul hsz]; exact hlt
     have := hng (j / te.size) hi (j % te.size) (Nat.mod_lt _ hsz)
     rw [div_mod_row hsz] at this
     rw [addr_add, ← this]; exact hj
   have hone := list_row hnl hnrel
   obtain ⟨zz1, _⟩ := zero_cells (Z := Z) (w := w) hF2
   rcases hd with ⟨rfl, rfl, rfl⟩ | ⟨b, cap, cs, rfl, rfl, hb, hcap, hmax, hcs, hx⟩
   ·
     have hr := run_append_nil (P := P) w t ty e i2 z2 ht hF2.info hF2.zero ⟨yb, yo, none⟩ m c news hnl' hncell hm (by omega) (by rw [hF2.bytes]; simp only [Nat.zero_add] at hbytes; omega)
     simp only [Nat.zero_add] at hcapLe ⊢
     have hge := grownCap_ge w m 0 e
     refine ⟨_, _, hr, ⟨rfl, rfl, rfl, by simp, fun k hk _ => heap_alloc_old w.drew _ k hk⟩, fun b hb => by simp at hb, .inr ⟨w.heap.size, _, _, rfl, .inr ⟨Nat.le_refl _, by simp⟩, heap_alloc_new w.drew _, hge, hcapLe 0, ?_, fun i hi j hj => ?_⟩⟩
     · simp only [Array.size_append, List.size_toArray, size_zeroCells, zz1, hnl, ← Nat.add_mul]
       congr 1; omega
     · rw [joinRow_ge (Nat.zero_le _), Nat.sub_zero]
       obtain ⟨x, h1, h2⟩ := hnrel i hi j hj
       refine ⟨x, ?_, h2⟩
       rw [Array.getElem?_append_left (by simpa [hnl] using row_bound hi hj)]
       simpa using h1
   · by_cases hroom : n + m ≤ cap
     ·
       have hfit : n * i2.size + news.length ≤ cs.size := by
         rw [hF2.size, hnl, hcs, ← Nat.add_mul]; exact Nat.mul_le_mul_right _ hroom
       have hr := run_append_room (P := P) w t ty e i2 ht hF2.info b n cap cs hb ⟨yb, yo, none⟩ m c news hnl' hncell hone hroom hfit
       rw [hF2.size] at hr hfit
       refine ⟨_, _, hr, ⟨rfl, rfl, rfl, by simp, fun k _ hk => setRow_other w b k _ (fun e => hk (by rw [e]))⟩, fun b' hb' => ?_, .inr ⟨b, cap, _, rfl, .inl rfl, setRow_heap w b cs _ e _ hb, hroom, hmax, ?_, fun i hi j hj => ?_⟩⟩
       · injection hb' with e'; subst e'
         refine ⟨cs, _, e, hb, setRow_heap w b cs _ e _ hb, ?_⟩
         simp; omega
       · simp only [List.size_toArray, List.length_append, List.length_take, List.length_drop, Array.length_toList]
         omega
       · simp only [List.getElem?_toArray]
         by_cases hin : i < n
         · rw [joinRow_lt hin]
           obtain ⟨x, h1, h2⟩ := hx i hin j hj
           refine ⟨x, ?_, h2⟩
           have := row_bound hin hj
           rw [List.append_assoc, List.getElem?_append_left (by simp; omega), List.getElem?_take, if_pos this, Array.getElem?_toList]
           exact h1
         · rw [joinRow_ge (by omega)]
           obtain ⟨x, h1, h2⟩ := hnrel (i - n) (by omega) j hj
           refine ⟨x, ?_, h2⟩
           have hb1 := row_bound (show i - n < m by omega) hj
           have he : i * te.size + j - n * te.size = (i - n) * te.size + j := by
             have : i * te.size = (i - n) * te.size + n * te.size := by rw [← Nat.add_mul]; congr 1; omega
             omega
           have hge : n * te.size ≤ i * te.size := Nat.mul_le_mul_right _ (by omega)
           rw [List.append_assoc, List.getElem?_append_right (by simp; omega), List.getElem?_append_left (by simp [hnl]; omega)]
           simp only [List.length_take, Array.length_toList, Nat.min_eq_left (show n * te.size ≤ cs.size by omega), he]
           exact h1
     ·
       obtain ⟨olds, hol, hog⟩ := row_cells (l := n) (s := te.size) hsz (a := none) (fun i j => cs[i * te.size + j]?) (fun i hi j hj => let ⟨u, hu, _⟩ := hx i hi j hj; ⟨u, hu⟩)
       have hocell : ∀ (j : Nat) (u : Value), olds[j]? = some u → w.cell? ((⟨b, 0, none⟩ : Addr).add j) = some u := fun j u hj => by
         have hlt : j < n * te.size := by
           rw [← hol]
           exact (List.getElem?_eq_some_iff.1 hj).1
         have hi : j / te.size < n := by rw [Nat.div_lt_iff_lt_mul hsz]; exact hlt
         have := hog (j / te.size) hi (j % te.size) (Nat.mod_lt _ hsz)
         rw [div_mod_row hsz] at this
         rw [addr_add, cell_of_heap hb, Nat.zero_add, ← this]; exact hj
       have hr := run_append_grow (P := P) w t ty e i2 z2 ht hF2.info hF2.zero ⟨b, 0, none⟩ n cap olds (by rw [hF2.size]; exact hol) hocell ⟨yb, yo, none⟩ m c news hnl' hncell (by omega) h63 (growslice_fits (by omega) (by rw [hF2.bytes]; exact hbytes))
       have hge := grownCap_ge w (n + m) cap e
       have hblt : b < w.heap.size := (Array.getElem?_eq_some_iff.1 hb).1
       refine ⟨_, _, hr, ⟨rfl, rfl, rfl, by simp, fun k hk _ => heap_alloc_old w.drew _ k hk⟩, fun b' hb' => ?_, .inr ⟨w.heap.size, _, _, rfl, .inr ⟨Nat.le_refl _, by simp⟩, heap_alloc_new w.drew _, hge, hcapLe cap, ?_, fun i hi j hj => ?_⟩⟩
       · injection hb' with e'; subst e'
         exact ⟨cs, cs, e, hb, by rw [heap_alloc_old w.drew _ b hblt]; exact hb, rfl⟩
       · simp only [Array.size_append, List.size_toArray, size_zeroCells, zz1, hol, hnl, ← Nat.add_mul]
         congr 1; omega
       · have hb2 := row_bound hi hj
         rw [Nat.add_mul] at hb2
         rw [Array.getElem?_append_left (by simp only [Array.size_append, List.size_toArray, hol, hnl]; omega)]
         by_cases hin : i < n
         · rw [joinRow_lt hin]
           obtain ⟨x, h1, h2⟩ := hx i hin j hj
           refine ⟨x, ?_, h2⟩
           rw [Array.getElem?_append_left (by simpa [hol] using row_bound hin hj)]
           simp only [List.getElem?_toArray]
           rw [hog i hin j hj]; exact h1
         · rw [joinRow_ge (by omega)]
           obtain ⟨x, h1, h2⟩ := hnrel (i - n) (by omega) j hj
           refine ⟨x, ?_, h2⟩
           have he : i * te.size + j - n * te.size = (i - n) * te.size + j := by
             have : i * te.size = (i - n) * te.size + n * te.size := by rw [← Nat.add_mul]; congr 1; omega
             omega
           have hge : n * te.size ≤ i * te.size := Nat.mul_le_mul_right _ (by omega)
           rw [Array.getElem?_append_right (by simp [hol]; omega)]
           simp only [List.size_toArray, hol, he, List.getElem?_toArray]
           exact h1
theorem eqCell_ok {t : Nat} {ti : TI} {i : TypeInfo} {d : TypeDesc} {z : Value} (hF : TyF P t ti i d z) {x y : CV} {u v : Value} (hx : RC β Z w x u) (hy : RC β Z w y v) {b : Bool} (h : eqCell ti.kind x y = some b) (dd : Nat) :
   (Op.equalIn (dd + 1) t u v).run P w = .ok b w ∧ ti.isAgg = false := by
 unfold eqCell at h
 split at h
 · rename_i k hk
   obtain rfl := hF.int hk
   split at h
   · rename_i k1 a k2 b'
     split at h
     · rename_i hkk
       obtain rfl := kindNo_inj hkk
       simp at h; subst h
       obtain rfl : u = .int k1 a := hx
       obtain rfl : v = .int k1 b' := hy
       exact ⟨run_equalIn_int w dd t k1 k a b' hF.und, by simp [TI.isAgg, hk, TK.isAgg]⟩
     · simp at h
   · simp at h
 · rename_i hk
   obtain rfl := hF.str hk
   split at h
   · rename_i a b'
     simp at h; subst h
     obtain rfl : u = .string a := hx
     obtain rfl : v = .string b' := hy
     exact ⟨run_equalIn_string w dd t a b' hF.und, by simp [TI.isAgg, hk, TK.isAgg]⟩
   · simp at h
 · rename_i hk
   obtain rfl := hF.bool hk
   split at h
   · rename_i a b' h1 h2
     simp at h; subst h
     obtain rfl := truth_ok (β := β) (Z := Z) (w := w) (x := .t (.c x)) hx h1
     obtain rfl := truth_ok (β := β) (Z := Z) (w := w) (x := .t (.c y)) hy h2
     exact ⟨run_equalIn_bool w dd t a b' hF.und, by simp [TI.isAgg, hk, TK.isAgg]⟩
   · simp at h
 · simp at h
theorem part_one {t : Nat} {ti : TI} {i : TypeInfo} {d : TypeDesc} {z : Value} (hF : TyF P t ti i d z) (ho : ti.kind ≠ .other) (hA : ti.isAgg = false) {cs : Array Value} {off : Nat} {u : Value} (h : cs[off]? = some u) :
   (part t cs off).run P w = .ok u w := by
 unfold part
 simp [hF.run_isAgg ho, hA, h]
theorem eqStruct_ok (hT : TabOk P E) {xs ys : Array Value} {f g : Nat → CV} {n : Nat} (hxs : ∀ j, j < n → ∃ u, xs[j]? = some u ∧ RC β Z w (f j) u) (hys : ∀ j, j < n → ∃ u, ys[j]? = some u ∧ RC β Z w (g j) u) (dd : Nat) :
   ∀ {fl : List Field} {b : Bool}, (∀ x ∈ fl, x.name ≠ "_") → (∀ x ∈ fl, x.offset < n) → eqStruct E f g (fl.map fun x => (x.offset, x.type)) = some b → (Op.eqFields (dd + 1) xs ys fl).run P w = .ok b w
 | [], b, _, _, h => by simp [eqStruct] at h; subst h; simp [Op.eqFields]
 | x :: fl, b, hn, ho, h => by
   simp only [List.map_cons, eqStruct] at h
   split at h
   · rename_i ti hti
     split at h
     · rename_i b1 b2 h1 h2
       simp at h; subst h
       obtain ⟨hTt, hok⟩ := hT x.type ti hti
       obtain ⟨i, d, z, hF⟩ := tabTI_spec hTt
       obtain ⟨u, hu, hru⟩ := hxs x.offset (ho x (by simp))
       obtain ⟨v, hv, hrv⟩ := hys x.offset (ho x (by simp))
       obtain ⟨he, hA⟩ := eqCell_ok hF hru hrv h1 dd
       have ih := eqStruct_ok hT hxs hys dd (fun y hy => hn y (by simp [hy])) (fun y hy => ho y (by simp [hy])) h2
       have hne := hn x (by simp)
       simp only [Op.eqFields, hne, ne_eq, not_false_eq_true, if_true, Sem.run_bind, part_one hF hok hA hu, part_one hF hok hA hv, he, Result.andThen_ok]
       cases b1
       · simp
       · simpa using ih
     · simp at h
   · simp at h
theorem eqArr_ok {t : Nat} {ti : TI} {i : TypeInfo} {d : TypeDesc} {z : Value} (hF : TyF P t ti i d z) (hok : ti.kind ≠ .other) {xs ys : Array Value} {f g : Nat → CV} {n : Nat} (hxs : ∀ j, j < n → ∃ u, xs[j]? = some u ∧ RC β Z w (f j) u) (hys : ∀ j, j < n → ∃ u, ys[j]? = some u ∧ RC β Z w (g j) u) (dd : Nat) :
   ∀ {is : List Nat} {b : Bool}, (∀ j ∈ is, j < n) → eqArr ti.kind f g is = some b → (Op.eqItems (dd + 1) t 1 xs ys is).run P w = .ok b w
 | [], b, _, h => by simp [eqArr] at h; subst h; simp [Op.eqItems]
 | j :: is, b, ho, h => by
   simp only [eqArr] at h
   split at h
   · rename_i b1 b2 h1 h2
     simp at h; subst h
     obtain ⟨u, hu, hru⟩ := hxs j (ho j (by simp))
     obtain ⟨v, hv, hrv⟩ := hys j (ho j (by simp))
     obtain ⟨he, hA⟩ := eqCell_ok hF hru hrv h1 dd
     have ih := eqArr_ok hF hok hxs hys dd (fun y hy => ho y (by simp [hy])) h2
     simp only [Op.eqItems, Nat.mul_one, Sem.run_bind, part_one hF hok hA hu, part_one hF hok hA hv, he, Result.andThen_ok]
     cases b1
     · simp
     · simpa using ih
   · simp at h
theorem eqPlan_ok {neg : Bool} {o : Option Bool} {c : List Prop} {y : AV} (h : eqPlan neg o = .ok c y) : ∃ b, o = some b ∧ RA β Z w y (.bool (if neg then !b else b)) := by
 unfold eqPlan Plan.cell at h
 split at h
 · rename_i b
   simp at h; obtain ⟨rfl, rfl⟩ := h
   exact ⟨b, rfl, rfl⟩
 · simp at h
theorem equal_ok (hT : TabOk P E) {t : Nat} {ti : TI} (ht : E.ty t = some ti) {neg : Bool} {x y : AV} {u v : Value} (hx : RA β Z w x u) (hy : RA β Z w y v) {c : List Prop} {r : AV} (h : planEq E ti neg x y = .ok c r) :
   ∃ b, (Op.equal t u v).run P w = .ok b w ∧ RA β Z w r (.bool (if neg then !b else b)) := by
 obtain ⟨hTt, hok⟩ := hT t ti ht
 obtain ⟨i, d, z, hF⟩ := tabTI_spec hTt
 unfold planEq at h
 split at h
 · rename_i n f m g
   obtain ⟨hb, h0⟩ := need_ok h (by simp)
   clear h
   rename _ => h
   simp only [Bool.and_eq_true] at hb
   have hn : n = ti.size := Nat.eq_of_beq_eq_true hb.1
   have hm : m = ti.size := Nat.eq_of_beq_eq_true hb.2
   subst hn; subst hm
   obtain ⟨xs, rfl, x1, x2⟩ := hx
   obtain ⟨ys, rfl, y1, y2⟩ := hy
   split at h
   · rename_i fs hk
     obtain ⟨fl, rfl, rfl, hnm, hst, hgd⟩ := hF.struct hk
     split at h
     · rename_i hall
       obtain ⟨b, hb', hr⟩ := eqPlan_ok (β := β) (Z := Z) (w := w) h
       refine ⟨b, ?_, hr⟩
       have hfo : P.fieldsOf t = fl := by simp [Program.fieldsOf, hF.und]
       rw [Op.equal, Op.maxDepth, run_equalIn_struct w 9999 t xs ys (by rw [hfo]; exact hF.und) hst, hfo]
       refine eqStruct_ok hT x2 y2 9998 (fun x hx => (hnm x hx).1) (fun x hx => ?_) hb'
       simp only [List.all_map, List.all_eq_true] at hall
       have := hall x hx
       exact Nat.le_of_ble_eq_true this
     · simp at h
   · rename_i l e hk
     obtain ⟨rfl, hgd⟩ := hF.array hk
     split at h
     · rename_i te hte
       obtain ⟨hTe, hoke⟩ := hT e te hte
       obtain ⟨i2, d2, z2, hF2⟩ := tabTI_spec hTe
       obtain ⟨hq, h0⟩ := need_ok h (by simp)
       clear h
       rename _ => h
       simp only [Bool.and_eq_true] at hq
       have h1 : te.size = 1 := Nat.eq_of_beq_eq_true hq.1
       have hl : l = ti.size := Nat.eq_of_beq_eq_true hq.2
       obtain ⟨b, hb', hr⟩ := eqPlan_ok (β := β) (Z := Z) (w := w) h
       refine ⟨b, ?_, hr⟩
       have hc : P.cellsOf e = 1 := by simp [Program.cellsOf, hF2.info, hF2.size, h1]
       rw [Op.equal, Op.maxDepth, run_equalIn_array w 9999 xs ys hF.und hF2.info, hc]
       exact eqArr_ok hF2 hoke x2 y2 9998 (fun j hj => by simpa [hl] using hj) hb'
     · simp at h
   · simp at h
 · obtain ⟨b, hb', hr⟩ := eqPlan_ok (β := β) (Z := Z) (w := w) h
   exact ⟨b, (eqCell_ok hF hx hy hb' 9999).1, hr⟩
 · simp at h
end
end Go.Sx
namespace Go.Sx
def Own (β : Nat → Loc) (hp : Nat → Option Blk) (b : Nat) : Prop := ∃ n blk ln, hp n = some blk ∧ β n = .at b ln
structure SatH (E : Env) (B : Nat) (Fr : Nat → Prop) (β : Nat → Loc) (Z : Nat → Prop) (hp : Nat → Option Blk) (w : World) : Prop where
 rb : ∀ n blk, hp n = some blk → RB β Z w (β n) blk
 own : ∀ n blk b ln, hp n = some blk → β n = .at b ln → b < w.heap.size ∧ ¬ Z b ∧ B ≤ b
 inj : ∀ n m x y b l1 l2, hp n = some x → hp m = some y → β n = .at b l1 → β m = .at b l2 → n = m
 zlt : ∀ b, Z b → b < w.heap.size
 fresh : ∀ n, Fr n → β n = .no
 gl : GlOk E Z w
section
variable {P : Program} {E : Env} {B : Nat} {Fr Fr' : Nat → Prop} {β β' : Nat → Loc} {Z Z' : Nat → Prop} {hp hp' : Nat → Option Blk} {w w' : World}
theorem SatH.calm (h : SatH E B Fr β Z hp w) : Calm (Own β hp) Z w :=
 fun b hb => ⟨h.zlt b hb, fun ⟨n, blk, ln, h1, h2⟩ => (h.own n blk b ln h1 h2).2.1 hb⟩
theorem GlOk.mono {own : Nat → Prop} (h : GlOk E Z w) (ev : Evo own Z w Z' w') (hc : Calm own Z w) : GlOk E Z' w' := fun g n get hg => by
 obtain ⟨h1, h2⟩ := h g n get hg
 refine ⟨ev.zmono g h1, fun j hj => ?_⟩
 obtain ⟨u, hu, hr⟩ := h2 j hj
 exact ⟨u, by rw [ev.cell hc h1]; exact hu, RP.mono ev hc hr⟩
theorem SatH.step (h : SatH E B Fr β Z hp w) (ev : Evo (Own β hp) Z w Z' w') (ext : Ext β β')
   (keep : ∀ n blk, hp' n = some blk → (hp n = some blk ∧ (∀ b ln, β n = .at b ln → w'.heap[b]? = w.heap[b]? ∧ ¬ Z' b)) ∨ (RB β' Z' w' (β' n) blk ∧ ∀ b ln, β' n = .at b ln → b < w'.heap.size ∧ ¬ Z' b ∧ B ≤ b))
   (inj' : ∀ n m x y b l1 l2, hp' n = some x → hp' m = some y → β' n = .at b l1 → β' m = .at b l2 → n = m)
   (zlt' : ∀ b, Z' b → b < w'.heap.size) (fr' : ∀ n, Fr' n → β' n = .no) : SatH E B Fr' β' Z' hp' w' := by
 have known : ∀ n blk, hp n = some blk → β' n = β n := fun n blk hn => ext n (by
   intro e
   have := h.rb n blk hn
   rw [e] at this
   cases blk <;> exact this.elim)
 refine ⟨fun n blk hn => ?_, fun n blk b ln hn hb => ?_, inj', zlt', fr', h.gl.mono ev h.calm⟩
 · rcases keep n blk hn with ⟨h1, h2⟩ | ⟨h1, _⟩
   · rw [known n blk h1]
     exact RB.mono ev h.calm ext (fun b ln hb => (h2 b ln hb).1) (h.rb n blk h1)
   · exact h1
 · rcases keep n blk hn with ⟨h1, h2⟩ | ⟨_, h2⟩
   · rw [known n blk h1] at hb
     obtain ⟨g1, _, g3⟩ := h.own n blk b ln h1 hb
     exact ⟨Nat.lt_of_lt_of_le g1 ev.size, (h2 b ln hb).2, g3⟩
   · exact h2 b ln hb
theorem Evo.alloc (own : Nat → Prop) (Z : Nat → Prop) (w : World) (o : Obj) : Evo own Z w Z (w.alloc o) :=
 ⟨rfl, rfl, rfl, by simp, fun b hb _ => heap_alloc_old w o b hb, fun b cs e hb => ⟨cs, by rw [heap_alloc_old w o b (Array.getElem?_eq_some_iff.1 hb).1]; exact hb, rfl⟩,
   fun b r hb => ⟨r, by rw [heap_alloc_old w o b (Array.getElem?_eq_some_iff.1 hb).1]; exact hb, rfl, rfl, rfl, rfl, rfl, rfl⟩, fun _ h => h⟩
theorem ext_upd {nm : Nat} {l : Loc} (h : β nm = .no) : Ext β (upd β nm l) := fun n hn => by
 rw [upd_ne]
 intro e; subst e; exact hn h
theorem RBc.mono {own : Nat → Prop} (ev : Evo own Z w Z' w') (hc : Calm own Z w) (ext : Ext β β') {ln : Nat} {cs : Array Value} {e : TypeId} {blk : Blk} (h : RBc β Z w ln cs e blk) : RBc β' Z' w' ln cs e blk := by
 cases blk with
 | box n get => exact ⟨h.1, fun j hj => let ⟨u, hu, hr⟩ := h.2 j hj; ⟨u, hu, RC.mono ev hc ext hr⟩⟩
 | row e' size len get => exact ⟨h.1, h.2.1, h.2.2.1, fun i hi j hj => let ⟨u, hu, hr⟩ := h.2.2.2 i hi j hj; ⟨u, hu, RP.mono ev hc hr⟩⟩
 | mp => exact h.elim
 | mpI => exact h.elim
 | mq => exact h.elim
 | lp => exact h.elim
theorem not_known (h : SatH E B Fr β Z hp w) {nm : Nat} (hf : β nm = .no) : hp nm = none := by
 cases hn : hp nm with
 | none => rfl
 | some blk =>
   have := h.rb nm blk hn
   rw [hf] at this
   cases blk <;> exact this.elim
structure Left (E : Env) (B : Nat) (Fr' : Nat → Prop) (β : Nat → Loc) (Z : Nat → Prop) (hp : Nat → Option Blk) (w : World) (β' : Nat → Loc) (Z' : Nat → Prop) (hp' : Nat → Option Blk) (w' : World) : Prop where
 sat : SatH E B Fr' β' Z' hp' w'
 ev : Evo (Own β hp) Z w Z' w'
 ext : Ext β β'
 own : ∀ b, Own β' hp' b → Own β hp b ∨ w.heap.size ≤ b
 zown : ∀ b, Z' b → Z b ∨ Own β hp b ∨ w.heap.size ≤ b
theorem SatH.mk_obj (h : SatH E B Fr β Z hp w) (hB : B ≤ w.heap.size) {nm : Nat} (hf : Fr nm) {blk : Blk} {o : Obj} {ln : Nat} (hrb : RB (upd β nm (.at w.heap.size ln)) Z (w.alloc o) (.at w.heap.size ln) blk) :
   Left E B (fun n => Fr n ∧ n ≠ nm) β Z hp w (upd β nm (.at w.heap.size ln)) Z (upd hp nm (some blk)) (w.alloc o) := by
 have hno := h.fresh nm hf
 have hx := ext_upd (l := .at w.heap.size ln) hno
 have ev := Evo.alloc (Own β hp) Z w o
 have hnone := not_known h hno
 have other : ∀ n blk', upd hp nm (some blk) n = some blk' → n ≠ nm → hp n = some blk' := fun n blk' h1 h2 => by rw [upd_ne _ _ h2] at h1; exact h1
 refine ⟨h.step ev hx (fun n blk' hn => ?_) (fun n m x y b l1 l2 hn hm hb1 hb2 => ?_) (fun b hb => by simp; exact Nat.lt_succ_of_lt (h.zlt b hb)) (fun n hn => by rw [upd_ne _ _ hn.2]; exact h.fresh n hn.1), ev, hx, fun b hb => ?_, fun b hb => .inl hb⟩
 · by_cases hnn : n = nm
   · subst hnn
     rw [upd_same] at hn; injection hn with hn; subst hn
     rw [upd_same]
     refine .inr ⟨hrb, fun b ln' hb => ?_⟩
     injection hb with hb1 hb2; subst hb1
     exact ⟨by simp, fun hz => Nat.lt_irrefl _ (h.zlt _ hz), hB⟩
   · have h1 := other n blk' hn hnn
     refine .inl ⟨h1, fun b ln' hb => ?_⟩
     obtain ⟨g1, g2, _⟩ := h.own n blk' b ln' h1 hb
     exact ⟨heap_alloc_old w _ b g1, g2⟩
 · by_cases hnn : n = nm
   · by_cases hmm : m = nm
     · rw [hnn, hmm]
     · subst hnn
       rw [upd_same] at hb1; injection hb1 with e1 _; subst e1
       have h1 := other m y hm hmm
       rw [upd_ne _ _ hmm] at hb2
       exact absurd (h.own m y _ _ h1 hb2).1 (Nat.lt_irrefl _)
   · by_cases hmm : m = nm
     · subst hmm
       rw [upd_same] at hb2; injection hb2 with e1 _; subst e1
       have h1 := other n x hn hnn
       rw [upd_ne _ _ hnn] at hb1
       exact absurd (h.own n x _ _ h1 hb1).1 (Nat.lt_irrefl _)
     · rw [upd_ne _ _ hnn] at hb1
       rw [upd_ne _ _ hmm] at hb2
       exact h.inj n m x y b l1 l2 (other n x hn hnn) (other m y hm hmm) hb1 hb2
 · obtain ⟨n, blk', ln', h1, h2⟩ := hb
   by_cases hnn : n = nm
   · subst hnn; rw [upd_same] at h2; injection h2 with e1 _; subst e1; exact .inr (Nat.le_refl _)
   · rw [upd_ne _ _ hnn] at h2
     exact .inl ⟨n, blk', ln', other n blk' h1 hnn, h2⟩
theorem SatH.mk_block (h : SatH E B Fr β Z hp w) (hB : B ≤ w.heap.size) {nm : Nat} (hf : Fr nm) {blk : Blk} {cs : Array Value} {e : TypeId} {ln : Nat} (hc : RBc β Z w ln cs e blk) :
   Left E B (fun n => Fr n ∧ n ≠ nm) β Z hp w (upd β nm (.at w.heap.size ln)) Z (upd hp nm (some blk)) (w.alloc (.cells cs e)) :=
 h.mk_obj hB hf (RB.of_c (heap_alloc_new w _) (hc.mono (Evo.alloc (Own β hp) Z w (.cells cs e)) h.calm (ext_upd (h.fresh nm hf))))
theorem SatH.write (h : SatH E B Fr β Z hp w) {n : Nat} {old blk : Blk} (hn : hp n = some old) {b ln : Nat} (hb : β n = .at b ln) {cs cs' : Array Value} {e : TypeId} (hcs : w.heap[b]? = some (.cells cs e (0, 0))) (hsz : cs'.size = cs.size)
   (hc : RBc β Z w ln cs' e blk) : Left E B Fr β Z hp w β Z (upd hp n (some blk)) (w.setRow b cs') := by
 have ev : Evo (Own β hp) Z w Z (w.setRow b cs') := by
   refine ⟨rfl, rfl, rfl, by simp, fun k hk hno => ?_, fun k ks ke hk => ?_, fun k r hk => ⟨r, ?_, rfl, rfl, rfl, rfl, rfl, rfl⟩, fun _ h => h⟩
   · refine setRow_other w b k cs' (fun e1 => hno ?_)
     subst e1; exact ⟨n, old, ln, hn, hb⟩
   · by_cases hkb : k = b
     · subst hkb
       rw [hcs] at hk; injection hk with hk; injection hk with h1 h2 h3
       subst h1; subst h2
       exact ⟨cs', setRow_heap w k cs cs' e (0, 0) hcs, hsz⟩
     · exact ⟨ks, by rw [setRow_other w b k cs' hkb]; exact hk, rfl⟩
   · rw [setRow_other w b k cs' (fun e1 => by subst e1; rw [hcs] at hk; simp at hk)]; exact hk
 have hx := Ext.refl β
 refine ⟨h.step ev hx (fun m blk' hm => ?_) (fun m1 m2 x y b' l1 l2 h1 h2 hb1 hb2 => ?_) (fun b' hb' => by simpa using h.zlt b' hb') h.fresh, ev, hx, fun b' hb' => ?_, fun b hb => .inl hb⟩
 · by_cases hmn : m = n
   · subst hmn
     rw [upd_same] at hm; injection hm with hm; subst hm
     refine .inr ⟨by rw [hb]; exact RB.of_c (setRow_heap w b cs cs' e (0, 0) hcs) (hc.mono ev h.calm hx), fun b' ln' hb' => ?_⟩
     obtain ⟨g1, g2, g3⟩ := h.own m old b' ln' hn hb'
     exact ⟨by simpa using g1, g2, g3⟩
   · rw [upd_ne _ _ hmn] at hm
     refine .inl ⟨hm, fun b' ln' hb' => ?_⟩
     obtain ⟨g1, g2, _⟩ := h.own m blk' b' ln' hm hb'
     refine ⟨setRow_other w b b' cs' (fun e1 => hmn ?_), g2⟩
     subst e1
     exact h.inj m n _ _ _ _ _ hm hn hb' hb
 · have some_of : ∀ m x, upd hp n (some blk) m = some x → ∃ x', hp m = some x' := fun m x hm => by
     by_cases hmn : m = n
     · subst hmn; exact ⟨old, hn⟩
     · rw [upd_ne _ _ hmn] at hm; exact ⟨x, hm⟩
   obtain ⟨x', hx'⟩ := some_of m1 x h1
   obtain ⟨y', hy'⟩ := some_of m2 y h2
   exact h.inj m1 m2 x' y' b' l1 l2 hx' hy' hb1 hb2
 · obtain ⟨m, x, ln', h1, h2⟩ := hb'
   by_cases hmn : m = n
   · subst hmn; exact .inl ⟨m, old, ln', hn, h2⟩
   · rw [upd_ne _ _ hmn] at h1; exact .inl ⟨m, x, ln', h1, h2⟩
theorem SatH.freeze (h : SatH E B Fr β Z hp w) (n : Nat) :
   Left E B Fr β Z hp w β (fun b => Z b ∨ (∃ blk ln, hp n = some blk ∧ β n = .at b ln)) (upd hp n none) w := by
 have ev : Evo (Own β hp) Z w (fun b => Z b ∨ (∃ blk ln, hp n = some blk ∧ β n = .at b ln)) w :=
   ⟨rfl, rfl, rfl, Nat.le_refl _, fun _ _ _ => rfl, fun _ cs _ h => ⟨cs, h, rfl⟩, fun _ r h => ⟨r, h, rfl, rfl, rfl, rfl, rfl, rfl⟩, fun _ h => .inl h⟩
 have other : ∀ m x, upd hp n none m = some x → m ≠ n ∧ hp m = some x := fun m x hm => by
   by_cases hmn : m = n
   · subst hmn; rw [upd_same] at hm; exact absurd hm (by simp)
   · rw [upd_ne _ _ hmn] at hm; exact ⟨hmn, hm⟩
 refine ⟨h.step ev (Ext.refl β) (fun m x hm => ?_) (fun m1 m2 x y b' l1 l2 h1 h2 => h.inj m1 m2 x y b' l1 l2 (other m1 x h1).2 (other m2 y h2).2) (fun b hb => ?_) h.fresh, ev, Ext.refl β, fun b hb => ?_, fun b hb => hb.elim .inl (fun ⟨blk, ln, h1, h2⟩ => .inr (.inl ⟨n, blk, ln, h1, h2⟩))⟩
 · obtain ⟨hmn, hm⟩ := other m x hm
   refine .inl ⟨hm, fun b ln hb => ⟨rfl, ?_⟩⟩
   rintro (hz | ⟨blk, ln', h1, h2⟩)
   · exact (h.own m x b ln hm hb).2.1 hz
   · exact hmn (h.inj m n x blk b ln ln' hm h1 hb h2)
 · rcases hb with hb | ⟨blk, ln, h1, h2⟩
   · exact h.zlt b hb
   · exact (h.own n blk b ln h1 h2).1
 · obtain ⟨m, x, ln, h1, h2⟩ := hb
   exact .inl ⟨m, x, ln, (other m x h1).2, h2⟩
def dropO (o : Option Nat) (hp : Nat → Option Blk) : Nat → Option Blk := match o with | some n => upd hp n none | none => hp
theorem SatH.app (h : SatH E B Fr β Z hp w) (hB : B ≤ w.heap.size) {nm : Nat} (hf : Fr nm) {drop : Option Nat} {old : Option Nat} {s : Sem Value} {e size len : Nat} {get : Nat → Nat → CV} (ha : AppOk P Z w old s e size len get)
   (hold : ∀ b, old = some b → ∃ n blk ln, drop = some n ∧ hp n = some blk ∧ β n = .at b ln) :
   ∃ u w' l, s.run P w = .ok u w' ∧ Left E B (fun n => Fr n ∧ n ≠ nm) β Z hp w (upd β nm l) Z (upd (dropO drop hp) nm (some (.row e size len get))) w' ∧
     RA (upd β nm l) Z w' (.t (.c (.os nm size len))) u := by
 obtain ⟨u, w', hrun, hgr, hrows, hres⟩ := ha
 have hno := h.fresh nm hf
 have hnone := not_known h hno
 have ev : Evo (Own β hp) Z w Z w' := by
   refine ⟨hgr.os, hgr.tape, hgr.output, hgr.size, fun b hb hno => hgr.block b hb (fun e1 => hno ?_), fun b cs e' hb => ?_, fun b r hb => ⟨r, ?_, rfl, rfl, rfl, rfl, rfl, rfl⟩, fun _ h => h⟩
   · obtain ⟨n, blk, ln, _, h2, h3⟩ := hold b e1.symm
     exact ⟨n, blk, ln, h2, h3⟩
   · by_cases hbo : some b = old
     · obtain ⟨cs1, cs2, e1, h1, h2, h3⟩ := hrows b hbo.symm
       rw [hb] at h1; injection h1 with h1; injection h1 with h1 h1' _
       subst h1; subst h1'
       exact ⟨cs2, h2, h3⟩
     · exact ⟨cs, by rw [hgr.block b (Array.getElem?_eq_some_iff.1 hb).1 hbo]; exact hb, rfl⟩
   · by_cases hbo : some b = old
     · obtain ⟨cs1, cs2, e1, h1, h2, h3⟩ := hrows b hbo.symm
       rw [hb] at h1; simp at h1
     · rw [hgr.block b (Array.getElem?_eq_some_iff.1 hb).1 hbo]; exact hb
 have hd : ∀ m x, (dropO drop hp) m = some x → hp m = some x ∧ drop ≠ some m := fun m x hm => by
   cases drop with
   | none => exact ⟨hm, by simp⟩
   | some n =>
     by_cases hmn : m = n
     · subst hmn; simp only [dropO, upd_same] at hm; exact absurd hm (by simp)
     · simp only [dropO, upd_ne _ _ hmn] at hm; exact ⟨hm, by simp; exact fun e => hmn e.symm⟩
 have fin : ∀ l : Loc, RB (upd β nm l) Z w' l (.row e size len get) → (∀ b ln, l = .at b ln → b < w'.heap.size ∧ ¬ Z b ∧ B ≤ b ∧ (old = some b ∨ w.heap.size ≤ b)) →
     Left E B (fun n => Fr n ∧ n ≠ nm) β Z hp w (upd β nm l) Z (upd (dropO drop hp) nm (some (.row e size len get))) w' := by
   intro l hl hlb
   have hx := ext_upd (l := l) hno
   have other : ∀ m x, upd (dropO drop hp) nm (some (.row e size len get)) m = some x → m ≠ nm → hp m = some x ∧ drop ≠ some m := fun m x hm hmn => by
     rw [upd_ne _ _ hmn] at hm; exact hd m x hm
   have notold : ∀ m x b ln, hp m = some x → drop ≠ some m → β m = .at b ln → old ≠ some b := fun m x b ln hm hdm hb e1 => by
     obtain ⟨n, blk, ln', h1, h2, h3⟩ := hold b e1
     have := h.inj m n x blk b ln ln' hm h2 hb h3
     subst this; exact hdm h1
   refine ⟨h.step ev hx (fun n blk hn => ?_) (fun n m x y b l1 l2 hn hm hb1 hb2 => ?_) (fun b hb => Nat.lt_of_lt_of_le (h.zlt b hb) hgr.size) (fun n hn => by rw [upd_ne _ _ hn.2]; exact h.fresh n hn.1), ev, hx, fun b hb => ?_, fun b hb => .inl hb⟩
   · by_cases hnn : n = nm
     · subst hnn
       rw [upd_same] at hn; injection hn with hn; subst hn
       rw [upd_same]
       exact .inr ⟨hl, fun b ln hb => let ⟨q1, q2, q3, _⟩ := hlb b ln hb; ⟨q1, q2, q3⟩⟩
     · obtain ⟨h1, h2⟩ := other n blk hn hnn
       refine .inl ⟨h1, fun b ln hb => ?_⟩
       obtain ⟨g1, g2, _⟩ := h.own n blk b ln h1 hb
       exact ⟨hgr.block b g1 (fun e1 => notold n blk b ln h1 h2 hb e1.symm), g2⟩
   · have clash : ∀ m y b l2 ln, hp m = some y → drop ≠ some m → β m = .at b l2 → l = .at b ln → False := fun m y b l2 ln hm hdm hb e1 => by
       obtain ⟨_, _, _, q⟩ := hlb b ln e1
       rcases q with q | q
       · exact notold m y b l2 hm hdm hb q
       · exact absurd (h.own m y b l2 hm hb).1 (by omega)
     by_cases hnn : n = nm
     · by_cases hmm : m = nm
       · rw [hnn, hmm]
       · subst hnn
         rw [upd_same] at hb1
         obtain ⟨h1, h2⟩ := other m y hm hmm
         rw [upd_ne _ _ hmm] at hb2
         exact (clash m y b l2 l1 h1 h2 hb2 hb1).elim
     · by_cases hmm : m = nm
       · subst hmm
         rw [upd_same] at hb2
         obtain ⟨h1, h2⟩ := other n x hn hnn
         rw [upd_ne _ _ hnn] at hb1
         exact (clash n x b l1 l2 h1 h2 hb1 hb2).elim
       · rw [upd_ne _ _ hnn] at hb1
         rw [upd_ne _ _ hmm] at hb2
         exact h.inj n m x y b l1 l2 (other n x hn hnn).1 (other m y hm hmm).1 hb1 hb2
   · obtain ⟨n, blk, ln, h1, h2⟩ := hb
     by_cases hnn : n = nm
     · subst hnn
       rw [upd_same] at h2
       obtain ⟨_, _, _, q⟩ := hlb b ln h2
       rcases q with q | q
       · obtain ⟨n', blk', ln', _, g2, g3⟩ := hold b q
         exact .inl ⟨n', blk', ln', g2, g3⟩
       · exact .inr q
     · rw [upd_ne _ _ hnn] at h2
       exact .inl ⟨n, blk, ln, (other n blk h1 hnn).1, h2⟩
 rcases hres with ⟨rfl, rfl⟩ | ⟨b, cap, cs, rfl, hbo, hb, hl, hm, hs, hcell⟩
 · refine ⟨_, w', .virt, hrun, fin .virt rfl (fun b ln hb => by simp at hb), ?_⟩
   show ROs w' (upd β nm .virt nm) size 0 _
   rw [upd_same]; exact ⟨rfl, rfl⟩
 · refine ⟨_, w', .at b len, hrun, fin (.at b len) ⟨rfl, cs, hb, ?_, fun i hi j hj => ?_⟩ (fun b' ln hb' => ?_), ?_⟩
   · rw [hs]; exact Nat.mul_le_mul_right _ hl
   · obtain ⟨x, h1, h2⟩ := hcell i hi j hj
     exact ⟨x, h1, RP.mono ev h.calm h2⟩
   · injection hb' with e1 _; subst e1
     have hlt : b < w'.heap.size := (Array.getElem?_eq_some_iff.1 hb).1
     rcases hbo with hbo | ⟨hge, _⟩
     · obtain ⟨n, blk, ln', h1, h2, h3⟩ := hold b hbo
       obtain ⟨_, g2, g3⟩ := h.own n blk b ln' h2 h3
       exact ⟨hlt, g2, g3, .inl hbo⟩
     · exact ⟨hlt, fun hz => absurd (h.zlt b hz) (by omega), by omega, .inr hge⟩
   · show ROs w' (upd β nm (.at b len) nm) size len _
     rw [upd_same]
     exact ⟨rfl, cap, rfl, hl, hm, cs, e, hb, hs⟩
def Plan.conds : Plan → List Prop
 | .ok c _ => c
 | .mk c _ _ => c
 | .wr c _ _ => c
 | .we c _ _ _ => c
 | .mv c _ _ _ => c
 | .fz c _ _ => c
 | .wz c _ _ _ => c
 | _ => []
def Plan.eff (p : Plan) (nm : Nat) (hp : Nat → Option Blk) : Option ((Nat → Option Blk) × AV) :=
 match p with
 | .ok _ v => some (hp, v)
 | .mk _ b v => some (upd hp nm (some b), v nm)
 | .wr _ n b => some (upd hp n (some b), .any)
 | .we _ n b v => some (upd hp n (some b), v)
 | .mv _ n b v => some (upd (upd hp n none) nm (some b), v nm)
 | .fz _ n v => some (upd hp n none, v)
 | .wz _ n b m => some (upd (upd hp m none) n (some b), .any)
 | _ => none
def OpOk (P : Program) (E : Env) (B : Nat) (Fr' : Nat → Prop) (β : Nat → Loc) (Z : Nat → Prop) (hp : Nat → Option Blk) (w : World) (s : Sem Next) (hp' : Nat → Option Blk) (v : AV) : Prop :=
 ∃ nx val w' β' Z', s.run P w = .ok nx w' ∧ (nx = .value val ∨ (nx = .skip ∧ val = undef)) ∧ Left E B Fr' β Z hp w β' Z' hp' w' ∧ RA β' Z' w' v val
theorem SatH.weaken (h : SatH E B Fr β Z hp w) (hf : ∀ n, Fr' n → Fr n) : SatH E B Fr' β Z hp w := ⟨h.rb, h.own, h.inj, h.zlt, fun n hn => h.fresh n (hf n hn), h.gl⟩
theorem Left.same (h : SatH E B Fr β Z hp w) (hf : ∀ n, Fr' n → Fr n) : Left E B Fr' β Z hp w β Z hp w := ⟨h.weaken hf, Evo.refl _ _ _, Ext.refl _, fun _ h => .inl h, fun _ h => .inl h⟩
theorem OpOk.val (h : SatH E B Fr β Z hp w) {nm : Nat} {s : Sem Value} {v : AV} (hs : ∃ u, s.run P w = .ok u w ∧ RA β Z w v u) : OpOk P E B (fun n => Fr n ∧ n ≠ nm) β Z hp w (do pure (.value (← s))) hp v := by
 obtain ⟨u, h1, h2⟩ := hs
 exact ⟨.value u, u, w, β, Z, by simp [h1], .inl rfl, Left.same h (fun n hn => hn.1), h2⟩
theorem OpOk.new (h : SatH E B Fr β Z hp w) (hB : B ≤ w.heap.size) {nm : Nat} (hf : Fr nm) {s : Sem Value} {blk : Blk} {v : Nat → AV} (hs : NewOk P β Z w s blk v) :
   OpOk P E B (fun n => Fr n ∧ n ≠ nm) β Z hp w (do pure (.value (← s))) (upd hp nm (some blk)) (v nm) := by
 obtain ⟨u, cs, e, ln, h1, h2, h3⟩ := hs
 refine ⟨.value u, u, _, _, Z, by simp [h1], .inl rfl, h.mk_block hB hf h2, h3 _ _ _ nm (upd_same _ _ _) ⟨cs, e, heap_alloc_new w _, rfl⟩⟩
theorem parts_ok (hg : GlOk E Z w) {tm : Nat → AV} {a : Act} (ht : ∀ t, RA β Z w (tm t) (a.tmps.getD t undef)) : ∀ (l : List (Nat × Operand)), RParts β Z w (l.map fun p => (p.1, evalO E tm p.2)) (l.map fun (i, x) => (i, a.eval x))
 | [] => trivial
 | (i, x) :: l => ⟨rfl, eval_ok hg ht x, parts_ok hg ht l⟩
theorem RL.get : ∀ {l : List TV} {r : List Value}, RL β Z w l r → r.length = l.length ∧ ∀ (i : Nat) (x : TV), l[i]? = some x → ∃ u, r[i]? = some u ∧ RT β Z w x u
 | [], [], _ => ⟨rfl, fun i x h => by simp at h⟩
 | x :: l, v :: r, h => by
   obtain ⟨h1, h2⟩ := RL.get h.2
   refine ⟨by simp [h1], fun i y hy => ?_⟩
   cases i with
   | zero => simp at hy; subst hy; exact ⟨v, rfl, h.1⟩
   | succ i => simp at hy; simpa using h2 i y hy
 | [], _ :: _, h => h.elim
 | _ :: _, [], h => by cases ‹TV› <;> exact h.elim
theorem func_ok (hg : GlOk E Z w) {tm : Nat → AV} {a : Act} (ht : ∀ t, RA β Z w (tm t) (a.tmps.getD t undef)) {fn : Fn} {first captured : Array Operand} {c : List Prop} {y : AV} (h : planFunc E tm fn first.toList captured.toList = .ok c y) : RA β Z w y (.func fn (first.map a.eval) (captured.map a.eval)) := by
 unfold planFunc Plan.cell at h
 split at h
 · rename_i f l cs hl hcs
   obtain ⟨hall, h⟩ := need_ok h (by simp)
   simp at h; obtain ⟨rfl, rfl⟩ := h
   have hcap : ∀ t ∈ cs, ∃ q, t = .c q := fun t ht => by
     have := List.all_eq_true.1 hall t ht
     cases t with
     | c q => exact ⟨q, rfl⟩
     | a n g => simp [isC] at this
   obtain ⟨a1, a2⟩ := RL.get (args_ok hg ht hl)
   obtain ⟨b1, b2⟩ := RL.get (args_ok hg ht hcs)
   refine ⟨first.map a.eval, captured.map a.eval, rfl, by simpa using a1, by simpa using b1, fun i hi => ?_, fun i s hs => ?_⟩
   · have hq : cs[i]? = some cs[i] := by simp [hi]
     obtain ⟨u, hu, hr⟩ := b2 i _ hq
     obtain ⟨q, hqq⟩ := hcap cs[i] (by simp)
     refine ⟨u, by simpa using hu, ?_⟩
     have : cs[i]?.getD (.c .any) = .c q := by simp [hi, hqq]
     rw [hqq] at hr
     simp only [this]
     exact hr
   · simp only [List.getElem?_map, Option.map_eq_some_iff] at hs
     obtain ⟨x, hx, rfl⟩ := hs
     obtain ⟨u, hu, hr⟩ := a2 i x hx
     refine ⟨u, by simpa using hu, ?_⟩
     have hgd : l[i]?.getD (.c .any) = x := by simp [hx]
     simp only [hgd]
     cases x with
     | c q => exact hr
     | a n g => exact hr
 · simp at h
theorem append_ok (hT : TabOk P E) (h : SatH E B Fr β Z hp w) (hB : B ≤ w.heap.size) {nm : Nat} (hf : Fr nm) {hpS : Nat → Option Blk} (hsub : ∀ n blk, hpS n = some blk → hp n = some blk)
   {t ty : Nat} {ti : TI} (ht : E.ty t = some ti) {x y : AV} {vx vy : Value} (hx : RA β Z w x vx) (hy : RA β Z w y vy) {hp' : Nat → Option Blk} {v : AV}
   (hc : AllP (planAppend E hpS ti x y).conds) (he : (planAppend E hpS ti x y).eff nm hp = some (hp', v)) :
   OpOk P E B (fun n => Fr n ∧ n ≠ nm) β Z hp w (do pure (.value (← Builtin.append_ #[t, t] ty #[vx, vy]))) hp' v := by
 obtain ⟨i, d, z, hF⟩ := tabTI_spec (hT t ti ht).1
 have hrbS : ∀ n blk, hpS n = some blk → RB β Z w (β n) blk := fun n blk hn => h.rb n blk (hsub n blk hn)
 generalize hp0 : planAppend E hpS ti x y = p at hc he
 unfold planAppend at hp0
 split at hp0
 · rename_i e hk
   obtain rfl := hF.slice hk
   split at hp0
   · rename_i te hte
     obtain ⟨i2, d2, z2, hF2⟩ := tabTI_spec (hT e te hte).1
     split at hp0
     · rename_i sy ly gy hrow
       obtain ⟨a, cap, rfl, hcell⟩ := rowOf_ok hrbS hy hrow
       split at hp0
       ·
         obtain rfl : vx = .slice none 0 0 := hx
         cases hb : (Nat.beq sy te.size && Nat.ble 1 te.size) with
         | false => rw [hb] at hp0; subst hp0; simp [need, Plan.eff] at he
         | true =>
           rw [hb] at hp0; subst hp0
           simp only [Bool.and_eq_true] at hb
           obtain rfl : sy = te.size := Nat.eq_of_beq_eq_true hb.1
           have hsz : 0 < te.size := Nat.le_of_ble_eq_true hb.2
           simp only [need, Plan.eff, Option.some.injEq, Prod.mk.injEq] at he
           obtain ⟨rfl, rfl⟩ := he
           obtain ⟨c1, c2, _⟩ := hc
           have ha := append_core (P := P) (Z := Z) (w := w) (ty := ty) hF.und hF2 hsz (v := .slice none 0 0) (n := 0) (gx := gy) (old := none) (.inl ⟨rfl, rfl, rfl⟩) (a := a) (m := ly) (c := cap) (gy := gy) hcell (by rw [Nat.zero_add]; exact c1) (by rw [Nat.zero_add]; exact c2)
           have hj : joinRow 0 gy gy = gy := by funext i; rw [joinRow_ge (Nat.zero_le _), Nat.sub_zero]
           rw [Nat.zero_add, hj] at ha
           obtain ⟨u, w', l, hr, hl, hv⟩ := h.app hB hf (drop := none) ha (fun b hb => by simp at hb)
           exact ⟨.value u, u, w', _, Z, by simp [hr], .inl rfl, hl, hv⟩
       · rename_i n size len
         have hx' : ROs w (β n) size len vx := hx
         split at hp0
         · rename_i e' size' len' gx hn
           cases hb : (Nat.beq e' e && Nat.beq size te.size && Nat.beq size' te.size && Nat.beq sy te.size && Nat.ble 1 te.size) with
           | false => rw [hb] at hp0; subst hp0; simp [need, Plan.eff] at he
           | true =>
             rw [hb] at hp0; subst hp0
             simp only [Bool.and_eq_true] at hb
             obtain ⟨⟨⟨⟨b1, b2⟩, b3⟩, b4⟩, b5⟩ := hb
             obtain rfl : e' = e := Nat.eq_of_beq_eq_true b1
             obtain rfl : size = te.size := Nat.eq_of_beq_eq_true b2
             obtain rfl : size' = te.size := Nat.eq_of_beq_eq_true b3
             obtain rfl : sy = te.size := Nat.eq_of_beq_eq_true b4
             have hsz : 0 < te.size := Nat.le_of_ble_eq_true b5
             simp only [need, Plan.eff, Option.some.injEq, Prod.mk.injEq] at he
             obtain ⟨rfl, rfl⟩ := he
             obtain ⟨c1, c2, _⟩ := hc
             have hrb := hrbS n _ hn
             cases hβ : β n with
             | no => rw [hβ] at hx'; exact hx'.elim
             | virt =>
               rw [hβ] at hx' hrb
               obtain ⟨rfl, rfl⟩ := hx'
               have h0 : len' = 0 := hrb
               subst h0
               have ha := append_core (P := P) (Z := Z) (w := w) (ty := ty) hF.und hF2 hsz (v := .slice none 0 0) (n := 0) (gx := gx) (old := none) (.inl ⟨rfl, rfl, rfl⟩) (a := a) (m := ly) (c := cap) (gy := gy) hcell c1 c2
               obtain ⟨u, w', l, hr, hl, hv⟩ := h.app hB hf (drop := some n) ha (fun b hb => by simp at hb)
               exact ⟨.value u, u, w', _, Z, by simp [hr], .inl rfl, hl, hv⟩
             | «at» b ln =>
               rw [hβ] at hx' hrb
               obtain ⟨rfl, capx, rfl, q1, q2, cs0, e0, q3, q4⟩ := hx'
               obtain ⟨rfl, cs, g1, g2, g3⟩ := hrb
               rw [q3] at g1; injection g1 with g1; injection g1 with g1 g1' _; subst g1; subst g1'
               have ha := append_core (P := P) (Z := Z) (w := w) (ty := ty) hF.und hF2 hsz (v := .slice (some ⟨b, 0, none⟩) ln capx) (n := ln) (gx := gx) (old := some b) (.inr ⟨b, capx, cs0, rfl, rfl, q3, q1, q2, q4, g3⟩) (a := a) (m := ly) (c := cap) (gy := gy) hcell c1 c2
               obtain ⟨u, w', l, hr, hl, hv⟩ := h.app hB hf (drop := some n) ha (fun b' hb' => by injection hb' with e1; subst e1; exact ⟨n, _, ln, rfl, hsub n _ hn, hβ⟩)
               exact ⟨.value u, u, w', _, Z, by simp [hr], .inl rfl, hl, hv⟩
         · subst hp0; simp [Plan.eff] at he
       · subst hp0; simp [Plan.eff] at he
     · split at hp0
       · obtain rfl : vy = .slice none 0 0 := hy
         split at hp0
         · obtain rfl : vx = .slice none 0 0 := hx
           subst hp0
           simp only [Plan.cell, Plan.eff, Option.some.injEq, Prod.mk.injEq] at he
           obtain ⟨rfl, rfl⟩ := he
           refine OpOk.val h ⟨.slice none 0 0, ?_, rfl⟩
           simp [Builtin.append_, hF.run_und, hF2.run_size, Builtin.lenOf, Builtin.firstCells]
         · rename_i n size len
           have hx' : ROs w (β n) size len vx := hx
           subst hp0
           simp only [Plan.cell, Plan.eff, Option.some.injEq, Prod.mk.injEq] at he
           obtain ⟨rfl, rfl⟩ := he
           refine OpOk.val h ⟨vx, ?_, hx⟩
           cases hβ : β n with
           | no => rw [hβ] at hx'; exact hx'.elim
           | virt =>
             rw [hβ] at hx'
             obtain ⟨rfl, rfl⟩ := hx'
             simp [Builtin.append_, hF.run_und, hF2.run_size, Builtin.lenOf, Builtin.firstCells]
           | «at» b ln =>
             rw [hβ] at hx'
             obtain ⟨rfl, capx, rfl, q1, _⟩ := hx'
             simp [Builtin.append_, hF.run_und, hF2.run_size, Builtin.lenOf, Builtin.firstCells, q1, storeCells]
         · subst hp0; simp [Plan.eff] at he
       · subst hp0; simp [Plan.eff] at he
   · subst hp0; simp [Plan.eff] at he
 · subst hp0; simp [Plan.eff] at he
def RO (β : Nat → Loc) (Z : Nat → Prop) (w : World) : Option AV → Option Value → Prop
 | none, none => True
 | some x, some v => RA β Z w x v
 | _, _ => False
theorem bndHi_some {len : Nat} {x : AV} {mx : Option AV} {h : Int} (e : bndHi len (some x) mx = some h) : ∃ k, x = .t (.c (.int k h)) := by
 unfold bndHi at e
 split at e
 · simp_all
 · simp_all
 · simp_all
theorem bounds_ok {len cap : Nat} {isS : Bool} {lo hi mx : Option AV} {vlo vhi vmx : Option Value} (hlo : RO β Z w lo vlo) (hhi : RO β Z w hi vhi) (hmx : RO β Z w mx vmx) (hlc : len ≤ cap)
   {l h : Int} {m : Option Int} (b1 : bndLo lo = some l) (b2 : bndHi len hi mx = some h) (b3 : bndMx mx = some m) (hc : AllP (bndConds l h len m)) :
   ∃ mm : Nat, (Instr.sliceBounds isS len cap vlo vhi vmx).run P w = .ok (l.toNat, h.toNat, mm) w ∧ l.toNat ≤ h.toNat ∧ h.toNat ≤ mm ∧ h.toNat ≤ len ∧ mm ≤ cap := by
 have hl : ∃ q, vlo = q ∧ ((q = none ∧ l = 0) ∨ ∃ k, q = some (.int k l)) := by
   refine ⟨vlo, rfl, ?_⟩
   cases lo with
   | none => cases vlo with
     | none => simp [bndLo] at b1; exact .inl ⟨rfl, b1.symm⟩
     | some v => exact hlo.elim
   | some x => cases vlo with
     | none => exact hlo.elim
     | some v =>
       unfold bndLo at b1
       split at b1
       · rename_i he; simp at he
       · rename_i k n he
         injection b1 with b1; subst b1; injection he with he; subst he
         exact .inr ⟨k, by rw [int_of (β := β) (Z := Z) (w := w) hlo]⟩
       · simp at b1
 have hm : ∃ q, vmx = q ∧ ((q = none ∧ m = none ∧ mx = none) ∨ ∃ k n, q = some (.int k n) ∧ m = some n) := by
   refine ⟨vmx, rfl, ?_⟩
   cases mx with
   | none => cases vmx with
     | none => simp [bndMx] at b3; exact .inl ⟨rfl, b3.symm, rfl⟩
     | some v => exact hmx.elim
   | some x => cases vmx with
     | none => exact hmx.elim
     | some v =>
       unfold bndMx at b3
       split at b3
       · rename_i he; simp at he
       · rename_i k n he
         injection b3 with b3; injection he with he; subst he
         exact .inr ⟨k, n, by rw [int_of (β := β) (Z := Z) (w := w) hmx], b3.symm⟩
       · simp at b3
 have hh : (vhi = none ∧ h = len ∧ mx = none) ∨ ∃ k, vhi = some (.int k h) := by
   cases hi with
   | none => cases vhi with
     | none =>
       cases mx with
       | none => simp [bndHi] at b2; exact .inl ⟨rfl, b2.symm, rfl⟩
       | some x => simp [bndHi] at b2
     | some v => exact hhi.elim
   | some x => cases vhi with
     | none => exact hhi.elim
     | some v =>
       obtain ⟨k, rfl⟩ := bndHi_some b2
       exact .inr ⟨k, by rw [int_of (β := β) (Z := Z) (w := w) hhi]⟩
 obtain ⟨_, rfl, hl⟩ := hl
 obtain ⟨_, rfl, hm⟩ := hm
 rcases hm with ⟨rfl, rfl, rfl⟩ | ⟨km, n, rfl, rfl⟩
 · obtain ⟨c1, c2, c3, _⟩ := hc
   refine ⟨cap, ?_, by omega, by omega, by omega, Nat.le_refl _⟩
   have hh0 : 0 ≤ h := by omega
   obtain ⟨h', rfl⟩ := Int.eq_ofNat_of_zero_le hh0
   obtain ⟨l', rfl⟩ := Int.eq_ofNat_of_zero_le c1
   have hcap : h' ≤ cap := by omega
   have hlh : l' ≤ h' := by omega
   have hl0 : ∀ x : Nat, (x : Int) = 0 → x = 0 := fun x hx => by omega
   rcases hh with ⟨rfl, e, _⟩ | ⟨kh, rfl⟩
   · have e' : h' = len := by omega
     subst e'
     rcases hl with ⟨rfl, e2⟩ | ⟨kl, rfl⟩
     · have := hl0 _ e2; subst this; simp [Instr.sliceBounds]
     · simp [Instr.sliceBounds, Instr.sliceBound, asIntOf, hlh]
   · rcases hl with ⟨rfl, e2⟩ | ⟨kl, rfl⟩
     · have := hl0 _ e2; subst this; simp [Instr.sliceBounds, Instr.sliceBound, asIntOf, hcap]
     · simp [Instr.sliceBounds, Instr.sliceBound, asIntOf, hcap, hlh]
 · obtain ⟨c1, c2, c3, c4, _⟩ := hc
   refine ⟨n.toNat, ?_, by omega, by omega, by omega, by omega⟩
   have hh0 : 0 ≤ h := by omega
   have hn0 : 0 ≤ n := by omega
   obtain ⟨h', rfl⟩ := Int.eq_ofNat_of_zero_le hh0
   obtain ⟨l', rfl⟩ := Int.eq_ofNat_of_zero_le c1
   obtain ⟨n', rfl⟩ := Int.eq_ofNat_of_zero_le hn0
   have hncap : n' ≤ cap := by omega
   have hlh : l' ≤ h' := by omega
   have hhn : h' ≤ n' := by omega
   have hl0 : ∀ x : Nat, (x : Int) = 0 → x = 0 := fun x hx => by omega
   rcases hh with ⟨rfl, _, e⟩ | ⟨kh, rfl⟩
   · subst e; simp [bndMx] at b3
   · rcases hl with ⟨rfl, e2⟩ | ⟨kl, rfl⟩
     · have := hl0 _ e2; subst this; simp [Instr.sliceBounds, Instr.sliceBound, asIntOf, hncap, hhn]
     · simp [Instr.sliceBounds, Instr.sliceBound, asIntOf, hncap, hhn, hlh]
theorem cutRow_eq {lo : Option AV} {l : Int} (hl : bndLo lo = some l) (get : Nat → Nat → CV) (i : Nat) : cutRow lo l get i = get (i + l.toNat) := by
 cases lo with
 | none => simp [bndLo] at hl; subst hl; rfl
 | some x => rfl
theorem cut_ok {a : Option Addr} {len size : Nat} {get : Nat → Nat → CV} (hg : 0 < len → ∃ b o, a = some ⟨b, o, none⟩ ∧ Z b ∧ ∀ i, i < len → ∀ j, j < size → ∃ u, w.cell? ⟨b, o + (i * size + j), none⟩ = some u ∧ RP Z w (get i j) u)
   {lo : Option AV} {l : Int} (hl : bndLo lo = some l) {h mm : Nat} (h1 : l.toNat ≤ h) (h2 : h ≤ mm) (h3 : h ≤ len) :
   RP Z w (.vs size (h - l.toNat) (cutRow lo l get)) (.slice (if mm = l.toNat then a else a.map (·.add (l.toNat * size))) (h - l.toNat) (mm - l.toNat)) := by
 refine ⟨_, _, rfl, by omega, fun hpos => ?_⟩
 obtain ⟨b, o, rfl, hz, hcell⟩ := hg (by omega)
 refine ⟨b, o + l.toNat * size, ?_, hz, fun i hi j hj => ?_⟩
 · rw [if_neg (by omega)]; simp [addr_add]
 · obtain ⟨u, hu, hr⟩ := hcell (i + l.toNat) (by omega) j hj
   refine ⟨u, ?_, by rw [cutRow_eq hl]; exact hr⟩
   rw [← hu, Nat.add_mul]
   congr 2; omega
theorem slice_ok (hT : TabOk P E) (h : SatH E B Fr β Z hp w) {nm : Nat} {hpS : Nat → Option Blk} (hsub : ∀ n blk, hpS n = some blk → hp n = some blk)
   {t : Nat} {ti : TI} (ht : E.ty t = some ti) {x : AV} {lo hi mx : Option AV} {vx : Value} {vlo vhi vmx : Option Value} (hx : RA β Z w x vx) (hlo : RO β Z w lo vlo) (hhi : RO β Z w hi vhi) (hmx : RO β Z w mx vmx)
   {hp' : Nat → Option Blk} {v : AV} (hc : AllP (planSlice E hpS ti x lo hi mx).conds) (he : (planSlice E hpS ti x lo hi mx).eff nm hp = some (hp', v)) :
   OpOk P E B (fun n => Fr n ∧ n ≠ nm) β Z hp w (do pure (.value (← Instr.sliceAt t vx vlo vhi vmx))) hp' v := by
 obtain ⟨i, d, z, hF⟩ := tabTI_spec (hT t ti ht).1
 generalize hp0 : planSlice E hpS ti x lo hi mx = p at hc he
 unfold planSlice at hp0
 split at hp0
 · rename_i e size len get hk
   obtain rfl := hF.slice hk
   split at hp0
   · rename_i l hh m te e1 e2 e3 hte
     obtain ⟨i2, d2, z2, hF2⟩ := tabTI_spec (hT e te hte).1
     cases hb : Nat.beq te.size size with
     | false => rw [hb] at hp0; subst hp0; simp [need, Plan.eff] at he
     | true =>
       rw [hb] at hp0; subst hp0
       obtain rfl : te.size = size := Nat.eq_of_beq_eq_true hb
       simp only [need, Plan.cell, Plan.eff, Option.some.injEq, Prod.mk.injEq] at he
       obtain ⟨rfl, rfl⟩ := he
       obtain ⟨a, cap, rfl, hlc, hg⟩ := hx
       obtain ⟨mm, hr, q1, q2, q3, q4⟩ := bounds_ok (P := P) (isS := true) hlo hhi hmx hlc e1 e2 e3 hc
       refine OpOk.val h ⟨_, ?_, RC.of_RP (cut_ok hg e1 q1 q2 q3)⟩
       simp [Instr.sliceAt, Instr.slice, hF.run_und, hr, hF2.run_size]
   · subst hp0; simp [Plan.eff] at he
 · rename_i e n sz len0 hk
   obtain rfl := hF.slice hk
   have hx' : ROs w (β n) sz len0 vx := hx
   split at hp0
   · rename_i e0 size len get hn
     split at hp0
     · rename_i l hh m te e1 e2 e3 hte
       obtain ⟨i2, d2, z2, hF2⟩ := tabTI_spec (hT e te hte).1
       cases hb : (Nat.beq te.size size && Nat.beq sz size) with
       | false => rw [hb] at hp0; subst hp0; simp [need, Plan.eff] at he
       | true =>
         rw [hb] at hp0; subst hp0
         simp only [Bool.and_eq_true] at hb
         obtain rfl : te.size = size := Nat.eq_of_beq_eq_true hb.1
         obtain rfl : sz = te.size := Nat.eq_of_beq_eq_true hb.2
         simp only [need, Plan.eff, Option.some.injEq, Prod.mk.injEq] at he
         obtain ⟨rfl, rfl⟩ := he
         have hnp := hsub n _ hn
         have hrb := h.rb n _ hnp
         have hfz := h.freeze n
         have main : ∀ a cap, vx = .slice a len cap → len ≤ cap → (0 < len → ∃ b o, a = some ⟨b, o, none⟩ ∧ (Z b ∨ (∃ blk ln, hp n = some blk ∧ β n = .at b ln)) ∧ ∀ i, i < len → ∀ j, j < te.size → ∃ u, w.cell? ⟨b, o + (i * te.size + j), none⟩ = some u ∧ RP Z w (get i j) u) →
             OpOk P E B (fun n => Fr n ∧ n ≠ nm) β Z hp w (do pure (.value (← Instr.sliceAt t vx vlo vhi vmx))) (upd hp n none) (.t (.c (.vs te.size (hh.toNat - l.toNat) (cutRow lo l get)))) := by
           intro a cap ev hlc hg
           subst ev
           obtain ⟨mm, hr, q1, q2, q3, q4⟩ := bounds_ok (P := P) (isS := true) hlo hhi hmx hlc e1 e2 e3 hc
           refine ⟨_, _, w, β, _, ?_, .inl rfl, ⟨hfz.sat.weaken (fun n hn => hn.1), hfz.ev, hfz.ext, hfz.own, hfz.zown⟩, RC.of_RP (cut_ok (a := a) (len := len) (get := get) (fun hpos => ?_) e1 q1 q2 q3)⟩
           · simp [Instr.sliceAt, Instr.slice, hF.run_und, hr, hF2.run_size]
           · obtain ⟨b, o, h1, h2, h3⟩ := hg hpos
             exact ⟨b, o, h1, h2, fun i hi j hj => let ⟨u, hu, hr⟩ := h3 i hi j hj; ⟨u, hu, RP.mono hfz.ev h.calm hr⟩⟩
         cases hβ : β n with
         | no => rw [hβ] at hx'; exact hx'.elim
         | virt =>
           rw [hβ] at hx' hrb
           obtain ⟨rfl, rfl⟩ := hx'
           have h0 : len = 0 := hrb
           subst h0
           exact main none 0 rfl (Nat.le_refl _) (fun h => absurd h (Nat.lt_irrefl 0))
         | «at» b ln =>
           rw [hβ] at hx' hrb
           obtain ⟨rfl, cap, rfl, q1, _⟩ := hx'
           obtain ⟨rfl, cs, g1, g2, g3⟩ := hrb
           refine main _ cap rfl q1 (fun _ => ⟨b, 0, rfl, .inr ⟨_, _, hnp, hβ⟩, fun i hi j hj => ?_⟩)
           obtain ⟨u, hu, hr⟩ := g3 i hi j hj
           exact ⟨u, by rw [cell_of_heap g1, Nat.zero_add]; exact hu, hr⟩
     · subst hp0; simp [Plan.eff] at he
   · subst hp0; simp [Plan.eff] at he
 · rename_i len e n hk
   obtain ⟨rfl, hgd⟩ := hF.array hk
   obtain ⟨b, ln, hb0, rfl⟩ := hx
   split at hp0
   · rename_i k get hn
     split at hp0
     · rename_i l hh m te e1 e2 e3 hte
       obtain ⟨i2, d2, z2, hF2⟩ := tabTI_spec (hT e te hte).1
       cases hb : (Nat.ble (len * te.size) k && allPure get k) with
       | false => rw [hb] at hp0; subst hp0; simp [need, Plan.eff] at he
       | true =>
         rw [hb] at hp0; subst hp0
         simp only [Bool.and_eq_true] at hb
         have hle : len * te.size ≤ k := Nat.le_of_ble_eq_true hb.1
         simp only [need, Plan.eff, Option.some.injEq, Prod.mk.injEq] at he
         obtain ⟨rfl, rfl⟩ := he
         have hnp := hsub n _ hn
         have hrb := h.rb n _ hnp
         have hfz := h.freeze n
         rw [hb0] at hrb
         obtain ⟨cs, e', g1, g2, g3⟩ := hrb
         obtain ⟨mm, hr, q1, q2, q3, q4⟩ := bounds_ok (P := P) (isS := false) hlo hhi hmx (Nat.le_refl len) e1 e2 e3 hc
         refine ⟨_, _, w, β, _, ?_, .inl rfl, ⟨hfz.sat.weaken (fun n hn => hn.1), hfz.ev, hfz.ext, hfz.own, hfz.zown⟩, RC.of_RP (cut_ok (a := some ⟨b, 0, none⟩) (len := len) (get := fun i j => get (i * te.size + j)) (fun _ => ?_) e1 q1 q2 q3)⟩
         · simp [Instr.sliceAt, hF.run_und, hr, hF2.run_size, Instr.sureAddr]
           split <;> rfl
         · refine ⟨b, 0, rfl, .inr ⟨_, _, hnp, hb0⟩, fun i hi j hj => ?_⟩
           have hij := row_bound hi hj
           obtain ⟨u, hu, hr⟩ := g3 (i * te.size + j) (by omega)
           exact ⟨u, by rw [cell_of_heap g1, Nat.zero_add]; exact hu, RP.mono hfz.ev h.calm (RP.of_RC (allPure_get hb.2 _ (by omega)) hr)⟩
     · subst hp0; simp [Plan.eff] at he
   · subst hp0; simp [Plan.eff] at he
 · subst hp0; simp [Plan.eff] at he
end
end Go.Sx
