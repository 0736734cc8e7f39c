/- Texts for the law of the last part, part 4. -/
import Derived.Test.YtcfmdhlohahhcaaDoorMendsUptoP03
import Derived.Maps.Keyed
set_option linter.unusedSimpArgs false
set_option linter.unusedVariables false
namespace Go.Sx
open Go.Maps (Keyed)
structure MapFacts (P : Program) (t : TypeId) (T : MapT) : Prop where
 und : P.underlying t = some (.map T.k T.v)
 keyed : Keyed P T.k
 lit : ∀ ks, KeyIs T ks → ∃ l, keyOf P T.k (keyV T.agg ks) = some l
 zero : ∀ w, (zeroValue T.v).run P w = .ok (valV T.vb 0) w
 one : T.agg = false → T.n = 1
def MapsOk (P : Program) (E : Env) : Prop := ∀ t T, E.mps t = some T → MapFacts P t T
section
variable {P : Program} {E : Env} {B : Nat} {Fr : Nat → Prop} {β : Nat → Loc} {Z : Nat → Prop} {hp : Nat → Option Blk} {w : World}
def okBad : Plan → Prop
 | .ok _ _ => True
 | .bad => True
 | _ => False
theorem okBad_need {b : Bool} {p : Plan} (h : okBad p) : okBad (need b p) := by cases b <;> trivial
theorem keyV_inj {T : MapT} (h1 : T.agg = false → T.n = 1) {a b : List Int} (ha : KeyIs T a) (hb : KeyIs T b) (h : keyV T.agg a = keyV T.agg b) : a = b := by
 cases hg : T.agg with
 | true =>
   rw [hg] at h
   simp only [keyV, Value.agg.injEq] at h
   have h2 : a.map (Value.int .i64) = b.map (Value.int .i64) := by simpa using h
   exact (List.map_inj_right (fun x y e => by injection e)).1 h2
 | false =>
   rw [hg] at h
   have e1 := h1 hg
   obtain ⟨la, _⟩ := ha
   obtain ⟨lb, _⟩ := hb
   rw [e1] at la lb
   match a, b, la, lb with
   | [x], [y], _, _ => simp [keyV] at h; rw [h]
theorem keyCV_ok {x : CV} {a : Int} (h : keyCV x = some a) : x = .int .i64 a := by
 unfold keyCV at h
 split at h
 · injection h with h; subst h; rfl
 · cases h
theorem keyFrom_ok {get : Nat → CV} : ∀ {n j : Nat} {l : List Int}, keyFrom get j n = some l → l.length = n ∧ ∀ i, i < n → ∃ a, l[i]? = some a ∧ get (j + i) = .int .i64 a
 | 0, j, l, h => by
   simp only [keyFrom, Option.some.injEq] at h
   subst h
   exact ⟨rfl, fun i hi => absurd hi (by omega)⟩
 | n + 1, j, l, h => by
   unfold keyFrom at h
   split at h
   · rename_i a l' h1 h2
     injection h with h
     subst h
     obtain ⟨e1, e2⟩ := keyFrom_ok h2
     refine ⟨by simp [e1], fun i hi => ?_⟩
     cases i with
     | zero => exact ⟨a, rfl, keyCV_ok h1⟩
     | succ i =>
       obtain ⟨x, hx1, hx2⟩ := e2 i (by omega)
       exact ⟨x, by simpa using hx1, by rw [← hx2]; congr 1; omega⟩
   · cases h
theorem keyOfAV_ok {T : MapT} {x : AV} {ks : List Int} (h : keyOfAV T x = some ks) {v : Value} (hv : RA β Z w x v) : v = keyV T.agg ks ∧ ks.length = T.n := by
 unfold keyOfAV at h
 split at h
 · split at h
   · rename_i c h1 h2 h3
     injection h with h
     subst h
     obtain rfl := keyCV_ok h3
     obtain rfl := int_of hv
     exact ⟨by rw [h1]; rfl, (Nat.eq_of_beq_eq_true h2).symm⟩
   · cases h
 · rename_i n get
   split at h
   · rename_i hag hn
     obtain rfl := Nat.eq_of_beq_eq_true hn
     obtain ⟨e1, e2⟩ := keyFrom_ok h
     obtain ⟨cs, rfl, hsz, hcs⟩ := hv
     refine ⟨?_, e1⟩
     rw [hag]
     simp only [keyV, Value.agg.injEq]
     apply Array.ext'
     apply List.ext_getElem?
     intro i
     simp only [List.getElem?_map, Array.getElem?_toList]
     by_cases hi : i < T.n
     · obtain ⟨a, h1, h2⟩ := e2 i hi
       obtain ⟨u, hu, hr⟩ := hcs i hi
       rw [Nat.zero_add] at h2
       rw [h2] at hr
       have : u = .int .i64 a := hr
       rw [hu, h1, this]; rfl
     · rw [Array.getElem?_eq_none (by omega), List.getElem?_eq_none (by omega)]; rfl
   · cases h
 · cases h
theorem inRs_ok : ∀ {ks : List Int}, AllP (inRs ks) → ∀ a ∈ ks, inRange .i64 a
 | [], _, a, ha => by cases ha
 | x :: l, h, a, ha => by
   have h' : inRange .i64 x ∧ AllP (inRs l) := h
   rcases List.mem_cons.1 ha with rfl | ha
   · exact h'.1
   · exact inRs_ok h'.2 a ha
theorem valCV_ok {vb : Bool} {x : Option Int} : RC β Z w (valCV vb x) (valV vb (valOf x)) := by
 cases vb <;> rfl
theorem elemOf_ok {vb : Bool} {x : AV} {a : Int} (h : elemOf vb x = some a) {v : Value} (hv : RA β Z w x v) : v = valV vb a := by
 unfold elemOf at h
 split at h
 · cases vb with
   | true => cases h
   | false =>
     injection h with h
     subst h
     obtain rfl := int_of hv
     rfl
 · split at h
   · rename_i b hb
     injection h with h
     subst h
     rw [truth_ok hv hb]
     cases b <;> rfl
   · cases h
theorem RMap.find {T : MapT} {t : TypeId} (F : MapFacts P t T) {m : List Int → Option Int} {es : Array MapEntry} (h : RMap T m es) {ks : List Int} (hk : KeyIs T ks) (w : World) :
   (m ks = none ∧ (Instr.findKey T.k (keyV T.agg ks) es.toList).run P w = .ok none w ∧ ∀ e ∈ es.toList, e.key ≠ keyV T.agg ks) ∨
   ∃ j e x, m ks = some x ∧ (Instr.findKey T.k (keyV T.agg ks) es.toList).run P w = .ok (some (j, e.val)) w ∧ es[j]? = some e ∧ e.key = keyV T.agg ks ∧ e.val = valV T.vb x := by
 obtain ⟨l, hl⟩ := F.lit ks hk
 rcases F.keyed.find w hl es.toList (fun e he => by
   obtain ⟨ks', x, h1, h2, _⟩ := h.ent e he
   rw [h2]
   exact F.lit ks' h1) with ⟨h1, h2⟩ | ⟨j, e, h1, h2, h3⟩
 · refine .inl ⟨?_, h1, h2⟩
   cases hm : m ks with
   | none => rfl
   | some x =>
     obtain ⟨_, e, he, hek⟩ := h.all ks x hm
     exact absurd hek (h2 e he)
 · have he : e ∈ es.toList := List.mem_of_getElem? h2
   obtain ⟨ks', x, g1, g2, g3, g4⟩ := h.ent e he
   obtain rfl := keyV_inj F.one g1 hk (g2.symm.trans h3)
   exact .inr ⟨j, e, x, g3, h1, by simpa using h2, h3, g4⟩
theorem mapOf_ok (hrb : ∀ n blk, hp n = some blk → RB β Z w (β n) blk) {nm b ln : Nat} (hb : β nm = .at b ln) {T : MapT} {m : List Int → Option Int} (h : mapOf (hp nm) = some (T, m)) : ∃ es clock, w.heap[b]? = some (.map es clock) ∧ RMap T m es := by
 unfold mapOf at h
 split at h
 · rename_i T' m' hm
   injection h with h
   injection h with e1 e2
   subst e1; subst e2
   have hr := hrb nm _ hm
   rw [hb] at hr
   exact hr
 · rename_i T' m' c hm
   injection h with h
   injection h with e1 e2
   subst e1; subst e2
   have hr := hrb nm _ hm
   rw [hb] at hr
   obtain ⟨es, h1, h2⟩ := hr
   exact ⟨es, _, h1, h2.base⟩
 · cases h
theorem lookup_ok {t : TypeId} {T : MapT} (F : MapFacts P t T) (hrb : ∀ n blk, hp n = some blk → RB β Z w (β n) blk) {x k : AV} {xv kv : Value} (hx : RA β Z w x xv) (hk : RA β Z w k kv) {ok : Bool} {c : List Prop} {r : AV} (h : planLookup hp T x k ok = .ok c r) (hc : AllP c) :
   ∃ q, (Instr.lookup t xv kv ok).run P w = .ok q w ∧ RA β Z w r q := by
 unfold planLookup at h
 split at h
 · rename_i nm ks hks
   split at h
   · rename_i T' m hm
     obtain ⟨hT, hq⟩ := need_ok h (by simp)
     obtain rfl := sameT_eq hT
     injection hq with e1 e2
     subst e1
     obtain ⟨rfl, hlen⟩ := keyOfAV_ok hks hk
     have hK : KeyIs T ks := ⟨hlen, inRs_ok hc⟩
     obtain ⟨b, ln, hb, rfl⟩ := hx
     obtain ⟨es, clock, hes, hR⟩ := mapOf_ok hrb hb hm
     obtain ⟨l, hl⟩ := F.lit ks hK
     rcases hR.find F hK w with ⟨h1, h2, h3⟩ | ⟨j, e, x, h1, h2, h3, h4, h5⟩
     · refine ⟨if ok then .tuple #[valV T.vb 0, .bool false] else valV T.vb 0, by simp [Instr.lookup, run_underlying F.und, MapKept.run_getObj_map hes, F.keyed.check w _ hl, h2, F.zero w, Result.andThen], ?_⟩
       subst e2
       cases ok
       · simp only [h1]; exact valCV_ok (x := none)
       · simp only [h1]
         refine ⟨_, rfl, rfl, fun i y hy => ?_⟩
         match i, hy with
         | 0, hy => simp at hy; subst hy; exact ⟨_, rfl, valCV_ok (x := none)⟩
         | 1, hy => simp at hy; subst hy; exact ⟨_, rfl, rfl⟩
     · refine ⟨if ok then .tuple #[e.val, .bool true] else e.val, by simp [Instr.lookup, run_underlying F.und, MapKept.run_getObj_map hes, F.keyed.check w _ hl, h2, Result.andThen], ?_⟩
       subst e2
       rw [h5]
       cases ok
       · simp only [h1]; exact valCV_ok (x := some x)
       · simp only [h1]
         refine ⟨_, rfl, rfl, fun i y hy => ?_⟩
         match i, hy with
         | 0, hy => simp at hy; subst hy; exact ⟨_, rfl, valCV_ok (x := some x)⟩
         | 1, hy => simp at hy; subst hy; exact ⟨_, rfl, rfl⟩
   · cases h
 · cases h
theorem update_ok {t : TypeId} {T : MapT} (F : MapFacts P t T) (hrb : ∀ n blk, hp n = some blk → RB β Z w (β n) blk) {x k v : AV} {xv kv vv : Value} (hx : RA β Z w x xv) (hk : RA β Z w k kv) (hv : RA β Z w v vv) {c : List Prop} {nm : Nat} {blk : Blk}
   (h : planMapUpdate hp T x k v = .wr c nm blk) (hc : AllP c) :
   ∃ (b ln : Nat) (old : Blk) (es : Array MapEntry) (clock : Nat) (es' : Array MapEntry) (clock' : Nat), β nm = .at b ln ∧ hp nm = some old ∧ w.heap[b]? = some (.map es clock) ∧
     (Instr.mapUpdate t xv kv vv).run P w = .ok () { w with heap := w.heap.setIfInBounds b (.map es' clock') } ∧ ∃ m, blk = .mp T m ∧ RMap T m es' := by
 unfold planMapUpdate at h
 split at h
 · rename_i nm' ks a hks ha
   split at h
   · rename_i T' m hm
     obtain ⟨hT, hq⟩ := need_ok h (by simp)
     obtain rfl := sameT_eq hT
     injection hq with e1 e2 e3
     subst e1 e2 e3
     obtain ⟨rfl, hlen⟩ := keyOfAV_ok hks hk
     obtain rfl := elemOf_ok ha hv
     have hK : KeyIs T ks := ⟨hlen, inRs_ok hc⟩
     obtain ⟨b, ln, hb, rfl⟩ := hx
     have hr := hrb _ _ hm
     rw [hb] at hr
     obtain ⟨es, clock, hes, hR⟩ := hr
     obtain ⟨l, hl⟩ := F.lit ks hK
     rcases hR.find F hK w with ⟨h1, h2, h3⟩ | ⟨j, e0, x, h1, h2, h3, h4, h5⟩
     · refine ⟨b, ln, _, es, clock, es.push ⟨keyV T.agg ks, valV T.vb a, clock⟩, clock + 1, hb, hm, hes, ?_, _, rfl, ⟨?_, ?_, ?_⟩⟩
       · simp [Instr.mapUpdate, run_underlying F.und, MapKept.run_getObj_map hes, F.keyed.check w false hl, h2, MapKept.run_setObj_map _ hes, Result.andThen]
       · intro e he
         simp only [Array.toList_push, List.mem_append, List.mem_singleton] at he
         rcases he with he | rfl
         · obtain ⟨ks', x, g1, g2, g3, g4⟩ := hR.ent e he
           refine ⟨ks', x, g1, g2, ?_, g4⟩
           unfold putM
           rw [if_neg (fun e' => h3 e he (by rw [g2, e']))]
           exact g3
         · exact ⟨ks, a, hK, rfl, by simp [putM], rfl⟩
       · intro ks' x hx
         unfold putM at hx
         by_cases e' : ks' = ks
         · subst e'
           exact ⟨hK, ⟨keyV T.agg ks', valV T.vb a, clock⟩, by simp, rfl⟩
         · rw [if_neg e'] at hx
           obtain ⟨hK', e, he, hek⟩ := hR.all ks' x hx
           exact ⟨hK', e, by simp only [Array.toList_push, List.mem_append]; exact .inl he, hek⟩
       · intro i j e e' hi hj hee
         simp only [Array.getElem?_push] at hi hj
         split at hi <;> split at hj
         · omega
         · injection hi with hi; subst hi
           exact absurd hee.symm (h3 e' (by simpa using Array.mem_of_getElem? hj))
         · injection hj with hj; subst hj
           exact absurd hee (h3 e (by simpa using Array.mem_of_getElem? hi))
         · exact hR.one i j e e' hi hj hee
     · have hjl : j < es.size := (Array.getElem?_eq_some_iff.1 h3).1
       have hget : ∀ i, (es.modify j (fun e' => { e' with key := keyV T.agg ks, val := valV T.vb a }))[i]? = if j = i then some { e0 with key := keyV T.agg ks, val := valV T.vb a } else es[i]? := by
         intro i
         rw [Array.getElem?_modify]
         split
         · rename_i e; subst e; rw [h3]; rfl
         · rfl
       refine ⟨b, ln, _, es, clock, es.modify j (fun e' => { e' with key := keyV T.agg ks, val := valV T.vb a }), clock, hb, hm, hes, ?_, _, rfl, ⟨?_, ?_, ?_⟩⟩
       · have hst := F.keyed.stays w hl
         simp [Instr.mapUpdate, run_underlying F.und, MapKept.run_getObj_map hes, F.keyed.check w false hl, h2, MapKept.run_setObj_map _ hes, Result.andThen, h3, h4, hst]
       · intro e he
         obtain ⟨i, hi⟩ := List.mem_iff_getElem?.1 he
         rw [Array.getElem?_toList, hget] at hi
         split at hi
         · injection hi with hi
           subst hi
           exact ⟨ks, a, hK, rfl, by simp [putM], rfl⟩
         · rename_i hne
           obtain ⟨ks', x', g1, g2, g3, g4⟩ := hR.ent e (by simpa using Array.mem_of_getElem? hi)
           refine ⟨ks', x', g1, g2, ?_, g4⟩
           unfold putM
           rw [if_neg (fun e' => hne (hR.one j i e0 e h3 hi (by rw [h4, g2, e'])))]
           exact g3
       · intro ks' x' hx
         unfold putM at hx
         by_cases e' : ks' = ks
         · subst e'
           refine ⟨hK, { e0 with key := keyV T.agg ks', val := valV T.vb a }, List.mem_iff_getElem?.2 ⟨j, ?_⟩, rfl⟩
           rw [Array.getElem?_toList, hget, if_pos rfl]
         · rw [if_neg e'] at hx
           obtain ⟨hK', e, he, hek⟩ := hR.all ks' x' hx
           obtain ⟨i, hi⟩ := List.mem_iff_getElem?.1 he
           rw [Array.getElem?_toList] at hi
           have hne : j ≠ i := fun e1 => by
             subst e1
             rw [h3] at hi; injection hi with hi; subst hi
             exact e' (keyV_inj F.one hK' hK (hek.symm.trans h4))
           exact ⟨hK', e, List.mem_iff_getElem?.2 ⟨i, by rw [Array.getElem?_toList, hget, if_neg hne]; exact hi⟩, hek⟩
       · intro i i' e e' hi hi' hee
         rw [hget] at hi hi'
         split at hi <;> split at hi'
         · omega
         · injection hi with hi; subst hi
           rename_i e1 hne
           exact absurd (hR.one j i' e0 e' h3 hi' (by rw [h4]; exact hee)) hne
         · injection hi' with hi'; subst hi'
           rename_i hne e1
           exact absurd (hR.one j i e0 e h3 hi (by rw [h4]; exact hee.symm)) hne
         · exact hR.one i i' e e' hi hi' hee
   · cases h
 · cases h
theorem fstM_some {m : List Int → Option (Int × Nat)} {ks : List Int} {x : Int} (h : fstM m ks = some x) : ∃ s, m ks = some (x, s) := by
 unfold fstM at h
 split at h
 · rename_i y hy
   injection h with h
   exact ⟨y.2, by rw [hy, ← h]⟩
 · cases h
theorem fstM_of {m : List Int → Option (Int × Nat)} {ks : List Int} {x : Int} {s : Nat} (h : m ks = some (x, s)) : fstM m ks = some x := by unfold fstM; rw [h]
theorem fstM_none {m : List Int → Option (Int × Nat)} {ks : List Int} (h : fstM m ks = none) : m ks = none := by
 unfold fstM at h
 split at h
 · cases h
 · assumption
theorem erase_get {es : Array MapEntry} {j : Nat} (i : Nat) : (es.eraseIdxIfInBounds j)[i]? = if i < j then es[i]? else es[i + 1]? := by
 rw [← Array.getElem?_toList, Array.toList_eraseIdxIfInBounds, List.getElem?_eraseIdx]
 simp only [Array.getElem?_toList]
theorem erase_mem {es : Array MapEntry} {j : Nat} {e : MapEntry} (he : e ∈ (es.eraseIdxIfInBounds j).toList) : ∃ q, es[q]? = some e ∧ q ≠ j := by
 obtain ⟨i, hi⟩ := List.mem_iff_getElem?.1 he
 rw [Array.getElem?_toList, erase_get] at hi
 split at hi
 · exact ⟨i, hi, by omega⟩
 · exact ⟨i + 1, hi, by omega⟩
theorem erase_idx {es : Array MapEntry} {j : Nat} {q : MapEntry → Nat} (h : ∀ (i j : Nat) (e e' : MapEntry), es[i]? = some e → es[j]? = some e' → q e = q e' → i = j) : ∀ (i i' : Nat) (e e' : MapEntry), (es.eraseIdxIfInBounds j)[i]? = some e → (es.eraseIdxIfInBounds j)[i']? = some e' → q e = q e' → i = i' := by
 intro i i' e e' hi hi' hee
 rw [erase_get] at hi hi'
 split at hi <;> split at hi'
 · exact h i i' e e' hi hi' hee
 · have := h i (i' + 1) e e' hi hi' hee; omega
 · have := h (i + 1) i' e e' hi hi' hee; omega
 · have := h (i + 1) (i' + 1) e e' hi hi' hee; omega
theorem RMap.erase {T : MapT} (h1 : T.agg = false → T.n = 1) {m : List Int → Option Int} {es : Array MapEntry} (hR : RMap T m es) {ks : List Int} (hK : KeyIs T ks) {j : Nat} {e0 : MapEntry} (h3 : es[j]? = some e0) (h4 : e0.key = keyV T.agg ks) : RMap T (cutM m ks) (es.eraseIdxIfInBounds j) := by
 refine ⟨?_, ?_, ?_⟩
 · intro e he
   obtain ⟨q, hq, hqj⟩ := erase_mem he
   obtain ⟨ks', x', g1, g2, g3, g4⟩ := hR.ent e (by simpa using Array.mem_of_getElem? hq)
   refine ⟨ks', x', g1, g2, ?_, g4⟩
   unfold cutM
   rw [if_neg (fun e' => hqj (hR.one q j e e0 hq h3 (by rw [h4, g2, e'])))]
   exact g3
 · intro ks' x' hx
   unfold cutM at hx
   split at hx
   · cases hx
   · rename_i e'
     obtain ⟨hK', e, he, hek⟩ := hR.all ks' x' hx
     obtain ⟨i, hi⟩ := List.mem_iff_getElem?.1 he
     rw [Array.getElem?_toList] at hi
     have hne : i ≠ j := fun e1 => by
       subst e1
       rw [h3] at hi; injection hi with hi; subst hi
       exact e' (keyV_inj h1 hK' hK (hek.symm.trans h4))
     refine ⟨hK', e, List.mem_iff_getElem?.2 ?_, hek⟩
     by_cases hlt : i < j
     · exact ⟨i, by rw [Array.getElem?_toList, erase_get, if_pos hlt]; exact hi⟩
     · exact ⟨i - 1, by rw [Array.getElem?_toList, erase_get, if_neg (by omega), show i - 1 + 1 = i by omega]; exact hi⟩
 · intro i i' e e' hi hi' hee
   rw [erase_get] at hi hi'
   split at hi <;> split at hi'
   · exact hR.one i i' e e' hi hi' hee
   · have := hR.one i (i' + 1) e e' hi hi' hee; omega
   · have := hR.one (i + 1) i' e e' hi hi' hee; omega
   · have := hR.one (i + 1) (i' + 1) e e' hi hi' hee; omega
theorem cutS_fst (m : List Int → Option (Int × Nat)) (ks : List Int) : fstM (cutS m ks) = cutM (fstM m) ks := funext fun x => by
 unfold fstM cutS cutM
 by_cases h : x = ks <;> simp [h]
def MapSet (β : Nat → Loc) (hp : Nat → Option Blk) (w : World) (nm : Nat) (blk : Blk) (w' : World) : Prop :=
 ∃ (b ln : Nat) (old : Blk) (es : Array MapEntry) (clock : Nat) (es' : Array MapEntry) (clock' : Nat), β nm = .at b ln ∧ hp nm = some old ∧ w.heap[b]? = some (.map es clock) ∧ w' = { w with heap := w.heap.setIfInBounds b (.map es' clock') } ∧
   ((∃ T m, blk = .mp T m ∧ RMap T m es') ∨ ∃ T m, blk = .mq T m clock' ∧ RMapS T m es' clock')
theorem delete_ok {t t' : TypeId} {T : MapT} (F : MapFacts P t T) (hrb : ∀ n blk, hp n = some blk → RB β Z w (β n) blk) {x k : AV} {xv kv : Value} (hx : RA β Z w x xv) (hk : RA β Z w k kv) {c : List Prop} {nm : Nat} {blk : Blk}
   (h : planDelete hp T x k = .wr c nm blk) (hc : AllP c) (ty : TypeId) : ∃ w', (Builtin.delete_ #[t, t'] ty #[xv, kv]).run P w = .ok (.tuple #[]) w' ∧ MapSet β hp w nm blk w' := by
 unfold planDelete at h
 split at h
 · rename_i nm' ks hks
   split at h
   · rename_i T' m hm
     obtain ⟨hT, hq⟩ := need_ok h (by simp)
     obtain rfl := sameT_eq hT
     injection hq with e1 e2 e3
     subst e1 e2 e3
     obtain ⟨rfl, hlen⟩ := keyOfAV_ok hks hk
     have hK : KeyIs T ks := ⟨hlen, inRs_ok hc⟩
     obtain ⟨b, ln, hb, rfl⟩ := hx
     have hr := hrb _ _ hm
     rw [hb] at hr
     obtain ⟨es, clock, hes, hR⟩ := hr
     obtain ⟨l, hl⟩ := F.lit ks hK
     rcases hR.find F hK w with ⟨h1, h2, h3⟩ | ⟨j, e0, x, h1, h2, h3, h4, h5⟩
     · refine ⟨_, ?_, b, ln, _, es, clock, es, clock, hb, hm, hes, rfl, .inl ⟨_, _, rfl, ?_, ?_, hR.one⟩⟩
       · simp [Builtin.delete_, run_underlying F.und, MapKept.run_getObj_map hes, F.keyed.check w _ hl, h2, MapKept.run_setObj_map _ hes, Result.andThen]
       · intro e he
         obtain ⟨ks', x, g1, g2, g3, g4⟩ := hR.ent e he
         refine ⟨ks', x, g1, g2, ?_, g4⟩
         unfold cutM
         rw [if_neg (fun e' => h3 e he (by rw [g2, e']))]
         exact g3
       · intro ks' x hx
         unfold cutM at hx
         split at hx
         · cases hx
         · exact hR.all ks' x hx
     · exact ⟨_, by simp [Builtin.delete_, run_underlying F.und, MapKept.run_getObj_map hes, F.keyed.check w _ hl, h2, MapKept.run_setObj_map _ hes, Result.andThen]; rfl, b, ln, _, es, clock, _, _, hb, hm, hes, rfl, .inl ⟨_, _, rfl, hR.erase F.one hK h3 h4⟩⟩
   · rename_i T' m clk hm
     obtain ⟨hT, hq⟩ := need_ok h (by simp)
     obtain rfl := sameT_eq hT
     injection hq with e1 e2 e3
     subst e1 e2 e3
     obtain ⟨rfl, hlen⟩ := keyOfAV_ok hks hk
     have hK : KeyIs T ks := ⟨hlen, inRs_ok hc⟩
     obtain ⟨b, ln, hb, rfl⟩ := hx
     have hr := hrb _ _ hm
     rw [hb] at hr
     obtain ⟨es, hes, hS⟩ := hr
     have hR := hS.base
     obtain ⟨l, hl⟩ := F.lit ks hK
     rcases hR.find F hK w with ⟨h1, h2, h3⟩ | ⟨j, e0, x, h1, h2, h3, h4, h5⟩
     · have em : cutS m ks = m := funext fun y => by
         unfold cutS
         by_cases e : y = ks
         · subst e; rw [if_pos rfl, fstM_none h1]
         · rw [if_neg e]
       refine ⟨_, ?_, b, ln, _, es, clk, es, clk, hb, hm, hes, rfl, .inr ⟨_, _, rfl, by rw [em]; exact hS⟩⟩
       simp [Builtin.delete_, run_underlying F.und, MapKept.run_getObj_map hes, F.keyed.check w _ hl, h2, MapKept.run_setObj_map _ hes, Result.andThen]
     · refine ⟨_, by simp [Builtin.delete_, run_underlying F.und, MapKept.run_getObj_map hes, F.keyed.check w _ hl, h2, MapKept.run_setObj_map _ hes, Result.andThen]; rfl, b, ln, _, es, clk, _, _, hb, hm, hes, rfl, .inr ⟨_, _, rfl, by rw [cutS_fst]; exact hR.erase F.one hK h3 h4, fun e he => ?_, erase_idx (q := fun e => e.born) hS.uniq, fun e he => ?_⟩⟩
       · obtain ⟨q, hq, hqj⟩ := erase_mem he
         obtain ⟨ks', x', g1, g2, g3⟩ := hS.born e (by simpa using Array.mem_of_getElem? hq)
         refine ⟨ks', x', g1, g2, ?_⟩
         unfold cutS
         rw [if_neg (fun e' => hqj (hR.one q j e e0 hq h3 (by rw [h4, g2, e'])))]
         exact g3
       · obtain ⟨q, hq, hqj⟩ := erase_mem he
         exact hS.lt e (by simpa using Array.mem_of_getElem? hq)
   · cases h
 · cases h
theorem entry_ok {t : TypeId} {T : MapT} (F : MapFacts P t T) (hrb : ∀ n blk, hp n = some blk → RB β Z w (β n) blk) {x k : AV} {xv kv : Value} (hx : RA β Z w x xv) (hk : RA β Z w k kv) {c : List Prop} {nm : Nat} {blk : Blk} {v : AV}
   (h : planEntry hp T x k = .we c nm blk v) (hc : AllP c) : ∃ u w', (Instr.mapEntry t xv kv).run P w = .ok u w' ∧ (∀ β' Z' w'', RA β' Z' w'' v u) ∧ MapSet β hp w nm blk w' := by
 unfold planEntry at h
 split at h
 · rename_i nm' ks hks
   split at h
   · rename_i T' m clk hm
     obtain ⟨hT, hq⟩ := need_ok h (by simp)
     obtain rfl := sameT_eq hT
     injection hq with e1 e2 e3 e4
     subst e1 e2 e3 e4
     obtain ⟨rfl, hlen⟩ := keyOfAV_ok hks hk
     have hK : KeyIs T ks := ⟨hlen, inRs_ok hc⟩
     obtain ⟨b, ln, hb, rfl⟩ := hx
     have hr := hrb _ _ hm
     rw [hb] at hr
     obtain ⟨es, hes, hS⟩ := hr
     have hR := hS.base
     obtain ⟨l, hl⟩ := F.lit ks hK
     have val : ∀ (a s : Int) (β' : Nat → Loc) (Z' : Nat → Prop) (w'' : World), RA β' Z' w'' (.tup [.c (valCV T.vb (some a)), .c (.stp nm' ks s)]) (.tuple #[valV T.vb a, .int .i64 s]) := fun a s β' Z' w'' =>
       ⟨_, rfl, rfl, fun i y hy => by
         match i, hy with
         | 0, hy => simp at hy; subst hy; exact ⟨_, rfl, valCV_ok (x := some a)⟩
         | 1, hy => simp at hy; subst hy; exact ⟨_, rfl, rfl⟩⟩
     rcases hR.find F hK w with ⟨h1, h2, h3⟩ | ⟨j, e0, x, h1, h2, h3, h4, h5⟩
     · have hm0 := fstM_none h1
       refine ⟨_, _, by simp [Instr.mapEntry, run_underlying F.und, MapKept.run_getObj_map hes, F.keyed.check w false hl, h2, MapKept.run_setObj_map _ hes, Result.andThen, F.zero w]; rfl, by rw [hm0]; exact val 0 clk, b, ln, _, es, clk, es.push ⟨keyV T.agg ks, valV T.vb 0, clk⟩, clk + 1, hb, hm, hes, rfl, .inr ⟨T, _, by rw [hm0]; rfl, ⟨?_, ?_, ?_⟩, ?_, ?_, ?_⟩⟩
       · intro e he
         simp only [Array.toList_push, List.mem_append, List.mem_singleton] at he
         rcases he with he | rfl
         · obtain ⟨ks', x, g1, g2, g3, g4⟩ := hR.ent e he
           refine ⟨ks', x, g1, g2, ?_, g4⟩
           unfold fstM putS
           rw [if_neg (fun e' => h3 e he (by rw [g2, e']))]
           exact g3
         · refine ⟨ks, 0, hK, rfl, ?_, rfl⟩
           unfold fstM putS
           rw [if_pos rfl]; rfl
       · intro ks' x hx
         by_cases e' : ks' = ks
         · subst e'
           exact ⟨hK, ⟨keyV T.agg ks', valV T.vb 0, clk⟩, by simp, rfl⟩
         · have hx' : fstM m ks' = some x := by
             unfold fstM putS at hx
             rw [if_neg e'] at hx; exact hx
           obtain ⟨hK', e, he, hek⟩ := hR.all ks' x hx'
           exact ⟨hK', e, by simp only [Array.toList_push, List.mem_append]; exact .inl he, hek⟩
       · intro i j e e' hi hj hee
         simp only [Array.getElem?_push] at hi hj
         split at hi <;> split at hj
         · omega
         · injection hi with hi; subst hi
           exact absurd hee.symm (h3 e' (by simpa using Array.mem_of_getElem? hj))
         · injection hj with hj; subst hj
           exact absurd hee (h3 e (by simpa using Array.mem_of_getElem? hi))
         · exact hR.one i j e e' hi hj hee
       · intro e he
         simp only [Array.toList_push, List.mem_append, List.mem_singleton] at he
         rcases he with he | rfl
         · obtain ⟨ks', x, g1, g2, g3⟩ := hS.born e he
           refine ⟨ks', x, g1, g2, ?_⟩
           unfold putS
           rw [if_neg (fun e' => h3 e he (by rw [g2, e']))]
           exact g3
         · refine ⟨ks, 0, hK, rfl, ?_⟩
           unfold putS
           rw [if_pos rfl]; rfl
       · intro i j e e' hi hj hee
         simp only [Array.getElem?_push] at hi hj
         split at hi <;> split at hj
         · omega
         · injection hi with hi; subst hi
           have := hS.lt e' (by simpa using Array.mem_of_getElem? hj)
           simp only at hee; omega
         · injection hj with hj; subst hj
           have := hS.lt e (by simpa using Array.mem_of_getElem? hi)
           simp only at hee; omega
         · exact hS.uniq i j e e' hi hj hee
       · intro e he
         simp only [Array.toList_push, List.mem_append, List.mem_singleton] at he
         rcases he with he | rfl
         · have := hS.lt e he; omega
         · exact Nat.lt_succ_self clk
     · obtain ⟨s0, hms⟩ := fstM_some h1
       have hbs : e0.born = s0 := by
         obtain ⟨ks', x', g1, g2, g3⟩ := hS.born e0 (by simpa using Array.mem_of_getElem? h3)
         obtain rfl := keyV_inj F.one g1 hK (g2.symm.trans h4)
         rw [hms] at g3
         injection g3 with g3; injection g3 with _ g3; exact g3.symm
       have hsame : (es.modify j fun e => { e with key := keyV T.agg ks }) = es := by
         apply Array.ext_getElem?
         intro i
         rw [Array.getElem?_modify]
         split
         · rename_i e; subst e; rw [h3]; simp only [Option.map_some]; rw [← h4]
         · rfl
       have hput : putS m ks (entV (m ks)) (entS clk (m ks)) = m := funext fun y => by
         unfold putS
         by_cases e : y = ks
         · subst e; rw [if_pos rfl, hms]; rfl
         · rw [if_neg e]
       have hst := F.keyed.stays w hl
       have e5 : e0.val = valV T.vb x := h5
       refine ⟨.tuple #[valV T.vb x, .int .i64 (s0 : Int)], _, by simp [Instr.mapEntry, run_underlying F.und, MapKept.run_getObj_map hes, F.keyed.check w false hl, h2, MapKept.run_setObj_map _ hes, Result.andThen, h3, h4, hst, e5, hbs, goInt]; rfl, ?_, b, ln, _, es, clk, _, _, hb, hm, hes, rfl, .inr ⟨_, _, by rw [hput, hms]; rfl, by rw [hsame]; exact hS⟩⟩
       rw [hms]
       exact val x s0
   · cases h
 · cases h
theorem entryStore_ok {t : TypeId} {T : MapT} (F : MapFacts P t T) (hrb : ∀ n blk, hp n = some blk → RB β Z w (β n) blk) {x s v : AV} {xv sv vv : Value} (hx : RA β Z w x xv) (hs : RA β Z w s sv) (hv : RA β Z w v vv) {c : List Prop} {nm : Nat} {blk : Blk}
   (h : planEntryStore hp T x s v = .wr c nm blk) (hc : AllP c) : ∃ w', (Instr.entryStore t xv sv vv).run P w = .ok () w' ∧ MapSet β hp w nm blk w' := by
 unfold planEntryStore at h
 split at h
 · rename_i nm' n2 ks z a ha
   split at h
   · rename_i T' m clk hm
     obtain ⟨hT, hq⟩ := need_ok h (by simp)
     obtain rfl := sameT_eq hT
     injection hq with e1 e2 e3
     subst e1 e2 e3
     obtain rfl := elemOf_ok ha hv
     have hsv : sv = .int .i64 z := hs
     subst hsv
     obtain ⟨b, ln, hb, rfl⟩ := hx
     have hr := hrb _ _ hm
     rw [hb] at hr
     obtain ⟨es, hes, hS⟩ := hr
     have hR := hS.base
     have hz : stmp (m ks) = some z := hc.1
     obtain ⟨x0, s0, hms, rfl⟩ : ∃ x0 s0, m ks = some (x0, s0) ∧ z = (s0 : Int) := by
       unfold stmp at hz
       split at hz
       · rename_i y hy
         injection hz with hz
         exact ⟨y.1, y.2, hy, hz.symm⟩
       · cases hz
     obtain ⟨hK, e0, he0, hek⟩ := hR.all ks x0 (fstM_of hms)
     obtain ⟨j, hj⟩ := List.mem_iff_getElem?.1 he0
     rw [Array.getElem?_toList] at hj
     have hbs : e0.born = s0 := by
       obtain ⟨ks', x', g1, g2, g3⟩ := hS.born e0 he0
       obtain rfl := keyV_inj F.one g1 hK (g2.symm.trans hek)
       rw [hms] at g3
       injection g3 with g3; injection g3 with _ g3; exact g3.symm
     have hfind : es.findIdx? (fun e => (e.born : Int) == (s0 : Int)) = some j := by
       rw [Array.findIdx?_eq_some_iff_getElem]
       obtain ⟨hjl, hje⟩ := Array.getElem?_eq_some_iff.1 hj
       refine ⟨hjl, by rw [hje, hbs]; simp, fun i hi => ?_⟩
       have hil : i < es.size := by omega
       have : es[i]? = some es[i] := by simp [hil]
       intro hb
       have hb' : (es[i].born : Int) = s0 := by simpa using hb
       have := hS.uniq i j _ _ this hj (by omega)
       omega
     have hget : ∀ i, (es.modify j fun e => { e with val := valV T.vb a })[i]? = if j = i then some { e0 with val := valV T.vb a } else es[i]? := fun i => by
       rw [Array.getElem?_modify]
       split
       · rename_i e; subst e; rw [hj]; rfl
       · rfl
     have hkey : ∀ {i : Nat} {e : MapEntry}, (es.modify j fun e => { e with val := valV T.vb a })[i]? = some e → ∃ e1, es[i]? = some e1 ∧ e.key = e1.key ∧ e.born = e1.born := fun {i e} hi => by
       rw [hget] at hi
       split at hi
       · rename_i e1; subst e1; injection hi with hi; subst hi; exact ⟨e0, hj, rfl, rfl⟩
       · exact ⟨e, hi, rfl, rfl⟩
     have hne : ∀ {i : Nat} {e1 : MapEntry} {ks' : List Int}, es[i]? = some e1 → j ≠ i → e1.key = keyV T.agg ks' → ks' ≠ ks := fun {i e1 ks'} h1 h2 h3 e' => h2 (hR.one j i e0 e1 hj h1 (by rw [hek, h3, e']))
     refine ⟨_, by simp [Instr.entryStore, MapKept.run_getObj_map hes, hfind, MapKept.run_setObj_map _ hes, Result.andThen, asInt, asIntOf]; rfl, b, ln, _, es, clk, _, _, hb, hm, hes, rfl, .inr ⟨_, _, rfl, ⟨?_, ?_, ?_⟩, ?_, ?_, ?_⟩⟩
     · intro e he
       obtain ⟨i, hi⟩ := List.mem_iff_getElem?.1 he
       rw [Array.getElem?_toList, hget] at hi
       split at hi
       · injection hi with hi
         subst hi
         refine ⟨ks, a, hK, hek, ?_, rfl⟩
         unfold fstM putS
         rw [if_pos rfl]
       · rename_i hji
         obtain ⟨ks', x', g1, g2, g3, g4⟩ := hR.ent e (by simpa using Array.mem_of_getElem? hi)
         refine ⟨ks', x', g1, g2, ?_, g4⟩
         unfold fstM putS
         rw [if_neg (hne hi hji g2)]
         exact g3
     · intro ks' x' hx
       by_cases e' : ks' = ks
       · subst e'
         exact ⟨hK, { e0 with val := valV T.vb a }, List.mem_iff_getElem?.2 ⟨j, by rw [Array.getElem?_toList, hget, if_pos rfl]⟩, hek⟩
       · have hx' : fstM m ks' = some x' := by
           unfold fstM putS at hx
           rw [if_neg e'] at hx; exact hx
         obtain ⟨hK', e, he, hek'⟩ := hR.all ks' x' hx'
         obtain ⟨i, hi⟩ := List.mem_iff_getElem?.1 he
         rw [Array.getElem?_toList] at hi
         have hji : j ≠ i := fun e1 => by
           subst e1
           rw [hj] at hi; injection hi with hi; subst hi
           exact e' (keyV_inj F.one hK' hK (hek'.symm.trans hek))
         exact ⟨hK', e, List.mem_iff_getElem?.2 ⟨i, by rw [Array.getElem?_toList, hget, if_neg hji]; exact hi⟩, hek'⟩
     · intro i i' e e' hi hi' hee
       obtain ⟨e1, a1, a2, _⟩ := hkey hi
       obtain ⟨e2, b1, b2, _⟩ := hkey hi'
       exact hR.one i i' e1 e2 a1 b1 (by rw [← a2, ← b2]; exact hee)
     · intro e he
       obtain ⟨i, hi⟩ := List.mem_iff_getElem?.1 he
       rw [Array.getElem?_toList, hget] at hi
       split at hi
       · injection hi with hi
         subst hi
         refine ⟨ks, a, hK, hek, ?_⟩
         unfold putS
         rw [if_pos rfl]
         simp only [hbs, Int.toNat_natCast]
       · rename_i hji
         obtain ⟨ks', x', g1, g2, g3⟩ := hS.born e (by simpa using Array.mem_of_getElem? hi)
         refine ⟨ks', x', g1, g2, ?_⟩
         unfold putS
         rw [if_neg (hne hi hji g2)]
         exact g3
     · intro i i' e e' hi hi' hee
       obtain ⟨e1, a1, _, a2⟩ := hkey hi
       obtain ⟨e2, b1, _, b2⟩ := hkey hi'
       exact hS.uniq i i' e1 e2 a1 b1 (by rw [← a2, ← b2]; exact hee)
     · intro e he
       obtain ⟨i, hi⟩ := List.mem_iff_getElem?.1 he
       rw [Array.getElem?_toList] at hi
       obtain ⟨e1, a1, _, a2⟩ := hkey hi
       rw [a2]
       exact hS.lt e1 (by simpa using Array.mem_of_getElem? a1)
   · cases h
 · cases h
theorem wrOnly_delete {hpS : Nat → Option Blk} {T : MapT} {x k : AV} {nm : Nat} {r : (Nat → Option Blk) × AV} (he : (planDelete hpS T x k).eff nm hp = some r) : ∃ c n b, planDelete hpS T x k = .wr c n b ∧ r = (upd hp n (some b), .any) := by
 unfold planDelete at he ⊢
 split at he
 · split at he
   · unfold need at he ⊢
     split at he
     · simp only [Plan.eff, Option.some.injEq] at he; exact ⟨_, _, _, rfl, he.symm⟩
     · simp [Plan.eff] at he
   · unfold need at he ⊢
     split at he
     · simp only [Plan.eff, Option.some.injEq] at he; exact ⟨_, _, _, rfl, he.symm⟩
     · simp [Plan.eff] at he
   · simp [Plan.eff] at he
 · simp [Plan.eff] at he
theorem weOnly_entry {hpS : Nat → Option Blk} {T : MapT} {x k : AV} {nm : Nat} {r : (Nat → Option Blk) × AV} (he : (planEntry hpS T x k).eff nm hp = some r) : ∃ c n b v, planEntry hpS T x k = .we c n b v ∧ r = (upd hp n (some b), v) := by
 unfold planEntry at he ⊢
 split at he
 · split at he
   · unfold need at he ⊢
     split at he
     · simp only [Plan.eff, Option.some.injEq] at he; exact ⟨_, _, _, _, rfl, he.symm⟩
     · simp [Plan.eff] at he
   · simp [Plan.eff] at he
 · simp [Plan.eff] at he
theorem wrOnly_entryStore {hpS : Nat → Option Blk} {T : MapT} {x s v : AV} {nm : Nat} {r : (Nat → Option Blk) × AV} (he : (planEntryStore hpS T x s v).eff nm hp = some r) : ∃ c n b, planEntryStore hpS T x s v = .wr c n b ∧ r = (upd hp n (some b), .any) := by
 unfold planEntryStore at he ⊢
 split at he
 · split at he
   · unfold need at he ⊢
     split at he
     · simp only [Plan.eff, Option.some.injEq] at he; exact ⟨_, _, _, rfl, he.symm⟩
     · simp [Plan.eff] at he
   · simp [Plan.eff] at he
 · simp [Plan.eff] at he
theorem SatH.setMapB (h : SatH E B Fr β Z hp w) {n : Nat} {old : Blk} (hn : hp n = some old) {b ln : Nat} (hb : β n = .at b ln) {es es' : Array MapEntry} {clock clock' : Nat} (hw : w.heap[b]? = some (.map es clock)) {blk : Blk} (hR : ∀ w' : World, w'.heap[b]? = some (.map es' clock') → RB β Z w' (.at b ln) blk) :
   Left E B Fr β Z hp w β Z (upd hp n (some blk)) (w.putObj b (.map es' clock')) := by
 have hlt : b < w.heap.size := (Array.getElem?_eq_some_iff.1 hw).1
 have hown : Own β hp b := ⟨n, old, ln, hn, hb⟩
 have ev : Evo (Own β hp) Z w Z (w.putObj b (.map es' clock')) := by
   refine ⟨rfl, rfl, rfl, by simp, fun k hk hno => ?_, fun k cs e hk => ⟨cs, ?_, rfl⟩, fun k rk hk => ⟨rk, ?_, rfl, rfl, rfl, rfl, rfl, rfl⟩, fun _ h => h⟩
   · exact World.putObj_heap_other (fun e => hno (e ▸ hown))
   · rw [World.putObj_heap_other (fun e => by subst e; rw [hw] at hk; simp at hk)]; exact hk
   · rw [World.putObj_heap_other (fun e => by subst e; rw [hw] at hk; simp at hk)]; exact hk
 refine ⟨h.step ev (Ext.refl β) (fun m' blk' hm => ?_) (fun m1 m2 x y b' l1 l2 h1 h2 hb1 hb2 => ?_) (fun b' hb' => by simpa using h.zlt b' hb') h.fresh, ev, Ext.refl β, fun b' hb' => ?_, fun b hb => .inl hb⟩
 · by_cases hmn : m' = n
   · subst hmn
     rw [upd_same] at hm
     injection hm with hm
     subst hm
     refine .inr ⟨by rw [hb]; exact hR _ (World.putObj_heap_same hlt), fun b' ln' hb' => ?_⟩
     obtain ⟨g1, g2, g3⟩ := h.own m' old b' ln' hn hb'
     exact ⟨by simpa using g1, g2, g3⟩
   · rw [upd_ne _ _ hmn] at hm
     refine .inl ⟨hm, fun b' ln' hb' => ⟨World.putObj_heap_other (fun e1 => hmn ?_), (h.own m' blk' b' ln' hm hb').2.1⟩⟩
     subst e1
     exact h.inj m' n _ _ _ _ _ hm hn hb' hb
 · have some_of : ∀ m' x, upd hp n (some blk) m' = some x → ∃ x', hp m' = some x' := fun m' x hm => by
     by_cases hmn : m' = n
     · subst hmn; exact ⟨old, hn⟩
     · rw [upd_ne _ _ hmn] at hm; exact ⟨x, hm⟩
   obtain ⟨x', hx'⟩ := some_of m1 x h1
   obtain ⟨y', hy'⟩ := some_of m2 y h2
   exact h.inj m1 m2 x' y' b' l1 l2 hx' hy' hb1 hb2
 · obtain ⟨m', x, ln', h1, h2⟩ := hb'
   by_cases hmn : m' = n
   · subst hmn; exact .inl ⟨m', old, ln', hn, h2⟩
   · rw [upd_ne _ _ hmn] at h1; exact .inl ⟨m', x, ln', h1, h2⟩
theorem SatH.setMap (h : SatH E B Fr β Z hp w) {n : Nat} {old : Blk} (hn : hp n = some old) {b ln : Nat} (hb : β n = .at b ln) {es es' : Array MapEntry} {clock clock' : Nat} (hw : w.heap[b]? = some (.map es clock)) {T : MapT} {m : List Int → Option Int} (hR : RMap T m es') :
   Left E B Fr β Z hp w β Z (upd hp n (some (.mp T m))) (w.putObj b (.map es' clock')) := by
 have hlt : b < w.heap.size := (Array.getElem?_eq_some_iff.1 hw).1
 have hown : Own β hp b := ⟨n, old, ln, hn, hb⟩
 have ev : Evo (Own β hp) Z w Z (w.putObj b (.map es' clock')) := by
   refine ⟨rfl, rfl, rfl, by simp, fun k hk hno => ?_, fun k cs e hk => ⟨cs, ?_, rfl⟩, fun k rk hk => ⟨rk, ?_, rfl, rfl, rfl, rfl, rfl, rfl⟩, fun _ h => h⟩
   · exact World.putObj_heap_other (fun e => hno (e ▸ hown))
   · rw [World.putObj_heap_other (fun e => by subst e; rw [hw] at hk; simp at hk)]; exact hk
   · rw [World.putObj_heap_other (fun e => by subst e; rw [hw] at hk; simp at hk)]; exact hk
 refine ⟨h.step ev (Ext.refl β) (fun m' blk hm => ?_) (fun m1 m2 x y b' l1 l2 h1 h2 hb1 hb2 => ?_) (fun b' hb' => by simpa using h.zlt b' hb') h.fresh, ev, Ext.refl β, fun b' hb' => ?_, fun b hb => .inl hb⟩
 · by_cases hmn : m' = n
   · subst hmn
     rw [upd_same] at hm
     injection hm with hm
     subst hm
     refine .inr ⟨by rw [hb]; exact ⟨es', clock', World.putObj_heap_same hlt, hR⟩, fun b' ln' hb' => ?_⟩
     obtain ⟨g1, g2, g3⟩ := h.own m' old b' ln' hn hb'
     exact ⟨by simpa using g1, g2, g3⟩
   · rw [upd_ne _ _ hmn] at hm
     refine .inl ⟨hm, fun b' ln' hb' => ⟨World.putObj_heap_other (fun e1 => hmn ?_), (h.own m' blk b' ln' hm hb').2.1⟩⟩
     subst e1
     exact h.inj m' n _ _ _ _ _ hm hn hb' hb
 · have some_of : ∀ m' x, upd hp n (some (.mp T m)) m' = some x → ∃ x', hp m' = some x' := fun m' x hm => by
     by_cases hmn : m' = n
     · subst hmn; exact ⟨old, hn⟩
     · rw [upd_ne _ _ hmn] at hm; exact ⟨x, hm⟩
   obtain ⟨x', hx'⟩ := some_of m1 x h1
   obtain ⟨y', hy'⟩ := some_of m2 y h2
   exact h.inj m1 m2 x' y' b' l1 l2 hx' hy' hb1 hb2
 · obtain ⟨m', x, ln', h1, h2⟩ := hb'
   by_cases hmn : m' = n
   · subst hmn; exact .inl ⟨m', old, ln', hn, h2⟩
   · rw [upd_ne _ _ hmn] at h1; exact .inl ⟨m', x, ln', h1, h2⟩
theorem SatH.setMapS (h : SatH E B Fr β Z hp w) {n : Nat} {blk : Blk} {w' : World} (hm : MapSet β hp w n blk w') : Left E B Fr β Z hp w β Z (upd hp n (some blk)) w' := by
 obtain ⟨b, ln, old, es, clock, es', clock', hb, hold, hes, rfl, hR⟩ := hm
 refine h.setMapB hold hb hes (es' := es') (clock' := clock') fun w1 h1 => ?_
 rcases hR with ⟨T, m, rfl, hR⟩ | ⟨T, m, rfl, hR⟩
 · exact ⟨es', clock', h1, hR⟩
 · exact ⟨es', h1, hR⟩
theorem MapSet.sub {hpS : Nat → Option Blk} (hsub : ∀ n blk, hpS n = some blk → hp n = some blk) {n : Nat} {blk : Blk} {w' : World} (h : MapSet β hpS w n blk w') : MapSet β hp w n blk w' := by
 obtain ⟨b, ln, old, es, clock, es', clock', hb, hold, r⟩ := h
 exact ⟨b, ln, old, es, clock, es', clock', hb, hsub n old hold, r⟩
theorem okBad_lookup {T : MapT} {x k : AV} {ok : Bool} : okBad (planLookup hp T x k ok) := by
 unfold planLookup
 repeat' split
 all_goals first | trivial | exact okBad_need trivial
theorem wrOnly_update {hpS : Nat → Option Blk} {T : MapT} {x k y : AV} {nm : Nat} {r : (Nat → Option Blk) × AV} (he : (planMapUpdate hpS T x k y).eff nm hp = some r) : ∃ c n b, planMapUpdate hpS T x k y = .wr c n b ∧ r = (upd hp n (some b), .any) := by
 unfold planMapUpdate at he ⊢
 split at he
 · split at he
   · unfold need at he ⊢
     split at he
     · simp only [Plan.eff, Option.some.injEq] at he; exact ⟨_, _, _, rfl, he.symm⟩
     · simp [Plan.eff] at he
   · simp [Plan.eff] at he
 · simp [Plan.eff] at he
theorem SatH.less (h : SatH E B Fr β Z hp w) {n : Nat} {b1 b : Blk} (hn : hp n = some b1) (hb : RB β Z w (β n) b) : SatH E B Fr β Z (upd hp n (some b)) w := by
 have some_of : ∀ m' x, upd hp n (some b) m' = some x → ∃ x', hp m' = some x' := fun m' x hm => by
   by_cases hmn : m' = n
   · subst hmn; exact ⟨b1, hn⟩
   · rw [upd_ne _ _ hmn] at hm; exact ⟨x, hm⟩
 refine ⟨fun m x hm => ?_, fun m x k ln hm hk => ?_, fun m1 m2 x y k l1 l2 h1 h2 hb1 hb2 => ?_, h.zlt, h.fresh, h.gl⟩
 · by_cases e : m = n
   · subst e; rw [upd_same] at hm; injection hm with hm; subst hm; exact hb
   · rw [upd_ne _ _ e] at hm; exact h.rb m x hm
 · obtain ⟨x', hx'⟩ := some_of m x hm
   exact h.own m x' k ln hx' hk
 · obtain ⟨x', hx'⟩ := some_of m1 x h1
   obtain ⟨y', hy'⟩ := some_of m2 y h2
   exact h.inj m1 m2 x' y' k l1 l2 hx' hy' hb1 hb2
theorem wrOnly_upd {hpS : Nat → Option Blk} {T : MapT} {x k y : AV} {nm : Nat} {r : (Nat → Option Blk) × AV} (he : (planMapUpd hpS T x k y).eff nm hp = some r) : ∃ c n b, planMapUpd hpS T x k y = .wr c n b ∧ r = (upd hp n (some b), .any) := by
 unfold planMapUpd at he ⊢
 split at he
 · split at he
   · unfold need at he ⊢
     split at he
     · simp only [Plan.eff, Option.some.injEq] at he; exact ⟨_, _, _, rfl, he.symm⟩
     · simp [Plan.eff] at he
   · exact wrOnly_update he
 · simp [Plan.eff] at he
theorem upd_ok {t : TypeId} {T : MapT} (F : MapFacts P t T) {hpS : Nat → Option Blk} (h : SatH E B Fr β Z hp w) (hsub : ∀ n blk, hpS n = some blk → hp n = some blk) {x k v : AV} {xv kv vv : Value} (hx : RA β Z w x xv) (hk : RA β Z w k kv) (hv : RA β Z w v vv) {c : List Prop} {nm : Nat} {blk : Blk}
   (hp0 : planMapUpd hpS T x k v = .wr c nm blk) (hc : AllP c) :
   ∃ w', (Instr.mapUpdate t xv kv vv).run P w = .ok () w' ∧ Left E B Fr β Z hp w β Z (upd hp nm (some blk)) w' := by
 have hrbS : ∀ n blk, hpS n = some blk → RB β Z w (β n) blk := fun n blk hn => h.rb n blk (hsub n blk hn)
 have known : planMapUpdate hpS T x k v = .wr c nm blk → ∃ w', (Instr.mapUpdate t xv kv vv).run P w = .ok () w' ∧ Left E B Fr β Z hp w β Z (upd hp nm (some blk)) w' := fun e1 => by
   obtain ⟨bk, ln, old, es, clock, es', clock', hb, hold, hes, hr, m, rfl, hR⟩ := update_ok F hrbS hx hk hv e1 hc
   exact ⟨_, hr, h.setMap (hsub nm old hold) hb hes (clock' := clock') hR⟩
 unfold planMapUpd at hp0
 split at hp0
 · rename_i nm' ks a hks ha
   split at hp0
   · rename_i T' I hI
     obtain ⟨hT, hq⟩ := need_ok hp0 (by simp)
     obtain rfl := sameT_eq hT
     injection hq with e1 e2 e3
     subst e1 e2 e3
     obtain ⟨b, ln, hb, rfl⟩ := hx
     have hrb := hrbS _ _ hI
     rw [hb] at hrb
     obtain ⟨es, clock, m, hes, hR, hm⟩ := hrb
     have hrb1 : ∀ n blk, upd hp nm' (some (.mp T m)) n = some blk → RB β Z w (β n) blk := fun n blk hn => by
       by_cases e : n = nm'
       · subst e
         rw [upd_same] at hn; injection hn with hn; subst hn
         rw [hb]; exact ⟨es, clock, hes, hR⟩
       · rw [upd_ne _ _ e] at hn; exact h.rb n blk hn
     have hp1 : planMapUpdate (upd hp nm' (some (.mp T m))) T (.t (.c (.mp nm'))) k v = .wr (inRs ks) nm' (.mp T (putM m ks a)) := by
       unfold planMapUpdate
       rw [hks, ha]
       simp only [upd_same, hT]
       rfl
     obtain ⟨bk, ln', old, es0, clock0, es', clock', hb', hold, hes', hr, m', hm', hR'⟩ := update_ok F hrb1 (x := .t (.c (.mp nm'))) ⟨b, ln, hb, rfl⟩ hk hv hp1 hc.2
     injection hm' with _ hm'
     subst hm'
     have hl := h.setMap (hsub nm' _ hI) hb' hes' (clock' := clock') hR'
     refine ⟨_, hr, ⟨?_, hl.ev, hl.ext, fun b' hb' => ?_, hl.zown⟩⟩
     · have hs := hl.sat.less (n := nm') (b1 := .mp T (putM m ks a)) (b := .mpI T I) (upd_same _ _ _) (by
         have := hl.sat.rb nm' _ (upd_same _ _ _)
         rw [hb] at this ⊢
         obtain ⟨es2, c2, k1, k2⟩ := this
         refine ⟨es2, c2, _, k1, k2, fun ks' x hx => ?_⟩
         unfold putM at hx
         split at hx
         · rename_i e; subst e; injection hx with hx; subst hx; exact hc.1
         · exact hm ks' x hx)
       have e : upd (upd hp nm' (some (.mp T (putM m ks a)))) nm' (some (.mpI T I)) = upd hp nm' (some (.mpI T I)) := funext fun n => by
         by_cases e : n = nm'
         · subst e; rw [upd_same, upd_same]
         · rw [upd_ne _ _ e, upd_ne _ _ e, upd_ne _ _ e]
       rw [e] at hs
       exact hs
     · obtain ⟨n, x, l2, h1, h2⟩ := hb'
       refine hl.own b' ?_
       by_cases e : n = nm'
       · subst e; exact ⟨n, _, l2, upd_same _ _ _, h2⟩
       · rw [upd_ne _ _ e] at h1; exact ⟨n, x, l2, by rw [upd_ne _ _ e]; exact h1, h2⟩
   · exact known hp0
 · cases hp0
end
end Go.Sx
namespace Go.Sx
section
variable {P : Program} {E : Env} {B : Nat} {Fr : Nat → Prop} {β : Nat → Loc} {Z : Nat → Prop} {hp : Nat → Option Blk} {w : World}
theorem eqGuard_flat {op : BinOp} {t : Nat} {x y : Operand} {a b : Value} (ha : a.oneCell' = true) (hn : a ≠ .nilIface) : (eqGuard op t x y a b).run P w = .ok () w := by
 unfold eqGuard
 cases a <;> first
   | (simp [Value.oneCell'] at ha; done)
   | exact absurd rfl hn
   | (cases op <;> first | rfl | (cases b <;> rfl))
theorem eqGuard_agg {op : BinOp} {t : Nat} {x y : Operand} {xs ys : Array Value} (h : P.eqGuardType P.depth t = false) : (eqGuard op t x y (.agg xs) (.agg ys)).run P w = .ok () w :=
 run_eqGuard_agg w op t x y xs ys h
theorem eqGuard_int {op : BinOp} {t : Nat} {x y : Operand} {k k' : IntKind} {a b : Int} : (eqGuard op t x y (.int k a) (.int k' b)).run P w = .ok () w := eqGuard_flat rfl (by simp)
theorem eq_run (hT : TabOk P E) {t : Nat} {ti : TI} (ht : E.ty t = some ti) {neg : Bool} {x y : AV} {u v : Value} (hx : RA β Z w x u) (hy : RA β Z w y v) {c : List Prop} {r : AV} (h : planEq E ti neg x y = .ok c r) (xo yo : Operand) :
   ∃ q, (do eqGuard (if neg then .neq else .eql) t xo yo u v; binOp (if neg then .neq else .eql) t u v : Sem Value).run P w = .ok q w ∧ RA β Z w r q := by
 obtain ⟨b, h1, h2⟩ := equal_ok hT ht hx hy h
 obtain ⟨hTt, hok⟩ := hT t ti ht
 obtain ⟨i, d, z, hF⟩ := tabTI_spec hTt
 refine ⟨_, ?_, h2⟩
 unfold planEq at h
 split at h
 · rename_i n f m g
   obtain ⟨xs, rfl, _⟩ := hx
   obtain ⟨ys, rfl, _⟩ := hy
   obtain ⟨_, h⟩ := need_ok h (by simp)
   have hgd : P.eqGuardType P.depth t = false := by
     split at h
     · rename_i fs hk
       obtain ⟨_, _, _, _, _, hgd⟩ := hF.struct hk
       exact hgd
     · rename_i l e hk
       exact (hF.array hk).2
     · simp at h
   cases neg
   · simp [eqGuard_agg hgd, binOp, h1]
   · simp [eqGuard_agg hgd, binOp, h1]
 · rename_i cx cy
   obtain ⟨b', hb', _⟩ := eqPlan_ok (β := β) (Z := Z) (w := w) h
   unfold eqCell at hb'
   split at hb'
   · split at hb'
     · rename_i k1 a k2 b0
       split at hb'
       · rename_i hkk
         obtain rfl := kindNo_inj hkk
         obtain rfl := int_of hx
         obtain rfl := int_of hy
         have e := (eqCell_ok hF (β := β) (Z := Z) (w := w) (x := .int k1 a) (y := .int k1 b0) rfl rfl (b := (a == b0)) (by
           unfold eqCell
           rename_i k hk _ _ _
           simp_all) 9999).1
         rw [show (9999 + 1) = Op.maxDepth from rfl] at e
         rw [Op.equal] at h1
         rw [h1] at e
         injection e with e _
         subst e
         cases neg
         · simp [eqGuard_int, binOp, Op.intCmp]
         · simp [eqGuard_int, binOp, Op.intCmp]; rfl
       · simp at hb'
     · simp at hb'
   · split at hb'
     · rename_i a b0
       obtain rfl : u = .string a := hx
       obtain rfl : v = .string b0 := hy
       have e := (eqCell_ok hF (β := β) (Z := Z) (w := w) (x := .str a) (y := .str b0) rfl rfl (b := (a.toList == b0.toList)) (by
         unfold eqCell
         simp_all) 9999).1
       rw [show (9999 + 1) = Op.maxDepth from rfl] at e
       rw [Op.equal] at h1
       rw [h1] at e
       injection e with e _
       subst e
       cases neg
       · simp [eqGuard_flat (a := .string a) rfl (by simp), binOp, Op.stringOp]
       · simp [eqGuard_flat (a := .string a) rfl (by simp), binOp, Op.stringOp]
     · simp at hb'
   · split at hb'
     · rename_i a b0 ha hb0
       obtain rfl := truth_ok (β := β) (Z := Z) (w := w) hx ha
       obtain rfl := truth_ok (β := β) (Z := Z) (w := w) hy hb0
       cases neg
       · simp [eqGuard_flat (a := .bool a) rfl (by simp), binOp, h1]
       · simp [eqGuard_flat (a := .bool a) rfl (by simp), binOp, h1]
     · simp at hb'
   · simp at hb'
 · simp at h
theorem bin_ok (hT : TabOk P E) {t : Nat} {ti : TI} (ht : E.ty t = some ti) {op : BinOp} {x y : AV} {u v : Value} (hx : RA β Z w x u) (hy : RA β Z w y v) {c : List Prop} {r : AV} (h : planBin E op ti x y = .ok c r) (hc : AllP c) (xo yo : Operand) :
   ∃ q, (do eqGuard op t xo yo u v; binOp op t u v : Sem Value).run P w = .ok q w ∧ RA β Z w r q := by
 unfold planBin at h
 split at h
 · rename_i k a k' b
   obtain rfl := int_of hx
   obtain rfl := int_of hy
   split at h
   · rename_i hkk
     obtain rfl := kindNo_inj hkk
     obtain ⟨q, h1, h2⟩ := intOp_ok (P := P) (β := β) (Z := Z) (w := w) (t := t) h hc
     exact ⟨q, by simp [eqGuard_int, h1], h2⟩
   · simp at h
 · split at h
   · exact eq_run hT ht (neg := false) hx hy h xo yo
   · exact eq_run hT ht (neg := true) hx hy h xo yo
   · simp at h
theorem strictC_ok {x : CV} {k : CV → AV} {u q : Value} (h : RC β Z w x u) (hk : ∀ y, RC β Z w y u → RA β Z w (k y) q) : RA β Z w (strictC x k) q := by
 unfold strictC
 split
 · rename_i b
   cases b
   · exact hk _ h
   · exact hk _ h
 · unfold strictI
   split <;> exact hk _ h
 · exact hk _ h
theorem strictL_ok {g : Nat → CV} {cs : Array Value} {q : Value} : ∀ {n : Nat} {acc : List CV} {k : List CV → AV}, (∀ j, j < n → ∃ u, cs[j]? = some u ∧ RC β Z w (g j) u) → (∀ j, j < acc.length → ∃ u, cs[n + j]? = some u ∧ RC β Z w (acc.getD j .any) u) →
   (∀ l : List CV, l.length = n + acc.length → (∀ j, j < l.length → ∃ u, cs[j]? = some u ∧ RC β Z w (l.getD j .any) u) → RA β Z w (k l) q) → RA β Z w (strictL g n acc k) q
 | 0, acc, k, _, h2, hk => hk acc (by omega) (by simpa using h2)
 | n + 1, acc, k, h1, h2, hk => by
   unfold strictL
   obtain ⟨u, e, hr⟩ := h1 n (by omega)
   refine strictC_ok hr fun y hy => strictL_ok (fun j hj => h1 j (by omega)) (fun j hj => ?_) fun l hl => hk l (by simp at hl; omega)
   cases j with
   | zero => exact ⟨u, by simpa using e, by simpa using hy⟩
   | succ j =>
     obtain ⟨u', e', hr'⟩ := h2 j (by simp at hj; omega)
     exact ⟨u', by rw [← e']; congr 1; omega, by simpa using hr'⟩
theorem strictT_ok {x : TV} {k : TV → AV} {u q : Value} (h : RT β Z w x u) (hk : ∀ y, RT β Z w y u → RA β Z w (k y) q) : RA β Z w (strictT x k) q := by
 unfold strictT
 split
 · exact strictC_ok (show RC β Z w _ u from h) fun y hy => hk _ hy
 · rename_i n g
   split
   · obtain ⟨cs, rfl, h1, h2⟩ := h
     refine strictL_ok (cs := cs) h2 (fun j hj => by simp at hj) fun l hl h3 => hk _ ⟨cs, rfl, h1, fun j hj => ?_⟩
     exact h3 j (by simp at hl; omega)
   · exact hk _ h
theorem strictTs_ok {vs : Array Value} {q : Value} : ∀ {l acc : List TV} {k : List TV → AV}, (∀ (i : Nat) (x : TV), l[i]? = some x → ∃ u, vs[acc.length + i]? = some u ∧ RT β Z w x u) → (∀ (i : Nat) (x : TV), acc[i]? = some x → ∃ u, vs[i]? = some u ∧ RT β Z w x u) →
   (∀ r : List TV, r.length = acc.length + l.length → (∀ (i : Nat) (x : TV), r[i]? = some x → ∃ u, vs[i]? = some u ∧ RT β Z w x u) → RA β Z w (k r) q) → RA β Z w (strictTs l acc k) q
 | [], acc, k, _, h2, hk => hk acc (by simp) h2
 | x :: l, acc, k, h1, h2, hk => by
   unfold strictTs
   obtain ⟨u, e, hr⟩ := h1 0 x rfl
   refine strictT_ok hr fun y hy => strictTs_ok (fun i z hz => ?_) (fun i z hz => ?_) fun r hl => hk r (by simp at hl ⊢; omega)
   · obtain ⟨u', e', hr'⟩ := h1 (i + 1) z (by simpa using hz)
     exact ⟨u', by rw [← e']; congr 1; simp; omega, hr'⟩
   · rw [List.getElem?_append] at hz
     split at hz
     · exact h2 i z hz
     · rename_i hi
       have : i = acc.length := by
         by_cases c : i = acc.length
         · exact c
         · rw [List.getElem?_eq_none (by simp; omega)] at hz; cases hz
       subst this
       simp at hz; subst hz
       exact ⟨u, by simpa using e, hy⟩
theorem concV_ok {v : AV} {q : Value} (h : RA β Z w v q) : RA β Z w (concV v) q := by
 unfold concV
 split
 · exact strictT_ok (show RT β Z w _ q from h) fun y hy => hy
 · obtain ⟨vs, rfl, h1, h2⟩ := h
   exact strictTs_ok (vs := vs) (fun i x hx => by simpa using h2 i x hx) (fun i x hx => by simp at hx) fun r hr h3 => ⟨vs, rfl, by simpa [h1] using hr.symm, h3⟩
 · trivial
theorem cP_ok {p : Plan} {c : List Prop} {r : AV} (h : cP E p = .ok c r) : ∃ r', p = .ok c r' ∧ ∀ q, RA β Z w r' q → RA β Z w r q := by
 unfold cP at h
 split at h
 · cases p with
   | ok c' v' =>
     have h : Plan.ok c' (concV v') = .ok c r := h
     injection h with e1 e2
     subst e1; subst e2
     exact ⟨_, rfl, fun q => concV_ok⟩
   | _ => simp [concP] at h
 · exact ⟨_, h, fun q hq => hq⟩
theorem okBad_cP {p : Plan} (h : okBad p) : okBad (cP E p) := by
 unfold cP
 split
 · cases p <;> first | exact h | trivial
 · exact h
theorem binC_ok (hT : TabOk P E) {t : Nat} {ti : TI} (ht : E.ty t = some ti) {op : BinOp} {x y : AV} {u v : Value} (hx : RA β Z w x u) (hy : RA β Z w y v) {c : List Prop} {r : AV} (h : planBinC E op ti x y = .ok c r) (hc : AllP c) (xo yo : Operand) :
   ∃ q, (do eqGuard op t xo yo u v; binOp op t u v : Sem Value).run P w = .ok q w ∧ RA β Z w r q := by
 obtain ⟨r', h', hr⟩ := cP_ok (β := β) (Z := Z) (w := w) h
 obtain ⟨q, h1, h2⟩ := bin_ok hT ht hx hy h' hc xo yo
 exact ⟨q, h1, hr q h2⟩
theorem args_eq {c : Call} {a : Act} : (c.args.map a.eval).toList = c.args.toList.map a.eval := by simp
theorem arr_two {α : Type} {x : Array α} {a b : α} (h : x.toList = [a, b]) : x = #[a, b] := by
 cases x; simp at h; subst h; rfl
theorem arr_one {α : Type} {x : Array α} {a : α} (h : x.toList = [a]) : x = #[a] := by
 cases x; simp at h; subst h; rfl
theorem okBad_load {ti : TI} {x : AV} : okBad (planLoad hp ti x) := by
 unfold planLoad; repeat' split
 all_goals first | trivial | exact okBad_need trivial
theorem okBad_fieldAddr {ti : TI} {f : Nat} {x : AV} : okBad (planFieldAddr E ti f x) := by
 unfold planFieldAddr Plan.cell; repeat' split
 all_goals first | trivial | exact okBad_need trivial
theorem okBad_field {ti : TI} {f : Nat} {x : AV} : okBad (planField E ti f x) := by
 unfold planField; repeat' split
 all_goals first | trivial | exact okBad_need trivial
theorem okBad_indexAddr {ti : TI} {x y : AV} : okBad (planIndexAddr E ti x y) := by
 unfold planIndexAddr Plan.cell; repeat' split
 all_goals first | trivial | exact okBad_need trivial
theorem okBad_index {ti : TI} {x y : AV} : okBad (planIndex E ti x y) := by
 unfold planIndex Plan.cell; repeat' split
 all_goals first | trivial | exact okBad_need trivial
theorem okBad_eqPlan {b : Bool} {o : Option Bool} : okBad (eqPlan b o) := by
 unfold eqPlan Plan.cell; split <;> trivial
theorem okBad_eq {ti : TI} {neg : Bool} {x y : AV} : okBad (planEq E ti neg x y) := by
 unfold planEq
 split
 · refine okBad_need ?_
   repeat' split
   all_goals first | exact okBad_eqPlan | trivial | exact okBad_need okBad_eqPlan
 · exact okBad_eqPlan
 · trivial
theorem okBad_bin {ti : TI} {op : BinOp} {x y : AV} : okBad (planBin E op ti x y) := by
 unfold planBin intOp Plan.cell
 repeat' split
 all_goals first | trivial | exact okBad_eq
theorem okBad_binC {ti : TI} {op : BinOp} {x y : AV} : okBad (planBinC E op ti x y) := okBad_cP okBad_bin
theorem okBad_un {op : UnOp} {x : AV} : okBad (planUn op x) := by
 unfold planUn Plan.cell; split <;> trivial
theorem okBad_conv {ti : TI} {x : AV} : okBad (planConv ti x) := by
 unfold planConv Plan.cell; split <;> trivial
theorem okBad_len {ti : TI} {x : AV} : okBad (planLen ti x) := by
 unfold planLen Plan.cell; split <;> trivial
theorem okBad_mm {f : Int → Int → Int} {l : Option (List TV)} : okBad (planMM f l) := by
 unfold planMM Plan.cell; repeat' split
 all_goals trivial
theorem okBad_func {tm : Nat → AV} {fn : Fn} {a b : List Operand} : okBad (planFunc E tm fn a b) := by
 unfold planFunc Plan.cell; split
 · exact okBad_need trivial
 · trivial
theorem okBad_build {ti : TI} {l : List (Nat × AV)} : okBad (planBuild E ti l) := by
 unfold planBuild; repeat' split
 all_goals first | trivial | exact okBad_need trivial
theorem okBad.get {p : Plan} (h : okBad p) {nm : Nat} {r : (Nat → Option Blk) × AV} (he : p.eff nm hp = some r) : ∃ c y, p = .ok c y ∧ r = (hp, y) := by
 cases p <;> first
   | exact h.elim
   | (simp [Plan.eff] at he; done)
   | (simp [Plan.eff] at he; exact ⟨_, _, rfl, he.symm⟩)
theorem mkOnly_slice {ti : TI} {n : Nat} {l : List (Nat × AV)} {nm : Nat} {r : (Nat → Option Blk) × AV} (he : (planBuildSlice E ti n l).eff nm hp = some r) : ∃ c b v, planBuildSlice E ti n l = .mk c b v ∧ r = (upd hp nm (some b), v nm) := by
 unfold planBuildSlice at he ⊢
 split at he
 · split at he
   · split at he
     · unfold need at he ⊢
       split at he
       · simp only [Plan.eff, Option.some.injEq] at he; exact ⟨_, _, _, rfl, he.symm⟩
       · simp [Plan.eff] at he
     · split at he
       · unfold need at he ⊢
         split at he
         · simp only [Plan.eff, Option.some.injEq] at he; exact ⟨_, _, _, rfl, he.symm⟩
         · simp [Plan.eff] at he
       · simp [Plan.eff] at he
   · simp [Plan.eff] at he
 · simp [Plan.eff] at he
theorem mkOnly_make {ti : TI} {x y : AV} {nm : Nat} {r : (Nat → Option Blk) × AV} (he : (planMakeSlice E ti x y).eff nm hp = some r) : ∃ c b v, planMakeSlice E ti x y = .mk c b v ∧ r = (upd hp nm (some b), v nm) := by
 unfold planMakeSlice at he ⊢
 split at he
 · split at he
   · split at he
     · unfold need at he ⊢
       split at he
       · simp only [Plan.eff, Option.some.injEq] at he; exact ⟨_, _, _, rfl, he.symm⟩
       · simp [Plan.eff] at he
     · simp [Plan.eff] at he
   · simp [Plan.eff] at he
 · simp [Plan.eff] at he
theorem wrOnly_store {hpS : Nat → Option Blk} {ti : TI} {x y : AV} {nm : Nat} {r : (Nat → Option Blk) × AV} (he : (planStore hpS ti x y).eff nm hp = some r) : ∃ c n b, planStore hpS ti x y = .wr c n b ∧ r = (upd hp n (some b), .any) := by
 unfold planStore at he ⊢
 split at he
 · split at he
   · unfold need at he ⊢
     split at he
     · simp only [Plan.eff, Option.some.injEq] at he; exact ⟨_, _, _, rfl, he.symm⟩
     · simp [Plan.eff] at he
   · simp [Plan.eff] at he
 · split at he
   · unfold need at he ⊢
     split at he
     · simp only [Plan.eff, Option.some.injEq] at he; exact ⟨_, _, _, rfl, he.symm⟩
     · simp [Plan.eff] at he
   · simp [Plan.eff] at he
 · split at he
   · unfold need at he ⊢
     split at he
     · simp only [Plan.eff, Option.some.injEq] at he; exact ⟨_, _, _, rfl, he.symm⟩
     · simp [Plan.eff] at he
   · unfold need at he ⊢
     split at he
     · simp only [Plan.eff, Option.some.injEq] at he; exact ⟨_, _, _, rfl, he.symm⟩
     · simp [Plan.eff] at he
   · simp [Plan.eff] at he
 · simp [Plan.eff] at he
theorem osIn_spec {get : Nat → CV} : ∀ {k j m : Nat}, osIn get k = some (j, m) → j < k ∧ ∃ s l, get j = .os m s l
 | 0, _, _, h => by simp [osIn] at h
 | k + 1, j, m, h => by
   unfold osIn at h
   split at h
   · rename_i n s l hg
     split at h
     · simp only [Option.some.injEq, Prod.mk.injEq] at h
       obtain ⟨rfl, rfl⟩ := h
       exact ⟨Nat.lt_succ_self _, s, l, hg⟩
     · simp at h
   · obtain ⟨h1, h2⟩ := osIn_spec h
     exact ⟨Nat.lt_succ_of_lt h1, h2⟩
theorem os_froze (h : SatH E B Fr β Z hp w) {n : Nat} {e : TypeId} {size len : Nat} {get : Nat → Nat → CV} (hnp : hp n = some (.row e size len get)) {s l : Nat} {u : Value} (hu : ROs w (β n) s l u) :
   RP (fun b => Z b ∨ (∃ blk ln, hp n = some blk ∧ β n = .at b ln)) w (.vs size len get) u := by
 have hrb := h.rb n _ hnp
 have hfz := h.freeze n
 cases hβ : β n with
 | no => rw [hβ] at hu; exact hu.elim
 | virt =>
   rw [hβ] at hu hrb
   obtain ⟨rfl, rfl⟩ := hu
   have h0 : len = 0 := hrb
   subst h0
   exact ⟨none, 0, rfl, Nat.le_refl _, fun h => absurd h (Nat.lt_irrefl 0)⟩
 | «at» b ln =>
   rw [hβ] at hu hrb
   obtain ⟨rfl, cap, rfl, q1, _⟩ := hu
   obtain ⟨rfl, cs, g1, g2, g3⟩ := hrb
   refine ⟨_, cap, rfl, q1, fun _ => ⟨b, 0, rfl, .inr ⟨_, _, hnp, rfl⟩, fun i hi j hj => ?_⟩⟩
   obtain ⟨u, hu, hr⟩ := g3 i hi j hj
   refine ⟨u, by rw [cell_of_heap g1, Nat.zero_add]; exact hu, ?_⟩
   have := RP.mono hfz.ev h.calm hr
   rw [hβ] at this
   exact this
theorem Left.trans {Fr1 Fr2 : Nat → Prop} {β1 β2 : Nat → Loc} {Z1 Z2 : Nat → Prop} {hp1 hp2 : Nat → Option Blk} {w1 w2 : World} (h : Left E B Fr1 β Z hp w β1 Z1 hp1 w1) (k : Left E B Fr2 β1 Z1 hp1 w1 β2 Z2 hp2 w2) : Left E B Fr2 β Z hp w β2 Z2 hp2 w2 :=
 ⟨k.sat, h.ev.trans k.ev h.own, h.ext.trans k.ext, fun b hb => (k.own b hb).elim (h.own b) (fun hle => .inr (Nat.le_trans h.ev.size hle)),
   fun b hb => (k.zown b hb).elim (h.zown b) (fun hk => hk.elim (fun ho => .inr (h.own b ho)) (fun hle => .inr (.inr (Nat.le_trans h.ev.size hle))))⟩
theorem storeF_ok {P : Program} (h : SatH E B Fr β Z hp w) {nm : Nat} {hpS : Nat → Option Blk} (hsub : ∀ n blk, hpS n = some blk → hp n = some blk) (hrbS : ∀ n blk, hpS n = some blk → RB β Z w (β n) blk) {t : Nat} {ti : TI} (hT : tabTI P t = some ti)
   {x y : AV} {vx vy : Value} (hx : RA β Z w x vx) (hy : RA β Z w y vy) {hp' : Nat → Option Blk} {v : AV} (hc : AllP (planStoreF hpS ti x y).conds) (he : (planStoreF hpS ti x y).eff nm hp = some (hp', v)) :
   OpOk P E B (fun n => Fr n ∧ n ≠ nm) β Z hp w (do Instr.storeAt t vx vy; pure .skip) hp' v := by
 have plain : ∀ x y, RA β Z w x vx → RA β Z w y vy → AllP (planStore hpS ti x y).conds → (planStore hpS ti x y).eff nm hp = some (hp', v) → OpOk P E B (fun n => Fr n ∧ n ≠ nm) β Z hp w (do Instr.storeAt t vx vy; pure .skip) hp' v := by
   intro x y hx hy hc he
   obtain ⟨c, n, b, e1, e2⟩ := wrOnly_store he
   simp only [Prod.mk.injEq] at e2
   obtain ⟨rfl, rfl⟩ := e2
   obtain ⟨bk, ln, cs, e, cs', ⟨old, hold⟩, hb, hcs, hr, hsz, hrc⟩ := store_ok hT hrbS hx hy e1 (by rw [e1] at hc; exact hc)
   have hl := h.write (hsub n old hold) hb hcs hsz hrc
   exact ⟨.skip, undef, _, β, Z, by simp [hr], .inr ⟨rfl, rfl⟩, ⟨hl.sat.weaken (fun n hn => hn.1), hl.ev, hl.ext, hl.own, hl.zown⟩, trivial⟩
 unfold planStoreF at he hc
 split at he
 · rename_i n sz i off k g
   split at he
   · rename_i j m ho
     split at he
     · rename_i e0 size len get hm
       split at he
       · rename_i c n' blk hw
         split at he
         · simp [Plan.eff] at he
         · rename_i hne
           simp only [ho, hm, hw, hne] at hc
           simp only [Plan.eff, Option.some.injEq, Prod.mk.injEq] at he
           obtain ⟨rfl, rfl⟩ := he
           have hnp := hsub m _ hm
           have hfz := h.freeze m
           obtain ⟨hjk, s, l, hgj⟩ := osIn_spec ho
           obtain ⟨cs0, rfl, hcs0, hcell⟩ := hy
           have hy1 : RA β (fun b => Z b ∨ (∃ blk ln, hp m = some blk ∧ β m = .at b ln)) w (.t (.a k (overAll k g j 1 (fun _ => .vs size len get)))) (.agg cs0) := by
             refine ⟨cs0, rfl, hcs0, fun q hq => ?_⟩
             obtain ⟨u, hu, hr⟩ := hcell q hq
             refine ⟨u, hu, ?_⟩
             rw [overAll_eq k g j 1 _ q hq (by omega)]
             split
             · obtain rfl : q = j := by omega
               rw [hgj] at hr
               exact RC.of_RP (os_froze h hnp hr)
             · exact RC.mono hfz.ev h.calm (Ext.refl β) hr
           obtain ⟨bk, ln, cs, e, cs', ⟨old, hold⟩, hb, hcs, hr, hsz, hrc⟩ := store_ok hT (fun n blk hn => RB.mono hfz.ev h.calm (Ext.refl β) (fun _ _ _ => rfl) (hrbS n blk hn)) (RA.mono hfz.ev h.calm (Ext.refl β) hx) hy1 hw hc
           have hnm : n' ≠ m := fun e => by subst e; simp at hne
           have hl := hfz.trans (hfz.sat.write (n := n') (old := old) (by rw [upd_ne _ _ hnm]; exact hsub n' old hold) hb hcs hsz hrc)
           exact ⟨.skip, undef, _, β, _, by simp [hr], .inr ⟨rfl, rfl⟩, ⟨hl.sat.weaken (fun n hn => hn.1), hl.ev, hl.ext, hl.own, hl.zown⟩, trivial⟩
       · simp [Plan.eff] at he
     · simp [Plan.eff] at he
   · rename_i ho
     simp only [ho] at hc
     exact plain _ _ hx hy hc he
 · rename_i hne
   refine plain _ _ hx hy ?_ he
   simpa using hc
theorem froze_ok {β : Nat → Loc} {Z Z' : Nat → Prop} {w : World} {n size len : Nat} {get : Nat → Nat → CV} (h1 : ∀ x v, RA β Z w x v → RA β Z' w x v) (h2 : ∀ s l v, ROs w (β n) s l v → RP Z' w (.vs size len get) v) :
   ∀ {parts : List (Nat × AV)} {vs : List (Nat × Value)}, RParts β Z w parts vs → RParts β Z' w (frozeParts n size len get parts) vs
 | [], [], _ => trivial
 | (i, x) :: l, (j, v) :: r, ⟨e, hx, hl⟩ => by
   refine ⟨e, ?_, froze_ok h1 h2 hl⟩
   unfold frozeAV
   split
   · rename_i m s l'
     split
     · rename_i hb
       obtain rfl := Nat.eq_of_beq_eq_true hb
       exact RC.of_RP (h2 s l' v hx)
     · exact h1 _ _ hx
   · exact h1 _ _ hx
 | [], _ :: _, h => h.elim
 | _ :: _, [], h => h.elim
theorem buildF_ok (hT : TabOk P E) (h : SatH E B Fr β Z hp w) {nm : Nat} {hpS : Nat → Option Blk} (hsub : ∀ n blk, hpS n = some blk → hp n = some blk) {t : Nat} {ti : TI} (ht : E.ty t = some ti)
   {parts : List (Nat × AV)} {vs : Array (Nat × Value)} (hr : RParts β Z w parts vs.toList) {hp' : Nat → Option Blk} {v : AV} (he : (planBuildF hpS E ti parts).eff nm hp = some (hp', v)) :
   OpOk P E B (fun n => Fr n ∧ n ≠ nm) β Z hp w (do pure (.value (← Instr.build t vs))) hp' v := by
 unfold planBuildF at he
 split at he
 · rename_i n hn0
   have hn0 := osF_some hn0
   split at he
   · rename_i e size len get hn
     split at he
     · rename_i c y hb
       simp only [Plan.eff, Option.some.injEq, Prod.mk.injEq] at he
       obtain ⟨rfl, rfl⟩ := he
       have hnp := hsub n _ hn
       have hrb := h.rb n _ hnp
       have hfz := h.freeze n
       obtain ⟨q, h1, h2⟩ := build_ok (β := β) (Z := fun b => Z b ∨ (∃ blk ln, hp n = some blk ∧ β n = .at b ln)) (w := w) hT ht (froze_ok (size := size) (len := len) (get := get) (fun x u hx => RA.mono hfz.ev h.calm (Ext.refl β) hx) (fun s l u hu => by
         cases hβ : β n with
         | no => rw [hβ] at hu; exact hu.elim
         | virt =>
           rw [hβ] at hu hrb
           obtain ⟨rfl, rfl⟩ := hu
           have h0 : len = 0 := hrb
           subst h0
           exact ⟨none, 0, rfl, Nat.le_refl _, fun h => absurd h (Nat.lt_irrefl 0)⟩
         | «at» b ln =>
           rw [hβ] at hu hrb
           obtain ⟨rfl, cap, rfl, q1, _⟩ := hu
           obtain ⟨rfl, cs, g1, g2, g3⟩ := hrb
           refine ⟨_, cap, rfl, q1, fun _ => ⟨b, 0, rfl, .inr ⟨_, _, hnp, rfl⟩, fun i hi j hj => ?_⟩⟩
           obtain ⟨u, hu, hr⟩ := g3 i hi j hj
           refine ⟨u, by rw [cell_of_heap g1, Nat.zero_add]; exact hu, ?_⟩
           have := RP.mono hfz.ev h.calm hr
           rw [hβ] at this
           exact this) hr) hb
       exact ⟨.value q, q, w, β, _, by simp [h1], .inl rfl, ⟨hfz.sat.weaken (fun n hn => hn.1), hfz.ev, hfz.ext, hfz.own, hfz.zown⟩, h2⟩
     · simp [Plan.eff] at he
   · simp [Plan.eff] at he
 · obtain ⟨c, y, e, e2⟩ := okBad_build.get he
   simp only [Prod.mk.injEq] at e2
   obtain ⟨rfl, rfl⟩ := e2
   exact OpOk.val h (build_ok hT ht hr e)
theorem noCallF_build {ti : TI} {l : List (Nat × AV)} : (∀ f a, planBuildF hp E ti l ≠ .call f a) ∧ ∀ n a, planBuildF hp E ti l ≠ .ycall n a := by
 have ob := fun l => okBad_build (E := E) (ti := ti) (l := l)
 unfold planBuildF
 split
 · split
   · split <;> simp
   · simp
 · have := ob l
   constructor
   · intro f a e; rw [e] at this; exact this
   · intro f a e; rw [e] at this; exact this
theorem ro_map (hg : GlOk E Z w) {tm : Nat → AV} {a : Act} (ht : ∀ t, RA β Z w (tm t) (a.tmps.getD t undef)) (o : Option Operand) : RO β Z w (o.map (evalO E tm)) (o.map a.eval) := by
 cases o with
 | none => trivial
 | some x => exact eval_ok hg ht x
theorem op_ok (hT : TabOk P E) (hM : MapsOk P E) (h : SatH E B Fr β Z hp w) (hB : B ≤ w.heap.size) {nm : Nat} (hf : Fr nm) {hpS : Nat → Option Blk} (hsub : ∀ n blk, hpS n = some blk → hp n = some blk)
   {tm : Nat → AV} {a : Act} (ht : ∀ t, RA β Z w (tm t) (a.tmps.getD t undef)) {o : Oper} {hp' : Nat → Option Blk} {v : AV}
   (hc : AllP (planOp E tm hpS o).conds) (he : (planOp E tm hpS o).eff nm hp = some (hp', v)) :
   OpOk P E B (fun n => Fr n ∧ n ≠ nm) β Z hp w (execOp a.eval o) hp' v := by
 have hrbS : ∀ n blk, hpS n = some blk → RB β Z w (β n) blk := fun n blk hn => h.rb n blk (hsub n blk hn)
 have ev := fun x => eval_ok h.gl ht x
 generalize hp0 : planOp E tm hpS o = p at hc he
 have okCase : ∀ {s : Sem Value}, (∀ c y, p = .ok c y → AllP c → ∃ u, s.run P w = .ok u w ∧ RA β Z w y u) → okBad p → OpOk P E B (fun n => Fr n ∧ n ≠ nm) β Z hp w (do pure (.value (← s))) hp' v := by
   intro s hs hob
   obtain ⟨c, y, rfl, e⟩ := hob.get he
   simp only [Prod.mk.injEq] at e
   obtain ⟨rfl, rfl⟩ := e
   exact OpOk.val h (hs c _ rfl hc)
 have ret : ∀ u : Value, ((do pure (.value (← (pure u : Sem Value))) : Sem Next)) = pure (.value u) := fun u => pure_bind _ _
 unfold planOp at hp0
 dsimp only at hp0
 split at hp0
 case h_1 x hop =>
   rw [show execOp a.eval o = pure (.value (a.eval x)) by simp [execOp, hop], ← ret]
   refine okCase (fun c y e _ => ?_) (by rw [← hp0]; trivial)
   rw [← hp0] at e; injection e with e1 e2; subst e2
   exact ⟨_, rfl, ev x⟩
 case h_2 x hop =>
   rw [show execOp a.eval o = pure (.value (a.eval x)) by simp [execOp, hop], ← ret]
   refine okCase (fun c y e _ => ?_) (by rw [← hp0]; trivial)
   rw [← hp0] at e; injection e with e1 e2; subst e2
   exact ⟨_, rfl, ev x⟩
 case h_3 c x y hop =>
   split at hp0
   · rename_i t htr
     have hb := truth_ok (ev c) htr
     rw [show execOp a.eval o = pure (.value (if t then a.eval x else a.eval y)) by simp [execOp, hop, hb, asBool], ← ret]
     refine okCase (fun c' y' e _ => ?_) (by rw [← hp0]; trivial)
     rw [← hp0] at e; injection e with e1 e2; subst e2
     refine ⟨_, rfl, ?_⟩
     cases t
     · exact ev y
     · exact ev x
   · subst hp0; simp [Plan.eff] at he
 case h_4 t hop =>
   split at hp0
   · rename_i ti hti
     unfold need at hp0
     split at hp0
     · subst hp0
       simp only [Plan.eff, Option.some.injEq, Prod.mk.injEq] at he
       obtain ⟨rfl, rfl⟩ := he
       rw [show execOp a.eval o = (do pure (.value (← Instr.alloc t true (.tuple #[])))) by simp [execOp, hop]]
       exact OpOk.new h hB hf (alloc_ok hT hti)
     · subst hp0; simp [Plan.eff] at he
   · subst hp0; simp [Plan.eff] at he
 case h_5 t x hop =>
   have hx := ev x
   split at hp0
   · rename_i y hy
     subst hp0
     simp only [Plan.eff, Option.some.injEq, Prod.mk.injEq] at he
     obtain ⟨rfl, rfl⟩ := he
     rw [hy] at hx
     rw [show execOp a.eval o = (do pure (.value (← Instr.box t (a.eval x)))) by simp [execOp, hop]]
     exact OpOk.new h hB hf (box_ok (P := P) hx)
   · subst hp0; simp [Plan.eff] at he
 case h_6 t parts hop =>
   rw [show execOp a.eval o = (do pure (.value (← Instr.build t (parts.map fun (i, x) => (i, a.eval x))))) by simp [execOp, hop]]
   split at hp0
   · rename_i ti hti
     subst hp0
     exact buildF_ok hT h hsub hti (by simpa using parts_ok h.gl ht parts.toList) he
   · subst hp0; simp [Plan.eff] at he
 case h_7 t len parts hop =>
   rw [show execOp a.eval o = (do pure (.value (← Instr.buildSlice t len (parts.map fun (i, x) => (i, a.eval x))))) by simp [execOp, hop]]
   split at hp0
   · rename_i ti hti
     subst hp0
     obtain ⟨c, b, v', e1, e2⟩ := mkOnly_slice he
     simp only [Prod.mk.injEq] at e2
     obtain ⟨rfl, rfl⟩ := e2
     exact OpOk.new h hB hf (buildSlice_ok hT hti (by simpa using parts_ok h.gl ht parts.toList) e1)
   · subst hp0; simp [Plan.eff] at he
 case h_8 t x hop =>
   rw [show execOp a.eval o = (do pure (.value (← Instr.loadAt t (a.eval x)))) by simp [execOp, hop]]
   split at hp0
   · rename_i ti hti
     refine okCase (fun c y e hc' => ?_) (by rw [← hp0]; exact okBad_cP okBad_load)
     rw [← hp0] at e
     obtain ⟨y', e', hr⟩ := cP_ok (β := β) (Z := Z) (w := w) e
     obtain ⟨q, h1, h2⟩ := load_ok (hT t ti hti).1 (hT t ti hti).2 hrbS (ev x) e' hc'
     exact ⟨q, h1, hr q h2⟩
   · subst hp0; simp [Plan.eff] at he
 case h_9 t x y hop =>
   rw [show execOp a.eval o = (do Instr.storeAt t (a.eval x) (a.eval y); pure .skip) by simp [execOp, hop]]
   split at hp0
   · rename_i ti hti
     subst hp0
     exact storeF_ok h hsub hrbS (hT t ti hti).1 (ev x) (ev y) hc he
   · subst hp0; simp [Plan.eff] at he
 case h_10 x hop =>
   have hx := ev x
   split at hp0
   · rename_i n off hy
     rw [hy] at hx
     obtain ⟨b, ln, hb, e0⟩ := hx
     rw [show execOp a.eval o = pure (.value (a.eval x)) by simp [execOp, hop, e0], ← ret]
     refine okCase (fun c y e _ => ?_) (by rw [← hp0]; trivial)
     rw [← hp0] at e; injection e with e1 e2; subst e2
     exact ⟨_, rfl, hy ▸ ev x⟩
   · rename_i n sz i off hy
     rw [hy] at hx
     obtain ⟨b, ln, hb, e0, _⟩ := hx
     rw [show execOp a.eval o = pure (.value (a.eval x)) by simp [execOp, hop, e0], ← ret]
     refine okCase (fun c y e _ => ?_) (by rw [← hp0]; trivial)
     rw [← hp0] at e; injection e with e1 e2; subst e2
     exact ⟨_, rfl, hy ▸ ev x⟩
   · rename_i n get hy
     rw [hy] at hx
     obtain ⟨b, ln, e0, _⟩ := hx
     rw [show execOp a.eval o = pure (.value (a.eval x)) by simp [execOp, hop, e0], ← ret]
     refine okCase (fun c y e _ => ?_) (by rw [← hp0]; trivial)
     rw [← hp0] at e; injection e with e1 e2; subst e2
     exact ⟨_, rfl, hy ▸ ev x⟩
   · rename_i f sh first nc cap hy
     rw [hy] at hx
     obtain ⟨fs, cs, e0, _⟩ := hx
     rw [show execOp a.eval o = pure (.value (a.eval x)) by simp [execOp, hop, e0], ← ret]
     refine okCase (fun c y e _ => ?_) (by rw [← hp0]; trivial)
     rw [← hp0] at e; injection e with e1 e2; subst e2
     exact ⟨_, rfl, hy ▸ ev x⟩
   · rename_i n hy
     rw [hy] at hx
     obtain ⟨b, ln, hb, e0⟩ := hx
     rw [show execOp a.eval o = pure (.value (a.eval x)) by simp [execOp, hop, e0], ← ret]
     refine okCase (fun c y e _ => ?_) (by rw [← hp0]; trivial)
     rw [← hp0] at e; injection e with e1 e2; subst e2
     exact ⟨_, rfl, hy ▸ ev x⟩
   · subst hp0; simp [Plan.eff] at he
 case h_11 op t x y k hop =>
   rw [show execOp a.eval o = (do pure (.value (← (do eqGuard op t x y (a.eval x) (a.eval y); binOp op t (a.eval x) (a.eval y))))) by simp [execOp, hop]]
   split at hp0
   · rename_i ti hti
     refine okCase (fun c y' e hc' => ?_) (by rw [← hp0]; exact okBad_binC)
     rw [← hp0] at e
     exact binC_ok hT hti (ev x) (ev y) e hc' x y
   · subst hp0; simp [Plan.eff] at he
 case h_12 op t x hop =>
   rw [show execOp a.eval o = (do pure (.value (← Op.unary op (a.eval x)))) by simp [execOp, hop]]
   refine okCase (fun c y' e hc' => ?_) (by rw [← hp0]; exact okBad_cP okBad_un)
   rw [← hp0] at e
   obtain ⟨y', e', hr⟩ := cP_ok (β := β) (Z := Z) (w := w) e
   obtain ⟨q, h1, h2⟩ := un_ok (ev x) e' hc'
   exact ⟨q, h1, hr q h2⟩
 case h_13 src dst x hop =>
   rw [show execOp a.eval o = (do pure (.value (← convert src dst (a.eval x)))) by simp [execOp, hop]]
   split at hp0
   · rename_i t0 ti hsrc hti
     obtain ⟨i, d, z, hF⟩ := tabTI_spec (hT src t0 hsrc).1
     refine okCase (fun c y' e hc' => ?_) (by rw [← hp0]; exact okBad_conv)
     rw [← hp0] at e
     exact conv_ok hT hti ⟨d, hF.und⟩ (ev x) e hc'
   · subst hp0; simp [Plan.eff] at he
 case h_14 fn first cap hop =>
   rw [show execOp a.eval o = (do pure (.value (← (pure (.func fn (first.map a.eval) (cap.map a.eval)) : Sem Value)))) by simp [execOp, hop, Instr.makeFunc]]
   refine okCase (fun c y' e hc' => ?_) (by rw [← hp0]; exact okBad_func)
   rw [← hp0] at e
   exact ⟨_, rfl, func_ok h.gl ht e⟩
 case h_15 t hop =>
   rw [show execOp a.eval o = (do pure (.value (← Instr.makeMap t none))) by simp [execOp, hop]]
   split at hp0
   · rename_i T hT'
     subst hp0
     simp only [Plan.eff, Option.some.injEq, Prod.mk.injEq] at he
     obtain ⟨rfl, rfl⟩ := he
     have hrb0 : RB (upd β nm (.at w.heap.size 0)) Z (w.alloc (.map #[] 0)) (.at w.heap.size 0) (match E.stm t with | true => .mq T (fun _ => none) 0 | false => .mp T (fun _ => none)) := by
       cases E.stm t with
       | true => exact ⟨#[], heap_alloc_new w _, ⟨fun e he => by simp at he, fun ks x hx => by simp [fstM] at hx, fun i j e e' hi => by simp at hi⟩, fun e he => by simp at he, fun i j e e' hi => by simp at hi, fun e he => by simp at he⟩
       | false => exact ⟨#[], 0, heap_alloc_new w _, ⟨fun e he => by simp at he, fun ks x hx => by simp at hx, fun i j e e' hi => by simp at hi⟩⟩
     refine ⟨.value (.map (some w.heap.size)), .map (some w.heap.size), w.alloc (.map #[] 0), _, Z, ?_, .inl rfl, h.mk_obj hB hf (ln := 0) hrb0, ⟨w.heap.size, 0, upd_same _ _ _, rfl⟩⟩
     simp [Instr.makeMap, newObj]
     rfl
   · subst hp0; simp [Plan.eff] at he
 case h_16 t l c hop =>
   rw [show execOp a.eval o = (do pure (.value (← Instr.makeSlice t (a.eval l) (a.eval c)))) by simp [execOp, hop]]
   split at hp0
   · rename_i ti hti
     subst hp0
     obtain ⟨c', b, v', e1, e2⟩ := mkOnly_make he
     simp only [Prod.mk.injEq] at e2
     obtain ⟨rfl, rfl⟩ := e2
     exact OpOk.new h hB hf (makeSlice_ok hT hti (ev l) (ev c) e1 (by rw [e1] at hc; exact hc))
   · subst hp0; simp [Plan.eff] at he
 case h_17 t x lo hi mx hop =>
   rw [show execOp a.eval o = (do pure (.value (← Instr.sliceAt t (a.eval x) (lo.map a.eval) (hi.map a.eval) (mx.map a.eval)))) by simp [execOp, hop]]
   split at hp0
   · rename_i ti hti
     subst hp0
     exact slice_ok hT h hsub hti (ev x) (ro_map h.gl ht lo) (ro_map h.gl ht hi) (ro_map h.gl ht mx) hc he
   · subst hp0; simp [Plan.eff] at he
 case h_18 t x f hop =>
   rw [show execOp a.eval o = (do pure (.value (← Instr.fieldAt t (a.eval x) f))) by simp [execOp, hop]]
   split at hp0
   · rename_i ti hti
     refine okCase (fun c y' e hc' => ?_) (by rw [← hp0]; exact okBad_fieldAddr)
     rw [← hp0] at e
     exact fieldAddr_ok hT hti (ev x) e
   · subst hp0; simp [Plan.eff] at he
 case h_19 t x f hop =>
   rw [show execOp a.eval o = (do pure (.value (← Instr.field t (a.eval x) f))) by simp [execOp, hop]]
   split at hp0
   · rename_i ti hti
     refine okCase (fun c y' e hc' => ?_) (by rw [← hp0]; exact okBad_field)
     rw [← hp0] at e
     exact field_ok hT hti (ev x) e
   · subst hp0; simp [Plan.eff] at he
 case h_20 t x i hop =>
   rw [show execOp a.eval o = (do pure (.value (← Instr.indexAt t (a.eval x) (a.eval i)))) by simp [execOp, hop]]
   split at hp0
   · rename_i ti hti
     refine okCase (fun c y' e hc' => ?_) (by rw [← hp0]; exact okBad_indexAddr)
     rw [← hp0] at e
     exact indexAddr_ok hT hti (ev x) (ev i) e hc'
   · subst hp0; simp [Plan.eff] at he
 case h_21 t x i hop =>
   rw [show execOp a.eval o = (do pure (.value (← Instr.index t (a.eval x) (a.eval i)))) by simp [execOp, hop]]
   split at hp0
   · rename_i ti hti
     refine okCase (fun c y' e hc' => ?_) (by rw [← hp0]; exact okBad_cP okBad_index)
     rw [← hp0] at e
     obtain ⟨y', e', hr⟩ := cP_ok (β := β) (Z := Z) (w := w) e
     obtain ⟨q, h1, h2⟩ := index_ok hT hti (ev x) (ev i) e' hc'
     exact ⟨q, h1, hr q h2⟩
   · subst hp0; simp [Plan.eff] at he
 case h_22 x i hop =>
   have hx := ev x
   split at hp0
   · rename_i l hl
     rw [hl] at hx
     obtain ⟨vs, e0, hsz, hvs⟩ := hx
     split at hp0
     · rename_i y hy
       obtain ⟨u, hu, hr⟩ := hvs i y hy
       rw [show execOp a.eval o = (do pure (.value (← (pure u : Sem Value)))) by simp [execOp, hop, e0, Instr.extract, hu]]
       refine okCase (fun c y' e hc' => ?_) (by rw [← hp0]; trivial)
       rw [← hp0] at e; injection e with e1 e2; subst e2
       exact ⟨_, rfl, hr⟩
     · subst hp0; simp [Plan.eff] at he
   · subst hp0; simp [Plan.eff] at he
 case h_23 c hop =>
   have hex : execOp a.eval o = (do let d ← resolve a.eval c o.type; invoke d.target d.args) := by simp [execOp, hop]
   rw [hex]
   unfold planCall at hp0
   split at hp0
   · rename_i hcal
     split at hp0
     · rename_i x t hx ht'
       have e1 := arr_one hx
       have e2 := arr_one ht'
       split at hp0
       · rename_i ti hti
         rw [show (do let d ← resolve a.eval c o.type; invoke d.target d.args : Sem Next) = (do pure (.value (← Builtin.len_ #[t] o.type #[a.eval x]))) by simp [resolve, hcal, e1, e2, invoke, builtin]]
         refine okCase (fun c' y' e hc' => ?_) (by rw [← hp0]; exact okBad_len)
         rw [← hp0] at e
         exact len_ok hT hti (ev x) e
       · subst hp0; simp [Plan.eff] at he
     · subst hp0; simp [Plan.eff] at he
   · rename_i hcal
     split at hp0
     · rename_i x y t t' hx ht'
       have e1 := arr_two hx
       have e2 := arr_two ht'
       unfold need at hp0
       split at hp0
       · rename_i hbeq
         obtain rfl : t = t' := Nat.eq_of_beq_eq_true hbeq
         split at hp0
         · rename_i ti hti
           rw [show (do let d ← resolve a.eval c o.type; invoke d.target d.args : Sem Next) = (do pure (.value (← Builtin.append_ #[t, t] o.type #[a.eval x, a.eval y]))) by simp [resolve, hcal, e1, e2, invoke, builtin]]
           subst hp0
           exact append_ok hT h hB hf hsub hti (ev x) (ev y) hc he
         · subst hp0; simp [Plan.eff] at he
       · subst hp0; simp [Plan.eff] at he
     · subst hp0; simp [Plan.eff] at he
   · rename_i hcal
     rw [show (do let d ← resolve a.eval c o.type; invoke d.target d.args : Sem Next) = (do pure (.value (← Builtin.min_ c.argTypes o.type (c.args.map a.eval)))) by simp [resolve, hcal, invoke, builtin]]
     refine okCase (fun c' y' e hc' => ?_) (by rw [← hp0]; exact okBad_mm)
     rw [← hp0] at e
     obtain ⟨q0, rest, q, h1, h2, h3⟩ := mm_ok (β := β) (Z := Z) (P := P) (w := w) (g := Builtin.min2) (fun k a b => rfl) (r := (c.args.map a.eval).toList) (fun x hx => by rw [args_eq]; exact args_ok h.gl ht hx) e
     exact ⟨q, by rw [Builtin.min_, h1]; exact h2, h3⟩
   · rename_i hcal
     rw [show (do let d ← resolve a.eval c o.type; invoke d.target d.args : Sem Next) = (do pure (.value (← Builtin.max_ c.argTypes o.type (c.args.map a.eval)))) by simp [resolve, hcal, invoke, builtin]]
     refine okCase (fun c' y' e hc' => ?_) (by rw [← hp0]; exact okBad_mm)
     rw [← hp0] at e
     obtain ⟨q0, rest, q, h1, h2, h3⟩ := mm_ok (β := β) (Z := Z) (P := P) (w := w) (g := Builtin.max2) (fun k a b => rfl) (r := (c.args.map a.eval).toList) (fun x hx => by rw [args_eq]; exact args_ok h.gl ht hx) e
     exact ⟨q, by rw [Builtin.max_, h1]; exact h2, h3⟩
   · rename_i hcal
     split at hp0
     · rename_i x y t t' hx ht'
       have e1 := arr_two hx
       have e2 := arr_two ht'
       split at hp0
       · rename_i T hT0
         rw [show (do let d ← resolve a.eval c o.type; invoke d.target d.args : Sem Next) = (do pure (.value (← Builtin.delete_ #[t, t'] o.type #[a.eval x, a.eval y]))) by simp [resolve, hcal, e1, e2, invoke, builtin]]
         subst hp0
         obtain ⟨c', n, b, q1, q2⟩ := wrOnly_delete he
         simp only [Prod.mk.injEq] at q2
         obtain ⟨rfl, rfl⟩ := q2
         obtain ⟨w', hr, hset⟩ := delete_ok (t' := t') (hM t T hT0) hrbS (ev x) (ev y) q1 (by rw [q1] at hc; exact hc) o.type
         have hl := h.setMapS (hset.sub hsub)
         exact ⟨.value (.tuple #[]), .tuple #[], _, β, Z, by simp [hr], .inl rfl, ⟨hl.sat.weaken (fun n hn => hn.1), hl.ev, hl.ext, hl.own, hl.zown⟩, trivial⟩
       · subst hp0; simp [Plan.eff] at he
     · subst hp0; simp [Plan.eff] at he
   · split at hp0
     · subst hp0; simp [Plan.eff] at he
     · subst hp0; simp [Plan.eff] at he
     · subst hp0; simp [Plan.eff] at he
   · subst hp0; simp [Plan.eff] at he
 case h_24 t x k ok hop =>
   rw [show execOp a.eval o = (do pure (.value (← Instr.lookup t (a.eval x) (a.eval k) ok))) by simp [execOp, hop]]
   split at hp0
   · rename_i T hT'
     refine okCase (fun c y e hc' => ?_) (by rw [← hp0]; exact okBad_cP okBad_lookup)
     rw [← hp0] at e
     obtain ⟨y', e', hr⟩ := cP_ok (β := β) (Z := Z) (w := w) e
     obtain ⟨q, h1, h2⟩ := lookup_ok (hM t T hT') hrbS (ev x) (ev k) e' hc'
     exact ⟨q, h1, hr q h2⟩
   · subst hp0; simp [Plan.eff] at he
 case h_25 t x k y hop =>
   rw [show execOp a.eval o = (do Instr.mapUpdate t (a.eval x) (a.eval k) (a.eval y); pure .skip) by simp [execOp, hop]]
   split at hp0
   · rename_i T hT'
     subst hp0
     obtain ⟨c, n, b, e1, e2⟩ := wrOnly_upd he
     simp only [Prod.mk.injEq] at e2
     obtain ⟨rfl, rfl⟩ := e2
     obtain ⟨w', hr, hl⟩ := upd_ok (hM t T hT') h hsub (ev x) (ev k) (ev y) e1 (by rw [e1] at hc; exact hc)
     exact ⟨.skip, undef, _, β, Z, by simp [hr], .inr ⟨rfl, rfl⟩, ⟨hl.sat.weaken (fun n hn => hn.1), hl.ev, hl.ext, hl.own, hl.zown⟩, trivial⟩
   · subst hp0; simp [Plan.eff] at he
 case h_26 t x k y hop =>
   rw [show execOp a.eval o = (do Instr.mapUpdate t (a.eval x) (a.eval k) (a.eval y); pure .skip) by simp [execOp, hop]]
   split at hp0
   · rename_i T hT'
     subst hp0
     obtain ⟨c, n, b, e1, e2⟩ := wrOnly_upd he
     simp only [Prod.mk.injEq] at e2
     obtain ⟨rfl, rfl⟩ := e2
     obtain ⟨w', hr, hl⟩ := upd_ok (hM t T hT') h hsub (ev x) (ev k) (ev y) e1 (by rw [e1] at hc; exact hc)
     exact ⟨.skip, undef, _, β, Z, by simp [hr], .inr ⟨rfl, rfl⟩, ⟨hl.sat.weaken (fun n hn => hn.1), hl.ev, hl.ext, hl.own, hl.zown⟩, trivial⟩
   · subst hp0; simp [Plan.eff] at he
 case h_27 t x k hop =>
   rw [show execOp a.eval o = (do pure (.value (← Instr.mapEntry t (a.eval x) (a.eval k)))) by simp [execOp, hop]]
   split at hp0
   · rename_i T hT'
     subst hp0
     obtain ⟨c, n, b, v', e1, e2⟩ := weOnly_entry he
     simp only [Prod.mk.injEq] at e2
     obtain ⟨rfl, rfl⟩ := e2
     obtain ⟨u, w', hr, hv, hset⟩ := entry_ok (hM t T hT') hrbS (ev x) (ev k) e1 (by rw [e1] at hc; exact hc)
     have hl := h.setMapS (hset.sub hsub)
     exact ⟨.value u, u, _, β, Z, by simp [hr], .inl rfl, ⟨hl.sat.weaken (fun n hn => hn.1), hl.ev, hl.ext, hl.own, hl.zown⟩, hv _ _ _⟩
   · subst hp0; simp [Plan.eff] at he
 case h_28 t x s y hop =>
   rw [show execOp a.eval o = (do Instr.entryStore t (a.eval x) (a.eval s) (a.eval y); pure .skip) by simp [execOp, hop]]
   split at hp0
   · rename_i T hT'
     subst hp0
     obtain ⟨c, n, b, e1, e2⟩ := wrOnly_entryStore he
     simp only [Prod.mk.injEq] at e2
     obtain ⟨rfl, rfl⟩ := e2
     obtain ⟨w', hr, hset⟩ := entryStore_ok (t := t) (hM t T hT') hrbS (ev x) (ev s) (ev y) e1 (by rw [e1] at hc; exact hc)
     have hl := h.setMapS (hset.sub hsub)
     exact ⟨.skip, undef, _, β, Z, by simp [hr], .inr ⟨rfl, rfl⟩, ⟨hl.sat.weaken (fun n hn => hn.1), hl.ev, hl.ext, hl.own, hl.zown⟩, trivial⟩
   · subst hp0; simp [Plan.eff] at he
 case h_29 => subst hp0; simp [Plan.eff] at he
end
end Go.Sx
