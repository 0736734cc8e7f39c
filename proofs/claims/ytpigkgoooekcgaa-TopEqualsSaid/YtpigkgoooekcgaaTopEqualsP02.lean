/- Texts for the law of the last part, part 2. -/
import Derived.Test.YtpigkgoooekcgaaTopEqualsP01
import Derived.CallsIn
import Derived.OrdersIn
import Derived.RangeFuncRecord
import Derived.Below
import Derived.OwnWalk
import Derived.Laws.World
import Derived.Laws.AppendOwn
import Derived.Laws.Sem
import Derived.Laws.CopyRow
import Derived.Laws.StructEq
import Derived.Laws.Slices
import Derived.Laws.MakeOwn
set_option linter.unusedSimpArgs false
set_option linter.unusedVariables false
namespace Go.Sx
inductive Loc where
 | no
 | virt
 | at (b : Nat) (len : Nat)
def RP (Z : Nat → Prop) (w : World) : CV → Value → Prop
 | .any, v => v.oneCell' = true
 | .tt, v => v = .bool true
 | .ff, v => v = .bool false
 | .bool b, v => v = .bool b
 | .int k n, v => v = .int k n
 | .str s, v => v = .string s
 | .nilp, v => v = .pointer none
 | .nils, v => v = .slice none 0 0
 | .nilm, v => v = .map none
 | .nilf, v => v = .nilFunc
 | .ip n get, v => ∃ b o, v = .pointer (some ⟨b, o, none⟩) ∧ Z b ∧ ∀ j, j < n → ∃ u, w.cell? ⟨b, o + j, none⟩ = some u ∧ RP Z w (get j) u
 | .stp _ _ s, v => v = .int .i64 s
 | .vs size len get, v => ∃ a cap, v = .slice a len cap ∧ len ≤ cap ∧
     (0 < len → ∃ b o, a = some ⟨b, o, none⟩ ∧ Z b ∧ ∀ i, i < len → ∀ j, j < size → ∃ u, w.cell? ⟨b, o + (i * size + j), none⟩ = some u ∧ RP Z w (get i j) u)
 | .vx size len get, v => ∃ a, v = .slice a len len ∧
     (0 < len → ∃ b o, a = some ⟨b, o, none⟩ ∧ Z b ∧ ∀ i, i < len → ∀ j, j < size → ∃ u, w.cell? ⟨b, o + (i * size + j), none⟩ = some u ∧ RP Z w (get i j) u)
 | .fn f sh _ nc cap, v => sh = [] ∧ ∃ cs : Array Value, v = .func (.func f) #[] cs ∧ cs.size = nc ∧ ∀ i, i < nc → ∃ u, cs[i]? = some u ∧ RP Z w (cap i) u
 | _, _ => False
def ROs (w : World) (l : Loc) (size len : Nat) (v : Value) : Prop :=
 match l with
 | .no => False
 | .virt => v = .slice none 0 0 ∧ len = 0
 | .at b ln => ln = len ∧ ∃ cap, v = .slice (some ⟨b, 0, none⟩) len cap ∧ len ≤ cap ∧ cap ≤ maxLen ∧ ∃ (cs : Array Value) (e : TypeId), w.heap[b]? = some (Obj.cells cs e (0, 0)) ∧ cs.size = cap * size
def RC (β : Nat → Loc) (Z : Nat → Prop) (w : World) : CV → Value → Prop
 | .ptr n off, v => ∃ b ln, β n = .at b ln ∧ v = .pointer (some ⟨b, off, none⟩)
 | .ep n size i off, v => ∃ b ln, β n = .at b ln ∧ v = .pointer (some ⟨b, i * size + off, none⟩) ∧ i < ln
 | .ax n off i sz len fo, v => ∃ b ln, β n = .at b ln ∧ v = .pointer (some ⟨b, off + i * sz + fo, none⟩) ∧ i < len
 | .os n size len, v => ROs w (β n) size len v
 | .mp n, v => ∃ b ln, β n = .at b ln ∧ v = .map (some b)
 | .yl n, v => ∃ b ln, β n = .at b ln ∧ v = .func (.yield b) #[] #[]
 | .fn f sh first nc cap, v => ∃ fs cs : Array Value, v = .func (.func f) fs cs ∧ fs.size = sh.length ∧ cs.size = nc ∧
     (∀ i, i < nc → ∃ u, cs[i]? = some u ∧ RC β Z w (cap i) u) ∧
     (∀ (i : Nat) (s : Option Nat), sh[i]? = some s → ∃ u, fs[i]? = some u ∧ (match s with
       | none => RC β Z w (first i 0) u
       | some n => ∃ xs : Array Value, u = Value.agg xs ∧ xs.size = n ∧ ∀ j, j < n → ∃ y, xs[j]? = some y ∧ RC β Z w (first i j) y))
 | x, v => RP Z w x v
def RT (β : Nat → Loc) (Z : Nat → Prop) (w : World) : TV → Value → Prop
 | .c x, v => RC β Z w x v
 | .a n get, v => ∃ cs : Array Value, v = .agg cs ∧ cs.size = n ∧ ∀ j, j < n → ∃ u, cs[j]? = some u ∧ RC β Z w (get j) u
def RA (β : Nat → Loc) (Z : Nat → Prop) (w : World) : AV → Value → Prop
 | .any, _ => True
 | .t x, v => RT β Z w x v
 | .tup l, v => ∃ vs : Array Value, v = .tuple vs ∧ vs.size = l.length ∧ ∀ (i : Nat) (x : TV), l[i]? = some x → ∃ u, vs[i]? = some u ∧ RT β Z w x u
def keyV (agg : Bool) (ks : List Int) : Value :=
 match agg with
 | true => .agg (ks.map (Value.int .i64)).toArray
 | false => .int .i64 (ks.headD 0)
def valV (vb : Bool) (x : Int) : Value :=
 match vb with
 | true => .bool (decide (x ≠ 0))
 | false => .int .i64 x
def KeyIs (T : MapT) (ks : List Int) : Prop := ks.length = T.n ∧ ∀ a ∈ ks, inRange .i64 a
structure RMap (T : MapT) (m : List Int → Option Int) (es : Array MapEntry) : Prop where
 ent : ∀ e ∈ es.toList, ∃ ks x, KeyIs T ks ∧ e.key = keyV T.agg ks ∧ m ks = some x ∧ e.val = valV T.vb x
 all : ∀ ks x, m ks = some x → KeyIs T ks ∧ ∃ e ∈ es.toList, e.key = keyV T.agg ks
 one : ∀ (i j : Nat) (e e' : MapEntry), es[i]? = some e → es[j]? = some e' → e.key = e'.key → i = j
structure RMapS (T : MapT) (m : List Int → Option (Int × Nat)) (es : Array MapEntry) (clk : Nat) : Prop where
 base : RMap T (fstM m) es
 born : ∀ e ∈ es.toList, ∃ ks x, KeyIs T ks ∧ e.key = keyV T.agg ks ∧ m ks = some (x, e.born)
 uniq : ∀ (i j : Nat) (e e' : MapEntry), es[i]? = some e → es[j]? = some e' → e.born = e'.born → i = j
 lt : ∀ e ∈ es.toList, e.born < clk
def RB (β : Nat → Loc) (Z : Nat → Prop) (w : World) : Loc → Blk → Prop
 | .at b _, .box n get => ∃ (cs : Array Value) (e : TypeId), w.heap[b]? = some (Obj.cells cs e (0, 0)) ∧ cs.size = n ∧ ∀ j, j < n → ∃ u, cs[j]? = some u ∧ RC β Z w (get j) u
 | .at b ln, .row e size len get => ln = len ∧ ∃ cs : Array Value, w.heap[b]? = some (Obj.cells cs e (0, 0)) ∧ len * size ≤ cs.size ∧
     ∀ i, i < len → ∀ j, j < size → ∃ u, cs[i * size + j]? = some u ∧ RP Z w (get i j) u
 | .virt, .row _ _ len _ => len = 0
 | .at b _, .mp T m => ∃ (es : Array MapEntry) (clock : Nat), w.heap[b]? = some (.map es clock) ∧ RMap T m es
 | .at b _, .mpI T I => ∃ (es : Array MapEntry) (clock : Nat) (m : List Int → Option Int), w.heap[b]? = some (.map es clock) ∧ RMap T m es ∧ ∀ ks x, m ks = some x → I ks x
 | .at b _, .mq T m clk => ∃ es : Array MapEntry, w.heap[b]? = some (.map es clk) ∧ RMapS T m es clk
 | .at b _, .lp _ sz tm ps asg body busy pend => ∃ r : Loop, w.heap[b]? = some (Obj.loop r) ∧ r.tmps.size = sz ∧ (∀ t, RA β Z w (tm t) (r.tmps.getD t undef)) ∧
     r.params.toList = ps ∧ r.assign = asg ∧ r.body = body ∧ r.state = (if busy then LoopState.busy else if pend.isNone then .ready else .done) ∧ r.pending = pend.bind codeExit
 | _, _ => False
def SameLoop (r r' : Loop) : Prop := r'.tmps = r.tmps ∧ r'.fn = r.fn ∧ r'.params = r.params ∧ r'.assign = r.assign ∧ r'.body = r.body ∧ r'.defers = r.defers
structure Evo (own : Nat → Prop) (Z : Nat → Prop) (w : World) (Z' : Nat → Prop) (w' : World) : Prop where
 os : w'.os = w.os
 tape : w'.tape = w.tape
 output : w'.output = w.output
 size : w.heap.size ≤ w'.heap.size
 same : ∀ b : Nat, b < w.heap.size → ¬ own b → w'.heap[b]? = w.heap[b]?
 rows : ∀ (b : Nat) (cs : Array Value) (e : TypeId), w.heap[b]? = some (Obj.cells cs e (0, 0)) → ∃ cs' : Array Value, w'.heap[b]? = some (Obj.cells cs' e (0, 0)) ∧ cs'.size = cs.size
 loops : ∀ (b : Nat) (r : Loop), w.heap[b]? = some (Obj.loop r) → ∃ r', w'.heap[b]? = some (Obj.loop r') ∧ SameLoop r r'
 zmono : ∀ b, Z b → Z' b
theorem Evo.refl (own : Nat → Prop) (Z : Nat → Prop) (w : World) : Evo own Z w Z w :=
 ⟨rfl, rfl, rfl, Nat.le_refl _, fun _ _ _ => rfl, fun _ cs _ h => ⟨cs, h, rfl⟩, fun _ r h => ⟨r, h, rfl, rfl, rfl, rfl, rfl, rfl⟩, fun _ h => h⟩
theorem Evo.trans {own own' : Nat → Prop} {Z Z' Z'' : Nat → Prop} {w w' w'' : World} (h : Evo own Z w Z' w') (h' : Evo own' Z' w' Z'' w'')
   (ho : ∀ b, own' b → own b ∨ w.heap.size ≤ b) : Evo own Z w Z'' w'' := by
 refine ⟨h'.os.trans h.os, h'.tape.trans h.tape, h'.output.trans h.output, Nat.le_trans h.size h'.size, fun b hb hn => ?_, fun b cs e hc => ?_, fun b r hr => ?_, fun b hz => h'.zmono b (h.zmono b hz)⟩
 · rw [h'.same b (Nat.lt_of_lt_of_le hb h.size) (fun ho' => (ho b ho').elim hn (fun hle => by omega)), h.same b hb hn]
 · obtain ⟨cs', h1, h2⟩ := h.rows b cs e hc
   obtain ⟨cs'', h3, h4⟩ := h'.rows b cs' e h1
   exact ⟨cs'', h3, h4.trans h2⟩
 · obtain ⟨r', h1, a1, a2, a3, a4, a5, a6⟩ := h.loops b r hr
   obtain ⟨r'', h3, b1, b2, b3, b4, b5, b6⟩ := h'.loops b r' h1
   exact ⟨r'', h3, b1.trans a1, b2.trans a2, b3.trans a3, b4.trans a4, b5.trans a5, b6.trans a6⟩
theorem Evo.weaken {own own' : Nat → Prop} {Z Z' : Nat → Prop} {w w' : World} (h : Evo own Z w Z' w') (ho : ∀ b, own b → own' b) : Evo own' Z w Z' w' :=
 ⟨h.os, h.tape, h.output, h.size, fun b hb hn => h.same b hb (fun h' => hn (ho b h')), h.rows, h.loops, h.zmono⟩
def Calm (own : Nat → Prop) (Z : Nat → Prop) (w : World) : Prop := ∀ b : Nat, Z b → b < w.heap.size ∧ ¬ own b
section mono
variable {own Z Z' : Nat → Prop} {w w' : World} {β β' : Nat → Loc}
theorem Evo.cell (h : Evo own Z w Z' w') (hc : Calm own Z w) {b o : Nat} (hz : Z b) : w'.cell? ⟨b, o, none⟩ = w.cell? ⟨b, o, none⟩ := by
 obtain ⟨h1, h2⟩ := hc b hz
 simp only [World.cell?, h.same b h1 h2]
theorem RP.mono (h : Evo own Z w Z' w') (hc : Calm own Z w) : ∀ {x : CV} {v : Value}, RP Z w x v → RP Z' w' x v := by
 intro x
 induction x with
 | ip n get ih =>
   rintro v ⟨b, o, rfl, hz, hg⟩
   refine ⟨b, o, rfl, h.zmono b hz, fun j hj => ?_⟩
   obtain ⟨u, hu, hr⟩ := hg j hj
   exact ⟨u, by rw [h.cell hc hz]; exact hu, ih j hr⟩
 | vs size len get ih =>
   rintro v ⟨a, cap, rfl, hl, hg⟩
   refine ⟨a, cap, rfl, hl, fun hpos => ?_⟩
   obtain ⟨b, o, rfl, hz, hcell⟩ := hg hpos
   refine ⟨b, o, rfl, h.zmono b hz, fun i hi j hj => ?_⟩
   obtain ⟨u, hu, hr⟩ := hcell i hi j hj
   exact ⟨u, by rw [h.cell hc hz]; exact hu, ih i j hr⟩
 | vx size len get ih =>
   rintro v ⟨a, rfl, hg⟩
   refine ⟨a, rfl, fun hpos => ?_⟩
   obtain ⟨b, o, rfl, hz, hcell⟩ := hg hpos
   refine ⟨b, o, rfl, h.zmono b hz, fun i hi j hj => ?_⟩
   obtain ⟨u, hu, hr⟩ := hcell i hi j hj
   exact ⟨u, by rw [h.cell hc hz]; exact hu, ih i j hr⟩
 | fn f sh first nc cap ih1 ih2 =>
   rintro v ⟨rfl, cs, rfl, h1, h2⟩
   exact ⟨rfl, cs, rfl, h1, fun i hi => let ⟨u, hu, hr⟩ := h2 i hi; ⟨u, hu, ih2 i hr⟩⟩
 | _ => intro v hv; exact hv
theorem ROs.mono (h : Evo own Z w Z' w') {l : Loc} {size len : Nat} {v : Value} (hv : ROs w l size len v) : ROs w' l size len v := by
 cases l with
 | no => exact hv
 | virt => exact hv
 | «at» b ln =>
   obtain ⟨h0, cap, rfl, h1, h2, cs, e, h3, h4⟩ := hv
   obtain ⟨cs', h5, h6⟩ := h.rows b cs e h3
   exact ⟨h0, cap, rfl, h1, h2, cs', e, h5, h6.trans h4⟩
def Ext (β β' : Nat → Loc) : Prop := ∀ n, β n ≠ .no → β' n = β n
theorem Ext.at (h : Ext β β') {n b ln : Nat} (hb : β n = .at b ln) : β' n = .at b ln := by rw [h n (by rw [hb]; simp), hb]
theorem Ext.refl (β : Nat → Loc) : Ext β β := fun _ _ => rfl
theorem Ext.trans {β'' : Nat → Loc} (h : Ext β β') (h' : Ext β' β'') : Ext β β'' := fun n hn => by
 rw [h' n (by rw [h n hn]; exact hn), h n hn]
theorem RC.mono (h : Evo own Z w Z' w') (hc : Calm own Z w) (hβ : Ext β β') : ∀ {x : CV} {v : Value}, RC β Z w x v → RC β' Z' w' x v := by
 intro x
 induction x with
 | ptr n off => rintro v ⟨b, ln, hb, rfl⟩; exact ⟨b, ln, hβ.at hb, rfl⟩
 | ep n size i off => rintro v ⟨b, ln, hb, rfl, hi⟩; exact ⟨b, ln, hβ.at hb, rfl, hi⟩
 | ax n off i sz len fo => rintro v ⟨b, ln, hb, rfl, hi⟩; exact ⟨b, ln, hβ.at hb, rfl, hi⟩
 | mp n => rintro v ⟨b, ln, hb, rfl⟩; exact ⟨b, ln, hβ.at hb, rfl⟩
 | yl n => rintro v ⟨b, ln, hb, rfl⟩; exact ⟨b, ln, hβ.at hb, rfl⟩
 | os n size len =>
   intro v hv
   have hv' : ROs w (β n) size len v := hv
   show ROs w' (β' n) size len v
   rw [hβ n (by intro e; rw [e] at hv'; exact hv')]
   exact hv'.mono h
 | fn f sh first nc cap ih1 ih2 =>
   rintro v ⟨fs, cs, rfl, h1, h2, h3, h4⟩
   refine ⟨fs, cs, rfl, h1, h2, fun i hi => ?_, fun i s hs => ?_⟩
   · obtain ⟨u, hu, hr⟩ := h3 i hi
     exact ⟨u, hu, ih2 i hr⟩
   · obtain ⟨u, hu, hr⟩ := h4 i s hs
     refine ⟨u, hu, ?_⟩
     cases s with
     | none => exact ih1 i 0 hr
     | some n =>
       obtain ⟨xs, rfl, hx, hy⟩ := hr
       exact ⟨xs, rfl, hx, fun j hj => let ⟨y, hy1, hy2⟩ := hy j hj; ⟨y, hy1, ih1 i j hy2⟩⟩
 | ip n get => intro v hv; exact RP.mono h hc (x := .ip n get) hv
 | vs size len get => intro v hv; exact RP.mono h hc (x := .vs size len get) hv
 | vx size len get => intro v hv; exact RP.mono h hc (x := .vx size len get) hv
 | _ => intro v hv; exact hv
theorem RT.mono (h : Evo own Z w Z' w') (hc : Calm own Z w) (hβ : Ext β β') {x : TV} {v : Value} (hv : RT β Z w x v) : RT β' Z' w' x v := by
 cases x with
 | c x => exact RC.mono h hc hβ hv
 | a n get =>
   obtain ⟨cs, rfl, h1, h2⟩ := hv
   exact ⟨cs, rfl, h1, fun j hj => let ⟨u, hu, hr⟩ := h2 j hj; ⟨u, hu, RC.mono h hc hβ hr⟩⟩
theorem RA.mono (h : Evo own Z w Z' w') (hc : Calm own Z w) (hβ : Ext β β') {x : AV} {v : Value} (hv : RA β Z w x v) : RA β' Z' w' x v := by
 cases x with
 | any => trivial
 | t x => exact RT.mono h hc hβ hv
 | tup l =>
   obtain ⟨vs, rfl, h1, h2⟩ := hv
   exact ⟨vs, rfl, h1, fun i x hx => let ⟨u, hu, hr⟩ := h2 i x hx; ⟨u, hu, RT.mono h hc hβ hr⟩⟩
theorem RB.mono (h : Evo own Z w Z' w') (hc : Calm own Z w) (hβ : Ext β β') {l : Loc} {x : Blk} (hsame : ∀ b ln, l = .at b ln → w'.heap[b]? = w.heap[b]?) (hv : RB β Z w l x) : RB β' Z' w' l x := by
 cases l with
 | no => cases x <;> exact hv.elim
 | virt => cases x <;> first | exact hv | exact hv.elim
 | «at» b ln =>
   have hs := hsame b ln rfl
   cases x with
   | box n get =>
     obtain ⟨cs, e, h1, h2, h3⟩ := hv
     exact ⟨cs, e, by rw [hs]; exact h1, h2, fun j hj => let ⟨u, hu, hr⟩ := h3 j hj; ⟨u, hu, RC.mono h hc hβ hr⟩⟩
   | row e size len get =>
     obtain ⟨h0, cs, h1, h2, h3⟩ := hv
     exact ⟨h0, cs, by rw [hs]; exact h1, h2, fun i hi j hj => let ⟨u, hu, hr⟩ := h3 i hi j hj; ⟨u, hu, RP.mono h hc hr⟩⟩
   | mp T m =>
     obtain ⟨es, clock, h1, h2⟩ := hv
     exact ⟨es, clock, by rw [hs]; exact h1, h2⟩
   | mpI T I =>
     obtain ⟨es, clock, m, h1, h2⟩ := hv
     exact ⟨es, clock, m, by rw [hs]; exact h1, h2⟩
   | mq T m clk =>
     obtain ⟨es, h1, h2⟩ := hv
     exact ⟨es, by rw [hs]; exact h1, h2⟩
   | lp fid sz tm ps asg body busy pend =>
     obtain ⟨r, h1, h2, h3, h4⟩ := hv
     exact ⟨r, by rw [hs]; exact h1, h2, fun t => RA.mono h hc hβ (h3 t), h4⟩
end mono
end Go.Sx
namespace Go.Sx
theorem sameB_eq {a b : Bool} (h : sameB a b = true) : a = b := by cases a <;> cases b <;> first | rfl | cases h
theorem sameT_eq {T T' : MapT} (h : sameT T T' = true) : T = T' := by
 obtain ⟨k, v, agg, n, vb⟩ := T
 obtain ⟨k', v', agg', n', vb'⟩ := T'
 simp only [sameT, Bool.and_eq_true] at h
 obtain ⟨⟨⟨⟨h1, h2⟩, h3⟩, h4⟩, h5⟩ := h
 obtain rfl := Nat.eq_of_beq_eq_true h1
 obtain rfl := Nat.eq_of_beq_eq_true h2
 obtain rfl := sameB_eq h3
 obtain rfl := Nat.eq_of_beq_eq_true h4
 obtain rfl := sameB_eq h5
 rfl
theorem beq_ne {a b : Nat} (h : a ≠ b) : Nat.beq a b = false := by
 cases h0 : Nat.beq a b with
 | true => exact absurd (Nat.eq_of_beq_eq_true h0) h
 | false => rfl
theorem upd_same {α : Type} (f : Nat → α) (i : Nat) (x : α) : upd f i x i = x := by
 unfold upd; rw [Nat.beq_refl]
theorem upd_ne {α : Type} (f : Nat → α) {i j : Nat} (x : α) (h : j ≠ i) : upd f i x j = f j := by
 unfold upd; rw [beq_ne h]
def kindOf (P : Program) (t : Nat) : TypeDesc → Option TK
 | .bool => some .bool
 | .int k => some (.int k)
 | .string => some .str
 | .pointer _ => some .ptr
 | .slice e => some (.slice e)
 | .struct fs => if (fs.toList.all fun f => f.name != "_" && (P.info? f.type).isSome) && !P.stoodInHeld t && !P.eqGuardType P.depth t then some (.struct (fs.toList.map fun f => (f.offset, f.type))) else some .other
 | .array n e => if !P.eqGuardType P.depth t then some (.array n e) else some .other
 | .map k v => some (.map k v)
 | .func _ _ _ => some .func
 | _ => none
def lits : List Value → Option (List CV)
 | [] => some []
 | v :: l => match litCV v, lits l with
   | some x, some r => some (x :: r)
   | _, _ => none
def isAggV : Value → Bool
 | .agg _ => true
 | _ => false
def tabTI (P : Program) (t : Nat) : Option TI :=
 match P.info? t, P.underlying t with
 | some i, some d => match kindOf P t d, i.zero with
   | some k, some z => match lits z.cells.toList with
     | some l => if l.length = i.size ∧ (k.isAgg = isAggV z) ∧ (k.isAgg = false → i.size = 1) then some ⟨k, i.size, i.bytes, l⟩ else none
     | none => none
   | _, _ => none
 | _, _ => none
theorem lits_length : ∀ {l : List Value} {r : List CV}, lits l = some r → r.length = l.length
 | [], r, h => by simp [lits] at h; subst h; rfl
 | v :: l, r, h => by
   simp only [lits] at h
   split at h
   · rename_i x r' h1 h2
     simp at h; subst h
     simp [lits_length h2]
   · simp at h
theorem lits_get : ∀ {l : List Value} {r : List CV}, lits l = some r → ∀ (j : Nat) (x : CV), r[j]? = some x → ∃ u, l[j]? = some u ∧ litCV u = some x
 | [], r, h => by simp [lits] at h; subst h; intro j x hx; simp at hx
 | v :: l, r, h => by
   simp only [lits] at h
   split at h
   · rename_i x0 r' h1 h2
     simp at h; subst h
     intro j x hx
     cases j with
     | zero => simp at hx; subst hx; exact ⟨v, rfl, h1⟩
     | succ j => simp at hx; simpa using lits_get h2 j x hx
   · simp at h
structure TyF (P : Program) (t : Nat) (ti : TI) (i : TypeInfo) (d : TypeDesc) (z : Value) : Prop where
 info : P.info? t = some i
 und : P.underlying t = some d
 kind : kindOf P t d = some ti.kind
 zero : i.zero = some z
 size : i.size = ti.size
 bytes : i.bytes = ti.bytes
 zlits : lits z.cells.toList = some ti.zero
 zlen : ti.zero.length = ti.size
 agg : ti.isAgg = isAggV z
 one : ti.isAgg = false → ti.size = 1
theorem tabTI_spec {P : Program} {t : Nat} {ti : TI} (h : tabTI P t = some ti) : ∃ i d z, TyF P t ti i d z := by
 unfold tabTI at h
 split at h
 · rename_i i d h1 h2
   split at h
   · rename_i k z h3 h4
     split at h
     · rename_i l h5
       split at h
       · rename_i h6
         simp at h; subst h
         exact ⟨i, d, z, h1, h2, h3, h4, rfl, rfl, h5, h6.1, h6.2.1, h6.2.2⟩
       · simp at h
     · simp at h
   · simp at h
 · simp at h
section
variable {P : Program} {w : World}
theorem TyF.run_und {t : Nat} {ti : TI} {i : TypeInfo} {d : TypeDesc} {z : Value} (h : TyF P t ti i d z) : (underlying t).run P w = .ok d w := run_underlying h.und w
theorem TyF.run_size {t : Nat} {ti : TI} {i : TypeInfo} {d : TypeDesc} {z : Value} (h : TyF P t ti i d z) : (sizeOf t).run P w = .ok ti.size w := by
 simp [sizeOf, typeInfo, h.info, h.size]
theorem TyF.run_info {t : Nat} {ti : TI} {i : TypeInfo} {d : TypeDesc} {z : Value} (h : TyF P t ti i d z) : (typeInfo t).run P w = .ok i w := by
 simp [typeInfo, h.info]
theorem TyF.run_zero {t : Nat} {ti : TI} {i : TypeInfo} {d : TypeDesc} {z : Value} (h : TyF P t ti i d z) : (zeroValue t).run P w = .ok z w := by
 simp [zeroValue, typeInfo, h.info, h.zero]
theorem TyF.run_isAgg {t : Nat} {ti : TI} {i : TypeInfo} {d : TypeDesc} {z : Value} (h : TyF P t ti i d z) (ho : ti.kind ≠ .other) : (isAgg t).run P w = .ok ti.isAgg w := by
 have hk := h.kind
 simp only [isAgg, Sem.run_bind, h.run_und, Result.andThen_ok, TI.isAgg]
 cases d <;> simp only [kindOf] at hk <;> try (simp at hk; done)
 all_goals first
   | (injection hk with hk; rw [← hk]; rfl)
   | (split at hk
      · injection hk with hk; rw [← hk]; rfl
      · injection hk with hk; exact absurd hk.symm ho)
theorem TyF.slice {t : Nat} {ti : TI} {i : TypeInfo} {d : TypeDesc} {z : Value} {e : Nat} (h : TyF P t ti i d z) (hk : ti.kind = .slice e) : d = .slice e := by
 have := h.kind
 rw [hk] at this
 cases d <;> simp only [kindOf] at this <;> try (simp at this; done)
 · injection this with this; injection this with this; rw [this]
 all_goals (split at this <;> simp at this)
theorem TyF.array {t : Nat} {ti : TI} {i : TypeInfo} {d : TypeDesc} {z : Value} {n e : Nat} (h : TyF P t ti i d z) (hk : ti.kind = .array n e) : d = .array n e ∧ P.eqGuardType P.depth t = false := by
 have := h.kind
 rw [hk] at this
 cases d <;> simp only [kindOf] at this <;> try (simp at this; done)
 · split at this
   · rename_i hc
     injection this with this; injection this with h1 h2; subst h1; subst h2
     exact ⟨rfl, by simpa using hc⟩
   · simp at this
 · split at this <;> simp at this
theorem TyF.struct {t : Nat} {ti : TI} {i : TypeInfo} {d : TypeDesc} {z : Value} {l : List (Nat × TypeId)} (h : TyF P t ti i d z) (hk : ti.kind = .struct l) :
   ∃ fs : Array Field, d = .struct fs ∧ l = fs.toList.map (fun f => (f.offset, f.type)) ∧ (∀ f ∈ fs.toList, f.name ≠ "_" ∧ (P.info? f.type).isSome = true) ∧ P.stoodInHeld t = false ∧ P.eqGuardType P.depth t = false := by
 have := h.kind
 rw [hk] at this
 cases d <;> simp only [kindOf] at this <;> try (simp at this; done)
 · split at this <;> simp at this
 rename_i fs
 split at this
 · rename_i hc
   simp only [Bool.and_eq_true, List.all_eq_true, bne_iff_ne, Bool.not_eq_true'] at hc
   injection this with this; injection this with this
   exact ⟨fs, rfl, this.symm, hc.1.1, hc.1.2, hc.2⟩
 · simp at this
theorem TyF.map {t : Nat} {ti : TI} {i : TypeInfo} {d : TypeDesc} {z : Value} {k v : Nat} (h : TyF P t ti i d z) (hk : ti.kind = .map k v) : d = .map k v := by
 have := h.kind
 rw [hk] at this
 cases d <;> simp only [kindOf] at this <;> try (simp at this; done)
 · split at this <;> simp at this
 · injection this with this; injection this with h1 h2; rw [h1, h2]
 · split at this <;> simp at this
theorem TyF.str {t : Nat} {ti : TI} {i : TypeInfo} {d : TypeDesc} {z : Value} (h : TyF P t ti i d z) (hk : ti.kind = .str) : d = .string := by
 have := h.kind
 rw [hk] at this
 cases d <;> simp only [kindOf] at this <;> try (simp at this; done)
 · rfl
 all_goals (split at this <;> simp at this)
theorem TyF.int {t : Nat} {ti : TI} {i : TypeInfo} {d : TypeDesc} {z : Value} {k : IntKind} (h : TyF P t ti i d z) (hk : ti.kind = .int k) : d = .int k := by
 have := h.kind
 rw [hk] at this
 cases d <;> simp only [kindOf] at this <;> try (simp at this; done)
 · injection this with this; injection this with this; rw [this]
 all_goals (split at this <;> simp at this)
theorem TyF.bool {t : Nat} {ti : TI} {i : TypeInfo} {d : TypeDesc} {z : Value} (h : TyF P t ti i d z) (hk : ti.kind = .bool) : d = .bool := by
 have := h.kind
 rw [hk] at this
 cases d <;> simp only [kindOf] at this <;> try (simp at this; done)
 · rfl
 all_goals (split at this <;> simp at this)
end
def AllP : List Prop → Prop
 | [] => True
 | c :: l => c ∧ AllP l
theorem conj_iff : ∀ (c : List Prop) (p : Prop), conj c p ↔ AllP c ∧ p
 | [], p => by simp [conj, AllP]
 | c :: l, p => by simp [conj, AllP, conj_iff l p, and_assoc]
theorem need_ok {b : Bool} {p q : Plan} (h : need b p = q) (hq : q ≠ .bad) : b = true ∧ p = q := by
 cases b
 · exact absurd h.symm hq
 · exact ⟨rfl, h⟩
section
variable {β : Nat → Loc} {Z : Nat → Prop} {w : World}
theorem RP.one : ∀ {x : CV} {v : Value}, RP Z w x v → v.oneCell' = true := by
 intro x v h
 cases x <;> simp only [RP] at h <;> first
   | exact h
   | (subst h; rfl)
   | (obtain ⟨b, o, rfl, _⟩ := h; rfl)
   | (obtain ⟨_, _, rfl⟩ := h; rfl)
   | (obtain ⟨_, rfl, _⟩ := h; rfl)
   | exact h.elim
theorem ROs.one {l : Loc} {size len : Nat} {v : Value} (h : ROs w l size len v) : v.oneCell' = true := by
 cases l with
 | no => exact h.elim
 | virt => obtain ⟨rfl, _⟩ := h; rfl
 | «at» b ln => obtain ⟨_, cap, rfl, _⟩ := h; rfl
theorem RC.one : ∀ {x : CV} {v : Value}, RC β Z w x v → v.oneCell' = true := by
 intro x v h
 cases x <;> simp only [RC] at h <;> first
   | exact RP.one h
   | exact ROs.one h
   | (obtain ⟨b, _, _, rfl, _⟩ := h; rfl)
   | (obtain ⟨b, _, _, rfl⟩ := h; rfl)
   | (obtain ⟨fs, cs, rfl, _⟩ := h; rfl)
theorem RC.of_RP : ∀ {x : CV} {v : Value}, RP Z w x v → RC β Z w x v := by
 intro x
 induction x with
 | fn f sh first nc cap ih1 ih2 =>
   rintro v ⟨rfl, cs, rfl, h1, h2⟩
   exact ⟨#[], cs, rfl, rfl, h1, fun i hi => let ⟨u, hu, hr⟩ := h2 i hi; ⟨u, hu, ih2 i hr⟩, fun i s hs => by simp at hs⟩
 | _ =>
   intro v h
   first
     | exact h
     | (simp only [RP] at h)
theorem RP.of_RC : ∀ {x : CV} {v : Value}, isPure x = true → RC β Z w x v → RP Z w x v := by
 intro x
 induction x with
 | fn f sh first nc cap ih1 ih2 =>
   intro v hp h
   simp only [isPure, Bool.and_eq_true, List.isEmpty_iff, List.all_eq_true, List.mem_range] at hp
   obtain ⟨fs, cs, rfl, h1, h2, h3, _⟩ := h
   obtain ⟨rfl, hp2⟩ := hp
   have e1 : fs = #[] := by simpa using h1
   subst e1
   exact ⟨rfl, cs, rfl, h2, fun i hi => let ⟨u, hu, hr⟩ := h3 i hi; ⟨u, hu, ih2 i (hp2 i hi) hr⟩⟩
 | _ =>
   intro v hp h
   first
     | (simp [isPure] at hp; done)
     | exact h
theorem RC.lit {v : Value} {x : CV} (h : litCV v = some x) : RP Z w x v := by
 unfold litCV at h
 split at h <;> simp at h <;> subst h <;> rfl
theorem cells_one {v : Value} (h : v.oneCell' = true) : v.cells = #[v] := by
 cases v <;> simp [Value.oneCell'] at h <;> rfl
theorem RT.cells {x : TV} {v : Value} (h : RT β Z w x v) : v.cells.size = x.cells.1 ∧ ∀ j, j < x.cells.1 → ∃ u, v.cells[j]? = some u ∧ RC β Z w (x.cells.2 j) u := by
 cases x with
 | c y =>
   have h1 := cells_one (RC.one h)
   rw [h1]
   refine ⟨rfl, fun j hj => ?_⟩
   have : j = 0 := by simp only [TV.cells] at hj; omega
   subst this
   exact ⟨v, rfl, h⟩
 | a n get =>
   obtain ⟨cs, rfl, h1, h2⟩ := h
   exact ⟨h1, h2⟩
theorem cells_one_of (v : Value) (h : ∀ (j : Nat) (u : Value), v.cells[j]? = some u → u.oneCell' = true) : ∀ u ∈ v.cells.toList, u.oneCell' = true := by
 intro u hu
 obtain ⟨j, hj⟩ := List.mem_iff_getElem?.1 hu
 exact h j u (by simpa using hj)
theorem RT.allOne {x : TV} {v : Value} (h : RT β Z w x v) : ∀ u ∈ v.cells.toList, u.oneCell' = true := by
 obtain ⟨h1, h2⟩ := RT.cells h
 refine cells_one_of v fun j u hj => ?_
 have hlt : j < x.cells.1 := by
   rw [← h1]
   rcases Nat.lt_or_ge j v.cells.size with h' | h'
   · exact h'
   · simp [Array.getElem?_eq_none h'] at hj
 obtain ⟨u', hu', hr⟩ := h2 j hlt
 rw [hj] at hu'; injection hu' with e; subst e
 exact RC.one hr
end
section
variable {P : Program} {β : Nat → Loc} {Z : Nat → Prop} {w : World}
theorem addr_add (b o j : Nat) : (⟨b, o, none⟩ : Addr).add j = ⟨b, o + j, none⟩ := by
 unfold Addr.add; split
 · rename_i h; simp [h]
 · rfl
theorem loadVar_ok {t : Nat} {ti : TI} {i : TypeInfo} {d : TypeDesc} {z : Value} (hT : TyF P t ti i d z) (ho : ti.kind ≠ .other) {b o : Nat} {get : Nat → CV}
   (h : ∀ j, j < ti.size → ∃ u, w.cell? ⟨b, o + j, none⟩ = some u ∧ RC β Z w (get j) u) :
   ∃ u, (loadVar t ⟨b, o, none⟩).run P w = .ok u w ∧ RT β Z w (mkTV ti get) u := by
 unfold loadVar
 simp only [Sem.run_bind, hT.run_isAgg ho, Result.andThen_ok]
 cases hA : ti.isAgg with
 | true =>
   have hf : ∀ j, j < ti.size → w.cell? ((⟨b, o, none⟩ : Addr).add j) = some ((w.cell? ⟨b, o + j, none⟩).getD undef) := fun j hj => by
     obtain ⟨u, hu, _⟩ := h j hj
     rw [addr_add, hu]; rfl
   refine ⟨.agg ((List.range ti.size).map fun j => (w.cell? ⟨b, o + j, none⟩).getD undef).toArray, ?_, ?_⟩
   · simp only [if_true, Sem.run_bind, hT.run_size, Result.andThen_ok]
     rw [run_loadCells w ⟨b, o, none⟩ ti.size (fun j => (w.cell? ⟨b, o + j, none⟩).getD undef) hf]
     rfl
   · simp only [mkTV, hA, if_true]
     refine ⟨_, rfl, by simp, fun j hj => ?_⟩
     obtain ⟨u, hu, hr⟩ := h j hj
     exact ⟨u, by simp [hj, hu], hr⟩
 | false =>
   have h1 := hT.one hA
   obtain ⟨u, hu, hr⟩ := h 0 (by omega)
   refine ⟨u, ?_, ?_⟩
   · simp only [Nat.add_zero] at hu
     simp [run_load, hu]
   · simp only [mkTV, hA, Bool.false_eq_true, if_false]
     exact hr
theorem cell_of_heap {b o : Nat} {cs : Array Value} {e : TypeId} {f : Nat × Nat} (h : w.heap[b]? = some (.cells cs e f)) : w.cell? ⟨b, o, none⟩ = cs[o]? := by
 simp [World.cell?, h]
theorem shift_eq (get : Nat → CV) (off j : Nat) : shift get off j = get (j + off) := by
 cases off <;> rfl
theorem load_ok {t : Nat} {ti : TI} (hT : tabTI P t = some ti) (ho : ti.kind ≠ .other) {hp : Nat → Option Blk} (hhp : ∀ n blk, hp n = some blk → RB β Z w (β n) blk)
   {x : AV} {v : Value} (hx : RA β Z w x v) {c : List Prop} {y : AV} (h : planLoad hp ti x = .ok c y) (hc : AllP c) :
   ∃ u, (Instr.loadAt t v).run P w = .ok u w ∧ RA β Z w y u := by
 obtain ⟨i, d, z, hT⟩ := tabTI_spec hT
 unfold planLoad at h
 split at h
 ·
   rename_i n off
   obtain ⟨b, ln, hb, rfl⟩ := hx
   split at h
   · rename_i m get hm
     obtain ⟨hble, h⟩ := need_ok h (by simp)
     simp at h; obtain ⟨rfl, rfl⟩ := h
     have hrb := hhp n _ hm
     rw [hb] at hrb
     obtain ⟨cs, e, h1, h2, h3⟩ := hrb
     have hle : off + ti.size ≤ m := Nat.le_of_ble_eq_true hble
     obtain ⟨u, hu, hr⟩ := loadVar_ok (β := β) (Z := Z) hT ho (b := b) (o := off) (get := shift get off) (fun j hj => by
       obtain ⟨u, hu, hr⟩ := h3 (j + off) (by omega)
       exact ⟨u, by rw [cell_of_heap h1, Nat.add_comm off j]; exact hu, by rw [shift_eq]; exact hr⟩)
     exact ⟨u, by simpa [Instr.loadAt, Instr.sureAddr] using hu, hr⟩
   · simp at h
 ·
   rename_i n off k sz len fo
   obtain ⟨b, ln, hb, rfl, hk⟩ := hx
   split at h
   · rename_i m get hm
     obtain ⟨hble, h⟩ := need_ok h (by simp)
     simp at h; obtain ⟨rfl, rfl⟩ := h
     simp only [Bool.and_eq_true] at hble
     have hrb := hhp n _ hm
     rw [hb] at hrb
     obtain ⟨cs, e, h1, h2, h3⟩ := hrb
     have hle : off + len * sz ≤ m := Nat.le_of_ble_eq_true hble.1
     have hle2 : fo + ti.size ≤ sz := Nat.le_of_ble_eq_true hble.2
     have hks : (k + 1) * sz ≤ len * sz := Nat.mul_le_mul_right _ hk
     rw [Nat.add_mul, Nat.one_mul] at hks
     obtain ⟨u, hu, hr⟩ := loadVar_ok (β := β) (Z := Z) hT ho (b := b) (o := off + k * sz + fo) (get := fun j => get (off + k * sz + fo + j)) (fun j hj => by
       obtain ⟨u, hu, hr⟩ := h3 (off + k * sz + fo + j) (by omega)
       exact ⟨u, by rw [cell_of_heap h1]; exact hu, hr⟩)
     exact ⟨u, by simpa [Instr.loadAt, Instr.sureAddr] using hu, hr⟩
   · simp at h
 ·
   rename_i n sz k off
   obtain ⟨b, ln, hb, rfl, hk⟩ := hx
   split at h
   · rename_i e size len get hm
     obtain ⟨hble, h⟩ := need_ok h (by simp)
     simp at h; obtain ⟨rfl, rfl⟩ := h
     simp only [Bool.and_eq_true] at hble
     have hrb := hhp n _ hm
     rw [hb] at hrb
     obtain ⟨rfl, cs, h1, h2, h3⟩ := hrb
     have hle : off + ti.size ≤ size := Nat.le_of_ble_eq_true hble.2
     have hsz : sz = size := Nat.eq_of_beq_eq_true hble.1
     subst hsz
     obtain ⟨u, hu, hr⟩ := loadVar_ok (β := β) (Z := Z) hT ho (b := b) (o := k * sz + off) (get := shift (get k) off) (fun j hj => by
       obtain ⟨u, hu, hr⟩ := h3 k hk (j + off) (by omega)
       exact ⟨u, by rw [cell_of_heap h1, Nat.add_assoc, Nat.add_comm off j]; exact hu, by rw [shift_eq]; exact RC.of_RP hr⟩)
     exact ⟨u, by simpa [Instr.loadAt, Instr.sureAddr] using hu, hr⟩
   · rename_i m get hm
     simp at h; obtain ⟨rfl, rfl⟩ := h
     have hle : k * sz + off + ti.size ≤ m := hc.1
     have hrb := hhp n _ hm
     rw [hb] at hrb
     obtain ⟨cs, e, h1, h2, h3⟩ := hrb
     obtain ⟨u, hu, hr⟩ := loadVar_ok (β := β) (Z := Z) hT ho (b := b) (o := k * sz + off) (get := fun j => get (k * sz + off + j)) (fun j hj => by
       obtain ⟨u, hu, hr⟩ := h3 (k * sz + off + j) (by omega)
       exact ⟨u, by rw [cell_of_heap h1]; exact hu, hr⟩)
     exact ⟨u, by simpa [Instr.loadAt, Instr.sureAddr] using hu, hr⟩
   · simp at h
 ·
   rename_i m get
   obtain ⟨hble, h⟩ := need_ok h (by simp)
   simp at h; obtain ⟨rfl, rfl⟩ := h
   obtain ⟨b, o, rfl, hz, hg⟩ := hx
   have hle : ti.size ≤ m := Nat.le_of_ble_eq_true hble
   obtain ⟨u, hu, hr⟩ := loadVar_ok (β := β) (Z := Z) hT ho (b := b) (o := o) (get := get) (fun j hj => by
     obtain ⟨u, hu, hr⟩ := hg j (by omega)
     exact ⟨u, hu, RC.of_RP hr⟩)
   exact ⟨u, by simpa [Instr.loadAt, Instr.sureAddr] using hu, hr⟩
 · simp at h
end
theorem over_eq (get : Nat → CV) (off n : Nat) (v : Nat → CV) (j : Nat) : over get off n v j = if off ≤ j ∧ j < off + n then v (j - off) else get j := by
 unfold over
 by_cases h1 : off ≤ j
 · by_cases h2 : j < off + n <;> simp [h1, h2]
 · simp [h1]
theorem overAll_eq (m : Nat) (get : Nat → CV) (off n : Nat) (v : Nat → CV) (j : Nat) (hj : j < m) (hn : off + n ≤ m) :
   overAll m get off n v j = if off ≤ j ∧ j < off + n then v (j - off) else get j := by
 unfold overAll
 split
 · split
   · rename_i h; subst h; simp [hj]
   · exact over_eq get 0 n v j
 · rename_i o
   by_cases h : j = o + 1
   · subst h; simp
   · simp only [h, if_false]
     rw [if_neg (by omega)]
 · exact over_eq get _ _ v j
def RBc (β : Nat → Loc) (Z : Nat → Prop) (w : World) (ln : Nat) (cs : Array Value) (e : TypeId) : Blk → Prop
 | .box n get => cs.size = n ∧ ∀ j, j < n → ∃ u, cs[j]? = some u ∧ RC β Z w (get j) u
 | .row e' size len get => e = e' ∧ ln = len ∧ len * size ≤ cs.size ∧ ∀ i, i < len → ∀ j, j < size → ∃ u, cs[i * size + j]? = some u ∧ RP Z w (get i j) u
 | _ => False
section
variable {P : Program} {β : Nat → Loc} {Z : Nat → Prop} {w : World}
theorem RB.of_c {b ln : Nat} {cs : Array Value} {e : TypeId} {blk : Blk} (h : w.heap[b]? = some (.cells cs e (0, 0))) (hc : RBc β Z w ln cs e blk) : RB β Z w (.at b ln) blk := by
 cases blk with
 | box n get => exact ⟨cs, e, h, hc.1, hc.2⟩
 | row e' size len get => obtain ⟨rfl, h0, h1, h2⟩ := hc; exact ⟨h0, cs, h, h1, h2⟩
 | mp => exact hc.elim
 | mpI => exact hc.elim
 | mq => exact hc.elim
 | lp => exact hc.elim
theorem storeVar_ok {t : Nat} {ti : TI} {i : TypeInfo} {d : TypeDesc} {z : Value} (hT : TyF P t ti i d z) {b o : Nat} {cs : Array Value} {e : TypeId} {v : Value}
   (hcs : w.heap[b]? = some (.cells cs e (0, 0))) (hv : v.cells.size = ti.size) (ho : o + ti.size ≤ cs.size) (h1 : ∀ u ∈ v.cells.toList, u.oneCell' = true) :
   ∃ cs' : Array Value, (storeVar t ⟨b, o, none⟩ v).run P w = .ok () (w.setRow b cs') ∧ cs'.size = cs.size ∧
     ∀ j, cs'[j]? = if o ≤ j ∧ j < o + ti.size then v.cells[j - o]? else cs[j]? := by
 have hl : v.cells.toList.length = ti.size := by simpa using hv
 refine ⟨(cs.toList.take (o + 0) ++ v.cells.toList ++ cs.toList.drop (o + 0 + v.cells.toList.length)).toArray, ?_, ?_, ?_⟩
 · unfold storeVar
   simp only [Sem.run_bind, hT.run_size, Result.andThen_ok, hv, ne_eq, not_true_eq_false, if_false]
   exact run_storeCells_at P b o e v.cells.toList 0 cs w hcs (by rw [hl]; omega) h1
 · simp only [Nat.add_zero, List.size_toArray, List.length_append, List.length_take, List.length_drop, Array.length_toList, hv]
   omega
 · intro j
   simp only [Nat.add_zero, List.getElem?_toArray, hl]
   by_cases hj : o ≤ j
   · by_cases hj2 : j < o + ti.size
     · rw [if_pos ⟨hj, hj2⟩, List.append_assoc, List.getElem?_append_right (by simp; omega), List.getElem?_append_left (by simp only [List.length_take, Array.length_toList, hv]; omega)]
       simp only [List.length_take, Array.length_toList, Nat.min_eq_left (by omega : o ≤ cs.size), Array.getElem?_toList]
     · rw [if_neg (by omega), List.getElem?_append_right (by simp only [List.length_append, List.length_take, Array.length_toList, hv]; omega)]
       simp only [List.length_append, List.length_take, Array.length_toList, Nat.min_eq_left (by omega : o ≤ cs.size), hv, List.getElem?_drop, Array.getElem?_toList]
       congr 1; omega
   · rw [if_neg (by omega), List.append_assoc, List.getElem?_append_left (by simp only [List.length_take, Array.length_toList]; omega), List.getElem?_take, if_pos (by omega), Array.getElem?_toList]
theorem allPure_get : ∀ {get : Nat → CV} {n : Nat}, allPure get n = true → ∀ j, j < n → isPure (get j) = true
 | get, 0, _, j, hj => absurd hj (Nat.not_lt_zero j)
 | get, n + 1, h, j, hj => by
   simp only [allPure, Bool.and_eq_true] at h
   by_cases hjn : j = n
   · subst hjn; exact h.2
   · exact allPure_get h.1 j (by omega)
theorem RC.known {x : CV} {p : Option Value} (h : ∃ u, p = some u ∧ RC β Z w x u) : ∃ u, p = some u ∧ RC β Z w (boolC x) u := by
 obtain ⟨u, hu, hr⟩ := h
 refine ⟨u, hu, ?_⟩
 unfold boolC
 split
 · exact hr
 · exact hr
 · exact hr
theorem store_ok {t : Nat} {ti : TI} (hT : tabTI P t = some ti) {hp : Nat → Option Blk} (hhp : ∀ n blk, hp n = some blk → RB β Z w (β n) blk)
   {x y : AV} {vx vy : Value} (hx : RA β Z w x vx) (hy : RA β Z w y vy) {c : List Prop} {n : Nat} {blk : Blk} (h : planStore hp ti x y = .wr c n blk) (hc : AllP c) :
   ∃ b ln cs e cs', (∃ old, hp n = some old) ∧ β n = .at b ln ∧ w.heap[b]? = some (.cells cs e (0, 0)) ∧ (Instr.storeAt t vx vy).run P w = .ok () (w.setRow b cs') ∧ cs'.size = cs.size ∧ RBc β Z w ln cs' e blk := by
 obtain ⟨i, d, z, hT⟩ := tabTI_spec hT
 rw [planStore_eq] at h
 unfold planStore0 at h
 split at h
 · rename_i m off v
   obtain ⟨b, ln, hb, rfl⟩ := hx
   split at h
   · rename_i k get hm
     obtain ⟨hble, h⟩ := need_ok h (by simp)
     injection h with h1 h2 h3; subst h1; subst h2; subst h3
     simp only [Bool.and_eq_true] at hble
     have hrb := hhp m _ hm
     rw [hb] at hrb
     obtain ⟨cs, e, g1, g2, g3⟩ := hrb
     have hsz : v.cells.1 = ti.size := Nat.eq_of_beq_eq_true hble.1
     have hle : off + ti.size ≤ k := Nat.le_of_ble_eq_true hble.2
     obtain ⟨q1, q2⟩ := RT.cells hy
     obtain ⟨cs', r1, r2, r3⟩ := storeVar_ok hT (o := off) g1 (q1.trans hsz) (by omega) (RT.allOne hy)
     refine ⟨b, ln, cs, e, cs', ⟨_, hm⟩, hb, g1, by simpa [Instr.storeAt, Instr.sureAddr] using r1, r2, r2.trans g2, fun j hj => ?_⟩
     rw [r3, overAll_eq k get off _ _ j hj (by omega), hsz]
     split
     · rename_i hj2
       exact q2 (j - off) (by omega)
     · exact g3 j hj
   · simp at h
 · rename_i m off k sz len fo v
   obtain ⟨b, ln, hb, rfl, hk⟩ := hx
   split at h
   · rename_i kk get hm
     obtain ⟨hble, h⟩ := need_ok h (by simp)
     injection h with h1 h2 h3; subst h1; subst h2; subst h3
     simp only [Bool.and_eq_true] at hble
     have hrb := hhp m _ hm
     rw [hb] at hrb
     obtain ⟨cs, e, g1, g2, g3⟩ := hrb
     have hsz : v.cells.1 = ti.size := Nat.eq_of_beq_eq_true hble.1.1
     have hle : off + len * sz ≤ kk := Nat.le_of_ble_eq_true hble.1.2
     have hle2 : fo + ti.size ≤ sz := Nat.le_of_ble_eq_true hble.2
     have hks : (k + 1) * sz ≤ len * sz := Nat.mul_le_mul_right _ hk
     rw [Nat.add_mul, Nat.one_mul] at hks
     obtain ⟨q1, q2⟩ := RT.cells hy
     obtain ⟨cs', r1, r2, r3⟩ := storeVar_ok hT (o := off + k * sz + fo) g1 (q1.trans hsz) (by omega) (RT.allOne hy)
     refine ⟨b, ln, cs, e, cs', ⟨_, hm⟩, hb, g1, by simpa [Instr.storeAt, Instr.sureAddr] using r1, r2, r2.trans g2, fun j hj => ?_⟩
     rw [r3]
     cases v with
     | c x =>
       have hs1 : ti.size = 1 := hsz.symm
       by_cases hj2 : j = off + k * sz + fo
       · subst hj2
         rw [if_pos (by omega)]
         simp only [if_true, Nat.sub_self]
         exact RC.known (q2 0 (by simp [TV.cells]))
       · rw [if_neg (by omega)]
         simp only [hj2, if_false]
         exact RC.known (g3 j hj)
     | a k' g =>
       have hs1 : k' = ti.size := hsz
       simp only [over_eq, hs1]
       split
       · rename_i hj2
         exact q2 (j - (off + k * sz + fo)) (by simp only [TV.cells]; omega)
       · exact g3 j hj
   · simp at h
 · rename_i m sz k off v
   obtain ⟨b, ln, hb, rfl, hk⟩ := hx
   split at h
   · rename_i e0 size len get hm
     obtain ⟨hble, h⟩ := need_ok h (by simp)
     injection h with h1 h2 h3; subst h1; subst h2; subst h3
     simp only [Bool.and_eq_true] at hble
     have hrb := hhp m _ hm
     rw [hb] at hrb
     obtain ⟨rfl, cs, g1, g2, g3⟩ := hrb
     have hsz : v.cells.1 = ti.size := Nat.eq_of_beq_eq_true hble.1.1.2
     have hle : off + ti.size ≤ size := Nat.le_of_ble_eq_true hble.1.2
     have hss : sz = size := Nat.eq_of_beq_eq_true hble.1.1.1
     subst hss
     have hks : (k + 1) * sz ≤ ln * sz := Nat.mul_le_mul_right _ hk
     rw [Nat.add_mul, Nat.one_mul] at hks
     obtain ⟨q1, q2⟩ := RT.cells hy
     obtain ⟨cs', r1, r2, r3⟩ := storeVar_ok hT (o := k * sz + off) g1 (q1.trans hsz) (by omega) (RT.allOne hy)
     refine ⟨b, ln, cs, e0, cs', ⟨_, hm⟩, hb, g1, by simpa [Instr.storeAt, Instr.sureAddr] using r1, r2, rfl, rfl, by rw [r2]; exact g2, fun i' hi' j hj => ?_⟩
     rw [r3]
     by_cases hik : i' = k
     · subst hik
       simp only [if_true]
       rw [overAll_eq sz _ off _ _ j hj (by omega), hsz]
       by_cases hj2 : off ≤ j ∧ j < off + ti.size
       · rw [if_pos (by omega), if_pos hj2]
         obtain ⟨u, hu, hr⟩ := q2 (j - off) (by omega)
         exact ⟨u, by rw [show i' * sz + j - (i' * sz + off) = j - off by omega]; exact hu, RP.of_RC (allPure_get hble.2 _ (by omega)) hr⟩
       · rw [if_neg (by omega), if_neg hj2]
         exact g3 i' hi' j hj
     · simp only [hik, if_false]
       rw [if_neg]
       · exact g3 i' hi' j hj
       · rintro ⟨a1, a2⟩
         rcases Nat.lt_or_gt_of_ne hik with hlt | hgt
         · have : (i' + 1) * sz ≤ k * sz := Nat.mul_le_mul_right _ hlt
           rw [Nat.add_mul, Nat.one_mul] at this
           omega
         · have : (k + 1) * sz ≤ i' * sz := Nat.mul_le_mul_right _ hgt
           rw [Nat.add_mul, Nat.one_mul] at this
           omega
   · rename_i kk get hm
     obtain ⟨hble, h⟩ := need_ok h (by simp)
     injection h with h1 h2 h3; subst h1; subst h2; subst h3
     have hle : k * sz + off + ti.size ≤ kk := hc.1
     have hrb := hhp m _ hm
     rw [hb] at hrb
     obtain ⟨cs, e, g1, g2, g3⟩ := hrb
     have hsz : v.cells.1 = ti.size := Nat.eq_of_beq_eq_true hble
     obtain ⟨q1, q2⟩ := RT.cells hy
     obtain ⟨cs', r1, r2, r3⟩ := storeVar_ok hT (o := k * sz + off) g1 (q1.trans hsz) (by omega) (RT.allOne hy)
     refine ⟨b, ln, cs, e, cs', ⟨_, hm⟩, hb, g1, by simpa [Instr.storeAt, Instr.sureAddr] using r1, r2, r2.trans g2, fun j hj => ?_⟩
     rw [r3, overAll_eq kk get (k * sz + off) _ _ j hj (by omega), hsz]
     split
     · rename_i hj2
       exact q2 (j - (k * sz + off)) (by omega)
     · exact g3 j hj
   · simp at h
 · simp at h
end
end Go.Sx
namespace Go.Sx
section
variable {P : Program} {E : Env} {β : Nat → Loc} {Z : Nat → Prop} {w : World}
def TabOk (P : Program) (E : Env) : Prop := ∀ t ti, E.ty t = some ti → tabTI P t = some ti ∧ ti.kind ≠ .other
def GlOk (E : Env) (Z : Nat → Prop) (w : World) : Prop := ∀ g n get, E.gl g = some (n, get) → Z g ∧ ∀ j, j < n → ∃ u, w.cell? ⟨g, j, none⟩ = some u ∧ RP Z w (get j) u
theorem eval_ok (hg : GlOk E Z w) {tm : Nat → AV} {a : Act} (ht : ∀ t, RA β Z w (tm t) (a.tmps.getD t undef)) (x : Operand) : RA β Z w (evalO E tm x) (a.eval x) := by
 cases x with
 | tmp t => exact ht t
 | const v =>
   simp only [evalO, Act.eval]
   split
   · rename_i y hy; exact RC.of_RP (RC.lit hy)
   · trivial
 | global g =>
   simp only [evalO, Act.eval]
   split
   · rename_i n get h
     obtain ⟨h1, h2⟩ := hg g n get h
     exact RC.of_RP (β := β) (x := .ip n get) ⟨g, 0, rfl, h1, fun j hj => by simpa using h2 j hj⟩
   · trivial
 | func f =>
   simp only [evalO, Act.eval]
   exact ⟨#[], #[], rfl, rfl, rfl, fun i hi => absurd hi (Nat.not_lt_zero _), fun i s hs => by simp at hs⟩
theorem fieldAt_spec (hT : TabOk P E) {t : Nat} {ti : TI} (ht : E.ty t = some ti) {f fo fs : Nat} (h : fieldAt E ti f = some (fo, fs)) :
   ∃ (fl : Array Field) (x : Field), P.underlying t = some (.struct fl) ∧ fl[f]? = some x ∧ x.offset = fo ∧ (∀ w : World, (sizeOf x.type).run P w = .ok fs w) ∧ 1 ≤ fs := by
 obtain ⟨i, d, z, hF⟩ := tabTI_spec (hT t ti ht).1
 unfold fieldAt at h
 split at h
 · rename_i fo' ft hfo
   unfold fieldOff at hfo
   split at hfo
   · rename_i l f hk
     obtain ⟨fl, rfl, rfl, _, _, _⟩ := hF.struct hk
     split at h
     · rename_i ti2 h2
       obtain ⟨i2, d2, z2, hF2⟩ := tabTI_spec (hT ft ti2 h2).1
       split at h
       · rename_i hble
         simp only [Option.some.injEq, Prod.mk.injEq] at h
         obtain ⟨rfl, rfl⟩ := h
         simp only [List.getElem?_map, Array.getElem?_toList, Option.map_eq_some_iff, Prod.mk.injEq] at hfo
         obtain ⟨x, hx, rfl, rfl⟩ := hfo
         exact ⟨fl, x, hF.und, hx, rfl, fun w => hF2.run_size, Nat.le_of_ble_eq_true hble⟩
       · simp at h
     · simp at h
   · simp at hfo
 · simp at h
theorem fieldAddr_run (hT : TabOk P E) {t : Nat} {ti : TI} (ht : E.ty t = some ti) {f fo fs : Nat} (h : fieldAt E ti f = some (fo, fs)) (b o : Nat) :
   (Instr.fieldAt t (.pointer (some ⟨b, o, none⟩)) f).run P w = .ok (.pointer (some ⟨b, o + fo, none⟩)) w := by
 obtain ⟨fl, x, h1, h2, h3, h4, h5⟩ := fieldAt_spec hT ht h
 have hne : ¬ fs = 0 := by omega
 simp [Instr.fieldAt, run_underlying h1, h2, Instr.sureAddr, fieldPlace, h4, hne, addr_add, h3]
theorem fieldAddr_ok (hT : TabOk P E) {t : Nat} {ti : TI} (ht : E.ty t = some ti) {f : Nat} {x : AV} {v : Value} (hx : RA β Z w x v) {c : List Prop} {y : AV}
   (h : planFieldAddr E ti f x = .ok c y) : ∃ u, (Instr.fieldAt t v f).run P w = .ok u w ∧ RA β Z w y u := by
 unfold planFieldAddr Plan.cell at h
 split at h
 · obtain ⟨b, ln, hb, rfl⟩ := hx
   split at h
   · rename_i fo fs hf
     simp at h; obtain ⟨rfl, rfl⟩ := h
     exact ⟨_, fieldAddr_run hT ht hf b _, b, ln, hb, rfl⟩
   · simp at h
 · obtain ⟨b, ln, hb, rfl, hi⟩ := hx
   split at h
   · rename_i fo fs hf
     simp at h; obtain ⟨rfl, rfl⟩ := h
     exact ⟨_, fieldAddr_run hT ht hf b _, b, ln, hb, by rw [Nat.add_assoc], hi⟩
   · simp at h
 · obtain ⟨b, ln, hb, rfl, hi⟩ := hx
   split at h
   · rename_i fo fs hf
     simp at h; obtain ⟨rfl, rfl⟩ := h
     exact ⟨_, fieldAddr_run hT ht hf b _, b, ln, hb, by rw [Nat.add_assoc], hi⟩
   · simp at h
 · rename_i m get
   obtain ⟨b, o, rfl, hz, hg⟩ := hx
   split at h
   · rename_i fo fs hf
     obtain ⟨hble, h⟩ := need_ok h (by simp)
     simp at h; obtain ⟨rfl, rfl⟩ := h
     have hle : fo ≤ m := Nat.le_of_ble_eq_true hble
     refine ⟨_, fieldAddr_run hT ht hf b _, b, o + fo, rfl, hz, fun j hj => ?_⟩
     obtain ⟨u, hu, hr⟩ := hg (j + fo) (by omega)
     exact ⟨u, by rw [Nat.add_assoc, Nat.add_comm fo j]; exact hu, by rw [shift_eq]; exact hr⟩
   · simp at h
 · simp at h
theorem part_ok {t : Nat} {ti : TI} {i : TypeInfo} {d : TypeDesc} {z : Value} (hF : TyF P t ti i d z) (ho : ti.kind ≠ .other) {cs : Array Value} {off : Nat} {get : Nat → CV}
   (hle : off + ti.size ≤ cs.size) (h : ∀ j, j < ti.size → ∃ u, cs[off + j]? = some u ∧ RC β Z w (get j) u) :
   ∃ u, (part t cs off).run P w = .ok u w ∧ RT β Z w (mkTV ti get) u := by
 unfold part
 simp only [Sem.run_bind, hF.run_isAgg ho, Result.andThen_ok]
 cases hA : ti.isAgg with
 | true =>
   refine ⟨.agg (cs.extract off (off + ti.size)), by simp [hF.run_size], ?_⟩
   simp only [mkTV, hA, if_true]
   refine ⟨_, rfl, by simp; omega, fun j hj => ?_⟩
   obtain ⟨u, hu, hr⟩ := h j hj
   refine ⟨u, ?_, hr⟩
   rw [Array.getElem?_extract_of_lt (by omega), ← hu, Array.getElem?_eq_getElem (by omega)]
 | false =>
   obtain ⟨u, hu, hr⟩ := h 0 (by have := hF.one hA; omega)
   simp only [Nat.add_zero] at hu
   exact ⟨u, by simp [hu], by simp only [mkTV, hA, Bool.false_eq_true, if_false]; exact hr⟩
theorem field_ok (hT : TabOk P E) {t : Nat} {ti : TI} (ht : E.ty t = some ti) {f : Nat} {x : AV} {v : Value} (hx : RA β Z w x v) {c : List Prop} {y : AV}
   (h : planField E ti f x = .ok c y) : ∃ u, (Instr.field t v f).run P w = .ok u w ∧ RA β Z w y u := by
 obtain ⟨i, d, z, hF⟩ := tabTI_spec (hT t ti ht).1
 unfold planField at h
 split at h
 · rename_i n get
   obtain ⟨cs, rfl, h1, h2⟩ := hx
   split at h
   · rename_i fo ft hfo
     unfold fieldOff at hfo
     split at hfo
     · rename_i l f hk
       obtain ⟨fl, rfl, rfl, _, _, _⟩ := hF.struct hk
       split at h
       · rename_i ti2 h2'
         obtain ⟨i2, d2, z2, hF2⟩ := tabTI_spec (hT ft ti2 h2').1
         obtain ⟨hble, h⟩ := need_ok h (by simp)
         simp at h; obtain ⟨rfl, rfl⟩ := h
         have hle : fo + ti2.size ≤ n := Nat.le_of_ble_eq_true hble
         simp only [List.getElem?_map, Array.getElem?_toList, Option.map_eq_some_iff, Prod.mk.injEq] at hfo
         obtain ⟨x, hx', rfl, rfl⟩ := hfo
         obtain ⟨u, hu, hr⟩ := part_ok (β := β) (Z := Z) (w := w) hF2 (hT _ _ h2').2 (cs := cs) (off := x.offset) (get := shift get x.offset) (by omega) (fun j hj => by
           obtain ⟨u, hu, hr⟩ := h2 (j + x.offset) (by omega)
           exact ⟨u, by rw [Nat.add_comm]; exact hu, by rw [shift_eq]; exact hr⟩)
         refine ⟨u, ?_, hr⟩
         simp [Instr.field, hF.run_und, hx', asAgg, hu]
       · simp at h
     · simp at hfo
   · simp at h
 · simp at h
theorem int_of {k : IntKind} {n : Int} {v : Value} (h : RA β Z w (.t (.c (.int k n))) v) : v = .int k n := h
theorem run_indexAt_slice' {t e : Nat} (h : P.underlying t = some (.slice e)) {sz : Nat} (hs : ∀ w : World, (sizeOf e).run P w = .ok sz w) (a : Addr) (len cap : Nat) (k : IntKind) (n : Int) (h0 : 0 ≤ n) (h1 : n < len) :
   (Instr.indexAt t (.slice (some a) len cap) (.int k n)).run P w = .ok (.pointer (some (a.add (n.toNat * sz)))) w := by
 simp [Instr.indexAt, asIntOf, run_underlying h, h0, h1, hs]
theorem run_indexAt_array' {t e l : Nat} (h : P.underlying t = some (.array l e)) {sz : Nat} (hs : ∀ w : World, (sizeOf e).run P w = .ok sz w) (a : Addr) (k : IntKind) (n : Int) (h0 : 0 ≤ n) (h1 : n < l) :
   (Instr.indexAt t (.pointer (some a)) (.int k n)).run P w = .ok (.pointer (some (a.add (n.toNat * sz)))) w := by
 simp [Instr.indexAt, asIntOf, run_underlying h, h0, h1, hs, Instr.sureAddr]
theorem indexAddr_ok (hT : TabOk P E) {t : Nat} {ti : TI} (ht : E.ty t = some ti) {x y : AV} {v u : Value} (hx : RA β Z w x v) (hy : RA β Z w y u) {c : List Prop} {r : AV}
   (h : planIndexAddr E ti x y = .ok c r) (hc : AllP c) : ∃ q, (Instr.indexAt t v u).run P w = .ok q w ∧ RA β Z w r q := by
 obtain ⟨i, d, z, hF⟩ := tabTI_spec (hT t ti ht).1
 unfold planIndexAddr Plan.cell at h
 split at h
 · rename_i k n
   obtain rfl := int_of hy
   split at h
   · rename_i e size len get hk
     obtain rfl := hF.slice hk
     split at h
     · rename_i te hte
       obtain ⟨i2, d2, z2, hF2⟩ := tabTI_spec (hT e te hte).1
       obtain ⟨hb, h⟩ := need_ok h (by simp)
       simp at h; obtain ⟨rfl, rfl⟩ := h
       have hsz : te.size = size := Nat.eq_of_beq_eq_true hb
       subst hsz
       obtain ⟨h0, h1, _⟩ := hc
       obtain ⟨a, cap, rfl, hl, hg⟩ := hx
       obtain ⟨b, o, rfl, hz, hcell⟩ := hg (by omega)
       refine ⟨_, run_indexAt_slice' hF.und (fun w => hF2.run_size) _ _ _ _ _ h0 h1, ?_⟩
       rw [addr_add]
       refine ⟨b, _, rfl, hz, fun j hj => ?_⟩
       obtain ⟨u, hu, hr⟩ := hcell n.toNat (by omega) j hj
       exact ⟨u, by rw [Nat.add_assoc]; exact hu, hr⟩
     · simp at h
   · rename_i e m size len hk
     obtain rfl := hF.slice hk
     split at h
     · rename_i te hte
       obtain ⟨i2, d2, z2, hF2⟩ := tabTI_spec (hT e te hte).1
       obtain ⟨hb, h⟩ := need_ok h (by simp)
       simp at h; obtain ⟨rfl, rfl⟩ := h
       have hsz : te.size = size := Nat.eq_of_beq_eq_true hb
       subst hsz
       obtain ⟨h0, h1, _⟩ := hc
       have hx' : ROs w (β m) te.size len v := hx
       cases hβ : β m with
       | no => rw [hβ] at hx'; exact hx'.elim
       | virt => rw [hβ] at hx'; obtain ⟨_, rfl⟩ := hx'; omega
       | «at» b ln =>
         rw [hβ] at hx'
         obtain ⟨rfl, cap, rfl, hl, _⟩ := hx'
         refine ⟨_, run_indexAt_slice' hF.und (fun w => hF2.run_size) _ _ _ _ _ h0 h1, ?_⟩
         rw [addr_add]
         exact ⟨b, ln, hβ, by simp, by omega⟩
     · simp at h
   · rename_i len e m off hk
     obtain ⟨rfl, hgd⟩ := hF.array hk
     split at h
     · rename_i te hte
       obtain ⟨i2, d2, z2, hF2⟩ := tabTI_spec (hT e te hte).1
       simp at h; obtain ⟨rfl, rfl⟩ := h
       obtain ⟨h0, h1, _⟩ := hc
       obtain ⟨b, ln, hb, rfl⟩ := hx
       refine ⟨_, run_indexAt_array' hF.und (fun w => hF2.run_size) _ _ _ h0 h1, ?_⟩
       rw [addr_add]
       exact ⟨b, ln, hb, rfl, by omega⟩
     · simp at h
   · rename_i len e m get hk
     obtain ⟨rfl, hgd⟩ := hF.array hk
     split at h
     · rename_i te hte
       obtain ⟨i2, d2, z2, hF2⟩ := tabTI_spec (hT e te hte).1
       obtain ⟨hble, h⟩ := need_ok h (by simp)
       simp at h; obtain ⟨rfl, rfl⟩ := h
       have hle : len * te.size ≤ m := Nat.le_of_ble_eq_true hble
       obtain ⟨h0, h1, _⟩ := hc
       obtain ⟨b, o, rfl, hz, hg⟩ := hx
       refine ⟨_, run_indexAt_array' hF.und (fun w => hF2.run_size) _ _ _ h0 h1, ?_⟩
       rw [addr_add]
       refine ⟨b, _, rfl, hz, fun j hj => ?_⟩
       have hn : (n.toNat + 1) * te.size ≤ len * te.size := Nat.mul_le_mul_right _ (by omega)
       rw [Nat.add_mul, Nat.one_mul] at hn
       obtain ⟨u, hu, hr⟩ := hg (n.toNat * te.size + j) (by omega)
       exact ⟨u, by rw [Nat.add_assoc]; exact hu, hr⟩
     · simp at h
   · simp at h
 · simp at h
theorem index_ok (hT : TabOk P E) {t : Nat} {ti : TI} (ht : E.ty t = some ti) {x y : AV} {v u : Value} (hx : RA β Z w x v) (hy : RA β Z w y u) {c : List Prop} {r : AV}
   (h : planIndex E ti x y = .ok c r) (hc : AllP c) : ∃ q, (Instr.index t v u).run P w = .ok q w ∧ RA β Z w r q := by
 obtain ⟨i, d, z, hF⟩ := tabTI_spec (hT t ti ht).1
 unfold planIndex Plan.cell at h
 split at h
 · rename_i k n
   obtain rfl := int_of hy
   split at h
   · rename_i len e m get hk
     obtain ⟨rfl, hgd⟩ := hF.array hk
     split at h
     · rename_i te hte
       obtain ⟨i2, d2, z2, hF2⟩ := tabTI_spec (hT e te hte).1
       obtain ⟨hble, h⟩ := need_ok h (by simp)
       simp at h; obtain ⟨rfl, rfl⟩ := h
       have hle : len * te.size ≤ m := Nat.le_of_ble_eq_true hble
       obtain ⟨h0, h1, _⟩ := hc
       obtain ⟨cs, rfl, g1, g2⟩ := hx
       have hn : (n.toNat + 1) * te.size ≤ len * te.size := Nat.mul_le_mul_right _ (by omega)
       rw [Nat.add_mul, Nat.one_mul] at hn
       obtain ⟨q, hq, hr⟩ := part_ok (β := β) (Z := Z) (w := w) hF2 (hT _ _ hte).2 (cs := cs) (off := n.toNat * te.size) (get := fun j => get (n.toNat * te.size + j)) (by omega) (fun j hj => g2 _ (by omega))
       refine ⟨q, ?_, hr⟩
       simp [Instr.index, asIntOf, hF.run_und, h0, h1, hF2.run_size, hq]
     · simp at h
   · rename_i s hk
     obtain rfl := hF.str hk
     simp at h; obtain ⟨rfl, rfl⟩ := h
     obtain ⟨h0, h1, _⟩ := hc
     obtain rfl : v = .string s := hx
     have hlt : n.toNat < s.size := by omega
     refine ⟨.int .u8 (s[n.toNat]'hlt).toNat, ?_, ?_⟩
     · simp [Instr.index, asIntOf, hF.run_und, h0, hlt]
     · have hl : n.toNat < s.data.size := hlt
       have e : s.data[n.toNat]? = some (s[n.toNat]'hlt) := by rw [Array.getElem?_eq_getElem hl]; rfl
       show Value.int _ _ = Value.int _ _
       simp [e]
   · simp at h
 · simp at h
theorem range_wrap {k : IntKind} {n : Int} (h : inRange k n) : k.wrap n = n := by
 unfold inRange at h
 obtain ⟨h1, h2⟩ := h
 have hb : 1 ≤ k.bits := by cases k <;> decide
 unfold IntKind.wrap
 unfold IntKind.min at h1
 unfold IntKind.max at h2
 cases k <;> simp [IntKind.signed, IntKind.bits] at h1 h2 ⊢ <;> omega
theorem shl_ok {a b : Int} {t : Nat} (h1 : 0 ≤ b) (h2 : b ≤ 64) (h3 : inRange .i64 (a * 2 ^ b.toNat)) : (binOp .shl t (.int .i64 a) (.int .i64 b)).run P w = .ok (.int .i64 (a * 2 ^ b.toNat)) w := by
 have e : min b.toNat (IntKind.bits .i64) = b.toNat := by
   have : IntKind.bits .i64 = 64 := rfl
   rw [this]; omega
 have hb : ¬ b < 0 := by omega
 simp [binOp, Op.shift, hb, e, range_wrap h3]
theorem toNat_ofInt {n : Nat} {a : Int} (h0 : 0 ≤ a) (h : a < 2 ^ n) : (BitVec.ofInt n a).toNat = a.toNat := by
 rw [BitVec.toNat_ofInt]
 have : ((2 ^ n : Nat) : Int) = 2 ^ n := by simp
 rw [this, Int.emod_eq_of_lt h0 h]
theorem and_ok {k : IntKind} {a b : Int} {t : Nat} (h1 : 0 ≤ a) (h2 : 0 ≤ b) (h3 : inRange k a) (h4 : inRange k b) : (binOp .and t (.int k a) (.int k b)).run P w = .ok (.int k ((a.toNat &&& b.toNat : Nat) : Int)) w := by
 have top : ∀ {x : Int}, 0 ≤ x → inRange k x → x < 2 ^ k.bits := fun {x} h0 h => by
   have h2 := h.2
   unfold IntKind.max at h2
   cases k <;> simp [IntKind.signed, IntKind.bits] at h2 ⊢ <;> omega
 have hr : inRange k ((a.toNat &&& b.toNat : Nat) : Int) := by
   have hle := Nat.and_le_left (n := a.toNat) (m := b.toNat)
   refine ⟨?_, ?_⟩
   · have : k.min ≤ 0 := by cases k <;> decide
     exact Int.le_trans this (Int.natCast_nonneg _)
   · refine Int.le_trans ?_ h3.2
     omega
 simp [binOp, Op.intBits, toNat_ofInt h1 (top h1 h3), toNat_ofInt h2 (top h2 h4), range_wrap hr]
theorem intOp_ok {op : BinOp} {k : IntKind} {a b : Int} {t : Nat} {c : List Prop} {y : AV} (h : intOp op k a b = .ok c y) (hc : AllP c) :
   ∃ q, (binOp op t (.int k a) (.int k b)).run P w = .ok q w ∧ RA β Z w y q := by
 unfold intOp Plan.cell at h
 split at h
 · simp at h; obtain ⟨rfl, rfl⟩ := h; exact ⟨_, by simp [binOp, Op.intArith, range_wrap hc.1], rfl⟩
 · simp at h; obtain ⟨rfl, rfl⟩ := h; exact ⟨_, by simp [binOp, Op.intArith, range_wrap hc.1], rfl⟩
 · simp at h; obtain ⟨rfl, rfl⟩ := h; exact ⟨_, by simp [binOp, Op.intArith, range_wrap hc.1], rfl⟩
 · simp at h; obtain ⟨rfl, rfl⟩ := h; exact ⟨_, by simp [binOp, Op.intDiv, range_wrap hc.2.1, hc.1], rfl⟩
 · simp at h; obtain ⟨rfl, rfl⟩ := h; exact ⟨_, by simp [binOp, Op.intDiv, hc.1], rfl⟩
 · simp at h; obtain ⟨rfl, rfl⟩ := h; exact ⟨_, by simp [binOp, Op.intCmp], rfl⟩
 · simp at h; obtain ⟨rfl, rfl⟩ := h; exact ⟨_, by simp [binOp, Op.intCmp], rfl⟩
 · simp at h; obtain ⟨rfl, rfl⟩ := h; exact ⟨_, by simp [binOp, Op.intCmp], rfl⟩
 · simp at h; obtain ⟨rfl, rfl⟩ := h; exact ⟨_, by simp [binOp, Op.intCmp], rfl⟩
 · simp at h; obtain ⟨rfl, rfl⟩ := h; exact ⟨_, by simp [binOp, Op.intCmp], rfl⟩
 · simp at h; obtain ⟨rfl, rfl⟩ := h; exact ⟨_, by simp [binOp, Op.intCmp], rfl⟩
 · split at h
   · simp at h; obtain ⟨rfl, rfl⟩ := h; exact ⟨_, shl_ok hc.1 hc.2.1 hc.2.2.1, rfl⟩
   · simp at h
 · simp at h; obtain ⟨rfl, rfl⟩ := h; exact ⟨_, and_ok hc.1 hc.2.1 hc.2.2.1 hc.2.2.2.1, rfl⟩
 · simp at h
theorem truth_ok {x : AV} {v : Value} (hx : RA β Z w x v) {b : Bool} (h : truth x = some b) : v = .bool b := by
 unfold truth at h
 split at h <;> simp at h <;> subst h <;> exact hx
theorem un_ok {op : UnOp} {x : AV} {v : Value} (hx : RA β Z w x v) {c : List Prop} {y : AV} (h : planUn op x = .ok c y) (hc : AllP c) :
   ∃ q, (Op.unary op v).run P w = .ok q w ∧ RA β Z w y q := by
 unfold planUn Plan.cell at h
 split at h <;> simp at h <;> obtain ⟨rfl, rfl⟩ := h
 · obtain rfl : v = .bool true := hx; exact ⟨_, by simp [Op.unary], rfl⟩
 · obtain rfl : v = .bool false := hx; exact ⟨_, by simp [Op.unary], rfl⟩
 · rename_i b; obtain rfl : v = .bool b := hx; exact ⟨_, by simp [Op.unary], rfl⟩
 · rename_i k a
   obtain rfl : v = .int k a := hx
   refine ⟨.int k (-a), ?_, rfl⟩
   have := range_wrap hc.1
   simp [Op.unary, Op.intArith, this]
theorem conv_ok (hT : TabOk P E) {t : Nat} {ti : TI} (ht : E.ty t = some ti) {src : Nat} (hs : ∃ d, P.underlying src = some d) {x : AV} {v : Value} (hx : RA β Z w x v) {c : List Prop} {y : AV} (h : planConv ti x = .ok c y) (hc : AllP c) :
   ∃ q, (convert src t v).run P w = .ok q w ∧ RA β Z w y q := by
 obtain ⟨i, d, z, hF⟩ := tabTI_spec (hT t ti ht).1
 obtain ⟨ds, hds⟩ := hs
 unfold planConv Plan.cell at h
 split at h
 · rename_i k k' a hk
   obtain rfl := hF.int hk
   simp at h; obtain ⟨rfl, rfl⟩ := h
   obtain rfl := int_of hx
   exact ⟨.int k a, by simp [convert, run_underlying hds, hF.run_und, Conv.intToInt, range_wrap hc.1], rfl⟩
 · rename_i s hk
   obtain rfl := hF.str hk
   simp at h; obtain ⟨rfl, rfl⟩ := h
   obtain rfl : v = .string s := hx
   exact ⟨.string s, by simp [convert, run_underlying hds, hF.run_und], rfl⟩
 · rename_i k a hk
   obtain rfl := hF.str hk
   simp at h; obtain ⟨rfl, rfl⟩ := h
   obtain rfl := int_of hx
   exact ⟨.string (Utf8.encode a), by simp [convert, run_underlying hds, hF.run_und, Conv.intToString], rfl⟩
 · simp at h
theorem len_ok (hT : TabOk P E) {t : Nat} {ti : TI} (ht : E.ty t = some ti) {ty : Nat} {x : AV} {v : Value} (hx : RA β Z w x v) {c : List Prop} {y : AV} (h : planLen ti x = .ok c y) :
   ∃ q, (Builtin.len_ #[t] ty #[v]).run P w = .ok q w ∧ RA β Z w y q := by
 obtain ⟨i, d, z, hF⟩ := tabTI_spec (hT t ti ht).1
 unfold planLen Plan.cell at h
 split at h
 · rename_i e s len get hk
   obtain rfl := hF.slice hk
   simp at h; obtain ⟨rfl, rfl⟩ := h
   obtain ⟨a, cap, rfl, _⟩ := hx
   exact ⟨_, by simp [Builtin.len_, hF.run_und]; rfl, rfl⟩
 · rename_i e n s len hk
   obtain rfl := hF.slice hk
   simp at h; obtain ⟨rfl, rfl⟩ := h
   have hx' : ROs w (β n) s len v := hx
   cases hβ : β n with
   | no => rw [hβ] at hx'; exact hx'.elim
   | virt => rw [hβ] at hx'; obtain ⟨rfl, rfl⟩ := hx'; exact ⟨_, by simp [Builtin.len_, hF.run_und]; rfl, rfl⟩
   | «at» b ln =>
     rw [hβ] at hx'
     obtain ⟨rfl, cap, rfl, _⟩ := hx'
     exact ⟨_, by simp [Builtin.len_, hF.run_und]; rfl, rfl⟩
 · rename_i e hk
   obtain rfl := hF.slice hk
   simp at h; obtain ⟨rfl, rfl⟩ := h
   obtain rfl : v = .slice none 0 0 := hx
   exact ⟨_, by simp [Builtin.len_, hF.run_und]; rfl, rfl⟩
 · rename_i s hk
   obtain rfl := hF.str hk
   simp at h; obtain ⟨rfl, rfl⟩ := h
   obtain rfl : v = .string s := hx
   exact ⟨_, by simp [Builtin.len_, hF.run_und]; rfl, rfl⟩
 · rename_i n e x hk
   obtain ⟨rfl, hgd⟩ := hF.array hk
   simp at h; obtain ⟨rfl, rfl⟩ := h
   exact ⟨_, by simp [Builtin.len_, hF.run_und]; rfl, rfl⟩
 · simp at h
theorem kindNo_inj {a b : IntKind} (h : Nat.beq (kindNo a) (kindNo b) = true) : a = b := by
 cases a <;> cases b <;> first | rfl | (simp [kindNo] at h)
def RL (β : Nat → Loc) (Z : Nat → Prop) (w : World) : List TV → List Value → Prop
 | [], [] => True
 | x :: l, v :: r => RT β Z w x v ∧ RL β Z w l r
 | _, _ => False
theorem args_ok (hg : GlOk E Z w) {tm : Nat → AV} {a : Act} (ht : ∀ t, RA β Z w (tm t) (a.tmps.getD t undef)) : ∀ {l : List Operand} {r : List TV}, argTVs E tm l = some r → RL β Z w r (l.map a.eval)
 | [], r, h => by simp [argTVs] at h; subst h; trivial
 | o :: l, r, h => by
   simp only [argTVs] at h
   split at h
   · rename_i x r' h1 h2
     simp at h; subst h
     have := eval_ok hg ht o
     rw [h1] at this
     exact ⟨this, args_ok hg ht h2⟩
   · simp at h
theorem fold_ok {f : Int → Int → Int} {g : Value → Value → Sem Value} (hfg : ∀ k a b, g (.int k a) (.int k b) = pure (.int k (f a b))) {k : IntKind} : ∀ {l : List TV} {r : List Value} {a n : Int},
   RL β Z w l r → foldInts f k a l = some n → (r.foldlM g (.int k a)).run P w = .ok (.int k n) w
 | [], [], a, n, _, h => by simp [foldInts] at h; subst h; rfl
 | .c (.int k' b) :: l, v :: r, a, n, hr, h => by
   simp only [foldInts] at h
   split at h
   · rename_i hk
     obtain rfl := kindNo_inj hk
     obtain rfl : v = .int k' b := hr.1
     simp only [List.foldlM_cons, hfg, pure_bind]
     exact fold_ok hfg hr.2 h
   · simp at h
 | [], _ :: _, _, _, hr, _ => hr.elim
 | _ :: _, [], _, _, hr, _ => by cases ‹TV› <;> exact hr.elim
 | .a _ _ :: _, _ :: _, _, _, _, h => by simp [foldInts] at h
 | .c .any :: _, _ :: _, _, _, _, h => by simp [foldInts] at h
 | .c .tt :: _, _ :: _, _, _, _, h => by simp [foldInts] at h
 | .c .ff :: _, _ :: _, _, _, _, h => by simp [foldInts] at h
 | .c (.bool _) :: _, _ :: _, _, _, _, h => by simp [foldInts] at h
 | .c (.str _) :: _, _ :: _, _, _, _, h => by simp [foldInts] at h
 | .c .nilp :: _, _ :: _, _, _, _, h => by simp [foldInts] at h
 | .c .nils :: _, _ :: _, _, _, _, h => by simp [foldInts] at h
 | .c .nilm :: _, _ :: _, _, _, _, h => by simp [foldInts] at h
 | .c .nilf :: _, _ :: _, _, _, _, h => by simp [foldInts] at h
 | .c (.ptr _ _) :: _, _ :: _, _, _, _, h => by simp [foldInts] at h
 | .c (.ep _ _ _ _) :: _, _ :: _, _, _, _, h => by simp [foldInts] at h
 | .c (.ax _ _ _ _ _ _) :: _, _ :: _, _, _, _, h => by simp [foldInts] at h
 | .c (.ip _ _) :: _, _ :: _, _, _, _, h => by simp [foldInts] at h
 | .c (.vs _ _ _) :: _, _ :: _, _, _, _, h => by simp [foldInts] at h
 | .c (.os _ _ _) :: _, _ :: _, _, _, _, h => by simp [foldInts] at h
 | .c (.mp _) :: _, _ :: _, _, _, _, h => by simp [foldInts] at h
 | .c (.fn _ _ _ _ _) :: _, _ :: _, _, _, _, h => by simp [foldInts] at h
 | .c (.yl _) :: _, _ :: _, _, _, _, h => by simp [foldInts] at h
theorem mm_ok {f : Int → Int → Int} {g : Value → Value → Sem Value} (hfg : ∀ k a b, g (.int k a) (.int k b) = pure (.int k (f a b))) {l : Option (List TV)} {r : List Value} (hr : ∀ x, l = some x → RL β Z w x r)
   {c : List Prop} {y : AV} (h : planMM f l = .ok c y) : ∃ v rest q, r = v :: rest ∧ (rest.foldlM g v).run P w = .ok q w ∧ RA β Z w y q := by
 unfold planMM Plan.cell at h
 split at h
 · rename_i k a rest
   split at h
   · rename_i n hn
     simp at h; obtain ⟨rfl, rfl⟩ := h
     have hr := hr _ rfl
     cases r with
     | nil => exact hr.elim
     | cons v r =>
       obtain rfl : v = .int k a := hr.1
       exact ⟨_, r, .int k n, rfl, fold_ok hfg hr.2 hn, rfl⟩
   · simp at h
 · simp at h
end
end Go.Sx
