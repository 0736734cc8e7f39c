/- The framework Sx, part 2: what abstract values and states say of a world; what stays so when the world turns. -/
import Derived.Test.YthcplmlkgaiggaaSxBase
import Derived.CallsIn
import Derived.OrdersIn
import Derived.RangeFuncRecord
import Derived.Below
import Derived.OwnWalk
import Derived.Laws.World
import Derived.Laws.AppendOwn
import Derived.Laws.Sem
set_option linter.unusedSimpArgs false
set_option linter.unusedVariables false
namespace Go.Sx

/-- Where a name's block lies. -/
inductive Loc where
  | no
  | virt
  | at (b : Nat) (len : Nat)

/-- Values that lead to memory that stays as it is alone. -/
def RP (Z : Nat → Prop) (w : World) : CV → Value → Prop
  | .any, v => v.oneCell' = true
  | .tt, v => v = .bool true
  | .ff, v => v = .bool false
  | .bool b, v => v = .bool b
  | .int k n, v => v = .int k n
  | .str s, v => v = .string s
  | .nilp, v => v = .pointer none
  | .nils, v => v = .slice none 0 0
  | .nilm, v => v = .map none
  | .nilf, v => v = .nilFunc
  | .ip n get, v => ∃ b o, v = .pointer (some ⟨b, o, none⟩) ∧ Z b ∧ ∀ j, j < n → ∃ u, w.cell? ⟨b, o + j, none⟩ = some u ∧ RP Z w (get j) u
  | .vs size len get, v => ∃ a cap, v = .slice a len cap ∧ len ≤ cap ∧
      (0 < len → ∃ b o, a = some ⟨b, o, none⟩ ∧ Z b ∧ ∀ i, i < len → ∀ j, j < size → ∃ u, w.cell? ⟨b, o + (i * size + j), none⟩ = some u ∧ RP Z w (get i j) u)
  | .fn f sh _ nc _, v => nc = 0 ∧ sh = [] ∧ v = .func (.func f) #[] #[]
  | _, _ => False

/-- A slice of the call's own, or none yet. -/
def ROs (w : World) (l : Loc) (size len : Nat) (v : Value) : Prop :=
  match l with
  | .no => False
  | .virt => v = .slice none 0 0 ∧ len = 0
  | .at b ln => ln = len ∧ ∃ cap, v = .slice (some ⟨b, 0, none⟩) len cap ∧ len ≤ cap ∧ cap ≤ maxLen ∧ ∃ (cs : Array Value) (e : TypeId), w.heap[b]? = some (Obj.cells cs e (0, 0)) ∧ cs.size = cap * size

/-- One cell's value. -/
def RC (β : Nat → Loc) (Z : Nat → Prop) (w : World) : CV → Value → Prop
  | .ptr n off, v => ∃ b ln, β n = .at b ln ∧ v = .pointer (some ⟨b, off, none⟩)
  | .ep n size i off, v => ∃ b ln, β n = .at b ln ∧ v = .pointer (some ⟨b, i * size + off, none⟩) ∧ i < ln
  | .ax n off i sz len fo, v => ∃ b ln, β n = .at b ln ∧ v = .pointer (some ⟨b, off + i * sz + fo, none⟩) ∧ i < len
  | .os n size len, v => ROs w (β n) size len v
  | .mp n, v => ∃ b ln, β n = .at b ln ∧ v = .map (some b)
  | .yl n, v => ∃ b ln, β n = .at b ln ∧ v = .func (.yield b) #[] #[]
  | .fn f sh first nc cap, v => ∃ fs cs : Array Value, v = .func (.func f) fs cs ∧ fs.size = sh.length ∧ cs.size = nc ∧
      (∀ i, i < nc → ∃ u, cs[i]? = some u ∧ RC β Z w (cap i) u) ∧
      (∀ (i : Nat) (s : Option Nat), sh[i]? = some s → ∃ u, fs[i]? = some u ∧ (match s with
        | none => RC β Z w (first i 0) u
        | some n => ∃ xs : Array Value, u = Value.agg xs ∧ xs.size = n ∧ ∀ j, j < n → ∃ y, xs[j]? = some y ∧ RC β Z w (first i j) y))
  | x, v => RP Z w x v

def RT (β : Nat → Loc) (Z : Nat → Prop) (w : World) : TV → Value → Prop
  | .c x, v => RC β Z w x v
  | .a n get, v => ∃ cs : Array Value, v = .agg cs ∧ cs.size = n ∧ ∀ j, j < n → ∃ u, cs[j]? = some u ∧ RC β Z w (get j) u

def RA (β : Nat → Loc) (Z : Nat → Prop) (w : World) : AV → Value → Prop
  | .any, _ => True
  | .t x, v => RT β Z w x v
  | .tup l, v => ∃ vs : Array Value, v = .tuple vs ∧ vs.size = l.length ∧ ∀ (i : Nat) (x : TV), l[i]? = some x → ∃ u, vs[i]? = some u ∧ RT β Z w x u

/-- A key's value; an element's. -/
def keyV (agg : Bool) (ks : List Int) : Value :=
  match agg with
  | true => .agg (ks.map (Value.int .i64)).toArray
  | false => .int .i64 (ks.headD 0)
def valV (vb : Bool) (x : Int) : Value :=
  match vb with
  | true => .bool (decide (x ≠ 0))
  | false => .int .i64 x

/-- Keys as the type has them. -/
def KeyIs (T : MapT) (ks : List Int) : Prop := ks.length = T.n ∧ ∀ a ∈ ks, inRange .i64 a

/-- The map's entries. -/
structure RMap (T : MapT) (m : List Int → Option Int) (es : Array MapEntry) : Prop where
  ent : ∀ e ∈ es.toList, ∃ ks x, KeyIs T ks ∧ e.key = keyV T.agg ks ∧ m ks = some x ∧ e.val = valV T.vb x
  all : ∀ ks x, m ks = some x → KeyIs T ks ∧ ∃ e ∈ es.toList, e.key = keyV T.agg ks
  one : ∀ (i j : Nat) (e e' : MapEntry), es[i]? = some e → es[j]? = some e' → e.key = e'.key → i = j

def RB (β : Nat → Loc) (Z : Nat → Prop) (w : World) : Loc → Blk → Prop
  | .at b _, .box n get => ∃ (cs : Array Value) (e : TypeId), w.heap[b]? = some (Obj.cells cs e (0, 0)) ∧ cs.size = n ∧ ∀ j, j < n → ∃ u, cs[j]? = some u ∧ RC β Z w (get j) u
  | .at b ln, .row e size len get => ln = len ∧ ∃ cs : Array Value, w.heap[b]? = some (Obj.cells cs e (0, 0)) ∧ len * size ≤ cs.size ∧
      ∀ i, i < len → ∀ j, j < size → ∃ u, cs[i * size + j]? = some u ∧ RP Z w (get i j) u
  | .virt, .row _ _ len _ => len = 0
  | .at b _, .mp T m => ∃ (es : Array MapEntry) (clock : Nat), w.heap[b]? = some (.map es clock) ∧ RMap T m es
  | .at b _, .mpI T I => ∃ (es : Array MapEntry) (clock : Nat) (m : List Int → Option Int), w.heap[b]? = some (.map es clock) ∧ RMap T m es ∧ ∀ ks x, m ks = some x → I ks x
  | .at b _, .lp _ sz tm ps asg body busy pend => ∃ r : Loop, w.heap[b]? = some (Obj.loop r) ∧ r.tmps.size = sz ∧ (∀ t, RA β Z w (tm t) (r.tmps.getD t undef)) ∧
      r.params.toList = ps ∧ r.assign = asg ∧ r.body = body ∧ r.state = (if busy then LoopState.busy else if pend.isNone then .ready else .done) ∧ r.pending = pend.bind codeExit
  | _, _ => False

/-- What stays of a loop's record. -/
def SameLoop (r r' : Loop) : Prop := r'.tmps = r.tmps ∧ r'.fn = r.fn ∧ r'.params = r.params ∧ r'.assign = r.assign ∧ r'.body = r.body ∧ r'.defers = r.defers

/-- The world turns: what is none of the call's own stays; blocks keep their sizes. -/
structure Evo (own : Nat → Prop) (Z : Nat → Prop) (w : World) (Z' : Nat → Prop) (w' : World) : Prop where
  os : w'.os = w.os
  tape : w'.tape = w.tape
  output : w'.output = w.output
  size : w.heap.size ≤ w'.heap.size
  same : ∀ b : Nat, b < w.heap.size → ¬ own b → w'.heap[b]? = w.heap[b]?
  rows : ∀ (b : Nat) (cs : Array Value) (e : TypeId), w.heap[b]? = some (Obj.cells cs e (0, 0)) → ∃ cs' : Array Value, w'.heap[b]? = some (Obj.cells cs' e (0, 0)) ∧ cs'.size = cs.size
  loops : ∀ (b : Nat) (r : Loop), w.heap[b]? = some (Obj.loop r) → ∃ r', w'.heap[b]? = some (Obj.loop r') ∧ SameLoop r r'
  zmono : ∀ b, Z b → Z' b

theorem Evo.refl (own : Nat → Prop) (Z : Nat → Prop) (w : World) : Evo own Z w Z w :=
  ⟨rfl, rfl, rfl, Nat.le_refl _, fun _ _ _ => rfl, fun _ cs _ h => ⟨cs, h, rfl⟩, fun _ r h => ⟨r, h, rfl, rfl, rfl, rfl, rfl, rfl⟩, fun _ h => h⟩

theorem Evo.trans {own own' : Nat → Prop} {Z Z' Z'' : Nat → Prop} {w w' w'' : World} (h : Evo own Z w Z' w') (h' : Evo own' Z' w' Z'' w'')
    (ho : ∀ b, own' b → own b ∨ w.heap.size ≤ b) : Evo own Z w Z'' w'' := by
  refine ⟨h'.os.trans h.os, h'.tape.trans h.tape, h'.output.trans h.output, Nat.le_trans h.size h'.size, fun b hb hn => ?_, fun b cs e hc => ?_, fun b r hr => ?_, fun b hz => h'.zmono b (h.zmono b hz)⟩
  · rw [h'.same b (Nat.lt_of_lt_of_le hb h.size) (fun ho' => (ho b ho').elim hn (fun hle => by omega)), h.same b hb hn]
  · obtain ⟨cs', h1, h2⟩ := h.rows b cs e hc
    obtain ⟨cs'', h3, h4⟩ := h'.rows b cs' e h1
    exact ⟨cs'', h3, h4.trans h2⟩
  · obtain ⟨r', h1, a1, a2, a3, a4, a5, a6⟩ := h.loops b r hr
    obtain ⟨r'', h3, b1, b2, b3, b4, b5, b6⟩ := h'.loops b r' h1
    exact ⟨r'', h3, b1.trans a1, b2.trans a2, b3.trans a3, b4.trans a4, b5.trans a5, b6.trans a6⟩

theorem Evo.weaken {own own' : Nat → Prop} {Z Z' : Nat → Prop} {w w' : World} (h : Evo own Z w Z' w') (ho : ∀ b, own b → own' b) : Evo own' Z w Z' w' :=
  ⟨h.os, h.tape, h.output, h.size, fun b hb hn => h.same b hb (fun h' => hn (ho b h')), h.rows, h.loops, h.zmono⟩

/-- What is told not to turn lies in the heap and is none of the call's own. -/
def Calm (own : Nat → Prop) (Z : Nat → Prop) (w : World) : Prop := ∀ b : Nat, Z b → b < w.heap.size ∧ ¬ own b

section mono
variable {own Z Z' : Nat → Prop} {w w' : World} {β β' : Nat → Loc}

theorem Evo.cell (h : Evo own Z w Z' w') (hc : Calm own Z w) {b o : Nat} (hz : Z b) : w'.cell? ⟨b, o, none⟩ = w.cell? ⟨b, o, none⟩ := by
  obtain ⟨h1, h2⟩ := hc b hz
  simp only [World.cell?, h.same b h1 h2]

theorem RP.mono (h : Evo own Z w Z' w') (hc : Calm own Z w) : ∀ {x : CV} {v : Value}, RP Z w x v → RP Z' w' x v := by
  intro x
  induction x with
  | ip n get ih =>
    rintro v ⟨b, o, rfl, hz, hg⟩
    refine ⟨b, o, rfl, h.zmono b hz, fun j hj => ?_⟩
    obtain ⟨u, hu, hr⟩ := hg j hj
    exact ⟨u, by rw [h.cell hc hz]; exact hu, ih j hr⟩
  | vs size len get ih =>
    rintro v ⟨a, cap, rfl, hl, hg⟩
    refine ⟨a, cap, rfl, hl, fun hpos => ?_⟩
    obtain ⟨b, o, rfl, hz, hcell⟩ := hg hpos
    refine ⟨b, o, rfl, h.zmono b hz, fun i hi j hj => ?_⟩
    obtain ⟨u, hu, hr⟩ := hcell i hi j hj
    exact ⟨u, by rw [h.cell hc hz]; exact hu, ih i j hr⟩
  | _ => intro v hv; exact hv

theorem ROs.mono (h : Evo own Z w Z' w') {l : Loc} {size len : Nat} {v : Value} (hv : ROs w l size len v) : ROs w' l size len v := by
  cases l with
  | no => exact hv
  | virt => exact hv
  | «at» b ln =>
    obtain ⟨h0, cap, rfl, h1, h2, cs, e, h3, h4⟩ := hv
    obtain ⟨cs', h5, h6⟩ := h.rows b cs e h3
    exact ⟨h0, cap, rfl, h1, h2, cs', e, h5, h6.trans h4⟩

/-- The names that are known keep their places. -/
def Ext (β β' : Nat → Loc) : Prop := ∀ n, β n ≠ .no → β' n = β n

theorem Ext.at (h : Ext β β') {n b ln : Nat} (hb : β n = .at b ln) : β' n = .at b ln := by rw [h n (by rw [hb]; simp), hb]

theorem Ext.refl (β : Nat → Loc) : Ext β β := fun _ _ => rfl

theorem Ext.trans {β'' : Nat → Loc} (h : Ext β β') (h' : Ext β' β'') : Ext β β'' := fun n hn => by
  rw [h' n (by rw [h n hn]; exact hn), h n hn]

theorem RC.mono (h : Evo own Z w Z' w') (hc : Calm own Z w) (hβ : Ext β β') : ∀ {x : CV} {v : Value}, RC β Z w x v → RC β' Z' w' x v := by
  intro x
  induction x with
  | ptr n off => rintro v ⟨b, ln, hb, rfl⟩; exact ⟨b, ln, hβ.at hb, rfl⟩
  | ep n size i off => rintro v ⟨b, ln, hb, rfl, hi⟩; exact ⟨b, ln, hβ.at hb, rfl, hi⟩
  | ax n off i sz len fo => rintro v ⟨b, ln, hb, rfl, hi⟩; exact ⟨b, ln, hβ.at hb, rfl, hi⟩
  | mp n => rintro v ⟨b, ln, hb, rfl⟩; exact ⟨b, ln, hβ.at hb, rfl⟩
  | yl n => rintro v ⟨b, ln, hb, rfl⟩; exact ⟨b, ln, hβ.at hb, rfl⟩
  | os n size len =>
    intro v hv
    have hv' : ROs w (β n) size len v := hv
    show ROs w' (β' n) size len v
    rw [hβ n (by intro e; rw [e] at hv'; exact hv')]
    exact hv'.mono h
  | fn f sh first nc cap ih1 ih2 =>
    rintro v ⟨fs, cs, rfl, h1, h2, h3, h4⟩
    refine ⟨fs, cs, rfl, h1, h2, fun i hi => ?_, fun i s hs => ?_⟩
    · obtain ⟨u, hu, hr⟩ := h3 i hi
      exact ⟨u, hu, ih2 i hr⟩
    · obtain ⟨u, hu, hr⟩ := h4 i s hs
      refine ⟨u, hu, ?_⟩
      cases s with
      | none => exact ih1 i 0 hr
      | some n =>
        obtain ⟨xs, rfl, hx, hy⟩ := hr
        exact ⟨xs, rfl, hx, fun j hj => let ⟨y, hy1, hy2⟩ := hy j hj; ⟨y, hy1, ih1 i j hy2⟩⟩
  | ip n get => intro v hv; exact RP.mono h hc (x := .ip n get) hv
  | vs size len get => intro v hv; exact RP.mono h hc (x := .vs size len get) hv
  | _ => intro v hv; exact hv

theorem RT.mono (h : Evo own Z w Z' w') (hc : Calm own Z w) (hβ : Ext β β') {x : TV} {v : Value} (hv : RT β Z w x v) : RT β' Z' w' x v := by
  cases x with
  | c x => exact RC.mono h hc hβ hv
  | a n get =>
    obtain ⟨cs, rfl, h1, h2⟩ := hv
    exact ⟨cs, rfl, h1, fun j hj => let ⟨u, hu, hr⟩ := h2 j hj; ⟨u, hu, RC.mono h hc hβ hr⟩⟩

theorem RA.mono (h : Evo own Z w Z' w') (hc : Calm own Z w) (hβ : Ext β β') {x : AV} {v : Value} (hv : RA β Z w x v) : RA β' Z' w' x v := by
  cases x with
  | any => trivial
  | t x => exact RT.mono h hc hβ hv
  | tup l =>
    obtain ⟨vs, rfl, h1, h2⟩ := hv
    exact ⟨vs, rfl, h1, fun i x hx => let ⟨u, hu, hr⟩ := h2 i x hx; ⟨u, hu, RT.mono h hc hβ hr⟩⟩

/-- A block that has not been written. -/
theorem RB.mono (h : Evo own Z w Z' w') (hc : Calm own Z w) (hβ : Ext β β') {l : Loc} {x : Blk} (hsame : ∀ b ln, l = .at b ln → w'.heap[b]? = w.heap[b]?) (hv : RB β Z w l x) : RB β' Z' w' l x := by
  cases l with
  | no => cases x <;> exact hv.elim
  | virt => cases x <;> first | exact hv | exact hv.elim
  | «at» b ln =>
    have hs := hsame b ln rfl
    cases x with
    | box n get =>
      obtain ⟨cs, e, h1, h2, h3⟩ := hv
      exact ⟨cs, e, by rw [hs]; exact h1, h2, fun j hj => let ⟨u, hu, hr⟩ := h3 j hj; ⟨u, hu, RC.mono h hc hβ hr⟩⟩
    | row e size len get =>
      obtain ⟨h0, cs, h1, h2, h3⟩ := hv
      exact ⟨h0, cs, by rw [hs]; exact h1, h2, fun i hi j hj => let ⟨u, hu, hr⟩ := h3 i hi j hj; ⟨u, hu, RP.mono h hc hr⟩⟩
    | mp T m =>
      obtain ⟨es, clock, h1, h2⟩ := hv
      exact ⟨es, clock, by rw [hs]; exact h1, h2⟩
    | mpI T I =>
      obtain ⟨es, clock, m, h1, h2⟩ := hv
      exact ⟨es, clock, m, by rw [hs]; exact h1, h2⟩
    | lp fid sz tm ps asg body busy pend =>
      obtain ⟨r, h1, h2, h3, h4⟩ := hv
      exact ⟨r, by rw [hs]; exact h1, h2, fun t => RA.mono h hc hβ (h3 t), h4⟩
end mono

end Go.Sx
