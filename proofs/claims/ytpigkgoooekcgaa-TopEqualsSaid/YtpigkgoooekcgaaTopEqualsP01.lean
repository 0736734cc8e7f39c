/- Texts for the law of the last part, part 1. -/
import GoSem.Core.Program
import GoSem.Core.Region
import GoSem.Step
import Derived.Control
set_option linter.unusedSimpArgs false
set_option linter.unusedVariables false
namespace Go.Sx
inductive CV where
 | any
 | tt
 | ff
 | bool (b : Bool)
 | int (k : IntKind) (n : Int)
 | str (s : ByteArray)
 | nilp
 | nils
 | nilm
 | nilf
 | ptr (n off : Nat)
 | ep (n size idx off : Nat)
 | ax (n off i sz len fo : Nat)
 | ip (n : Nat) (get : Nat → CV)
 | vs (size len : Nat) (get : Nat → Nat → CV)
 | vx (size len : Nat) (get : Nat → Nat → CV)
 | os (n size len : Nat)
 | mp (n : Nat)
 | fn (f : FuncId) (sh : List (Option Nat)) (first : Nat → Nat → CV) (nc : Nat) (cap : Nat → CV)
 | yl (n : Nat)
 | stp (n : Nat) (ks : List Int) (s : Int)
inductive TV where
 | c (x : CV)
 | a (n : Nat) (get : Nat → CV)
inductive AV where
 | any
 | t (x : TV)
 | tup (l : List TV)
structure MapT where
 k : TypeId
 v : TypeId
 agg : Bool
 n : Nat
 vb : Bool
inductive Blk where
 | box (n : Nat) (get : Nat → CV)
 | row (e : TypeId) (size len : Nat) (get : Nat → Nat → CV)
 | mp (T : MapT) (m : List Int → Option Int)
 | mpI (T : MapT) (I : List Int → Int → Prop)
 | mq (T : MapT) (m : List Int → Option (Int × Nat)) (clk : Nat)
 | lp (fid : FuncId) (sz : Nat) (tm : Nat → AV) (ps : List Nat) (asg body : Code) (busy : Bool) (pend : Option Exit)
structure St where
 tm : Nat → AV
 sz : Nat
 hp : Nat → Option Blk
 nx : Nat
 wl : List Nat
def upd {α : Type} (f : Nat → α) (i : Nat) (x : α) : Nat → α := fun j => match Nat.beq j i with | true => x | false => f j
inductive TK where
 | bool
 | int (k : IntKind)
 | str
 | ptr
 | slice (e : TypeId)
 | struct (fs : List (Nat × TypeId))
 | array (n : Nat) (e : TypeId)
 | map (k v : TypeId)
 | func
 | other
structure TI where
 kind : TK
 size : Nat
 bytes : Nat
 zero : List CV
inductive RV where
 | v (x : TV)
 | own (e : TypeId) (size len : Nat) (get : Nat → Nat → CV)
structure Sig where
 α : Type
 arg : α → List TV
 pre : α → Prop
 res : α → List RV
inductive Wit where
 | self
 | slot (t : Nat)
 | box (n off : Nat)
structure Ann where
 G : Type
 ok : St → G → Prop
 dom : St → List Nat
 tm : St → G → List (Nat × AV)
 hp : St → G → List (Nat × Wit × Option Blk)
 mu : St → G → Nat
inductive RW where
 | arg (i : Nat)
 | cell (m off : Nat)
 | argc (i off : Nat)
structure RSpec where
 γ : Type
 ok : γ → Prop
 arg : γ → List TV
 hp : γ → List (RW × Blk)
 e : TypeId
 size : Nat
 len : γ → Nat
 get : γ → Nat → Nat → CV
structure KSpec where
 γ : Type
 δ : Type
 ok : γ → Prop
 arg : γ → List TV
 hp : γ → List (RW × Blk)
 post : γ → δ → Prop
 fin : γ → δ → List Blk
 res : γ → δ → List TV
 mv : Option Nat := none
structure ESpec where
 γ : Type
 ok : γ → Prop
 arg : γ → List TV
 hp : γ → List (RW × Blk)
 res : γ → List TV
structure PSpec where
 γ : Type
 res : γ → List TV
structure Env where
 ty : Nat → Option TI
 gl : Nat → Option (Nat × (Nat → CV))
 sig : FuncId → Option Sig
 fn : FuncId → Option Func
 lam : Nat → Nat → Option Ann
 cut : Nat → Nat → Option Ann := fun _ _ => none
 mps : Nat → Option MapT := fun _ => none
 any : Nat → Nat → Bool := fun _ _ => false
 every : Nat → Nat → Bool := fun _ _ => false
 conc : Bool := false
 unr : Nat → Nat → Nat := fun _ _ => 0
 again : FuncId → Option RSpec := fun _ => none
 kept : FuncId → Option KSpec := fun _ => none
 keep : Bool := false
 frz : Nat → Nat → List Nat := fun _ _ => []
 even : FuncId → Option ESpec := fun _ => none
 wk : Nat → Nat → St → List (Nat × Blk) := fun _ _ _ => []
 cs : Nat → Nat → List (Nat × List Int) := fun _ _ => []
 old : Nat → Nat → St → List (Nat × List Nat) := fun _ _ _ => []
 peek : FuncId → Option PSpec := fun _ => none
 live : Bool := false
 stm : Nat → Bool := fun _ => false
 ex : Bool := false
 tmw : Nat → Nat → St → List (Nat × CV) := fun _ _ _ => []
 pz : Option Nat → List Nat := fun _ => []
def TK.isAgg : TK → Bool
 | .struct _ => true
 | .array _ _ => true
 | _ => false
def TI.isAgg (t : TI) : Bool := t.kind.isAgg
def shift (get : Nat → CV) : Nat → Nat → CV
 | 0 => get
 | k + 1 => fun j => get (j + (k + 1))
def ofList (l : List CV) : Nat → CV := fun j => l.getD j .any
def isPure : CV → Bool
 | .ptr _ _ => false
 | .ep _ _ _ _ => false
 | .ax _ _ _ _ _ _ => false
 | .os _ _ _ => false
 | .mp _ => false
 | .yl _ => false
 | .fn _ sh _ nc cap => sh.isEmpty && (List.range nc).all fun i => isPure (cap i)
 | _ => true
def allPure (get : Nat → CV) : Nat → Bool
 | 0 => true
 | n + 1 => allPure get n && isPure (get n)
def litCV : Value → Option CV
 | .bool true => some .tt
 | .bool false => some .ff
 | .int k n => some (.int k n)
 | .string s => some (.str s)
 | .pointer none => some .nilp
 | .slice none 0 0 => some .nils
 | .map none => some .nilm
 | .nilFunc => some .nilf
 | _ => none
def evalO (E : Env) (tm : Nat → AV) : Operand → AV
 | .tmp t => tm t
 | .const v => match litCV v with | some x => .t (.c x) | none => .any
 | .global g => match E.gl g with
   | some (n, get) => .t (.c (.ip n get))
   | none => .any
 | .func f => .t (.c (.fn f [] (fun _ _ => .any) 0 (fun _ => .any)))
def TV.cells : TV → Nat × (Nat → CV)
 | .c x => (1, fun _ => x)
 | .a n get => (n, get)
def mkTV (t : TI) (get : Nat → CV) : TV := if t.isAgg then .a t.size get else .c (get 0)
inductive Plan where
 | bad
 | ok (c : List Prop) (v : AV)
 | mk (c : List Prop) (b : Blk) (v : Nat → AV)
 | wr (c : List Prop) (n : Nat) (b : Blk)
 | we (c : List Prop) (n : Nat) (b : Blk) (v : AV)
 | mv (c : List Prop) (n : Nat) (b : Blk) (v : Nat → AV)
 | fz (c : List Prop) (n : Nat) (v : AV)
 | wz (c : List Prop) (n : Nat) (b : Blk) (m : Nat)
 | call (f : FuncId) (args : List TV)
 | ycall (n : Nat) (args : List TV)
def Plan.cell (c : List Prop) (x : CV) : Plan := .ok c (.t (.c x))
def need (b : Bool) (p : Plan) : Plan := match b with | true => p | false => .bad
def over (get : Nat → CV) (off n : Nat) (v : Nat → CV) : Nat → CV := fun j => if off ≤ j then (if j < off + n then v (j - off) else get j) else get j
def overAll (m : Nat) (get : Nat → CV) : (off n : Nat) → (v : Nat → CV) → Nat → CV
 | 0, n, v => if n = m then v else over get 0 n v
 | o + 1, 1, v => fun j => if j = o + 1 then v 0 else get j
 | o + 1, n, v => over get (o + 1) n v
def kindNo : IntKind → Nat
 | .i8 => 0 | .i16 => 1 | .i32 => 2 | .i64 => 3 | .u8 => 4 | .u16 => 5 | .u32 => 6 | .u64 => 7
def mixI (c : Prop) [Decidable c] (x y : CV) : CV :=
 match x, y with
 | .int k a, .int k' b => match Nat.beq (kindNo k) (kindNo k') with
   | true => .int k (if c then a else b)
   | false => if c then .int k a else .int k' b
 | x, y => if c then x else y
def mixC (c : Prop) [Decidable c] (x y : CV) : CV :=
 match x, y with
 | .int k a, .int k' b => match Nat.beq (kindNo k) (kindNo k') with
   | true => .int k (if c then a else b)
   | false => if c then .int k a else .int k' b
 | .bool a, .bool b => .bool (if c then a else b)
 | .vs s l g, .vs s' l' g' => match Nat.beq s s' with
   | true => .vs s (if c then l else l') (fun i j => mixI c (g i j) (g' i j))
   | false => if c then .vs s l g else .vs s' l' g'
 | x, y => if c then x else y
def boolC (x : CV) : CV := match x with
 | .tt => .bool true
 | .ff => .bool false
 | x => x
def mixG (c : Prop) [Decidable c] (f g : Nat → CV) : Nat → CV := fun j => mixC c (f j) (g j)
theorem kindNo_inj0 {k k' : IntKind} (h : Nat.beq (kindNo k) (kindNo k') = true) : k = k' := by cases k <;> cases k' <;> first | rfl | (simp [kindNo] at h)
theorem mixI_eq {c : Prop} [Decidable c] {x y : CV} : mixI c x y = if c then x else y := by
 unfold mixI
 split
 · split
   · rename_i h; obtain rfl := kindNo_inj0 h; split <;> rfl
   · rfl
 · rfl
theorem mixC_eq {c : Prop} [Decidable c] {x y : CV} : mixC c x y = if c then x else y := by
 unfold mixC
 split
 · split
   · rename_i h; obtain rfl := kindNo_inj0 h; split <;> rfl
   · rfl
 · split <;> rfl
 · split
   · rename_i h
     obtain rfl := Nat.eq_of_beq_eq_true h
     simp only [mixI_eq]
     split <;> rfl
   · rfl
 · rfl
theorem mixG_eq {c : Prop} [Decidable c] {f g : Nat → CV} : mixG c f g = if c then f else g := by
 funext j; simp only [mixG, mixC_eq]; split <;> rfl
def planLoad (hp : Nat → Option Blk) (t : TI) : AV → Plan
 | .t (.c (.ptr n off)) => match hp n with
   | some (.box m get) => need (Nat.ble (off + t.size) m) (.ok [] (.t (mkTV t (shift get off))))
   | _ => .bad
 | .t (.c (.ax n off i sz len fo)) => match hp n with
   | some (.box m get) => need (Nat.ble (off + len * sz) m && Nat.ble (fo + t.size) sz) (.ok [] (.t (mkTV t (fun j => get (off + i * sz + fo + j)))))
   | _ => .bad
 | .t (.c (.ep n sz i off)) => match hp n with
   | some (.row _ size len get) => need (Nat.beq sz size && Nat.ble (off + t.size) size) (.ok [] (.t (mkTV t (shift (get i) off))))
   | some (.box m get) => .ok [i * sz + off + t.size ≤ m] (.t (mkTV t (fun j => get (i * sz + off + j))))
   | _ => .bad
 | .t (.c (.ip m get)) => need (Nat.ble t.size m) (.ok [] (.t (mkTV t get)))
 | _ => .bad
def planStore0 (hp : Nat → Option Blk) (t : TI) : AV → AV → Plan
 | .t (.c (.ptr n off)), .t v => match hp n with
   | some (.box m get) => need (Nat.beq v.cells.1 t.size && Nat.ble (off + t.size) m) (.wr [] n (.box m (overAll m get off v.cells.1 v.cells.2)))
   | _ => .bad
 | .t (.c (.ax n off i sz len fo)), .t v => match hp n with
   | some (.box m get) => need (Nat.beq v.cells.1 t.size && Nat.ble (off + len * sz) m && Nat.ble (fo + t.size) sz)
       (.wr [] n (.box m (match v with | .c x => fun j => if j = off + i * sz + fo then boolC x else boolC (get j) | .a k g => over get (off + i * sz + fo) k g)))
   | _ => .bad
 | .t (.c (.ep n sz i off)), .t v => match hp n with
   | some (.row e size len get) => need (Nat.beq sz size && Nat.beq v.cells.1 t.size && Nat.ble (off + t.size) size && allPure v.cells.2 t.size)
       (.wr [] n (.row e size len (fun i' => if i' = i then overAll size (get i) off v.cells.1 v.cells.2 else get i')))
   | some (.box m get) => need (Nat.beq v.cells.1 t.size) (.wr [i * sz + off + t.size ≤ m] n (.box m (overAll m get (i * sz + off) v.cells.1 v.cells.2)))
   | _ => .bad
 | _, _ => .bad
def planStore (hp : Nat → Option Blk) (t : TI) : AV → AV → Plan
 | .t (.c (.ptr n off)), .t v => match hp n with
   | some (.box m get) => need (Nat.beq v.cells.1 t.size && Nat.ble (off + t.size) m) (.wr [] n (.box m (overAll m get off v.cells.1 v.cells.2)))
   | _ => .bad
 | .t (.c (.ax n off i sz len fo)), .t v => match hp n with
   | some (.box m get) => need (Nat.beq v.cells.1 t.size && Nat.ble (off + len * sz) m && Nat.ble (fo + t.size) sz)
       (.wr [] n (.box m (match v with | .c x => fun j => mixC (j = off + i * sz + fo) (boolC x) (boolC (get j)) | .a k g => over get (off + i * sz + fo) k g)))
   | _ => .bad
 | .t (.c (.ep n sz i off)), .t v => match hp n with
   | some (.row e size len get) => need (Nat.beq sz size && Nat.beq v.cells.1 t.size && Nat.ble (off + t.size) size && allPure v.cells.2 t.size)
       (.wr [] n (.row e size len (fun i' => mixG (i' = i) (overAll size (get i) off v.cells.1 v.cells.2) (get i'))))
   | some (.box m get) => need (Nat.beq v.cells.1 t.size) (.wr [i * sz + off + t.size ≤ m] n (.box m (overAll m get (i * sz + off) v.cells.1 v.cells.2)))
   | _ => .bad
 | _, _ => .bad
theorem planStore_eq {hp : Nat → Option Blk} {t : TI} {x y : AV} : planStore hp t x y = planStore0 hp t x y := by
 unfold planStore planStore0
 simp only [mixC_eq, mixG_eq]
def osIn (get : Nat → CV) : Nat → Option (Nat × Nat)
 | 0 => none
 | k + 1 => match get k with
   | .os n _ _ => match osIn get k with
     | none => some (k, n)
     | some _ => none
   | _ => osIn get k
def planStoreF (hp : Nat → Option Blk) (t : TI) (x y : AV) : Plan :=
 match x, y with
 | .t (.c (.ep n sz i off)), .t (.a k g) => match osIn g k with
   | some (j, m) => match hp m with
     | some (.row _ size len get) => match planStore hp t (.t (.c (.ep n sz i off))) (.t (.a k (overAll k g j 1 (fun _ => .vs size len get)))) with
       | .wr c n' b => (match Nat.beq m n' with | true => .bad | false => .wz c n' b m)
       | _ => .bad
     | _ => .bad
   | none => planStore hp t (.t (.c (.ep n sz i off))) (.t (.a k g))
 | x, y => planStore hp t x y
def fieldOff : TK → Nat → Option (Nat × TypeId)
 | .struct fs, f => fs[f]?
 | _, _ => none
def fieldAt (E : Env) (t : TI) (f : Nat) : Option (Nat × Nat) :=
 match fieldOff t.kind f with
 | some (fo, ft) => match E.ty ft with
   | some ti => match Nat.ble 1 ti.size with | true => some (fo, ti.size) | false => none
   | none => none
 | none => none
def planFieldAddr (E : Env) (t : TI) (f : Nat) : AV → Plan
 | .t (.c (.ptr n off)) => match fieldAt E t f with
   | some (fo, _) => .cell [] (.ptr n (off + fo))
   | none => .bad
 | .t (.c (.ax n off i sz len fo')) => match fieldAt E t f with
   | some (fo, _) => .cell [] (.ax n off i sz len (fo' + fo))
   | none => .bad
 | .t (.c (.ep n sz i off)) => match fieldAt E t f with
   | some (fo, _) => .cell [] (.ep n sz i (off + fo))
   | none => .bad
 | .t (.c (.ip m get)) => match fieldAt E t f with
   | some (fo, _) => need (Nat.ble fo m) (.cell [] (.ip (m - fo) (shift get fo)))
   | none => .bad
 | _ => .bad
def planField (E : Env) (t : TI) (f : Nat) : AV → Plan
 | .t (.a n get) => match fieldOff t.kind f with
   | some (fo, ft) => match E.ty ft with
     | some ti => need (Nat.ble (fo + ti.size) n) (.ok [] (.t (mkTV ti (shift get fo))))
     | none => .bad
   | none => .bad
 | _ => .bad
def planIndexAddr (E : Env) (t : TI) : AV → AV → Plan
 | x, .t (.c (.int _ i)) => match t.kind, x with
   | .slice e, .t (.c (.vs size len get)) => match E.ty e with
     | some te => need (Nat.beq te.size size) (.cell [0 ≤ i, i < len] (.ip size (get i.toNat)))
     | none => .bad
   | .slice e, .t (.c (.os n size len)) => match E.ty e with
     | some te => need (Nat.beq te.size size) (.cell [0 ≤ i, i < len] (.ep n size i.toNat 0))
     | none => .bad
   | .array len e, .t (.c (.ptr n off)) => match E.ty e with
     | some ti => .cell [0 ≤ i, i < len] (.ax n off i.toNat ti.size len 0)
     | none => .bad
   | .array len e, .t (.c (.ip m get)) => match E.ty e with
     | some ti => need (Nat.ble (len * ti.size) m) (.cell [0 ≤ i, i < len] (.ip ti.size (fun j => get (i.toNat * ti.size + j))))
     | none => .bad
   | _, _ => .bad
 | _, _ => .bad
def planIndex (E : Env) (t : TI) : AV → AV → Plan
 | x, .t (.c (.int _ i)) => match t.kind, x with
   | .array len e, .t (.a n get) => match E.ty e with
     | some ti => need (Nat.ble (len * ti.size) n) (.ok [0 ≤ i, i < len] (.t (mkTV ti (fun j => get (i.toNat * ti.size + j)))))
     | none => .bad
   | .str, .t (.c (.str s)) => .cell [0 ≤ i, i < s.size] (.int .u8 ((s.data.toList.getD i.toNat 0).toNat))
   | _, _ => .bad
 | _, _ => .bad
def inRange (k : IntKind) (n : Int) : Prop := k.min ≤ n ∧ n ≤ k.max
def intOp (op : BinOp) (k : IntKind) (a b : Int) : Plan :=
 match op with
 | .add => .cell [inRange k (a + b)] (.int k (a + b))
 | .sub => .cell [inRange k (a - b)] (.int k (a - b))
 | .mul => .cell [inRange k (a * b)] (.int k (a * b))
 | .quo => .cell [b ≠ 0, inRange k (a.tdiv b)] (.int k (a.tdiv b))
 | .rem => .cell [b ≠ 0] (.int k (a.tmod b))
 | .eql => .cell [] (.bool (a == b))
 | .neq => .cell [] (.bool (a != b))
 | .lss => .cell [] (.bool (decide (a < b)))
 | .leq => .cell [] (.bool (decide (a ≤ b)))
 | .gtr => .cell [] (.bool (decide (b < a)))
 | .geq => .cell [] (.bool (decide (b ≤ a)))
 | .shl => (match k with
   | .i64 => .cell [0 ≤ b, b ≤ 64, inRange .i64 (a * 2 ^ b.toNat)] (.int .i64 (a * 2 ^ b.toNat))
   | _ => .bad)
 | .and => .cell [0 ≤ a, 0 ≤ b, inRange k a, inRange k b] (.int k ((a.toNat &&& b.toNat : Nat) : Int))
 | _ => .bad
def truth : AV → Option Bool
 | .t (.c .tt) => some true
 | .t (.c .ff) => some false
 | .t (.c (.bool b)) => some b
 | _ => none
def eqCell (t : TK) (x y : CV) : Option Bool :=
 match t with
 | .int _ => match x, y with
   | .int k a, .int k' b => match Nat.beq (kindNo k) (kindNo k') with | true => some (a == b) | false => none
   | _, _ => none
 | .str => match x, y with
   | .str a, .str b => some (a.toList == b.toList)
   | _, _ => none
 | .bool => match truth (.t (.c x)), truth (.t (.c y)) with
   | some a, some b => some (a == b)
   | _, _ => none
 | _ => none
def eqStruct (E : Env) (f g : Nat → CV) : List (Nat × TypeId) → Option Bool
 | [] => some true
 | (fo, ft) :: fs => match E.ty ft with
   | some ti => match eqCell ti.kind (f fo) (g fo), eqStruct E f g fs with
     | some a, some b => some (a && b)
     | _, _ => none
   | none => none
def eqDeep (E : Env) (n : Nat) (f g : Nat → CV) : List (Nat × TypeId) → Option Bool
 | [] => some true
 | (fo, ft) :: fs => match E.ty ft with
   | some ti => match (match ti.kind with
       | .struct fl => (match Nat.ble (fo + ti.size) n && fl.all (fun x => Nat.blt x.1 ti.size) with | true => eqStruct E (fun j => f (fo + j)) (fun j => g (fo + j)) fl | false => none)
       | k => eqCell k (f fo) (g fo)), eqDeep E n f g fs with
     | some a, some b => some (a && b)
     | _, _ => none
   | none => none
def eqArr (t : TK) (f g : Nat → CV) : List Nat → Option Bool
 | [] => some true
 | i :: is => match eqCell t (f i) (g i), eqArr t f g is with
   | some a, some b => some (a && b)
   | _, _ => none
def eqPlan (neg : Bool) : Option Bool → Plan
 | some b => .cell [] (.bool (if neg then !b else b))
 | none => .bad
def planEq (E : Env) (t : TI) (neg : Bool) : AV → AV → Plan
 | .t (.a n f), .t (.a m g) => need (Nat.beq n t.size && Nat.beq m t.size) (match t.kind with
   | .struct fs => match fs.all (fun x => Nat.blt x.1 n) with | true => eqPlan neg (eqDeep E n f g fs) | false => .bad
   | .array l e => match E.ty e with
     | some te => need (Nat.beq te.size 1 && Nat.beq l n) (eqPlan neg (eqArr te.kind f g (List.range l)))
     | none => .bad
   | _ => .bad)
 | .t (.c x), .t (.c y) => eqPlan neg (eqCell t.kind x y)
 | _, _ => .bad
def planCat : AV → AV → Plan
 | .t (.c (.str a)), .t (.c (.str b)) => .cell [((a.size + b.size : Nat) : Int) ≤ 9223372036854775807] (.str (a ++ b))
 | _, _ => .bad
def planBin (E : Env) (op : BinOp) (t : TI) (x y : AV) : Plan :=
 match x, y with
 | .t (.c (.int k a)), .t (.c (.int k' b)) => match Nat.beq (kindNo k) (kindNo k') with
   | true => intOp op k a b
   | false => .bad
 | _, _ => match op with
   | .eql => planEq E t false x y
   | .neq => planEq E t true x y
   | .add => planCat x y
   | _ => .bad
def strictI (n : Int) (k : Int → AV) : AV := match n with
 | .ofNat 0 => k (.ofNat 0)
 | .ofNat (m + 1) => k (.ofNat (m + 1))
 | .negSucc m => k (.negSucc m)
def strictC (x : CV) (k : CV → AV) : AV := match x with
 | .bool b => (match b with | true => k .tt | false => k .ff)
 | .int kd n => strictI n fun n => k (.int kd n)
 | x => k x
def strictL (g : Nat → CV) : Nat → List CV → (List CV → AV) → AV
 | 0, acc, k => k acc
 | i + 1, acc, k => strictC (g i) fun c => strictL g i (c :: acc) k
def strictT (x : TV) (k : TV → AV) : AV := match x with
 | .c c => strictC c fun c => k (.c c)
 | .a n g => (match Nat.ble n 8 with
   | true => strictL g n [] fun l => k (.a n (ofList l))
   | false => k (.a n g))
def strictTs : List TV → List TV → (List TV → AV) → AV
 | [], acc, k => k acc
 | x :: r, acc, k => strictT x fun x => strictTs r (acc ++ [x]) k
def concV : AV → AV
 | .t x => strictT x fun x => .t x
 | .tup l => strictTs l [] fun l => .tup l
 | .any => .any
def concP : Plan → Plan
 | .ok c v => .ok c (concV v)
 | p => p
def cP (E : Env) (p : Plan) : Plan := match E.conc with
 | true => concP p
 | false => p
def planBinC (E : Env) (op : BinOp) (t : TI) (x y : AV) : Plan := cP E (planBin E op t x y)
def planUn (op : UnOp) (x : AV) : Plan :=
 match op, x with
 | .not, .t (.c .tt) => .cell [] .ff
 | .not, .t (.c .ff) => .cell [] .tt
 | .not, .t (.c (.bool b)) => .cell [] (.bool (!b))
 | .neg, .t (.c (.int k a)) => .cell [inRange k (-a)] (.int k (-a))
 | _, _ => .bad
def planConv (dst : TI) (x : AV) : Plan :=
 match dst.kind, x with
 | .int k, .t (.c (.int _ a)) => .cell [inRange k a] (.int k a)
 | .str, .t (.c (.str s)) => .cell [] (.str s)
 | .str, .t (.c (.int _ a)) => .cell [] (.str (Utf8.encode a))
 | _, _ => .bad
def planBytes (E : Env) (e : TypeId) (s : ByteArray) : Plan := match E.ty e with
 | some te => (match te.kind with
   | .int k => need (Nat.beq (kindNo k) (kindNo .u8)) (.cell [] (.vs 1 s.size (fun i _ => .int .u8 ((s.data.toList.getD i 0).toNat))))
   | _ => .bad)
 | none => .bad
def planConvB (E : Env) (dst : TI) (x : AV) : Plan :=
 match dst.kind, x with
 | .slice e, .t (.c (.str s)) => planBytes E e s
 | _, _ => planConv dst x
def argTVs (E : Env) (tm : Nat → AV) : List Operand → Option (List TV)
 | [] => some []
 | o :: os => match evalO E tm o, argTVs E tm os with
   | .t x, some l => some (x :: l)
   | _, _ => none
def buildCells (E : Env) (fs : List (Nat × TypeId)) (size : Nat) : List (Nat × AV) → (Nat → CV) → Option (Nat → CV)
 | [], get => some get
 | (i, .t v) :: rest, get => match fs[i]? with
   | some (fo, ft) => match E.ty ft with
     | some ti => match Nat.beq v.cells.1 ti.size && Nat.ble (fo + ti.size) size with
       | true => buildCells E fs size rest (overAll size get fo v.cells.1 v.cells.2)
       | false => none
     | none => none
   | none => none
 | _ :: _, _ => none
def buildArr (esz size : Nat) : List (Nat × AV) → (Nat → CV) → Option (Nat → CV)
 | [], get => some get
 | (i, .t v) :: rest, get => match Nat.beq v.cells.1 esz && Nat.ble (i * esz + esz) size with
   | true => buildArr esz size rest (overAll size get (i * esz) v.cells.1 v.cells.2)
   | false => none
 | _ :: _, _ => none
def planBuild (E : Env) (t : TI) (parts : List (Nat × AV)) : Plan :=
 match t.kind with
 | .struct fs => match buildCells E fs t.size parts (ofList t.zero) with
   | some get => .ok [] (.t (.a t.size get))
   | none => .bad
 | .array n e => match E.ty e with
   | some ti => match buildArr ti.size t.size parts (ofList t.zero) with
     | some get => need (Nat.beq (n * ti.size) t.size) (.ok [] (.t (.a t.size get)))
     | none => .bad
   | none => .bad
 | _ => .bad
def onlyOs : List (Nat × AV) → Option Nat
 | [] => none
 | (_, .t (.c (.os n _ _))) :: l => match onlyOs l with
   | none => some n
   | some _ => none
 | _ :: l => onlyOs l
def frozeAV (n size len : Nat) (get : Nat → Nat → CV) : AV → AV
 | .t (.c (.os m s l)) => match Nat.beq m n with
   | true => .t (.c (.vs size len get))
   | false => .t (.c (.os m s l))
 | x => x
def frozeParts (n size len : Nat) (get : Nat → Nat → CV) : List (Nat × AV) → List (Nat × AV)
 | [] => []
 | (i, x) :: l => (i, frozeAV n size len get x) :: frozeParts n size len get l
def osF (E : Env) (parts : List (Nat × AV)) : Option Nat := match E.live with | true => none | false => onlyOs parts
theorem osF_some {E : Env} {parts : List (Nat × AV)} {n : Nat} (h : osF E parts = some n) : onlyOs parts = some n := by
 unfold osF at h
 split at h
 · cases h
 · exact h
def planBuildF (hp : Nat → Option Blk) (E : Env) (t : TI) (parts : List (Nat × AV)) : Plan :=
 match osF E parts with
 | some n => match hp n with
   | some (.row _ size len get) => match planBuild E t (frozeParts n size len get parts) with
     | .ok c v => .fz c n v
     | _ => .bad
   | _ => .bad
 | none => planBuild E t parts
def buildRow (size len : Nat) : List (Nat × AV) → (Nat → Nat → CV) → Option (Nat → Nat → CV)
 | [], get => some get
 | (i, .t v) :: rest, get => match Nat.beq v.cells.1 size && allPure v.cells.2 size && Nat.blt i len with
   | true => buildRow size len rest (fun i' => mixG (i' = i) v.cells.2 (get i'))
   | false => none
 | _ :: _, _ => none
def planBuildSlice (E : Env) (t : TI) (len : Nat) (parts : List (Nat × AV)) : Plan :=
 match t.kind with
 | .slice e => match E.ty e with
   | some ti => match buildRow ti.size len parts (fun _ => ofList ti.zero) with
     | some get => need (Nat.ble (len * ti.size) 16777216 && Nat.ble 1 ti.size) (.mk [] (.row e ti.size len get) (fun n => .t (.c (.os n ti.size len))))
     | none => (match buildArr ti.size (len * ti.size) parts (fun j => ofList ti.zero (j % ti.size)) with
       | some get => need (Nat.ble (len * ti.size) 16777216 && Nat.ble 1 ti.size) (.mk [] (.box (len * ti.size) get) (fun n => .t (.c (.os n ti.size len))))
       | none => .bad)
   | none => .bad
 | _ => .bad
def planMakeSlice (E : Env) (t : TI) : AV → AV → Plan
 | .t (.c (.int _ l)), .t (.c (.int _ c)) => match t.kind with
   | .slice e => match E.ty e with
     | some ti => need (Nat.ble 1 ti.size) (.mk [0 ≤ l, l = c, ti.bytes * l ≤ 140737488355328, l < 4611686018427387904] (.row e ti.size l.toNat (fun _ => ofList ti.zero)) (fun n => .t (.c (.os n ti.size l.toNat))))
     | none => .bad
   | _ => .bad
 | _, _ => .bad
def rowOf (hp : Nat → Option Blk) : AV → Option (Nat × Nat × (Nat → Nat → CV))
 | .t (.c (.vs size len get)) => some (size, len, get)
 | .t (.c (.os n sz _)) => match hp n with
   | some (.row _ size len get) => match Nat.beq sz size with | true => some (size, len, get) | false => none
   | _ => none
 | _ => none
def joinRow (len : Nat) (f g : Nat → Nat → CV) : Nat → Nat → CV := fun i => mixG (i < len) (f i) (g (i - len))
def planAppend (E : Env) (hp : Nat → Option Blk) (t : TI) (x y : AV) : Plan :=
 match t.kind with
 | .slice e => match E.ty e with
   | some ti => match rowOf hp y with
     | some (sy, ly, gy) => match x with
       | .t (.c .nils) => need (Nat.beq sy ti.size && Nat.ble 1 ti.size) (.mk [ly * ti.bytes ≤ 140737488355328, ly < 4611686018427387904] (.row e ti.size ly gy) (fun n => .t (.c (.os n ti.size ly))))
       | .t (.c (.os n size _)) => match hp n with
         | some (.row e' size' len' gx) => need (Nat.beq e' e && Nat.beq size ti.size && Nat.beq size' ti.size && Nat.beq sy ti.size && Nat.ble 1 ti.size)
             (.mv [(len' + ly) * ti.bytes ≤ 140737488355328, len' + ly < 4611686018427387904] n
               (.row e ti.size (len' + ly) (joinRow len' gx gy)) (fun m => .t (.c (.os m ti.size (len' + ly)))))
         | _ => .bad
       | .t (.c (.vx size len gx)) => need (Nat.beq size ti.size && Nat.beq sy ti.size && Nat.ble 1 ti.size && Nat.ble 1 ly)
           (.mk [(len + ly) * ti.bytes ≤ 140737488355328, len + ly < 4611686018427387904] (.row e ti.size (len + ly) (joinRow len gx gy)) (fun n => .t (.c (.os n ti.size (len + ly)))))
       | _ => .bad
     | none => match y with
       | .t (.c .nils) => match x with
         | .t (.c .nils) => .cell [] .nils
         | .t (.c (.os n size len)) => .cell [] (.os n size len)
         | _ => .bad
       | _ => .bad
   | none => .bad
 | _ => .bad
def planLen (t : TI) (x : AV) : Plan :=
 match t.kind, x with
 | .slice _, .t (.c (.vs _ len _)) => .cell [] (.int .i64 len)
 | .slice _, .t (.c (.os _ _ len)) => .cell [] (.int .i64 len)
 | .slice _, .t (.c .nils) => .cell [] (.int .i64 0)
 | .str, .t (.c (.str s)) => .cell [] (.int .i64 s.size)
 | .array n _, _ => .cell [] (.int .i64 n)
 | _, _ => .bad
def foldInts (f : Int → Int → Int) (k : IntKind) : Int → List TV → Option Int
 | a, [] => some a
 | a, .c (.int k' b) :: rest => match Nat.beq (kindNo k') (kindNo k) with | true => foldInts f k (f a b) rest | false => none
 | _, _ => none
def planMM (f : Int → Int → Int) : Option (List TV) → Plan
 | some (.c (.int k a) :: rest) => match foldInts f k a rest with
   | some n => .cell [] (.int k n)
   | none => .bad
 | _ => .bad
def imin (a b : Int) : Int := if b < a then b else a
def imax (a b : Int) : Int := if a < b then b else a
def bndLo : Option AV → Option Int
 | none => some 0
 | some (.t (.c (.int _ n))) => some n
 | _ => none
def bndHi (len : Nat) : Option AV → Option AV → Option Int
 | none, none => some len
 | some (.t (.c (.int _ n))), _ => some n
 | _, _ => none
def bndMx : Option AV → Option (Option Int)
 | none => some none
 | some (.t (.c (.int _ n))) => some (some n)
 | _ => none
def bndConds (l h : Int) (len : Nat) : Option Int → List Prop
 | none => [0 ≤ l, l ≤ h, h ≤ len]
 | some m => [0 ≤ l, l ≤ h, h ≤ m, m ≤ len]
def cutRow (lo : Option AV) (l : Int) (get : Nat → Nat → CV) : Nat → Nat → CV :=
 match lo with
 | none => get
 | some _ => fun i => get (i + l.toNat)
def planSlice (E : Env) (hp : Nat → Option Blk) (t : TI) (x : AV) (lo hi mx : Option AV) : Plan :=
 match t.kind, x with
 | .slice e, .t (.c (.vs size len get)) => match bndLo lo, bndHi len hi mx, bndMx mx, E.ty e with
   | some l, some h, some m, some te => need (Nat.beq te.size size) (match E.ex, m with
     | true, some q => .cell ((h = q) :: bndConds l h len (some q)) (.vx size (h.toNat - l.toNat) (cutRow lo l get))
     | _, m => .cell (bndConds l h len m) (.vs size (h.toNat - l.toNat) (cutRow lo l get)))
   | _, _, _, _ => .bad
 | .slice e, .t (.c (.os n sz _)) => match hp n with
   | some (.row _ size len get) => match bndLo lo, bndHi len hi mx, bndMx mx, E.ty e with
     | some l, some h, some m, some te => need (Nat.beq te.size size && Nat.beq sz size) (.fz (bndConds l h len m) n (.t (.c (.vs size (h.toNat - l.toNat) (cutRow lo l get)))))
     | _, _, _, _ => .bad
   | _ => .bad
 | .array len e, .t (.c (.ptr n 0)) => match hp n with
   | some (.box k get) => match bndLo lo, bndHi len hi mx, bndMx mx, E.ty e with
     | some l, some h, some m, some te => need (Nat.ble (len * te.size) k && allPure get k) (.fz (bndConds l h len m) n (.t (.c (.vs te.size (h.toNat - l.toNat) (cutRow lo l (fun i j => get (i * te.size + j)))))))
     | _, _, _, _ => .bad
   | _ => .bad
 | _, _ => .bad
def isC : TV → Bool
 | .c _ => true
 | .a _ _ => false
def planFunc (E : Env) (tm : Nat → AV) (fn : Fn) (first captured : List Operand) : Plan :=
 match fn, argTVs E tm first, argTVs E tm captured with
 | .func f, some l, some c => need (c.all isC) <| .cell [] (.fn f (l.map fun | .c _ => none | .a n _ => some n) (fun i => match l.getD i (.c .any) with | .c x => fun _ => x | .a _ g => g) c.length (fun i => match c.getD i (.c .any) with | .c x => x | .a _ _ => .any))
 | _, _, _ => .bad
def firstsOf : List (Option Nat) → (Nat → Nat → CV) → Nat → List TV
 | [], _, _ => []
 | none :: l, g, i => .c (g i 0) :: firstsOf l g (i + 1)
 | some n :: l, g, i => .a n (g i) :: firstsOf l g (i + 1)
def capsOf (cap : Nat → CV) : Nat → Nat → List TV
 | 0, _ => []
 | k + 1, i => .c (cap i) :: capsOf cap k (i + 1)
def keyCV : CV → Option Int
 | .int .i64 a => some a
 | _ => none
def keyFrom (get : Nat → CV) : Nat → Nat → Option (List Int)
 | _, 0 => some []
 | j, n + 1 => match keyCV (get j), keyFrom get (j + 1) n with
   | some a, some l => some (a :: l)
   | _, _ => none
def keyOfAV (T : MapT) : AV → Option (List Int)
 | .t (.c x) => match T.agg, Nat.beq T.n 1, keyCV x with
   | false, true, some a => some [a]
   | _, _, _ => none
 | .t (.a n get) => match T.agg, Nat.beq n T.n with
   | true, true => keyFrom get 0 n
   | _, _ => none
 | _ => none
def sameB : Bool → Bool → Bool
 | true, true => true
 | false, false => true
 | _, _ => false
def sameT (T T' : MapT) : Bool := Nat.beq T.k T'.k && Nat.beq T.v T'.v && sameB T.agg T'.agg && Nat.beq T.n T'.n && sameB T.vb T'.vb
def isSm : Option Int → Bool
 | some _ => true
 | none => false
def valOf : Option Int → Int
 | some a => a
 | none => 0
def valCV (vb : Bool) (x : Option Int) : CV :=
 match vb with
 | true => .bool (decide (valOf x ≠ 0))
 | false => .int .i64 (valOf x)
def elemOf (vb : Bool) : AV → Option Int
 | .t (.c (.int .i64 a)) => match vb with | false => some a | true => none
 | x => match vb, truth x with
   | true, some b => some (bif b then 1 else 0)
   | _, _ => none
def inRs : List Int → List Prop
 | [] => []
 | a :: l => inRange .i64 a :: inRs l
def putM (m : List Int → Option Int) (ks : List Int) (a : Int) : List Int → Option Int := fun x => if x = ks then some a else m x
def fstM (m : List Int → Option (Int × Nat)) : List Int → Option Int := fun ks => match m ks with | some x => some x.1 | none => none
def mapOf : Option Blk → Option (MapT × (List Int → Option Int))
 | some (.mp T m) => some (T, m)
 | some (.mq T m _) => some (T, fstM m)
 | _ => none
def planLookup (hp : Nat → Option Blk) (T : MapT) (x k : AV) (ok : Bool) : Plan :=
 match x, keyOfAV T k with
 | .t (.c (.mp nm)), some ks => match mapOf (hp nm) with
   | some (T', m) => need (sameT T T') (.ok (inRs ks) (match ok with
     | true => .tup [.c (valCV T.vb (m ks)), .c (.bool (isSm (m ks)))]
     | false => .t (.c (valCV T.vb (m ks)))))
   | _ => .bad
 | _, _ => .bad
def planMapUpdate (hp : Nat → Option Blk) (T : MapT) (x k v : AV) : Plan :=
 match x, keyOfAV T k, elemOf T.vb v with
 | .t (.c (.mp nm)), some ks, some a => match hp nm with
   | some (.mp T' m) => need (sameT T T') (.wr (inRs ks) nm (.mp T (putM m ks a)))
   | _ => .bad
 | _, _, _ => .bad
def planMapUpd (hp : Nat → Option Blk) (T : MapT) (x k v : AV) : Plan :=
 match x, keyOfAV T k, elemOf T.vb v with
 | .t (.c (.mp nm)), some ks, some a => match hp nm with
   | some (.mpI T' I) => need (sameT T T') (.wr (I ks a :: inRs ks) nm (.mpI T I))
   | _ => planMapUpdate hp T x k v
 | _, _, _ => .bad
def cutM (m : List Int → Option Int) (ks : List Int) : List Int → Option Int := fun x => if x = ks then none else m x
def cutS (m : List Int → Option (Int × Nat)) (ks : List Int) : List Int → Option (Int × Nat) := fun x => if x = ks then none else m x
def putS (m : List Int → Option (Int × Nat)) (ks : List Int) (a : Int) (s : Nat) : List Int → Option (Int × Nat) := fun x => if x = ks then some (a, s) else m x
def entV : Option (Int × Nat) → Int | some x => x.1 | none => 0
def entS (clk : Nat) : Option (Int × Nat) → Nat | some x => x.2 | none => clk
def entC (clk : Nat) : Option (Int × Nat) → Nat | some _ => clk | none => clk + 1
def stmp : Option (Int × Nat) → Option Int | some x => some x.2 | none => none
def planDelete (hp : Nat → Option Blk) (T : MapT) (x k : AV) : Plan :=
 match x, keyOfAV T k with
 | .t (.c (.mp nm)), some ks => match hp nm with
   | some (.mp T' m) => need (sameT T T') (.wr (inRs ks) nm (.mp T (cutM m ks)))
   | some (.mq T' m clk) => need (sameT T T') (.wr (inRs ks) nm (.mq T (cutS m ks) clk))
   | _ => .bad
 | _, _ => .bad
def planEntry (hp : Nat → Option Blk) (T : MapT) (x k : AV) : Plan :=
 match x, keyOfAV T k with
 | .t (.c (.mp nm)), some ks => match hp nm with
   | some (.mq T' m clk) => need (sameT T T') (.we (inRs ks) nm (.mq T (putS m ks (entV (m ks)) (entS clk (m ks))) (entC clk (m ks))) (.tup [.c (valCV T.vb (some (entV (m ks)))), .c (.stp nm ks (entS clk (m ks)))]))
   | _ => .bad
 | _, _ => .bad
def planEntryStore (hp : Nat → Option Blk) (T : MapT) (x s v : AV) : Plan :=
 match x, s, elemOf T.vb v with
 | .t (.c (.mp nm)), .t (.c (.stp _ ks z)), some a => match hp nm with
   | some (.mq T' m clk) => need (sameT T T') (.wr [stmp (m ks) = some z] nm (.mq T (putS m ks a z.toNat) clk))
   | _ => .bad
 | _, _, _ => .bad
def planCall (E : Env) (tm : Nat → AV) (hp : Nat → Option Blk) (c : Call) : Plan :=
 match c.callee with
 | .builtin .len => match c.args.toList, c.argTypes.toList with
   | [x], [t] => match E.ty t with | some ti => planLen ti (evalO E tm x) | none => .bad
   | _, _ => .bad
 | .builtin .append => match c.args.toList, c.argTypes.toList with
   | [x, y], [t, t'] => need (Nat.beq t t') <| match E.ty t with | some ti => planAppend E hp ti (evalO E tm x) (evalO E tm y) | none => .bad
   | _, _ => .bad
 | .builtin .min => planMM imin (argTVs E tm c.args.toList)
 | .builtin .max => planMM imax (argTVs E tm c.args.toList)
 | .builtin .delete => match c.args.toList, c.argTypes.toList with
   | [x, y], [t, _] => match E.mps t with | some T => planDelete hp T (evalO E tm x) (evalO E tm y) | none => .bad
   | _, _ => .bad
 | .value f => match evalO E tm f, argTVs E tm c.args.toList with
   | .t (.c (.fn g sh first nc cap)), some args => .call g (firstsOf sh first 0 ++ args ++ capsOf cap nc 0)
   | .t (.c (.yl n)), some args => .ycall n args
   | _, _ => .bad
 | _ => .bad
def isFF : CV → Bool
 | .ff => true
 | _ => false
def zeroG (ti : TI) : Nat → CV := match Nat.ble 40 ti.size with
 | true => (match ti.zero.all isFF with | true => fun _ => .ff | false => ofList ti.zero)
 | false => ofList ti.zero
def planOp (E : Env) (tm : Nat → AV) (hp : Nat → Option Blk) (o : Oper) : Plan :=
 let ev := evalO E tm
 match o.op with
 | .move x => .ok [] (ev x)
 | .assign x => .ok [] (ev x)
 | .pick c a b => match truth (ev c) with
   | some t => .ok [] (if t then ev a else ev b)
   | none => .bad
 | .alloc t => match E.ty t with
   | some ti => need (Nat.beq ti.zero.length ti.size) (.mk [] (.box ti.size (zeroG ti)) (fun n => .t (.c (.ptr n 0))))
   | none => .bad
 | .box _ x => match ev x with
   | .t v => .mk [] (.box v.cells.1 v.cells.2) (fun n => .t (.c (.ptr n 0)))
   | _ => .bad
 | .build t parts => match E.ty t with
   | some ti => planBuildF hp E ti (parts.toList.map fun p => (p.1, ev p.2))
   | none => .bad
 | .buildSlice t len parts => match E.ty t with
   | some ti => planBuildSlice E ti len (parts.toList.map fun p => (p.1, ev p.2))
   | none => .bad
 | .load t x => match E.ty t with
   | some ti => cP E (planLoad hp ti (ev x))
   | none => .bad
 | .store t x y => match E.ty t with
   | some ti => planStoreF hp ti (ev x) (ev y)
   | none => .bad
 | .nilCheck x => match ev x with
   | .t (.c (.ptr n off)) => .cell [] (.ptr n off)
   | .t (.c (.ep n sz i off)) => .cell [] (.ep n sz i off)
   | .t (.c (.ip n get)) => .cell [] (.ip n get)
   | .t (.c (.fn f sh first nc cap)) => .cell [] (.fn f sh first nc cap)
   | .t (.c (.yl n)) => .cell [] (.yl n)
   | _ => .bad
 | .binOp op t x y _ => match E.ty t with
   | some ti => planBinC E op ti (ev x) (ev y)
   | none => .bad
 | .unOp op _ x => cP E (planUn op (ev x))
 | .convert src dst x => match E.ty src, E.ty dst with
   | some _, some ti => planConvB E ti (ev x)
   | _, _ => .bad
 | .makeFunc fn first captured => planFunc E tm fn first.toList captured.toList
 | .makeMap t none => match E.mps t with
   | some T => .mk [] (match E.stm t with | true => .mq T (fun _ => none) 0 | false => .mp T (fun _ => none)) (fun n => .t (.c (.mp n)))
   | none => .bad
 | .makeSlice t l c => match E.ty t with
   | some ti => planMakeSlice E ti (ev l) (ev c)
   | none => .bad
 | .slice t x lo hi mx => match E.ty t with
   | some ti => planSlice E hp ti (ev x) (lo.map ev) (hi.map ev) (mx.map ev)
   | none => .bad
 | .fieldAddr t x f => match E.ty t with
   | some ti => planFieldAddr E ti f (ev x)
   | none => .bad
 | .field t x f => match E.ty t with
   | some ti => planField E ti f (ev x)
   | none => .bad
 | .indexAddr t x i => match E.ty t with
   | some ti => planIndexAddr E ti (ev x) (ev i)
   | none => .bad
 | .index t x i => match E.ty t with
   | some ti => cP E (planIndex E ti (ev x) (ev i))
   | none => .bad
 | .extract x i => match ev x with
   | .tup l => match l[i]? with
     | some v => .ok [] (.t v)
     | none => .bad
   | _ => .bad
 | .call c => planCall E tm hp c
 | .lookup t x k ok => match E.mps t with
   | some T => cP E (planLookup hp T (ev x) (ev k) ok)
   | none => .bad
 | .mapUpdate t x k v => match E.mps t with
   | some T => planMapUpd hp T (ev x) (ev k) (ev v)
   | none => .bad
 | .insert t x k v => match E.mps t with
   | some T => planMapUpd hp T (ev x) (ev k) (ev v)
   | none => .bad
 | .mapEntry t x k => match E.mps t with
   | some T => planEntry hp T (ev x) (ev k)
   | none => .bad
 | .entryStore t x s v => match E.mps t with
   | some T => planEntryStore hp T (ev x) (ev s) (ev v)
   | none => .bad
 | _ => .bad
def St.put (st : St) (dst : Option Nat) (v : AV) : St :=
 match dst with
 | some d => { st with tm := upd st.tm d v }
 | none => st
def St.has (st : St) : Option Nat → Bool
 | some d => Nat.blt d st.sz
 | none => true
def capPure (hp : Nat → Option Blk) : CV → Option CV
 | .ptr n off => match hp n with
   | some (.box m get) => match Nat.ble off m && allPure get m with | true => some (.ip (m - off) (shift get off)) | false => none
   | _ => none
 | x => if isPure x then some x else none
def capsPure (hp : Nat → Option Blk) (cap : Nat → CV) : Nat → Option (Nat → CV)
 | 0 => some cap
 | n + 1 => match capsPure hp cap n, capPure hp (cap n) with
   | some g, some y => some (fun j => if j = n then y else g j)
   | _, _ => none
def pureCV (hp : Nat → Option Blk) : CV → Option CV
 | .ptr n off => capPure hp (.ptr n off)
 | .fn f sh first nc cap => match isPure (.fn f sh first nc cap) with
   | true => some (.fn f sh first nc cap)
   | false => match sh, capsPure hp cap nc with
     | [], some g => some (.fn f [] first nc g)
     | _, _ => none
 | .os n sz _ => match hp n with
   | some (.row _ size len get) => match Nat.beq sz size with | true => some (.vs size len get) | false => none
   | _ => none
 | x => if isPure x then some x else none
def pureGet (hp : Nat → Option Blk) (get : Nat → CV) : Nat → Option (Nat → CV)
 | 0 => some get
 | n + 1 => match pureGet hp get n, isPure (get n) with
   | some g, true => some g
   | some g, false => match pureCV hp (get n) with
     | some y => some (fun j => if j = n then y else g j)
     | none => none
   | none, _ => none
def pureTV (hp : Nat → Option Blk) : TV → Option TV
 | .c x => match pureCV hp x with | some y => some (.c y) | none => none
 | .a n get => match pureGet hp get n with | some g => some (.a n g) | none => none
def pureTVs (hp : Nat → Option Blk) : List TV → Option (List TV)
 | [] => some []
 | v :: l => match pureTV hp v, pureTVs hp l with
   | some y, some r => some (y :: r)
   | _, _ => none
def pureCVD (hp : Nat → Option Blk) : CV → Option CV
 | .os n sz len => match hp n with
   | some (.box m get) => match Nat.ble (len * sz) m, pureGet hp get m with
     | true, some g => some (.vs sz len (fun i j => g (i * sz + j)))
     | _, _ => none
   | _ => pureCV hp (.os n sz len)
 | x => pureCV hp x
def pureGetD (hp : Nat → Option Blk) (get : Nat → CV) : Nat → Option (Nat → CV)
 | 0 => some get
 | n + 1 => match pureGetD hp get n, isPure (get n) with
   | some g, true => some g
   | some g, false => match pureCVD hp (get n) with
     | some y => some (fun j => if j = n then y else g j)
     | none => none
   | none, _ => none
def pureTVD (hp : Nat → Option Blk) : TV → Option TV
 | .c x => match pureCVD hp x with | some y => some (.c y) | none => none
 | .a n get => match pureGetD hp get n with | some g => some (.a n g) | none => none
def pureTVsD (hp : Nat → Option Blk) : List TV → Option (List TV)
 | [] => some []
 | v :: l => match pureTVD hp v, pureTVsD hp l with
   | some y, some r => some (y :: r)
   | _, _ => none
def capsOwn (cap : Nat → CV) : Nat → List Nat
 | 0 => []
 | n + 1 => capsOwn cap n ++ (match cap n with | .ptr m _ => [m] | _ => [])
def ownCV : CV → List Nat
 | .os n _ _ => [n]
 | .ptr n _ => [n]
 | .fn _ _ _ nc cap => capsOwn cap nc
 | _ => []
def ownGet (get : Nat → CV) : Nat → List Nat
 | 0 => []
 | n + 1 => ownGet get n ++ ownCV (get n)
def ownTV : TV → List Nat
 | .c x => ownCV x
 | .a n get => ownGet get n
def ownTVs : List TV → List Nat
 | [] => []
 | v :: l => ownTV v ++ ownTVs l
def isFlat : CV → Bool
 | .tt => true
 | .ff => true
 | .bool _ => true
 | .int _ _ => true
 | .str _ => true
 | .nilp => true
 | .nils => true
 | .nilm => true
 | .nilf => true
 | _ => false
def flatGet (get : Nat → CV) : Nat → Bool
 | 0 => true
 | n + 1 => flatGet get n && isFlat (get n)
def flatRVs : List RV → Bool
 | [] => true
 | .v (.c x) :: l => isFlat x && flatRVs l
 | .v (.a n get) :: l => flatGet get n && flatRVs l
 | .own _ _ _ _ :: l => flatRVs l
def chk (b : Bool) : Prop := match b with | true => True | false => False
def flatOwns : List RV → List Prop
 | [] => []
 | .v _ :: l => flatOwns l
 | .own _ size len get :: l => (∀ i, i < len → chk (flatGet (get i) size)) :: flatOwns l
def pureRVs : List RV → Bool
 | [] => true
 | .v (.c x) :: l => isPure x && pureRVs l
 | .v (.a n get) :: l => allPure get n && pureRVs l
 | .own _ _ _ _ :: l => pureRVs l
def ownCVD (hp : Nat → Option Blk) : CV → List Nat
 | .os n _ _ => n :: (match hp n with | some (.box m g) => ownGet g m | _ => [])
 | x => ownCV x
def ownGetD (hp : Nat → Option Blk) (get : Nat → CV) : Nat → List Nat
 | 0 => []
 | n + 1 => ownGetD hp get n ++ ownCVD hp (get n)
def dropAll (hp : Nat → Option Blk) : List Nat → Nat → Option Blk
 | [] => hp
 | n :: l => upd (dropAll hp l) n none
def resTVs : List RV → Nat → List TV
 | [], _ => []
 | .v x :: l, n => x :: resTVs l n
 | .own _ size len _ :: l, n => .c (.os n size len) :: resTVs l (n + 1)
def resHp (hp : Nat → Option Blk) : List RV → Nat → Nat → Option Blk
 | [], _ => hp
 | .v _ :: l, n => resHp hp l n
 | .own e size len get :: l, n => upd (resHp hp l (n + 1)) n (some (.row e size len get))
def ownCount : List RV → Nat
 | [] => 0
 | .v _ :: l => ownCount l
 | .own _ _ _ _ :: l => ownCount l + 1
def resAV : List TV → AV
 | [v] => .t v
 | l => .tup l
inductive Src where
 | bad
 | virt
 | nm (n : Nat)
def allN (n : Nat) (p : Nat → Prop) : Prop :=
 match n with
 | 0 => True
 | k + 1 => allN k p ∧ p k
def allM (n : Nat) (p : Nat → Prop) : Prop :=
 match Nat.ble 40 n with
 | true => ∀ j, j < n → p j
 | false => allN n p
def isNm (s : Src) (n : Nat) : Prop := match s with | .nm k => (match Nat.beq k n with | true => True | false => False) | _ => False
def isVirt (s : Src) : Prop := match s with | .virt => True | _ => False
def fitP : CV → CV → Prop
 | _, .any => True
 | .tt, .tt => True
 | .ff, .ff => True
 | .tt, .bool b => b = true
 | .ff, .bool b => b = false
 | .bool a, .bool b => a = b
 | .int k a, .int k' b => (match Nat.beq (kindNo k) (kindNo k') with | true => a = b | false => False)
 | .str a, .str b => a = b
 | .nilp, .nilp => True
 | .nils, .nils => True
 | .nilm, .nilm => True
 | .nilf, .nilf => True
 | .nils, .vs _ l' _ => l' = 0
 | .vs s l g, .vs s' l' g' => chk (Nat.beq s s') ∧ l = l' ∧ ∀ i, i < l → allN s fun j => fitP (g i j) (g' i j)
 | .vx s l g, .vs s' l' g' => chk (Nat.beq s s') ∧ l = l' ∧ ∀ i, i < l → allN s fun j => fitP (g i j) (g' i j)
 | .ip n g, .ip n' g' => chk (Nat.beq n n') ∧ allN n fun j => fitP (g j) (g' j)
 | .fn f [] _ (nc + 1) cap, .fn f' [] _ nc' cap' => chk (Nat.beq f f') ∧ chk (Nat.beq (nc + 1) nc') ∧ allN (nc + 1) fun j => fitP (cap j) (cap' j)
 | x, y => x = y
def fitCV0 (ρ : Nat → Src) (x y : CV) : Prop :=
 match x, y with
 | .nils, .os m _ len => isVirt (ρ m) ∧ len = 0
 | .ptr n off, .ptr m off' => isNm (ρ m) n ∧ off = off'
 | .os n s l, .os m s' l' => isNm (ρ m) n ∧ chk (Nat.beq s s') ∧ l = l'
 | .mp n, .mp m => isNm (ρ m) n
 | _, .any => True
 | x, y => chk (isPure x) ∧ fitP x y
def fitCV (ρ : Nat → Src) (x y : CV) : Prop :=
 match x, y with
 | .fn f [] _ (nc + 1) cap, .fn f' [] _ nc' cap' => chk (Nat.beq f f') ∧ chk (Nat.beq (nc + 1) nc') ∧ allN (nc + 1) fun j => fitCV0 ρ (cap j) (cap' j)
 | x, y => fitCV0 ρ x y
def fitTV (ρ : Nat → Src) : TV → TV → Prop
 | .c x, .c y => fitCV ρ x y
 | .a n g, .a n' g' => chk (Nat.beq n n') ∧ allM n fun j => fitCV ρ (g j) (g' j)
 | _, _ => False
def fitAV (ρ : Nat → Src) : AV → AV → Prop
 | _, .any => True
 | .t x, .t y => fitTV ρ x y
 | _, _ => False
def fitTVs : List TV → List TV → Prop
 | [], [] => True
 | x :: l, y :: r => fitTV (fun _ => .bad) x y ∧ fitTVs l r
 | _, _ => False
abbrev Hp := Nat → Option Blk
def srcCV : CV → Src
 | .os n _ _ => .nm n
 | .ptr n _ => .nm n
 | .mp n => .nm n
 | .nils => .virt
 | _ => .bad
def fitBlk (ρ : Nat → Src) : Blk → Blk → Prop
 | .box n g, .box n' g' => chk (Nat.beq n n') ∧ allM n fun j => fitCV ρ (g j) (g' j)
 | .row e s l g, .row e' s' l' g' => chk (Nat.beq e e') ∧ chk (Nat.beq s s') ∧ l = l' ∧ ∀ i, i < l → allN s fun j => fitP (g i j) (g' i j)
 | .mp T m, .mp T' m' => chk (sameT T T') ∧ ∀ ks, m ks = m' ks
 | .mp T m, .mpI T' I => chk (sameT T T') ∧ ∀ ks x, m ks = some x → I ks x
 | .mpI T I, .mpI T' I' => chk (sameT T T') ∧ ∀ ks x, I ks x → I' ks x
 | .mq T m c, .mq T' m' c' => chk (sameT T T') ∧ (∀ ks, m ks = m' ks) ∧ c = c'
 | .mq T m _, .mp T' m' => chk (sameT T T') ∧ ∀ ks, fstM m ks = m' ks
 | _, _ => False
def nameOf (x : CV) : Option Nat := match srcCV x with | .nm n => some n | _ => none
def argName : List TV → Nat → Option Nat
 | [], _ => none
 | .c x :: _, 0 => nameOf x
 | .a _ _ :: _, 0 => none
 | _ :: l, i + 1 => argName l i
def argCell : List TV → Nat → Nat → Option Nat
 | [], _, _ => none
 | .a n get :: _, 0, off => match Nat.blt off n with | true => nameOf (get off) | false => none
 | .c _ :: _, 0, _ => none
 | _ :: l, i + 1, off => argCell l i off
def cellName (hp : Hp) (n off : Nat) : Option Nat := match hp n with
 | some (.box k get) => match Nat.blt off k with | true => nameOf (get off) | false => none
 | _ => none
def nthN : List Nat → Nat → Option Nat
 | [], _ => none
 | n :: _, 0 => some n
 | _ :: l, i + 1 => nthN l i
def recNames (args : List TV) (hp : Hp) : List RW → List Nat → Option (List Nat)
 | [], acc => some acc
 | .arg i :: l, acc => match argName args i with
   | some n => recNames args hp l (acc ++ [n])
   | none => none
 | .cell m off :: l, acc => match nthN acc m with
   | some k => match cellName hp k off with
     | some n => recNames args hp l (acc ++ [n])
     | none => none
   | none => none
 | .argc i off :: l, acc => match argCell args i off with
   | some n => recNames args hp l (acc ++ [n])
   | none => none
def apart : List Nat → Bool
 | [] => true
 | n :: l => !(l.any (Nat.beq n)) && apart l
def recSrc (ns : List Nat) (m : Nat) : Src := match nthN ns m with | some n => .nm n | none => .bad
def recTVs (ρ : Nat → Src) : List TV → List TV → Prop
 | [], [] => True
 | x :: l, y :: r => fitTV ρ x y ∧ recTVs ρ l r
 | _, _ => False
def recBlks (ρ : Nat → Src) (hp : Hp) : List Nat → List (RW × Blk) → Prop
 | [], [] => True
 | n :: l, (_, b) :: r => (match hp n with | some b1 => fitBlk ρ b1 b | none => False) ∧ recBlks ρ hp l r
 | _, _ => False
def rwsOf : List (RW × Blk) → List RW
 | [] => []
 | (r, _) :: l => r :: rwsOf l
def idxN : List Nat → Nat → Nat → Option Nat
 | [], _, _ => none
 | n :: l, i, m => match Nat.beq n m with | true => some i | false => idxN l (i + 1) m
def backSrc (ns : List Nat) (n : Nat) : Src := match idxN ns 0 n with | some i => .nm i | none => .bad
def backBlks (ρ : Nat → Src) (hp : Nat → Option Blk) : List Nat → List (RW × Blk) → Prop
 | [], [] => True
 | n :: l, (_, b) :: r => (match hp n with | some b1 => fitBlk ρ b b1 | none => False) ∧ backBlks ρ hp l r
 | _, _ => False
def evenPre (R : ESpec) (args : List TV) (hp : Nat → Option Blk) (K : AV → Prop) : Prop :=
 ∃ g, R.ok g ∧ match recNames args hp (rwsOf (R.hp g)) [] with
   | some ns => chk (apart ns) ∧ recTVs (recSrc ns) args (R.arg g) ∧ recBlks (recSrc ns) hp ns (R.hp g) ∧ backBlks (backSrc ns) hp ns (R.hp g) ∧ K (resAV (R.res g))
   | none => False
abbrev CallVC := FuncId → List TV → Hp → Nat → List Nat → (AV → Hp → Nat → List Nat → Prop) → Prop
abbrev YieldVC := Nat → List TV → Hp → Nat → List Nat → (AV → Hp → Nat → List Nat → Prop) → Prop
def conj : List Prop → Prop → Prop
 | [], p => p
 | c :: l, p => c ∧ conj l p
def St.next (st : St) (dst : Option Nat) (v : AV) (hp : Hp) (nx : Nat) (wl : List Nat) : St :=
 { tm := match dst with | some d => upd st.tm d v | none => st.tm, sz := st.sz, hp := hp, nx := nx, wl := wl }
def vcStep (E : Env) (inl : CallVC) (yld : YieldVC) (dst : Option Nat) (p : Plan) (st : St) (K : St → Prop) : Prop :=
 match p with
 | .bad => False
 | .ok c v => conj c <| K (st.next dst v st.hp (st.nx + 4) st.wl)
 | .mk c b v => conj c <| K (st.next dst (v st.nx) (upd st.hp st.nx (some b)) (st.nx + 4) st.wl)
 | .wr c n b => conj c <| K (st.next dst .any (upd st.hp n (some b)) (st.nx + 4) (n :: st.wl))
 | .we c n b v => conj c <| K (st.next dst v (upd st.hp n (some b)) (st.nx + 4) (n :: st.wl))
 | .mv c n b v => conj c <| K (st.next dst (v st.nx) (upd (upd st.hp n none) st.nx (some b)) (st.nx + 4) (n :: st.wl))
 | .fz c n v => conj c <| K (st.next dst v (upd st.hp n none) (st.nx + 4) (n :: st.wl))
 | .wz c n b m => conj c <| K (st.next dst .any (upd (upd st.hp m none) n (some b)) (st.nx + 4) (n :: m :: st.wl))
 | .call f args => match E.sig f with
   | some s => match pureTVs st.hp args with
     | some pargs => ∃ x : s.α, fitTVs pargs (s.arg x) ∧ s.pre x ∧ (match Nat.ble (ownCount (s.res x)) 4 && pureRVs (s.res x) with
       | true => (match (ownTVs args).isEmpty with
         | true => K (st.next dst (resAV (resTVs (s.res x) st.nx)) (resHp st.hp (s.res x) st.nx) (st.nx + 4) st.wl)
         | false => (match flatRVs (s.res x) with
           | true => conj (flatOwns (s.res x)) <| K (st.next dst (resAV (resTVs (s.res x) st.nx)) (resHp st.hp (s.res x) st.nx) (st.nx + 4) st.wl)
           | false => K (st.next dst (resAV (resTVs (s.res x) st.nx)) (resHp (dropAll st.hp (ownTVs args)) (s.res x) st.nx) (st.nx + 4) (ownTVs args ++ st.wl))))
       | false => False)
     | none => (match pureTVsD st.hp args with
       | some pargs => ∃ x : s.α, fitTVs pargs (s.arg x) ∧ s.pre x ∧ (match Nat.ble (ownCount (s.res x)) 4 && pureRVs (s.res x) && flatRVs (s.res x) with
         | true => conj (flatOwns (s.res x)) <| K (st.next dst (resAV (resTVs (s.res x) st.nx)) (resHp st.hp (s.res x) st.nx) (st.nx + 4) st.wl)
         | false => False)
       | none => False)
   | none => inl f args st.hp st.nx st.wl fun v hp nx wl => K (st.next dst v hp (nx + 4) wl)
 | .ycall n args => yld n args st.hp st.nx st.wl fun v hp nx wl => K (st.next dst v hp (nx + 4) wl)
def pickV : Bool → AV → AV → AV
 | true, x, _ => x
 | false, _, y => y
def same : Bool → Bool → Bool
 | true, true => true
 | false, false => true
 | _, _ => false
def split (kn : Nat → Option Bool) (d : Nat) (x : AV) (K : (Nat → Option Bool) → Bool → Prop) : Prop :=
 match kn d with
 | some t => K kn t
 | none => match x with
   | .t (.c .tt) => K kn true
   | .t (.c .ff) => K kn false
   | .t (.c (.bool b)) => (b = true → K (upd kn d (some true)) true) ∧ (b = false → K (upd kn d (some false)) false)
   | _ => False
def forget (kn : Nat → Option Bool) : Option Nat → Nat → Option Bool
 | some d => upd kn d none
 | none => kn
def isSkip : AV → Bool
 | .tup [] => true
 | _ => false
def slotOf (ops : List Oper) (j : Nat) : Option Nat := match ops[j]? with | some o => o.dst | none => none
def frzOne (t : Nat) (st : St) : St :=
 match st.tm t with
 | .t (.c (.os n sz _)) => match st.hp n with
   | some (.row _ size len get) => match Nat.beq sz size with
     | true => { tm := upd st.tm t (.t (.c (.vs size len get))), sz := st.sz, hp := upd st.hp n none, nx := st.nx, wl := n :: st.wl }
     | false => st
   | _ => st
 | _ => st
def frzAll : List Nat → St → St
 | [], st => st
 | t :: l, st => frzAll l (frzOne t st)
def frzOneD (t : Nat) (st : St) : St :=
 match st.tm t with
 | .t (.c (.os n sz len)) => match st.hp n with
   | some (.box m get) => match Nat.ble (len * sz) m, pureGetD st.hp get m with
     | true, some g => { tm := upd st.tm t (.t (.c (.vs sz len (fun i j => g (i * sz + j))))), sz := st.sz, hp := dropAll st.hp (n :: ownGetD st.hp get m), nx := st.nx, wl := (n :: ownGetD st.hp get m) ++ st.wl }
     | _, _ => st
   | _ => frzOne t st
 | _ => st
def frzAllD : List Nat → St → St
 | [], st => st
 | t :: l, st => frzAllD l (frzOneD t st)
def tmpsOf (o : Oper) : List Nat := o.op.operands.toList.filterMap fun | .tmp t => some t | _ => none
def vcOne (E : Env) (inl : CallVC) (yld : YieldVC) (kn : Nat → Option Bool) (o : Oper) (st : St) (K : (Nat → Option Bool) → St → Prop) : Prop :=
 match st.has o.dst with
 | true => match o.op with
   | .pick (.tmp c) a b => split kn c (st.tm c) fun kn t => K (forget kn o.dst) (st.next o.dst (pickV t (evalO E st.tm a) (evalO E st.tm b)) st.hp (st.nx + 4) st.wl)
   | .buildSlice _ _ _ => vcStep E inl yld o.dst (planOp E (frzAll (tmpsOf o) st).tm (frzAll (tmpsOf o) st).hp o) (frzAll (tmpsOf o) st) (K (forget kn o.dst))
   | _ => match E.pz o.dst with
     | [] => vcStep E inl yld o.dst (planOp E st.tm st.hp o) st (K (forget kn o.dst))
     | t :: l => vcStep E inl yld o.dst (planOp E (frzAll (t :: l) st).tm (frzAll (t :: l) st).hp o) (frzAll (t :: l) st) (K (forget kn o.dst))
 | false => False
def vcOps (E : Env) (inl : CallVC) (yld : YieldVC) (ops : List Oper) : List Oper → (Nat → Option Bool) → St → (St → Prop) → Prop
 | [], _, st, K => K st
 | o :: rest, kn, st, K =>
   match o.guard with
   | none => vcOne E inl yld kn o st fun kn st => vcOps E inl yld ops rest kn st K
   | some (j, want) => match slotOf ops j with
     | some d => match isSkip (st.tm d) with
       | true => (match st.has o.dst with
         | true => vcOps E inl yld ops rest (forget kn o.dst) (st.next o.dst (.tup []) st.hp (st.nx + 4) st.wl) K
         | false => False)
       | false => split kn d (st.tm d) fun kn t => match same t want with
         | true => vcOne E inl yld kn o st fun kn st => vcOps E inl yld ops rest kn st K
         | false => match st.has o.dst with
           | true => vcOps E inl yld ops rest (forget kn o.dst) (st.next o.dst (.tup []) st.hp (st.nx + 4) st.wl) K
           | false => False
     | none => False
def strictN (n : Nat) (k : Nat → Prop) : Prop := match n with
 | 0 => k 0
 | m + 1 => k (m + 1)
def withBefores (k : List Nat → Prop) : List Oper → List Nat → Prop
 | [], acc => k acc
 | o :: rest, acc => strictN (o.after.toList.foldl (fun s e => if Region.binds .any e then s ||| 2 ^ e.on ||| acc.getD e.on 0 else s) 0) fun b => withBefores k rest (acc ++ [b])
theorem withBefores_ok {k : List Nat → Prop} : ∀ {l : List Oper} {acc : List Nat}, withBefores k l acc → ∃ bs, k bs
 | [], acc, h => ⟨acc, h⟩
 | o :: rest, acc, h => by
   simp only [withBefores, strictN] at h
   split at h <;> exact withBefores_ok h
def isBar (bs : List Nat) (i : Nat) : Bool :=
 Nat.beq (bs.getD i 0) (2 ^ i - 1) && ((List.range bs.length).all fun j => Nat.ble j i || (bs.getD j 0).testBit i)
def looks (ops : List Oper) (o : Oper) : List Nat :=
 tmpsOf o ++ (match o.guard with | some (j, _) => (match slotOf ops j with | some d => [d] | none => []) | none => [])
def ssa (ops : List Oper) (bs : List Nat) : Bool :=
 ops.zipIdx.all fun x => match x.1.dst with
   | some d => ops.zipIdx.all fun y => (Nat.beq x.2 y.2) || ((match y.1.dst with | some d' => !(Nat.beq d d') | none => true) && (!((looks ops y.1).any (Nat.beq d)) || (bs.getD y.2 0).testBit x.2 || (bs.getD x.2 0).testBit y.2))
   | none => true
def sound (ops : List Oper) (bs : List Nat) : Bool :=
 Nat.beq bs.length ops.length &&
 ops.zipIdx.all fun x => Nat.blt (bs.getD x.2 0) (2 ^ x.2) && (x.1.after.toList.all fun e => !Region.binds .any e || Nat.blt e.on x.2) &&
   ((List.range x.2).all fun k => !((bs.getD x.2 0).testBit k) || x.1.after.toList.any fun e => Region.binds .any e && (Nat.beq e.on k || (bs.getD e.on 0).testBit k))
def orderly (ops : List Oper) (bs : List Nat) : Bool := ssa ops bs && sound ops bs
def masked (tm : Nat → AV) (l : List Nat) : Nat → AV := fun t => match l.any (Nat.beq t) with | true => tm t | false => .any
def findW : List (Nat × List Nat) → Nat → Option (List Nat)
 | [], _ => none
 | (m, l) :: r, n => match Nat.beq n m with | true => some l | false => findW r n
def ordered (bs : List Nat) (i k : Nat) : Bool := (bs.getD k 0).testBit i || (bs.getD i 0).testBit k
def sees (bs : List Nat) (W : List (Nat × List Nat)) (base ib k n : Nat) : Bool :=
 match Nat.blt n base with
 | true => (match findW W n with
   | none => true
   | some ws => ws.all fun w => Nat.beq w k || ordered bs w k)
 | false => (bs.getD k 0).testBit (ib + (n - base) / 4)
def masH (see : Nat → Bool) (hp : Hp) : Hp := fun n => match see n with | true => hp n | false => none
def mayDrop (bs : List Nat) (W : List (Nat × List Nat)) (i base ib n : Nat) : Bool :=
 sees bs W base ib i n && (match Nat.blt n base with
   | true => (match findW W n with | some ws => ws.any (Nat.beq i) | none => false)
   | false => (List.range bs.length).all fun k => Nat.beq k i || !((bs.getD k 0).testBit (ib + (n - base) / 4)) || ordered bs i k)
def fitRes (v : AV) (l : List TV) : Prop :=
 match v with
 | .t x => (match l with | [y] => fitTV (fun _ => .bad) x y | _ => False)
 | .tup xs => (match l with | [_] => False | _ => recTVs (fun _ => .bad) xs l)
 | .any => False
def vcSteady (E : Env) (inl : CallVC) (far : Nat) (may : Nat → Bool) (hpS : Hp) (dst : Option Nat) (p : Plan) (st : St) (K : St → Prop) : Prop :=
 match p with
 | .ok c v => conj c <| K (st.next dst v st.hp (st.nx + 4) st.wl)
 | .mk c b v => conj c <| K (st.next dst (v st.nx) (upd st.hp st.nx (some b)) (st.nx + 4) st.wl)
 | .mv c n b v => match may n && Nat.blt n st.nx with
   | true => conj c <| K (st.next dst (v st.nx) (upd (upd st.hp n none) st.nx (some b)) (st.nx + 4) (n :: st.wl))
   | false => False
 | .wr c n b => match may n && Nat.blt n st.nx with
   | true => conj c <| K (st.next dst .any (upd st.hp n (some b)) (st.nx + 4) (n :: st.wl))
   | false => False
 | .we c n b v => match may n && Nat.blt n st.nx with
   | true => conj c <| K (st.next dst v (upd st.hp n (some b)) (st.nx + 4) (n :: st.wl))
   | false => False
 | .call f args => match E.sig f with
   | some s => match pureTVs hpS args with
     | some pargs => ∃ x : s.α, fitTVs pargs (s.arg x) ∧ s.pre x ∧ (match Nat.ble (ownCount (s.res x)) 4 && pureRVs (s.res x) with
       | true => (match (ownTVs args).isEmpty with
         | true => K (st.next dst (resAV (resTVs (s.res x) st.nx)) (resHp st.hp (s.res x) st.nx) (st.nx + 4) st.wl)
         | false => (match flatRVs (s.res x) with
           | true => conj (flatOwns (s.res x)) <| K (st.next dst (resAV (resTVs (s.res x) st.nx)) (resHp st.hp (s.res x) st.nx) (st.nx + 4) st.wl)
           | false => False))
       | false => False)
     | none => (match pureTVsD hpS args with
       | some pargs => ∃ x : s.α, fitTVs pargs (s.arg x) ∧ s.pre x ∧ (match Nat.ble (ownCount (s.res x)) 4 && pureRVs (s.res x) && flatRVs (s.res x) with
         | true => conj (flatOwns (s.res x)) <| K (st.next dst (resAV (resTVs (s.res x) st.nx)) (resHp st.hp (s.res x) st.nx) (st.nx + 4) st.wl)
         | false => False)
       | none => False)
   | none => match E.peek f with
     | some R => (E.fn f).isSome = true ∧ ∃ g : R.γ, (inl f args hpS (st.nx + far) [] fun v _ _ wl' => chk (wl'.all (Nat.ble (st.nx + far))) ∧ fitRes v (R.res g)) ∧ K (st.next dst (resAV (R.res g)) st.hp (st.nx + 4) st.wl)
     | none => match E.again f, E.kept f, E.even f with
       | none, none, some R => (E.fn f).isSome = true ∧ evenPre R args hpS fun v => K (st.next dst v st.hp (st.nx + 4) st.wl)
       | _, _, _ => False
 | _ => False
def vcSteadyOne (E : Env) (inl : CallVC) (far : Nat) (may see : Nat → Bool) (ls : List Nat) (kn : Nat → Option Bool) (o : Oper) (st : St) (K : (Nat → Option Bool) → St → Prop) : Prop :=
 match st.has o.dst with
 | true => match o.op with
   | .pick (.tmp c) a b => split kn c (st.tm c) fun kn t => K (forget kn o.dst) (st.next o.dst (pickV t (evalO E (masked st.tm ls) a) (evalO E (masked st.tm ls) b)) st.hp (st.nx + 4) st.wl)
   | _ => vcSteady E inl far may (masH see st.hp) o.dst (planOp E (masked st.tm ls) (masH see st.hp) o) st (K (forget kn o.dst))
 | false => False
def vcGuard (ops : List Oper) (kn : Nat → Option Bool) (o : Oper) (st : St) (K : (Nat → Option Bool) → Bool → Prop) : Prop :=
 match o.guard with
 | none => K kn true
 | some (j, want) => match slotOf ops j with
   | some d => match isSkip (st.tm d) with
     | true => K kn false
     | false => split kn d (st.tm d) fun kn t => K kn (same t want)
   | none => False
def knKeep (E : Env) (kn : Nat → Option Bool) : Nat → Option Bool := match E.keep with | true => kn | false => fun _ => none
def vcDraw (E : Env) (inl : CallVC) (yld : YieldVC) (ops : List Oper) (bs : List Nat) (W : List (Nat × List Nat)) : List Oper → (i base ib : Nat) → (Nat → Option Bool) → St → (St → Prop) → Prop
 | [], _, _, _, _, st, K => K st
 | o :: rest, i, base, ib, kn, st, K => vcGuard ops kn o st fun kn run =>
   match isBar bs i with
   | true => (match run with
     | true => vcOne E inl yld kn o st fun kn st => vcDraw E inl yld ops bs W rest (i + 1) st.nx (i + 1) (knKeep E kn) st K
     | false => match st.has o.dst with
       | true => vcDraw E inl yld ops bs W rest (i + 1) (st.nx + 4) (i + 1) (knKeep E (forget kn o.dst)) (st.next o.dst (.tup []) st.hp (st.nx + 4) st.wl) K
       | false => False)
   | false => (match run with
     | true => vcSteadyOne E inl (4 * ops.length) (mayDrop bs W i base ib) (sees bs W base ib i) (looks ops o) kn o st fun kn st => vcDraw E inl yld ops bs W rest (i + 1) base ib kn st K
     | false => match st.has o.dst with
       | true => vcDraw E inl yld ops bs W rest (i + 1) base ib (forget kn o.dst) (st.next o.dst (.tup []) st.hp (st.nx + 4) st.wl) K
       | false => False)
def readyL (ops : List Oper) (listed : Nat) : List Nat :=
 (List.range ops.length).filter fun i => !(listed.testBit i) && (match ops[i]? with | some o => o.after.toList.all fun e => !(Region.binds .any e) || listed.testBit e.on | none => false)
def allOf (p : Nat → Prop) : List Nat → Prop
 | [] => True
 | i :: l => p i ∧ allOf p l
def vcAny (E : Env) (inl : CallVC) (yld : YieldVC) (ops : List Oper) : Nat → Nat → St → (St → Prop) → Prop
 | 0, listed, st, K => match readyL ops listed with
   | [] => K st
   | _ :: _ => False
 | fuel + 1, listed, st, K => match readyL ops listed with
   | [] => K st
   | i :: l => allOf (fun i => match ops[i]? with
       | some o => vcGuard ops (fun _ => none) o st fun kn run => (match run with
         | true => vcOne E inl yld kn o st fun _ st => vcAny E inl yld ops fuel (listed ||| 2 ^ i) st K
         | false => (match st.has o.dst with
           | true => vcAny E inl yld ops fuel (listed ||| 2 ^ i) (st.next o.dst (.tup []) st.hp (st.nx + 4) st.wl) K
           | false => False))
       | none => False) (i :: l)
def loose (ops : List Oper) (bs : List Nat) : Bool := ops.zipIdx.any fun x => (match x.1.op with | .store _ _ _ => true | _ => false) && !(isBar bs x.2)
def writes : Code → Nat → Bool
 | .region _ ops _, t => ops.toList.any fun o => match o.dst with | some d => Nat.beq d t | none => false
 | .seq a b, t => writes a t || writes b t
 | .cond _ a b, t => writes a t || writes b t
 | .block _ c, t => writes c t
 | .loop c, t => writes c t
 | .scope c, t => writes c t
 | _, _ => false
def findTm : List (Nat × AV) → Nat → Option AV
 | [], _ => none
 | (d, v) :: l, t => match Nat.beq t d with | true => some v | false => findTm l t
def findHp : List (Nat × Wit × Option Blk) → Nat → Option (Wit × Option Blk)
 | [], _ => none
 | (m, w, b) :: l, n => match Nat.beq n m with | true => some (w, b) | false => findHp l n
def headSt (A : Ann) (code : Code) (st : St) (g : A.G) : St :=
 { tm := fun t => match findTm (A.tm st g) t with | some v => v | none => (match writes code t with | true => .any | false => st.tm t)
   sz := st.sz
   hp := fun n => match findHp (A.hp st g) n with | some (_, b) => b | none => st.hp n
   nx := st.nx + 16
   wl := [] }
def srcOf (st1 : St) (m : Nat) : Wit → Src
 | .self => .nm m
 | .slot t => match st1.tm t with | .t (.c x) => srcCV x | _ => .bad
 | .box n off => match st1.hp n with | some (.box k get) => (match Nat.blt off k with | true => srcCV (get off) | false => .bad) | _ => .bad
def srcs (st1 : St) : List (Nat × Wit × Option Blk) → List (Nat × Src)
 | [] => []
 | (m, w, some _) :: l => (m, srcOf st1 m w) :: srcs st1 l
 | (_, _, none) :: l => srcs st1 l
def findSrc : List (Nat × Src) → Nat → Src
 | [], n => .nm n
 | (m, s) :: l, n => match Nat.beq n m with | true => s | false => findSrc l n
def fitOne (ρ : Nat → Src) (st1 : St) (m : Nat) (b : Blk) : Prop :=
 match ρ m with
 | .nm n => (match st1.hp n with | some b1 => fitBlk ρ b1 b | none => False)
 | .virt => (match b with | .row _ _ l _ => l = 0 | _ => False)
 | .bad => False
def fitHps (ρ : Nat → Src) (st1 : St) : List (Nat × Wit × Option Blk) → Prop
 | [] => True
 | (m, _, some b) :: l => fitOne ρ st1 m b ∧ fitHps ρ st1 l
 | (_, _, none) :: l => fitHps ρ st1 l
def fitTms (ρ : Nat → Src) (st1 : St) : List (Nat × AV) → Prop
 | [] => True
 | (t, v) :: l => fitAV ρ (st1.tm t) v ∧ fitTms ρ st1 l
def fitNames (nx : Nat) (st1 : St) (l : List (Nat × Wit × Option Blk)) : Bool :=
 let ss := srcs st1 l
 (l.all fun x => Nat.blt x.1 (nx + 16) && (Nat.ble nx x.1 || (match x.2.1 with | .self => true | _ => false))) &&
 (ss.all fun x => match x.2 with
   | .nm n => Nat.beq n x.1 || Nat.ble nx n || (l.any fun y => Nat.beq y.1 n && (match y.2.2 with | none => true | some _ => false))
   | .virt => true
   | .bad => false) &&
 (ss.zipIdx.all fun x => ss.zipIdx.all fun y => Nat.beq x.2 y.2 || (!(Nat.beq x.1.1 y.1.1) && (match x.1.2, y.1.2 with | .nm n, .nm n' => !(Nat.beq n n') | _, _ => true)))
def sameNames : List Nat → List (Nat × Wit × Option Blk) → Bool
 | [], [] => true
 | n :: l, x :: r => Nat.beq n x.1 && sameNames l r
 | _, _ => false
def bound (nx : Nat) (ρ : Nat → Src) : Nat → Src := fun m => match Nat.blt m (nx + 16) with | true => ρ m | false => .bad
def comesTo (A : Ann) (st st1 : St) (g : A.G) : Prop :=
 let l := A.hp st g
 let ρ := bound st.nx (findSrc (srcs st1 l))
 chk (sameNames (A.dom st) l && fitNames st.nx st1 l && st1.wl.all fun n => Nat.ble st.nx n || (A.dom st).any (Nat.beq n)) ∧ fitTms ρ st1 (A.tm st g) ∧ fitHps ρ st1 l
def firstRegion : Code → Nat
 | .region id _ _ => id
 | .seq a _ => firstRegion a
 | .block _ c => firstRegion c
 | .loop c => firstRegion c
 | .scope c => firstRegion c
 | .cond _ _ _ => 999
 | .rangeFunc _ _ _ _ => 998
 | _ => 0
def codeExit : Exit → Option Code
 | .ret => some .ret
 | .exit id => some (.exit id)
 | .goto l => some (.goto l)
 | _ => none
def retVals (E : Env) (st : St) : List ResultVar → (List TV → Prop) → Prop
 | [], K => K []
 | .tmp t :: l, K => match st.tm t with
   | .t v => retVals E st l fun vs => K (v :: vs)
   | _ => False
 | .cell t ty :: l, K => match E.ty ty with
   | some ti => match planLoad st.hp ti (st.tm t) with
     | .ok c (.t v) => conj c <| retVals E st l fun vs => K (v :: vs)
     | _ => False
   | none => False
def setPs : List Nat → List TV → (Nat → AV) → Nat → AV
 | p :: ps, v :: vs, tm => setPs ps vs (upd tm p (.t v))
 | _, _, tm => tm
def psFit (sz : Nat) : List Nat → List TV → Bool
 | p :: ps, _ :: vs => Nat.blt p sz && psFit sz ps vs
 | [], [] => true
 | _, _ => false
def initTm (args : List TV) : Nat → AV := fun t => match args[t]? with | some v => .t v | none => .any
def putBusy (hp : Hp) (n : Nat) (fid sz : Nat) (tm : Nat → AV) (ps : List Nat) (asg body : Code) (busy : Bool) (pend : Option Exit) : Hp := upd hp n (some (.lp fid sz tm ps asg body busy pend))
def canonHp : List (RW × Blk) → Nat → Option Blk
 | [], _ => none
 | (_, b) :: _, 0 => some b
 | _ :: l, i + 1 => canonHp l i
def lenR : List (RW × Blk) → Nat
 | [] => 0
 | _ :: l => lenR l + 1
def recCall (R : RSpec) (args : List TV) (hp : Hp) (nx : Nat) (wl : List Nat) (K : AV → Hp → Nat → List Nat → Prop) : Prop :=
 ∃ g, R.ok g ∧ match recNames args hp (rwsOf (R.hp g)) [] with
   | some ns => chk (apart ns) ∧ recTVs (recSrc ns) args (R.arg g) ∧ recBlks (recSrc ns) hp ns (R.hp g) ∧
       K (.t (.c (.os nx R.size (R.len g)))) (upd (dropAll hp ns) nx (some (.row R.e R.size (R.len g) (R.get g)))) (nx + 4) (ns ++ wl)
   | none => False
def renCV (r : Nat → Nat) : CV → CV
 | .ptr n off => .ptr (r n) off
 | .ep n size i off => .ep (r n) size i off
 | .ax n off i sz len fo => .ax (r n) off i sz len fo
 | .os n size len => .os (r n) size len
 | .mp n => .mp (r n)
 | .yl n => .yl (r n)
 | .fn f sh first nc cap => .fn f sh (fun i j => renCV r (first i j)) nc (fun i => renCV r (cap i))
 | x => x
def renTV (r : Nat → Nat) : TV → TV
 | .c x => .c (renCV r x)
 | .a n get => .a n (fun j => renCV r (get j))
def renAV (r : Nat → Nat) : AV → AV
 | .any => .any
 | .t x => .t (renTV r x)
 | .tup l => .tup (l.map (renTV r))
def renBlk (r : Nat → Nat) : Blk → Blk
 | .box n get => .box n (fun j => renCV r (get j))
 | .lp fid sz tm ps asg body busy pend => .lp fid sz (fun t => renAV r (tm t)) ps asg body busy pend
 | b => b
def nameAt (ns : List Nat) (m : Nat) : Nat := match nthN ns m with | some n => n | none => 0
def lenB : List Blk → Nat
 | [] => 0
 | _ :: l => lenB l + 1
def canonB : List Blk → Nat → Option Blk
 | [], _ => none
 | b :: _, 0 => some b
 | _ :: l, i + 1 => canonB l i
def putBlks (r : Nat → Nat) : List Nat → List Blk → Hp → Hp
 | n :: ns, b :: bs, hp => upd (putBlks r ns bs hp) n (some (renBlk r b))
 | _, _, hp => hp
def setNth : List Nat → Nat → Nat → List Nat
 | [], _, _ => []
 | _ :: l, 0, x => x :: l
 | n :: l, i + 1, x => n :: setNth l i x
def mvNs (q : Option Nat) (nx : Nat) (ns : List Nat) : List Nat := match q with
 | none => ns
 | some k => setNth ns k nx
def mvHp (q : Option Nat) (ns : List Nat) (hp : Hp) : Hp := match q with
 | none => hp
 | some k => match nthN ns k with
   | some n => upd hp n none
   | none => hp
def keptCall (R : KSpec) (args : List TV) (hp : Hp) (nx : Nat) (wl : List Nat) (K : AV → Hp → Nat → List Nat → Prop) : Prop :=
 ∃ g, R.ok g ∧ match recNames args hp (rwsOf (R.hp g)) [] with
   | some ns => chk (apart ns) ∧ recTVs (recSrc ns) args (R.arg g) ∧ recBlks (recSrc ns) hp ns (R.hp g) ∧
       ∀ d, R.post g d → K (resAV (R.res g d)) (putBlks (nameAt (mvNs R.mv nx ns)) (mvNs R.mv nx ns) (R.fin g d) (mvHp R.mv ns hp)) (nx + 4) (ns ++ wl)
   | none => False
def inlBody (E : Env) (rec : FuncId → Code → St → (Exit → St → Prop) → Prop) : CallVC := fun f args hp nx wl K =>
 match E.fn f with
 | some fn => match fn.body with
   | some c => match Nat.ble args.length fn.ntmps with
     | false => False
     | true => rec f c { tm := initTm args, sz := fn.ntmps, hp := hp, nx := nx, wl := wl } fun e st' =>
       match e with
       | .normal => retVals E st' fn.results.toList fun l => K (resAV l) st'.hp st'.nx st'.wl
       | .ret => retVals E st' fn.results.toList fun l => K (resAV l) st'.hp st'.nx st'.wl
       | _ => False
   | none => False
 | none => False
def inlOf (E : Env) (rec : FuncId → Code → St → (Exit → St → Prop) → Prop) : CallVC := fun f args hp nx wl K =>
 match E.again f with
 | some R => (E.fn f).isSome = true ∧ recCall R args hp nx wl K
 | none => match E.kept f with
   | some R => (E.fn f).isSome = true ∧ keptCall R args hp nx wl K
   | none => match E.even f with
     | some R => (E.fn f).isSome = true ∧ evenPre R args hp (fun v => K v hp (nx + 4) wl)
     | none => inlBody E rec f args hp nx wl K
def yldOf (rec : FuncId → Code → St → (Exit → St → Prop) → Prop) : YieldVC := fun n args hp nx wl K =>
 match hp n with
 | some (.lp fid sz tm ps asg body false none) => match psFit sz ps args with
   | true => rec fid asg { tm := setPs ps args tm, sz := sz, hp := hp, nx := nx, wl := wl } fun e s1 =>
       match e with
       | .normal => match s1.hp n with
         | some (.lp _ _ _ _ _ _ false none) =>
           rec fid body { tm := s1.tm, sz := s1.sz, hp := putBusy s1.hp n fid sz tm ps asg body true none, nx := s1.nx, wl := s1.wl } fun e2 s2 =>
             match s2.hp n with
             | some (.lp _ _ _ _ _ _ true none) => match e2 with
               | .normal => K (.t (.c .tt)) (putBusy s2.hp n fid sz tm ps asg body false none) s2.nx s2.wl
               | .ret => K (.t (.c .ff)) (putBusy s2.hp n fid sz tm ps asg body false (some .ret)) s2.nx (n :: s2.wl)
               | .exit id => K (.t (.c .ff)) (putBusy s2.hp n fid sz tm ps asg body false (some (.exit id))) s2.nx (n :: s2.wl)
               | _ => False
             | _ => False
         | _ => False
       | _ => False
   | false => False
 | _ => False
def wkAll : List (Nat × Blk) → St → (St → Prop) → Prop
 | [], st, K => K st
 | (n, b) :: l, st, K => (match st.hp n with | some b1 => fitBlk (fun m => .nm m) b1 b | none => False) ∧ wkAll l { tm := st.tm, sz := st.sz, hp := upd st.hp n (some b), nx := st.nx, wl := n :: st.wl } K
def fitLit (x y : CV) : Prop := match x, y with
 | .vs s l g, .vs s' l' g' => chk (Nat.beq s s' && Nat.beq l l') ∧ allN l fun i => allN s fun j => fitP (g i j) (g' i j)
 | x, y => fitP x y
def tmwAll : List (Nat × CV) → St → (St → Prop) → Prop
 | [], st, K => K st
 | (t, y) :: l, st, K => match st.tm t with
   | .t (.c x) => chk (isPure x) ∧ fitLit x y ∧ tmwAll l { tm := upd st.tm t (.t (.c y)), sz := st.sz, hp := st.hp, nx := st.nx, wl := st.wl } K
   | _ => False
def oneOf (n : Int) : List Int → Prop
 | [] => False
 | a :: l => n = a ∨ oneOf n l
def eachOf (n : Int) : List Int → (Int → Prop) → Prop
 | [], _ => True
 | a :: l, p => (n = a → p a) ∧ eachOf n l p
def csAll : List (Nat × List Int) → St → (St → Prop) → Prop
 | [], st, K => K st
 | (t, ls) :: l, st, K => match st.tm t with
   | .t (.c (.int k n)) => oneOf n ls ∧ eachOf n ls fun m => csAll l { tm := upd st.tm t (.t (.c (.int k m))), sz := st.sz, hp := st.hp, nx := st.nx, wl := st.wl } K
   | _ => False
def unroll (W : St → (Exit → St → Prop) → Prop) (Q : Exit → St → Prop) : Nat → St → Prop
 | 0, _ => False
 | n + 1, st => W st fun e st' => match e with | .normal => unroll W Q n st' | e => Q e st'
def walk (E : Env) (fid : FuncId) (inl : CallVC) (yld : YieldVC) : Code → St → (Exit → St → Prop) → Prop
 | .skip, st, Q => Q .normal st
 | .label _, st, Q => Q .normal st
 | .ret, st, Q => Q .ret st
 | .exit id, st, Q => Q (.exit id) st
 | .region r ops false, st, Q => wkAll (E.wk fid r st) (frzAllD (E.frz fid r) st) fun st => tmwAll (E.tmw fid r st) st fun st => csAll (E.cs fid r) st fun st => vcOps E inl yld ops.toList ops.toList (fun _ => none) st (Q .normal)
 | .region r ops true, st, Q => wkAll (E.wk fid r st) (frzAllD (E.frz fid r) st) fun st => tmwAll (E.tmw fid r st) st fun st => csAll (E.cs fid r) st fun st => withBefores (fun bs => match (loose ops.toList bs && !(E.any fid r)) || E.every fid r with
   | true => vcAny E inl yld ops.toList ops.size 0 st (Q .normal)
   | false => (match orderly ops.toList bs with
     | true => vcDraw E inl yld ops.toList bs (E.old fid r st) ops.toList 0 st.nx 0 (fun _ => none) st (Q .normal)
     | false => False)) ops.toList []
 | .seq a b, st, Q => match E.cut fid (firstRegion b) with
   | none => walk E fid inl yld a st fun e st' => match e with | .normal => walk E fid inl yld b st' Q | e => Q e st'
   | some A => (walk E fid inl yld a { st with wl := [] } fun e st' => match e with
       | .normal => ∃ g, A.ok st g ∧ comesTo A st st' g
       | e => Q e { st' with wl := st'.wl ++ st.wl }) ∧
       ∀ g, A.ok st g → walk E fid inl yld b (headSt A a st g) fun e st' => Q e { st' with wl := st'.wl ++ (A.dom st ++ st.wl) }
 | .cond (.tmp c) x y, st, Q => split (fun _ => none) c (st.tm c) fun _ t => match t with | true => walk E fid inl yld x st Q | false => walk E fid inl yld y st Q
 | .cond (.const v) x y, st, Q => match litCV v with | some .tt => walk E fid inl yld x st Q | some .ff => walk E fid inl yld y st Q | _ => False
 | .block id c, st, Q => walk E fid inl yld c st fun e st' => match e with | .exit id' => (match Nat.beq id' id with | true => Q .normal st' | false => Q (.exit id') st') | e => Q e st'
 | .loop c, st, Q => match E.lam fid (firstRegion c) with
   | some A => (∃ g, A.ok st g ∧ comesTo A st { st with wl := [] } g) ∧
       ∀ g, A.ok st g → walk E fid inl yld c (headSt A c st g) fun e st' => match e with
         | .normal => ∃ g', A.ok st g' ∧ A.mu st g' < A.mu st g ∧ comesTo A st st' g'
         | e => Q e { st' with wl := st'.wl ++ (A.dom st ++ st.wl) }
   | none => unroll (fun st Q => walk E fid inl yld c st Q) Q (E.unr fid (firstRegion c)) st
 | .rangeFunc f ps asg body, st, Q => match evalO E st.tm f with
   | .t (.c (.fn g sh first nc cap)) =>
     inl g (firstsOf sh first 0 ++ (.c (.yl st.nx) :: capsOf cap nc 0)) (putBusy st.hp st.nx fid st.sz st.tm ps.toList asg body false none) (st.nx + 4) st.wl fun _ hp nx wl =>
       match hp st.nx with
       | some (.lp _ _ _ _ _ _ false none) => Q .normal { st with hp := upd hp st.nx none, nx := nx, wl := wl }
       | some (.lp _ _ _ _ _ _ false (some .ret)) => Q .ret { st with hp := upd hp st.nx none, nx := nx, wl := wl }
       | some (.lp _ _ _ _ _ _ false (some (.exit id))) => Q (.exit id) { st with hp := upd hp st.nx none, nx := nx, wl := wl }
       | _ => False
   | _ => False
 | .scope c, st, Q => walk E fid inl yld c st fun e st' => match e with | .goto _ => False | e => Q e st'
 | _, _, _ => False
def fit1 (hp : Hp) (x y : TV) : Prop := match pureTV hp x with | some x' => fitTV (fun _ => .bad) x' y | none => False
def fitOwn (hp : Hp) (x : TV) (e size len : Nat) (get : Nat → Nat → CV) : Prop :=
 match x with
 | .c (.os n s l) => chk (Nat.beq s size) ∧ l = len ∧ (match hp n with | some b => fitBlk (fun _ => .bad) b (.row e size len get) | none => False)
 | .c .nils => len = 0
 | _ => False
def fitAll (hp : Hp) : List TV → List RV → Prop
 | [], [] => True
 | x :: l, .v y :: rs => fit1 hp x y ∧ fitAll hp l rs
 | _, _ => False
def isTup (v : AV) (p : List TV → Prop) : Prop := match v with | .tup l => p l | _ => False
def isT (v : AV) (p : TV → Prop) : Prop := match v with | .t x => p x | _ => False
def resFit (hp : Hp) (v : AV) (rs : List RV) : Prop :=
 match rs with
 | [.v y] => isT v fun x => fit1 hp x y
 | [.own e size len get] => isT v fun x => fitOwn hp x e size len get
 | [.own e size len get, .v (.c y)] => isTup v fun l => match l with
   | [x, .c z] => fitOwn hp x e size len get ∧ chk (isFlat z) ∧ chk (isFlat y) ∧ fitP z y
   | _ => False
 | rs => isTup v fun l => fitAll hp l rs
def vc (E : Env) : Nat → FuncId → Code → St → (Exit → St → Prop) → Prop
 | 0, _, _, _, _ => False
 | fuel + 1, fid, code, st, Q => walk E fid (inlOf E (vc E fuel)) (yldOf (vc E fuel)) code st Q
end Go.Sx
