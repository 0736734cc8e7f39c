/- Texts for the law of the last part, part 16. -/
import Derived.Test.YtcfmdhlohahhcaaDoorMendsUptoP15
set_option linter.unusedSimpArgs false
set_option linter.unusedVariables false
namespace Nm
open Go Go.Sx
structure SpAsk where
 t : Torn
 C : Int → Prop
 s : SpS
 k : Int
 e : Int
 Y : List Th
def thC (t : Torn) (x : Th) : Nat → Int
 | 0 => (match x.q with | some i => t.b i 0 | none => -1)
 | 1 => (match x.q with | some i => t.b i 1 | none => -1)
 | 2 => x.f
 | _ => x.t
def thI (l : List Th) (i : Nat) : Th := l.getD i ⟨none, 0, 0⟩
def rowW (t : Torn) (Y : List Th) : Nat → Nat → CV := fun i j => .int .i64 (thC t (thI Y i) j)
def jnM (jn : Int → Option Int) : List Int → Option Int
 | [v] => jn v
 | _ => none
def tornG (t : Torn) : Nat → CV := ofList [.int .i64 t.w, .int .i64 t.h, .vs 2 t.n (fun i j => .int .i64 (t.b i j)), .int .i64 t.m, .int .i64 t.k]
theorem numM_at {t : Torn} (T : TkOk t) {a : Nat} (ha : a < t.n) : numM t.b t.n [t.b a 0, t.b a 1] = some (a : Int) := by
 cases q : numM t.b t.n [t.b a 0, t.b a 1] with
 | none =>
   have := newB_iff.1 (numM_none q) a ha
   exact absurd ⟨rfl, rfl⟩ this
 | some v =>
   obtain ⟨j, hj, e, e0, e1⟩ := numM_some q
   rw [e, T.dif j hj a ha e0 e1]
theorem th_put {t : Torn} {Y : List Th} {x : Th} {i j : Nat} (hi : i < Y.length + 1) : (if i < Y.length then thC t (thI Y i) j else if i - Y.length = 0 then thC t x j else 0) = thC t (thI (Y ++ [x]) i) j := by
 unfold thI
 by_cases c : i < Y.length
 · rw [if_pos c, List.getD_eq_getElem?_getD, List.getD_eq_getElem?_getD, List.getElem?_append_left c]
 · rw [if_neg c, if_pos (by omega), show i = Y.length by omega, List.getD_eq_getElem?_getD, List.getElem?_append_right (Nat.le_refl _)]; simp
theorem jnM_off {s : SpS} {x y : Int} {ks : List Int} : (if ks = [y] then none else if ks = [x] then none else jnM s.jn ks) = jnM (offJ s x y).jn ks := by
 match ks with
 | [] => rfl
 | v :: w :: l => rw [if_neg (by simp), if_neg (by simp)]; rfl
 | [v] =>
   show (if [v] = [y] then none else if [v] = [x] then none else s.jn v) = if v = x ∨ v = y then none else s.jn v
   by_cases c : v = y
   · rw [if_pos (by rw [c]), if_pos (.inr c)]
   · rw [if_neg (by simpa using c)]
     by_cases d : v = x
     · rw [if_pos (by rw [d]), if_pos (.inl d)]
     · rw [if_neg (by simpa using d), if_neg fun h => h.elim d c]
theorem app3 {Y l m : List Th} {x : Th} : Y ++ (l ++ (m ++ [x])) = (Y ++ l ++ m) ++ [x] := by simp only [List.append_assoc]
theorem app4 {Y l m r : List Th} {x : Th} : Y ++ (l ++ (m ++ [x]) ++ r) = ((Y ++ l ++ m) ++ [x]) ++ r := by simp only [List.append_assoc]
theorem lenT_put {l : List Th} {x : Th} : l.length + 1 = (l ++ [x]).length := by simp
end Nm
namespace Go.Proofs.YtcfmdhlohahhcaaDoor
open Go Go.Sx Nm
set_option maxRecDepth 100000
set_option maxHeartbeats 2000000
def rSp : KSpec where
 γ := SpAsk
 δ := SpS × List Th
 ok g := TkOk g.t ∧ GrOk g.t.n g.t.b g.C ∧ SpPre g.t.n g.t.b g.C g.s g.k g.e ∧ g.Y.length + muS g.t.n g.s ≤ 1000 ∧ 0 ≤ g.k ∧ g.k < 36
 arg g := [intC g.k, .c (.ptr 0 0), .c (.ptr 1 0), .c (.ptr 2 0), .c (.ptr 3 0), .c (.ptr 4 0), .c (.ptr 5 0)]
 hp g := [(.arg 1, .box 5 (tornG g.t)), (.arg 2, .box 1 (fun _ => .mp 6)), (.arg 3, .box 1 (fun _ => .ptr 7 0)), (.arg 4, .box 1 (fun _ => .fn 99 [] (fun _ _ => .any) 6 (ofList [.ptr 0 0, .ptr 1 0, .ptr 2 0, .ptr 3 0, .ptr 4 0, .ptr 5 0]))), (.arg 5, .box 1 (fun _ => .os 9 4 g.Y.length)), (.arg 6, .box 1 (fun _ => .mp 8)), (.cell 1 0, .mp MI (numM g.t.b g.t.n)), (.cell 2 0, .box 72 (fun j => .bool (g.s.lf j))), (.cell 5 0, .mp MJ (jnM g.s.jn)), (.cell 4 0, .row 173 4 g.Y.length (rowW g.t g.Y))]
 post g d := SpPost g.t.n g.t.b g.C g.s g.k g.e d.1 d.2
 fin g d := [.box 5 (tornG g.t), .box 1 (fun _ => .mp 6), .box 1 (fun _ => .ptr 7 0), .box 1 (fun _ => .fn 99 [] (fun _ _ => .any) 6 (ofList [.ptr 0 0, .ptr 1 0, .ptr 2 0, .ptr 3 0, .ptr 4 0, .ptr 5 0])), .box 1 (fun _ => .os 9 4 (g.Y ++ d.2).length), .box 1 (fun _ => .mp 8), .mp MI (numM g.t.b g.t.n), .box 72 (fun j => .bool (d.1.lf j)), .mp MJ (jnM d.1.jn), .row 173 4 (g.Y ++ d.2).length (rowW g.t (g.Y ++ d.2))]
 res g d := []
 mv := some 9
def muSp (g : SpAsk) : Nat := muS g.t.n g.s
def aSp (g : SpAsk) : Ann := { G := Nat × SpS × List Th × Int, ok := fun _ x => x.1 ≤ g.t.n ∧ SpMid g.t.n g.t.b g.C g.s g.k g.e x.1 x.2.1 x.2.2.1 x.2.2.2, dom := fun st => [0, 1, 2, 3, 4, 5, 6, 7, 8, 9, st.nx], tm := fun _ x => [(18, .t (intC x.1))], hp := fun st x => [(0, .self, some (.box 5 (tornG g.t))), (1, .self, some (.box 1 (fun _ => .mp 6))), (2, .self, some (.box 1 (fun _ => .ptr 7 0))), (3, .self, some (.box 1 (fun _ => .fn 99 [] (fun _ _ => .any) 6 (ofList [.ptr 0 0, .ptr 1 0, .ptr 2 0, .ptr 3 0, .ptr 4 0, .ptr 5 0])))), (4, .self, some (.box 1 (fun _ => .os st.nx 4 (g.Y ++ x.2.2.1).length))), (5, .self, some (.box 1 (fun _ => .mp 8))), (6, .self, some (.mp MI (numM g.t.b g.t.n))), (7, .self, some (.box 72 (fun j => .bool (x.2.1.lf j)))), (8, .self, some (.mp MJ (jnM x.2.1.jn))), (9, .self, none), (st.nx, .box 4 0, some (.row 173 4 (g.Y ++ x.2.2.1).length (rowW g.t (g.Y ++ x.2.2.1))))], mu := fun _ x => g.t.n - x.1 }
theorem is99 : (lookFn fnTab 99).isSome = true := by kernel_rfl
theorem r99 : ∀ g, rSp.ok g → SemK Tryd.prog E0 99 rSp g := by
 refine kept_at E0_ok [] SigsOk.nil runs rSp (fun g => [(99, 1, aSp g)]) (fun _ => []) (fuel := 6) muSp fun n g hg hn => ?_
 refine of_red (q := (∃ (g_1 : Nat × SpS × List Th × Int), (g_1.fst≤g.t.n∧SpMid g.t.n g.t.b g.C g.s g.k g.e g_1.fst g_1.snd.fst g_1.snd.snd.fst g_1.snd.snd.snd)∧True∧((True∧(0 : Int) = (↑g_1.fst : Int))∧True)∧(True∧((((True∧True∧g.t.w = g.t.w)∧True∧g.t.h = g.t.h)∧True∧True∧g.t.n = g.t.n∧∀ (i : Nat), i < g.t.n→(True∧g.t.b i 0 = g.t.b i 0)∧g.t.b i 1 = g.t.b i 1)∧True∧g.t.m = g.t.m)∧True∧g.t.k = g.t.k)∧(True∧True∧True)∧(True∧True∧True∧(0 : Nat) = (0 : Nat))∧(True∧True∧True∧True∧(((((True∧True∧(0 : Nat) = (0 : Nat))∧True∧(0 : Nat) = (0 : Nat))∧True∧(0 : Nat) = (0 : Nat))∧True∧(0 : Nat) = (0 : Nat))∧True∧(0 : Nat) = (0 : Nat))∧True∧(0 : Nat) = (0 : Nat))∧(True∧True∧True∧True∧g.Y.length = (g.Y ++ g_1.snd.snd.fst).length)∧(True∧True∧True)∧(True∧∀ (ks : List Int), numM g.t.b g.t.n ks = numM g.t.b g.t.n ks)∧(True∧∀ (j : Nat), j < (72 : Nat)→True∧g.s.lf j = g_1.snd.fst.lf j)∧(True∧∀ (ks : List Int), jnM g.s.jn ks = jnM g_1.snd.fst.jn ks)∧(True∧True∧g.Y.length = (g.Y ++ g_1.snd.snd.fst).length∧∀ (i : Nat), i < g.Y.length→(((True∧thC g.t (thI g.Y i) 0 = thC g.t (thI (g.Y ++ g_1.snd.snd.fst) i) 0)∧thC g.t (thI g.Y i) 1 = thC g.t (thI (g.Y ++ g_1.snd.snd.fst) i) 1)∧thC g.t (thI g.Y i) 2 = thC g.t (thI (g.Y ++ g_1.snd.snd.fst) i) 2)∧thC g.t (thI g.Y i) 3 = thC g.t (thI (g.Y ++ g_1.snd.snd.fst) i) 3)∧True)∧∀ (g_1 : Nat × SpS × List Th × Int), g_1.fst≤g.t.n∧SpMid g.t.n g.t.b g.C g.s g.k g.e g_1.fst g_1.snd.fst g_1.snd.snd.fst g_1.snd.snd.snd→(decide ((↑g_1.fst : Int) < (↑g.t.n : Int)) = true→(0 : Int)≤(↑g_1.fst : Int)∧(↑g_1.fst : Int) < (↑g.t.n : Int)∧inRange IntKind.i64 (g.t.b g_1.fst (0 : Nat))∧inRange IntKind.i64 (g.t.b g_1.fst ((0 : Nat) + (1 : Nat)))∧(0 : Int)≤valOf (numM g.t.b g.t.n [g.t.b g_1.fst (0 : Nat), g.t.b g_1.fst ((0 : Nat) + (1 : Nat))])∧valOf (numM g.t.b g.t.n [g.t.b g_1.fst (0 : Nat), g.t.b g_1.fst ((0 : Nat) + (1 : Nat))]) < (↑(72 : Nat) : Int)∧((!g_1.snd.fst.lf ((0 : Nat) + (valOf (numM g.t.b g.t.n [g.t.b g_1.fst (0 : Nat), g.t.b g_1.fst ((0 : Nat) + (1 : Nat))])).toNat * (1 : Nat) + (0 : Nat) + (0 : Nat))) = true→inRange IntKind.i64 ((↑g_1.fst : Int) + (1 : Int))∧∃ (g' : Nat × SpS × List Th × Int), (g'.fst≤g.t.n∧SpMid g.t.n g.t.b g.C g.s g.k g.e g'.fst g'.snd.fst g'.snd.snd.fst g'.snd.snd.snd)∧g.t.n - g'.fst < g.t.n - g_1.fst∧True∧((True∧(↑g_1.fst : Int) + (1 : Int) = (↑g'.fst : Int))∧True)∧(True∧((((True∧True∧g.t.w = g.t.w)∧True∧g.t.h = g.t.h)∧True∧True∧g.t.n = g.t.n∧∀ (i : Nat), i < g.t.n→(True∧g.t.b i 0 = g.t.b i 0)∧g.t.b i 1 = g.t.b i 1)∧True∧g.t.m = g.t.m)∧True∧g.t.k = g.t.k)∧(True∧True∧True)∧(True∧True∧True∧(0 : Nat) = (0 : Nat))∧(True∧True∧True∧True∧(((((True∧True∧(0 : Nat) = (0 : Nat))∧True∧(0 : Nat) = (0 : Nat))∧True∧(0 : Nat) = (0 : Nat))∧True∧(0 : Nat) = (0 : Nat))∧True∧(0 : Nat) = (0 : Nat))∧True∧(0 : Nat) = (0 : Nat))∧(True∧True∧True∧True∧(g.Y ++ g_1.snd.snd.fst).length = (g.Y ++ g'.snd.snd.fst).length)∧(True∧True∧True)∧(True∧∀ (ks : List Int), numM g.t.b g.t.n ks = numM g.t.b g.t.n ks)∧(True∧∀ (j : Nat), j < (72 : Nat)→True∧g_1.snd.fst.lf j = g'.snd.fst.lf j)∧(True∧∀ (ks : List Int), jnM g_1.snd.fst.jn ks = jnM g'.snd.fst.jn ks)∧(True∧True∧(g.Y ++ g_1.snd.snd.fst).length = (g.Y ++ g'.snd.snd.fst).length∧∀ (i : Nat), i < (g.Y ++ g_1.snd.snd.fst).length→(((True∧thC g.t (thI (g.Y ++ g_1.snd.snd.fst) i) 0 = thC g.t (thI (g.Y ++ g'.snd.snd.fst) i) 0)∧thC g.t (thI (g.Y ++ g_1.snd.snd.fst) i) 1 = thC g.t (thI (g.Y ++ g'.snd.snd.fst) i) 1)∧thC g.t (thI (g.Y ++ g_1.snd.snd.fst) i) 2 = thC g.t (thI (g.Y ++ g'.snd.snd.fst) i) 2)∧thC g.t (thI (g.Y ++ g_1.snd.snd.fst) i) 3 = thC g.t (thI (g.Y ++ g'.snd.snd.fst) i) 3)∧True)∧((!g_1.snd.fst.lf ((0 : Nat) + (valOf (numM g.t.b g.t.n [g.t.b g_1.fst (0 : Nat), g.t.b g_1.fst ((0 : Nat) + (1 : Nat))])).toNat * (1 : Nat) + (0 : Nat) + (0 : Nat))) = false→((g.t.b g_1.fst (0 : Nat) != g.k) = true→((g.t.b g_1.fst ((0 : Nat) + (nat_lit 0 + (1 : Nat))) != g.k) = true→inRange IntKind.i64 ((↑g_1.fst : Int) + (1 : Int))∧∃ (g' : Nat × SpS × List Th × Int), (g'.fst≤g.t.n∧SpMid g.t.n g.t.b g.C g.s g.k g.e g'.fst g'.snd.fst g'.snd.snd.fst g'.snd.snd.snd)∧g.t.n - g'.fst < g.t.n - g_1.fst∧True∧((True∧(↑g_1.fst : Int) + (1 : Int) = (↑g'.fst : Int))∧True)∧(True∧((((True∧True∧g.t.w = g.t.w)∧True∧g.t.h = g.t.h)∧True∧True∧g.t.n = g.t.n∧∀ (i : Nat), i < g.t.n→(True∧g.t.b i 0 = g.t.b i 0)∧g.t.b i 1 = g.t.b i 1)∧True∧g.t.m = g.t.m)∧True∧g.t.k = g.t.k)∧(True∧True∧True)∧(True∧True∧True∧(0 : Nat) = (0 : Nat))∧(True∧True∧True∧True∧(((((True∧True∧(0 : Nat) = (0 : Nat))∧True∧(0 : Nat) = (0 : Nat))∧True∧(0 : Nat) = (0 : Nat))∧True∧(0 : Nat) = (0 : Nat))∧True∧(0 : Nat) = (0 : Nat))∧True∧(0 : Nat) = (0 : Nat))∧(True∧True∧True∧True∧(g.Y ++ g_1.snd.snd.fst).length = (g.Y ++ g'.snd.snd.fst).length)∧(True∧True∧True)∧(True∧∀ (ks : List Int), numM g.t.b g.t.n ks = numM g.t.b g.t.n ks)∧(True∧∀ (j : Nat), j < (72 : Nat)→True∧g_1.snd.fst.lf j = g'.snd.fst.lf j)∧(True∧∀ (ks : List Int), jnM g_1.snd.fst.jn ks = jnM g'.snd.fst.jn ks)∧(True∧True∧(g.Y ++ g_1.snd.snd.fst).length = (g.Y ++ g'.snd.snd.fst).length∧∀ (i : Nat), i < (g.Y ++ g_1.snd.snd.fst).length→(((True∧thC g.t (thI (g.Y ++ g_1.snd.snd.fst) i) 0 = thC g.t (thI (g.Y ++ g'.snd.snd.fst) i) 0)∧thC g.t (thI (g.Y ++ g_1.snd.snd.fst) i) 1 = thC g.t (thI (g.Y ++ g'.snd.snd.fst) i) 1)∧thC g.t (thI (g.Y ++ g_1.snd.snd.fst) i) 2 = thC g.t (thI (g.Y ++ g'.snd.snd.fst) i) 2)∧thC g.t (thI (g.Y ++ g_1.snd.snd.fst) i) 3 = thC g.t (thI (g.Y ++ g'.snd.snd.fst) i) 3)∧True)∧((g.t.b g_1.fst ((0 : Nat) + (nat_lit 0 + (1 : Nat))) != g.k) = false→(0 : Int)≤valOf (numM g.t.b g.t.n [g.t.b g_1.fst (0 : Nat), g.t.b g_1.fst ((0 : Nat) + (1 : Nat))])∧valOf (numM g.t.b g.t.n [g.t.b g_1.fst (0 : Nat), g.t.b g_1.fst ((0 : Nat) + (1 : Nat))]) < (↑(72 : Nat) : Int)∧inRange IntKind.i64 (g.t.b g_1.fst (0 : Nat) + g.t.b g_1.fst ((0 : Nat) + (nat_lit 0 + (1 : Nat))))∧inRange IntKind.i64 (g.t.b g_1.fst (0 : Nat) + g.t.b g_1.fst ((0 : Nat) + (nat_lit 0 + (1 : Nat))) - g.k)∧(lookFn fnTab (99 : FuncId)).isSome = true∧∃ (g_2 : SpAsk), ((TkOk g_2.t∧GrOk g_2.t.n g_2.t.b g_2.C∧SpPre g_2.t.n g_2.t.b g_2.C g_2.s g_2.k g_2.e∧g_2.Y.length + muS g_2.t.n g_2.s≤(1000 : Nat)∧(0 : Int)≤g_2.k∧g_2.k < (36 : Int))∧muSp g_2 < n)∧True∧((True∧g.t.b g_1.fst (0 : Nat) + g.t.b g_1.fst ((0 : Nat) + (nat_lit 0 + (1 : Nat))) - g.k = g_2.k)∧(True∧(0 : Nat) = (0 : Nat))∧(True∧(0 : Nat) = (0 : Nat))∧(True∧(0 : Nat) = (0 : Nat))∧(True∧(0 : Nat) = (0 : Nat))∧(True∧(0 : Nat) = (0 : Nat))∧(True∧(0 : Nat) = (0 : Nat))∧True)∧((True∧((((True∧True∧g.t.w = g_2.t.w)∧True∧g.t.h = g_2.t.h)∧True∧True∧g.t.n = g_2.t.n∧∀ (i : Nat), i < g.t.n→(True∧g.t.b i 0 = g_2.t.b i 0)∧g.t.b i 1 = g_2.t.b i 1)∧True∧g.t.m = g_2.t.m)∧True∧g.t.k = g_2.t.k)∧(True∧True∧True)∧(True∧True∧True∧(0 : Nat) = (0 : Nat))∧(True∧True∧True∧True∧(((((True∧True∧(0 : Nat) = (0 : Nat))∧True∧(0 : Nat) = (0 : Nat))∧True∧(0 : Nat) = (0 : Nat))∧True∧(0 : Nat) = (0 : Nat))∧True∧(0 : Nat) = (0 : Nat))∧True∧(0 : Nat) = (0 : Nat))∧(True∧True∧True∧True∧(g.Y ++ g_1.snd.snd.fst).length = g_2.Y.length)∧(True∧True∧True)∧(True∧∀ (ks : List Int), numM g.t.b g.t.n ks = numM g_2.t.b g_2.t.n ks)∧(True∧∀ (j : Nat), j < (72 : Nat)→True∧(if j = (0 : Nat) + (valOf (numM g.t.b g.t.n [g.t.b g_1.fst (0 : Nat), g.t.b g_1.fst ((0 : Nat) + (1 : Nat))])).toNat * (1 : Nat) + (0 : Nat) then false else g_1.snd.fst.lf j) = g_2.s.lf j)∧(True∧∀ (ks : List Int), jnM g_1.snd.fst.jn ks = jnM g_2.s.jn ks)∧(True∧True∧(g.Y ++ g_1.snd.snd.fst).length = g_2.Y.length∧∀ (i : Nat), i < (g.Y ++ g_1.snd.snd.fst).length→(((True∧thC g.t (thI (g.Y ++ g_1.snd.snd.fst) i) 0 = thC g_2.t (thI g_2.Y i) 0)∧thC g.t (thI (g.Y ++ g_1.snd.snd.fst) i) 1 = thC g_2.t (thI g_2.Y i) 1)∧thC g.t (thI (g.Y ++ g_1.snd.snd.fst) i) 2 = thC g_2.t (thI g_2.Y i) 2)∧thC g.t (thI (g.Y ++ g_1.snd.snd.fst) i) 3 = thC g_2.t (thI g_2.Y i) 3)∧True)∧∀ (d : (rSp.below muSp n).δ), SpPost g_2.t.n g_2.t.b g_2.C g_2.s g_2.k g_2.e d.fst d.snd→((g_2.Y ++ d.snd).length + (1 : Nat)) * (32 : Nat)≤(140737488355328 : Nat)∧(g_2.Y ++ d.snd).length + (1 : Nat) < (4611686018427387904 : Nat)∧inRange IntKind.i64 ((↑g_1.fst : Int) + (1 : Int))∧∃ (g' : Nat × SpS × List Th × Int), (g'.fst≤g.t.n∧SpMid g.t.n g.t.b g.C g.s g.k g.e g'.fst g'.snd.fst g'.snd.snd.fst g'.snd.snd.snd)∧g.t.n - g'.fst < g.t.n - g_1.fst∧True∧((True∧(↑g_1.fst : Int) + (1 : Int) = (↑g'.fst : Int))∧True)∧(True∧((((True∧True∧g_2.t.w = g.t.w)∧True∧g_2.t.h = g.t.h)∧True∧True∧g_2.t.n = g.t.n∧∀ (i : Nat), i < g_2.t.n→(True∧g_2.t.b i 0 = g.t.b i 0)∧g_2.t.b i 1 = g.t.b i 1)∧True∧g_2.t.m = g.t.m)∧True∧g_2.t.k = g.t.k)∧(True∧True∧True)∧(True∧True∧True∧(0 : Nat) = (0 : Nat))∧(True∧True∧True∧True∧(((((True∧True∧(0 : Nat) = (0 : Nat))∧True∧(0 : Nat) = (0 : Nat))∧True∧(0 : Nat) = (0 : Nat))∧True∧(0 : Nat) = (0 : Nat))∧True∧(0 : Nat) = (0 : Nat))∧True∧(0 : Nat) = (0 : Nat))∧(True∧True∧True∧True∧(g_2.Y ++ d.snd).length + (1 : Nat) = (g.Y ++ g'.snd.snd.fst).length)∧(True∧True∧True)∧(True∧∀ (ks : List Int), numM g_2.t.b g_2.t.n ks = numM g.t.b g.t.n ks)∧(True∧∀ (j : Nat), j < (72 : Nat)→True∧d.fst.lf j = g'.snd.fst.lf j)∧(True∧∀ (ks : List Int), jnM d.fst.jn ks = jnM g'.snd.fst.jn ks)∧(True∧True∧(g_2.Y ++ d.snd).length + (1 : Nat) = (g.Y ++ g'.snd.snd.fst).length∧∀ (i : Nat), i < (g_2.Y ++ d.snd).length + (1 : Nat)→(((True∧(if i < (g_2.Y ++ d.snd).length then thC g_2.t (thI (g_2.Y ++ d.snd) i) 0 else if i - (g_2.Y ++ d.snd).length = (0 : Nat) then g.t.b g_1.fst (nat_lit 0 - (0 : Nat)) else (0 : Int)) = thC g.t (thI (g.Y ++ g'.snd.snd.fst) i) 0)∧(if i < (g_2.Y ++ d.snd).length then thC g_2.t (thI (g_2.Y ++ d.snd) i) 1 else if i - (g_2.Y ++ d.snd).length = (0 : Nat) then g.t.b g_1.fst (nat_lit 1 - (0 : Nat)) else (0 : Int)) = thC g.t (thI (g.Y ++ g'.snd.snd.fst) i) 1)∧(if i < (g_2.Y ++ d.snd).length then thC g_2.t (thI (g_2.Y ++ d.snd) i) 2 else if i - (g_2.Y ++ d.snd).length = (0 : Nat) then g.t.b g_1.fst (0 : Nat) + g.t.b g_1.fst ((0 : Nat) + (nat_lit 0 + (1 : Nat))) - g.k else (0 : Int)) = thC g.t (thI (g.Y ++ g'.snd.snd.fst) i) 2)∧(if i < (g_2.Y ++ d.snd).length then thC g_2.t (thI (g_2.Y ++ d.snd) i) 3 else if i - (g_2.Y ++ d.snd).length = (0 : Nat) then g.k else (0 : Int)) = thC g.t (thI (g.Y ++ g'.snd.snd.fst) i) 3)∧True))∧((g.t.b g_1.fst (0 : Nat) != g.k) = false→(0 : Int)≤valOf (numM g.t.b g.t.n [g.t.b g_1.fst (0 : Nat), g.t.b g_1.fst ((0 : Nat) + (1 : Nat))])∧valOf (numM g.t.b g.t.n [g.t.b g_1.fst (0 : Nat), g.t.b g_1.fst ((0 : Nat) + (1 : Nat))]) < (↑(72 : Nat) : Int)∧inRange IntKind.i64 (g.t.b g_1.fst (0 : Nat) + g.t.b g_1.fst ((0 : Nat) + (nat_lit 0 + (1 : Nat))))∧inRange IntKind.i64 (g.t.b g_1.fst (0 : Nat) + g.t.b g_1.fst ((0 : Nat) + (nat_lit 0 + (1 : Nat))) - g.k)∧(lookFn fnTab (99 : FuncId)).isSome = true∧∃ (g_2 : SpAsk), ((TkOk g_2.t∧GrOk g_2.t.n g_2.t.b g_2.C∧SpPre g_2.t.n g_2.t.b g_2.C g_2.s g_2.k g_2.e∧g_2.Y.length + muS g_2.t.n g_2.s≤(1000 : Nat)∧(0 : Int)≤g_2.k∧g_2.k < (36 : Int))∧muSp g_2 < n)∧True∧((True∧g.t.b g_1.fst (0 : Nat) + g.t.b g_1.fst ((0 : Nat) + (nat_lit 0 + (1 : Nat))) - g.k = g_2.k)∧(True∧(0 : Nat) = (0 : Nat))∧(True∧(0 : Nat) = (0 : Nat))∧(True∧(0 : Nat) = (0 : Nat))∧(True∧(0 : Nat) = (0 : Nat))∧(True∧(0 : Nat) = (0 : Nat))∧(True∧(0 : Nat) = (0 : Nat))∧True)∧((True∧((((True∧True∧g.t.w = g_2.t.w)∧True∧g.t.h = g_2.t.h)∧True∧True∧g.t.n = g_2.t.n∧∀ (i : Nat), i < g.t.n→(True∧g.t.b i 0 = g_2.t.b i 0)∧g.t.b i 1 = g_2.t.b i 1)∧True∧g.t.m = g_2.t.m)∧True∧g.t.k = g_2.t.k)∧(True∧True∧True)∧(True∧True∧True∧(0 : Nat) = (0 : Nat))∧(True∧True∧True∧True∧(((((True∧True∧(0 : Nat) = (0 : Nat))∧True∧(0 : Nat) = (0 : Nat))∧True∧(0 : Nat) = (0 : Nat))∧True∧(0 : Nat) = (0 : Nat))∧True∧(0 : Nat) = (0 : Nat))∧True∧(0 : Nat) = (0 : Nat))∧(True∧True∧True∧True∧(g.Y ++ g_1.snd.snd.fst).length = g_2.Y.length)∧(True∧True∧True)∧(True∧∀ (ks : List Int), numM g.t.b g.t.n ks = numM g_2.t.b g_2.t.n ks)∧(True∧∀ (j : Nat), j < (72 : Nat)→True∧(if j = (0 : Nat) + (valOf (numM g.t.b g.t.n [g.t.b g_1.fst (0 : Nat), g.t.b g_1.fst ((0 : Nat) + (1 : Nat))])).toNat * (1 : Nat) + (0 : Nat) then false else g_1.snd.fst.lf j) = g_2.s.lf j)∧(True∧∀ (ks : List Int), jnM g_1.snd.fst.jn ks = jnM g_2.s.jn ks)∧(True∧True∧(g.Y ++ g_1.snd.snd.fst).length = g_2.Y.length∧∀ (i : Nat), i < (g.Y ++ g_1.snd.snd.fst).length→(((True∧thC g.t (thI (g.Y ++ g_1.snd.snd.fst) i) 0 = thC g_2.t (thI g_2.Y i) 0)∧thC g.t (thI (g.Y ++ g_1.snd.snd.fst) i) 1 = thC g_2.t (thI g_2.Y i) 1)∧thC g.t (thI (g.Y ++ g_1.snd.snd.fst) i) 2 = thC g_2.t (thI g_2.Y i) 2)∧thC g.t (thI (g.Y ++ g_1.snd.snd.fst) i) 3 = thC g_2.t (thI g_2.Y i) 3)∧True)∧∀ (d : (rSp.below muSp n).δ), SpPost g_2.t.n g_2.t.b g_2.C g_2.s g_2.k g_2.e d.fst d.snd→((g_2.Y ++ d.snd).length + (1 : Nat)) * (32 : Nat)≤(140737488355328 : Nat)∧(g_2.Y ++ d.snd).length + (1 : Nat) < (4611686018427387904 : Nat)∧inRange IntKind.i64 ((↑g_1.fst : Int) + (1 : Int))∧∃ (g' : Nat × SpS × List Th × Int), (g'.fst≤g.t.n∧SpMid g.t.n g.t.b g.C g.s g.k g.e g'.fst g'.snd.fst g'.snd.snd.fst g'.snd.snd.snd)∧g.t.n - g'.fst < g.t.n - g_1.fst∧True∧((True∧(↑g_1.fst : Int) + (1 : Int) = (↑g'.fst : Int))∧True)∧(True∧((((True∧True∧g_2.t.w = g.t.w)∧True∧g_2.t.h = g.t.h)∧True∧True∧g_2.t.n = g.t.n∧∀ (i : Nat), i < g_2.t.n→(True∧g_2.t.b i 0 = g.t.b i 0)∧g_2.t.b i 1 = g.t.b i 1)∧True∧g_2.t.m = g.t.m)∧True∧g_2.t.k = g.t.k)∧(True∧True∧True)∧(True∧True∧True∧(0 : Nat) = (0 : Nat))∧(True∧True∧True∧True∧(((((True∧True∧(0 : Nat) = (0 : Nat))∧True∧(0 : Nat) = (0 : Nat))∧True∧(0 : Nat) = (0 : Nat))∧True∧(0 : Nat) = (0 : Nat))∧True∧(0 : Nat) = (0 : Nat))∧True∧(0 : Nat) = (0 : Nat))∧(True∧True∧True∧True∧(g_2.Y ++ d.snd).length + (1 : Nat) = (g.Y ++ g'.snd.snd.fst).length)∧(True∧True∧True)∧(True∧∀ (ks : List Int), numM g_2.t.b g_2.t.n ks = numM g.t.b g.t.n ks)∧(True∧∀ (j : Nat), j < (72 : Nat)→True∧d.fst.lf j = g'.snd.fst.lf j)∧(True∧∀ (ks : List Int), jnM d.fst.jn ks = jnM g'.snd.fst.jn ks)∧(True∧True∧(g_2.Y ++ d.snd).length + (1 : Nat) = (g.Y ++ g'.snd.snd.fst).length∧∀ (i : Nat), i < (g_2.Y ++ d.snd).length + (1 : Nat)→(((True∧(if i < (g_2.Y ++ d.snd).length then thC g_2.t (thI (g_2.Y ++ d.snd) i) 0 else if i - (g_2.Y ++ d.snd).length = (0 : Nat) then g.t.b g_1.fst (nat_lit 0 - (0 : Nat)) else (0 : Int)) = thC g.t (thI (g.Y ++ g'.snd.snd.fst) i) 0)∧(if i < (g_2.Y ++ d.snd).length then thC g_2.t (thI (g_2.Y ++ d.snd) i) 1 else if i - (g_2.Y ++ d.snd).length = (0 : Nat) then g.t.b g_1.fst (nat_lit 1 - (0 : Nat)) else (0 : Int)) = thC g.t (thI (g.Y ++ g'.snd.snd.fst) i) 1)∧(if i < (g_2.Y ++ d.snd).length then thC g_2.t (thI (g_2.Y ++ d.snd) i) 2 else if i - (g_2.Y ++ d.snd).length = (0 : Nat) then g.t.b g_1.fst (0 : Nat) + g.t.b g_1.fst ((0 : Nat) + (nat_lit 0 + (1 : Nat))) - g.k else (0 : Int)) = thC g.t (thI (g.Y ++ g'.snd.snd.fst) i) 2)∧(if i < (g_2.Y ++ d.snd).length then thC g_2.t (thI (g_2.Y ++ d.snd) i) 3 else if i - (g_2.Y ++ d.snd).length = (0 : Nat) then g.k else (0 : Int)) = thC g.t (thI (g.Y ++ g'.snd.snd.fst) i) 3)∧True)))∧(decide ((↑g_1.fst : Int) < (↑g.t.n : Int)) = false→inRange IntKind.i64 g.k∧(isSm (jnM g_1.snd.fst.jn [g.k]) = true→inRange IntKind.i64 g.k∧inRange IntKind.i64 (valOf (jnM g_1.snd.fst.jn [g.k]))∧(lookFn fnTab (99 : FuncId)).isSome = true∧∃ (g_2 : SpAsk), ((TkOk g_2.t∧GrOk g_2.t.n g_2.t.b g_2.C∧SpPre g_2.t.n g_2.t.b g_2.C g_2.s g_2.k g_2.e∧g_2.Y.length + muS g_2.t.n g_2.s≤(1000 : Nat)∧(0 : Int)≤g_2.k∧g_2.k < (36 : Int))∧muSp g_2 < n)∧True∧((True∧valOf (jnM g_1.snd.fst.jn [g.k]) = g_2.k)∧(True∧(0 : Nat) = (0 : Nat))∧(True∧(0 : Nat) = (0 : Nat))∧(True∧(0 : Nat) = (0 : Nat))∧(True∧(0 : Nat) = (0 : Nat))∧(True∧(0 : Nat) = (0 : Nat))∧(True∧(0 : Nat) = (0 : Nat))∧True)∧((True∧((((True∧True∧g.t.w = g_2.t.w)∧True∧g.t.h = g_2.t.h)∧True∧True∧g.t.n = g_2.t.n∧∀ (i : Nat), i < g.t.n→(True∧g.t.b i 0 = g_2.t.b i 0)∧g.t.b i 1 = g_2.t.b i 1)∧True∧g.t.m = g_2.t.m)∧True∧g.t.k = g_2.t.k)∧(True∧True∧True)∧(True∧True∧True∧(0 : Nat) = (0 : Nat))∧(True∧True∧True∧True∧(((((True∧True∧(0 : Nat) = (0 : Nat))∧True∧(0 : Nat) = (0 : Nat))∧True∧(0 : Nat) = (0 : Nat))∧True∧(0 : Nat) = (0 : Nat))∧True∧(0 : Nat) = (0 : Nat))∧True∧(0 : Nat) = (0 : Nat))∧(True∧True∧True∧True∧(g.Y ++ g_1.snd.snd.fst).length = g_2.Y.length)∧(True∧True∧True)∧(True∧∀ (ks : List Int), numM g.t.b g.t.n ks = numM g_2.t.b g_2.t.n ks)∧(True∧∀ (j : Nat), j < (72 : Nat)→True∧g_1.snd.fst.lf j = g_2.s.lf j)∧(True∧∀ (ks : List Int), (if ks = [valOf (jnM g_1.snd.fst.jn [g.k])] then none else if ks = [g.k] then none else jnM g_1.snd.fst.jn ks) = jnM g_2.s.jn ks)∧(True∧True∧(g.Y ++ g_1.snd.snd.fst).length = g_2.Y.length∧∀ (i : Nat), i < (g.Y ++ g_1.snd.snd.fst).length→(((True∧thC g.t (thI (g.Y ++ g_1.snd.snd.fst) i) 0 = thC g_2.t (thI g_2.Y i) 0)∧thC g.t (thI (g.Y ++ g_1.snd.snd.fst) i) 1 = thC g_2.t (thI g_2.Y i) 1)∧thC g.t (thI (g.Y ++ g_1.snd.snd.fst) i) 2 = thC g_2.t (thI g_2.Y i) 2)∧thC g.t (thI (g.Y ++ g_1.snd.snd.fst) i) 3 = thC g_2.t (thI g_2.Y i) 3)∧True)∧∀ (d : (rSp.below muSp n).δ), SpPost g_2.t.n g_2.t.b g_2.C g_2.s g_2.k g_2.e d.fst d.snd→((g_2.Y ++ d.snd).length + (1 : Nat)) * (32 : Nat)≤(140737488355328 : Nat)∧(g_2.Y ++ d.snd).length + (1 : Nat) < (4611686018427387904 : Nat)∧(lookFn fnTab (99 : FuncId)).isSome = true∧∃ (g_3 : SpAsk), ((TkOk g_3.t∧GrOk g_3.t.n g_3.t.b g_3.C∧SpPre g_3.t.n g_3.t.b g_3.C g_3.s g_3.k g_3.e∧g_3.Y.length + muS g_3.t.n g_3.s≤(1000 : Nat)∧(0 : Int)≤g_3.k∧g_3.k < (36 : Int))∧muSp g_3 < n)∧True∧((True∧g.k = g_3.k)∧(True∧(0 : Nat) = (0 : Nat))∧(True∧(0 : Nat) = (0 : Nat))∧(True∧(0 : Nat) = (0 : Nat))∧(True∧(0 : Nat) = (0 : Nat))∧(True∧(0 : Nat) = (0 : Nat))∧(True∧(0 : Nat) = (0 : Nat))∧True)∧((True∧((((True∧True∧g_2.t.w = g_3.t.w)∧True∧g_2.t.h = g_3.t.h)∧True∧True∧g_2.t.n = g_3.t.n∧∀ (i : Nat), i < g_2.t.n→(True∧g_2.t.b i 0 = g_3.t.b i 0)∧g_2.t.b i 1 = g_3.t.b i 1)∧True∧g_2.t.m = g_3.t.m)∧True∧g_2.t.k = g_3.t.k)∧(True∧True∧True)∧(True∧True∧True∧(0 : Nat) = (0 : Nat))∧(True∧True∧True∧True∧(((((True∧True∧(0 : Nat) = (0 : Nat))∧True∧(0 : Nat) = (0 : Nat))∧True∧(0 : Nat) = (0 : Nat))∧True∧(0 : Nat) = (0 : Nat))∧True∧(0 : Nat) = (0 : Nat))∧True∧(0 : Nat) = (0 : Nat))∧(True∧True∧True∧True∧(g_2.Y ++ d.snd).length + (1 : Nat) = g_3.Y.length)∧(True∧True∧True)∧(True∧∀ (ks : List Int), numM g_2.t.b g_2.t.n ks = numM g_3.t.b g_3.t.n ks)∧(True∧∀ (j : Nat), j < (72 : Nat)→True∧d.fst.lf j = g_3.s.lf j)∧(True∧∀ (ks : List Int), jnM d.fst.jn ks = jnM g_3.s.jn ks)∧(True∧True∧(g_2.Y ++ d.snd).length + (1 : Nat) = g_3.Y.length∧∀ (i : Nat), i < (g_2.Y ++ d.snd).length + (1 : Nat)→(((True∧(if i < (g_2.Y ++ d.snd).length then thC g_2.t (thI (g_2.Y ++ d.snd) i) 0 else if i - (g_2.Y ++ d.snd).length = (0 : Nat) then (-1 : Int) else (0 : Int)) = thC g_3.t (thI g_3.Y i) 0)∧(if i < (g_2.Y ++ d.snd).length then thC g_2.t (thI (g_2.Y ++ d.snd) i) 1 else if i - (g_2.Y ++ d.snd).length = (0 : Nat) then (-1 : Int) else (0 : Int)) = thC g_3.t (thI g_3.Y i) 1)∧(if i < (g_2.Y ++ d.snd).length then thC g_2.t (thI (g_2.Y ++ d.snd) i) 2 else if i - (g_2.Y ++ d.snd).length = (0 : Nat) then valOf (jnM g_1.snd.fst.jn [g.k]) else (0 : Int)) = thC g_3.t (thI g_3.Y i) 2)∧(if i < (g_2.Y ++ d.snd).length then thC g_2.t (thI (g_2.Y ++ d.snd) i) 3 else if i - (g_2.Y ++ d.snd).length = (0 : Nat) then g.k else (0 : Int)) = thC g_3.t (thI g_3.Y i) 3)∧True)∧∀ (d : (rSp.below muSp n).δ), SpPost g_3.t.n g_3.t.b g_3.C g_3.s g_3.k g_3.e d.fst d.snd→∃ (d_1 : SpS × List Th), SpPost g.t.n g.t.b g.C g.s g.k g.e d_1.fst d_1.snd∧True∧((True∧((((True∧True∧g_3.t.w = g.t.w)∧True∧g_3.t.h = g.t.h)∧True∧True∧g_3.t.n = g.t.n∧∀ (i : Nat), i < g_3.t.n→(True∧g_3.t.b i 0 = g.t.b i 0)∧g_3.t.b i 1 = g.t.b i 1)∧True∧g_3.t.m = g.t.m)∧True∧g_3.t.k = g.t.k)∧(True∧True∧True)∧(True∧True∧True∧(0 : Nat) = (0 : Nat))∧(True∧True∧True∧True∧(((((True∧True∧(0 : Nat) = (0 : Nat))∧True∧(0 : Nat) = (0 : Nat))∧True∧(0 : Nat) = (0 : Nat))∧True∧(0 : Nat) = (0 : Nat))∧True∧(0 : Nat) = (0 : Nat))∧True∧(0 : Nat) = (0 : Nat))∧(True∧True∧True∧True∧(g_3.Y ++ d.snd).length = (g.Y ++ d_1.snd).length)∧(True∧True∧True)∧(True∧∀ (ks : List Int), numM g_3.t.b g_3.t.n ks = numM g.t.b g.t.n ks)∧(True∧∀ (j : Nat), j < (72 : Nat)→True∧d.fst.lf j = d_1.fst.lf j)∧(True∧∀ (ks : List Int), jnM d.fst.jn ks = jnM d_1.fst.jn ks)∧(True∧True∧(g_3.Y ++ d.snd).length = (g.Y ++ d_1.snd).length∧∀ (i : Nat), i < (g_3.Y ++ d.snd).length→(((True∧thC g_3.t (thI (g_3.Y ++ d.snd) i) 0 = thC g.t (thI (g.Y ++ d_1.snd) i) 0)∧thC g_3.t (thI (g_3.Y ++ d.snd) i) 1 = thC g.t (thI (g.Y ++ d_1.snd) i) 1)∧thC g_3.t (thI (g_3.Y ++ d.snd) i) 2 = thC g.t (thI (g.Y ++ d_1.snd) i) 2)∧thC g_3.t (thI (g_3.Y ++ d.snd) i) 3 = thC g.t (thI (g.Y ++ d_1.snd) i) 3)∧True)∧True)∧(isSm (jnM g_1.snd.fst.jn [g.k]) = false→∃ (d : SpS × List Th), SpPost g.t.n g.t.b g.C g.s g.k g.e d.fst d.snd∧True∧((True∧((((True∧True∧g.t.w = g.t.w)∧True∧g.t.h = g.t.h)∧True∧True∧g.t.n = g.t.n∧∀ (i : Nat), i < g.t.n→(True∧g.t.b i 0 = g.t.b i 0)∧g.t.b i 1 = g.t.b i 1)∧True∧g.t.m = g.t.m)∧True∧g.t.k = g.t.k)∧(True∧True∧True)∧(True∧True∧True∧(0 : Nat) = (0 : Nat))∧(True∧True∧True∧True∧(((((True∧True∧(0 : Nat) = (0 : Nat))∧True∧(0 : Nat) = (0 : Nat))∧True∧(0 : Nat) = (0 : Nat))∧True∧(0 : Nat) = (0 : Nat))∧True∧(0 : Nat) = (0 : Nat))∧True∧(0 : Nat) = (0 : Nat))∧(True∧True∧True∧True∧(g.Y ++ g_1.snd.snd.fst).length = (g.Y ++ d.snd).length)∧(True∧True∧True)∧(True∧∀ (ks : List Int), numM g.t.b g.t.n ks = numM g.t.b g.t.n ks)∧(True∧∀ (j : Nat), j < (72 : Nat)→True∧g_1.snd.fst.lf j = d.fst.lf j)∧(True∧∀ (ks : List Int), jnM g_1.snd.fst.jn ks = jnM d.fst.jn ks)∧(True∧True∧(g.Y ++ g_1.snd.snd.fst).length = (g.Y ++ d.snd).length∧∀ (i : Nat), i < (g.Y ++ g_1.snd.snd.fst).length→(((True∧thC g.t (thI (g.Y ++ g_1.snd.snd.fst) i) 0 = thC g.t (thI (g.Y ++ d.snd) i) 0)∧thC g.t (thI (g.Y ++ g_1.snd.snd.fst) i) 1 = thC g.t (thI (g.Y ++ d.snd) i) 1)∧thC g.t (thI (g.Y ++ g_1.snd.snd.fst) i) 2 = thC g.t (thI (g.Y ++ d.snd) i) 2)∧thC g.t (thI (g.Y ++ g_1.snd.snd.fst) i) 3 = thC g.t (thI (g.Y ++ d.snd) i) 3)∧True)∧True))) (by kernel_rfl) ?_
 simp only [true_and, and_true, inR, Prod.exists, Prod.forall, and_assoc, exists_and_left, exists_eq_left', exists_eq_left, forall_eq, exists_const, forall_const, loopN, loopM, fa2, fas, fas2, dup1, dup2, dup3, dup4, ite_true, exhs, exhn, exhz, exho, exA, ex1, ex2, ex3, ex4, ex5, beqI, bneI, decide_true, Bool.true_and, decide_eq_true_eq, decide_eq_false_iff_not, ne_eq, Decidable.not_not]
 obtain ⟨T, G, P, hY0, hk0, hk1⟩ := (show TkOk g.t ∧ GrOk g.t.n g.t.b g.C ∧ SpPre g.t.n g.t.b g.C g.s g.k g.e ∧ g.Y.length + muS g.t.n g.s ≤ 1000 ∧ 0 ≤ g.k ∧ g.k < 36 from hg)
 have h72 := T.few
 refine ⟨⟨0, Nat.zero_le _, g.s, [], g.e, SpMid.start P, rfl, fun _ _ => trivial, by rw [List.append_nil], fun _ _ => rfl, fun _ => rfl, by rw [List.append_nil], fun i _ => by rw [List.append_nil]; exact ⟨rfl, rfl, rfl, rfl⟩⟩, fun a s' l c hal => ?_⟩
 obtain ⟨hle, h⟩ := hal
 have hlen := h.len
 refine ⟨fun hlt => ?_, fun hge => ?_⟩
 · have hlt : a < g.t.n := by omega
   have hkn := G.kn a hlt
   have e1 : g.t.b a (0 + (0 + 1)) = g.t.b a 1 := rfl
   have e2 : g.t.b a (0 + 1) = g.t.b a 1 := rfl
   rw [e1, e2, numM_at T hlt]
   have ev : valOf (some (a : Int)) = (a : Int) := rfl
   have ei : 0 + (valOf (some (a : Int))).toNat * 1 + 0 + 0 = a := by rw [ev]; omega
   have ei2 : 0 + (valOf (some (a : Int))).toNat * 1 + 0 = a := by rw [ev]; omega
   rw [ei, ev]
   have stay : inc g.t.b a g.k = false ∨ s'.lf a = false → SpMid g.t.n g.t.b g.C g.s g.k g.e (a + 1) s' l c := fun o => h.skip fun hs => o.elim id fun o => by rw [o] at hs; cases hs
   refine ⟨by omega, by omega, by omega, by omega, by omega, by omega, by omega, by omega, fun hl => ?_, fun hl => ⟨fun h0 => ⟨fun h1 => ?_, fun h1 => ?_⟩, fun h0 => ?_⟩⟩
   · rw [Bool.not_eq_true'] at hl
     exact ⟨by omega, by omega, a + 1, by omega, s', l, c, stay (.inr hl), by omega, by omega, fun _ _ => trivial, rfl, fun _ _ => rfl, fun _ => rfl, rfl, fun _ _ => ⟨rfl, rfl, rfl, rfl⟩⟩
   · have hi : inc g.t.b a g.k = false := by
       rw [Bool.eq_false_iff, ne_eq, inc_iff]; exact fun q => q.elim h0 h1
     exact ⟨by omega, by omega, a + 1, by omega, s', l, c, stay (.inl hi), by omega, by omega, fun _ _ => trivial, rfl, fun _ _ => rfl, fun _ => rfl, rfl, fun _ _ => ⟨rfl, rfl, rfl, rfl⟩⟩
   · rw [Bool.not_eq_false'] at hl
     have hi : inc g.t.b a g.k = true := inc_iff.2 (.inr h1)
     have he := othr_of hi
     have eto : g.t.b a 0 + g.t.b a 1 - g.k = othr g.t.b a g.k := rfl
     have hto : 0 ≤ othr g.t.b a g.k ∧ othr g.t.b a g.k < 36 := by
       rcases he with ⟨_, e⟩ | ⟨_, e⟩ <;> rw [e] <;> omega
     have mu1 := muS_offB (n := g.t.n) hlt hl
     rw [eto]
     refine ⟨by omega, by omega, by omega, by omega, by omega, by omega, is99, ⟨g.t, g.C, offB s' a, othr g.t.b a g.k, c, g.Y ++ l⟩, T, G, h.into G P hlt hl he, by show (g.Y ++ l).length + muS g.t.n (offB s' a) ≤ 1000; rw [List.length_append]; omega, hto.1, hto.2, by show muS g.t.n (offB s' a) < n; unfold muSp at hn; omega, rfl, rfl, rfl, rfl, fun _ _ => ⟨rfl, rfl⟩, rfl, rfl, rfl, fun _ => rfl, fun j hj => ?_, fun _ => rfl, rfl, fun _ _ => ⟨rfl, rfl, rfl, rfl⟩, fun d hd => ?_⟩
     · show (if j = a then false else s'.lf j) = (s'.lf j && !decide (j = a))
       by_cases q : j = a
       · rw [if_pos (by omega), decide_eq_true q]; simp
       · rw [if_neg (by omega), decide_eq_false q]; simp
     · have h2 := h.back G P hlt hl he hd
       have hd : SpPost g.t.n g.t.b g.C (offB s' a) (othr g.t.b a g.k) c d.1 d.2 := hd
       have hlen2 := hd.len
       have hY : (g.Y ++ l ++ d.2).length = g.Y.length + l.length + d.2.length := by simp only [List.length_append]
       show ((g.Y ++ l ++ d.2).length + 1) * 32 ≤ 140737488355328 ∧ _
       refine ⟨by omega, by show (g.Y ++ l ++ d.2).length + 1 < _; omega, by omega, by omega, a + 1, by omega, d.1, l ++ (d.2 ++ [⟨some a, othr g.t.b a g.k, g.k⟩]), g.k, h2, by omega, by omega, rfl, rfl, rfl, fun _ _ => ⟨rfl, rfl⟩, rfl, rfl, by rw [app3]; exact lenT_put, fun _ => rfl, fun _ _ => rfl, fun _ => rfl, by rw [app3]; exact lenT_put, fun i hi' => ?_⟩
       rw [app3]
       exact ⟨th_put (x := ⟨some a, othr g.t.b a g.k, g.k⟩) (j := 0) hi', th_put (x := ⟨some a, othr g.t.b a g.k, g.k⟩) (j := 1) hi', th_put (x := ⟨some a, othr g.t.b a g.k, g.k⟩) (j := 2) hi', th_put (x := ⟨some a, othr g.t.b a g.k, g.k⟩) (j := 3) hi'⟩
   · rw [Bool.not_eq_false'] at hl
     have hi : inc g.t.b a g.k = true := inc_iff.2 (.inl h0)
     have he := othr_of hi
     have eto : g.t.b a 0 + g.t.b a 1 - g.k = othr g.t.b a g.k := rfl
     have hto : 0 ≤ othr g.t.b a g.k ∧ othr g.t.b a g.k < 36 := by
       rcases he with ⟨_, e⟩ | ⟨_, e⟩ <;> rw [e] <;> omega
     have mu1 := muS_offB (n := g.t.n) hlt hl
     rw [eto]
     refine ⟨by omega, by omega, by omega, by omega, by omega, by omega, is99, ⟨g.t, g.C, offB s' a, othr g.t.b a g.k, c, g.Y ++ l⟩, T, G, h.into G P hlt hl he, by show (g.Y ++ l).length + muS g.t.n (offB s' a) ≤ 1000; rw [List.length_append]; omega, hto.1, hto.2, by show muS g.t.n (offB s' a) < n; unfold muSp at hn; omega, rfl, rfl, rfl, rfl, fun _ _ => ⟨rfl, rfl⟩, rfl, rfl, rfl, fun _ => rfl, fun j hj => ?_, fun _ => rfl, rfl, fun _ _ => ⟨rfl, rfl, rfl, rfl⟩, fun d hd => ?_⟩
     · show (if j = a then false else s'.lf j) = (s'.lf j && !decide (j = a))
       by_cases q : j = a
       · rw [if_pos (by omega), decide_eq_true q]; simp
       · rw [if_neg (by omega), decide_eq_false q]; simp
     · have h2 := h.back G P hlt hl he hd
       have hd : SpPost g.t.n g.t.b g.C (offB s' a) (othr g.t.b a g.k) c d.1 d.2 := hd
       have hlen2 := hd.len
       have hY : (g.Y ++ l ++ d.2).length = g.Y.length + l.length + d.2.length := by simp only [List.length_append]
       show ((g.Y ++ l ++ d.2).length + 1) * 32 ≤ 140737488355328 ∧ _
       refine ⟨by omega, by show (g.Y ++ l ++ d.2).length + 1 < _; omega, by omega, by omega, a + 1, by omega, d.1, l ++ (d.2 ++ [⟨some a, othr g.t.b a g.k, g.k⟩]), g.k, h2, by omega, by omega, rfl, rfl, rfl, fun _ _ => ⟨rfl, rfl⟩, rfl, rfl, by rw [app3]; exact lenT_put, fun _ => rfl, fun _ _ => rfl, fun _ => rfl, by rw [app3]; exact lenT_put, fun i hi' => ?_⟩
       rw [app3]
       exact ⟨th_put (x := ⟨some a, othr g.t.b a g.k, g.k⟩) (j := 0) hi', th_put (x := ⟨some a, othr g.t.b a g.k, g.k⟩) (j := 1) hi', th_put (x := ⟨some a, othr g.t.b a g.k, g.k⟩) (j := 2) hi', th_put (x := ⟨some a, othr g.t.b a g.k, g.k⟩) (j := 3) hi'⟩
 · obtain rfl : a = g.t.n := by omega
   refine ⟨by omega, by omega, fun hs => ?_, fun hs => ?_⟩
   · have hs : (s'.jn g.k).isSome = true := by
       have hs : isSm (s'.jn g.k) = true := hs
       cases q : s'.jn g.k with
       | none => rw [q] at hs; cases hs
       | some v => rfl
     obtain ⟨to, hj⟩ := Option.isSome_iff_exists.1 hs
     have ej : jnM s'.jn [g.k] = some to := hj
     rw [ej]
     have ev : valOf (some to) = to := rfl
     rw [ev]
     have J := P.jo.of h.acc
     obtain ⟨j1, j2, j3⟩ := J.sy g.k to hj
     have jk := J.kn to g.k j1
     have mu1 := muS_offJ (n := g.t.n) hj hk0 hk1
     refine ⟨by omega, by omega, by omega, by omega, is99, ⟨g.t, g.C, offJ s' g.k to, to, c, g.Y ++ l⟩, T, G, h.jinto P hj, by show (g.Y ++ l).length + muS g.t.n (offJ s' g.k to) ≤ 1000; rw [List.length_append]; omega, jk.1, jk.2, by show muS g.t.n (offJ s' g.k to) < n; unfold muSp at hn; omega, rfl, rfl, rfl, rfl, fun _ _ => ⟨rfl, rfl⟩, rfl, rfl, rfl, fun _ => rfl, fun _ _ => rfl, fun _ => jnM_off, rfl, fun _ _ => ⟨rfl, rfl, rfl, rfl⟩, fun d hd => ?_⟩
     have hd : SpPost g.t.n g.t.b g.C (offJ s' g.k to) to c d.1 d.2 := hd
     have hlen2 := hd.len
     have hY : (g.Y ++ l ++ d.2).length = g.Y.length + l.length + d.2.length := by simp only [List.length_append]
     have hY1 : (g.Y ++ l ++ d.2 ++ [(⟨none, to, g.k⟩ : Th)]).length = g.Y.length + l.length + d.2.length + 1 := by simp only [List.length_append, List.length_singleton]
     show ((g.Y ++ l ++ d.2).length + 1) * 32 ≤ 140737488355328 ∧ _
     refine ⟨by omega, by show (g.Y ++ l ++ d.2).length + 1 < _; omega, is99, ⟨g.t, g.C, d.1, g.k, g.k, g.Y ++ l ++ d.2 ++ [⟨none, to, g.k⟩]⟩, T, G, h.jback P hj hd, by show (g.Y ++ l ++ d.2 ++ [(⟨none, to, g.k⟩ : Th)]).length + muS g.t.n d.1 ≤ 1000; omega, hk0, hk1, by show muS g.t.n d.1 < n; unfold muSp at hn; omega, rfl, rfl, rfl, rfl, fun _ _ => ⟨rfl, rfl⟩, rfl, rfl, lenT_put, fun _ => rfl, fun _ _ => rfl, fun _ => rfl, lenT_put, fun i hi' => ?_, fun r hr => ?_⟩
     · exact ⟨th_put (x := ⟨none, to, g.k⟩) (j := 0) hi', th_put (x := ⟨none, to, g.k⟩) (j := 1) hi', th_put (x := ⟨none, to, g.k⟩) (j := 2) hi', th_put (x := ⟨none, to, g.k⟩) (j := 3) hi'⟩
     · have hr : SpPost g.t.n g.t.b g.C d.1 g.k g.k r.1 r.2 := hr
       refine ⟨r.1, l ++ (d.2 ++ [⟨none, to, g.k⟩]) ++ r.2, h.jfin P hj hd hr, rfl, rfl, rfl, fun _ _ => ⟨rfl, rfl⟩, rfl, rfl, by rw [app4], fun _ => rfl, fun _ _ => rfl, fun _ => rfl, by rw [app4], fun i _ => by rw [app4]; exact ⟨rfl, rfl, rfl, rfl⟩⟩
   · have hj : s'.jn g.k = none := by
       have hs : isSm (s'.jn g.k) = false := hs
       cases q : s'.jn g.k with
       | none => rfl
       | some v => rw [q] at hs; cases hs
     exact ⟨s', l, h.fin P hj, fun _ _ => trivial, rfl, fun _ _ => rfl, fun _ => rfl, rfl, fun _ _ => ⟨rfl, rfl, rfl, rfl⟩⟩
end Go.Proofs.YtcfmdhlohahhcaaDoor
namespace Go.Proofs.YtcfmdhlohahhcaaDoor
open Go Go.Sx Nm
set_option maxRecDepth 100000
set_option maxHeartbeats 2000000
structure CuAsk where
 t : Torn
 l : List Th
def sCut : Sig := ⟨CuAsk, fun a => [.c (.vs 4 a.l.length (rowW a.t a.l))], fun a => a.l.length ≤ 1000 ∧ ∀ x ∈ a.l, ∀ i, x.q = some i → 0 ≤ a.t.b i 0, fun a => [.v (pcsTV (pcsOf (cutF a.l)))]⟩
def ctA (l : List Th) (i : Nat) : CtS := ((rotL l).take i).foldl ctStep ⟨[], []⟩
def lstC (o : List (List Int)) (i : Nat) : CV := .vs 1 (o.getD i []).length fun k _ => .int .i64 ((o.getD i []).getD k 0)
theorem thI_get {l : List Th} {i : Nat} (h : i < l.length) : l[i]? = some (thI l i) := by
 unfold thI; rw [List.getD_eq_getElem?_getD, List.getElem?_eq_getElem h]; rfl
theorem thI_mem {l : List Th} {i : Nat} (h : i < l.length) : thI l i ∈ l := by
 have := thI_get h
 exact List.mem_of_getElem? this
theorem thNone {t : Torn} {x : Th} (h : ∀ i, x.q = some i → 0 ≤ t.b i 0) : (decide (thC t x 0 = -1) && (decide (thC t x 1 = -1) && true)) = x.q.isNone := by
 unfold thC
 cases q : x.q with
 | none => simp
 | some i =>
   have := h i q
   have : ¬ t.b i 0 = -1 := by omega
   simp [this]
theorem ctFrom_snoc {x : Th} : ∀ {l : List Th} {i r : Nat}, ctFrom (l ++ [x]) i r = if x.q.isNone = true then i + l.length + 1 else ctFrom l i r
 | [], i, r => rfl
 | y :: l, i, r => by
   show ctFrom (l ++ [x]) (i + 1) _ = if x.q.isNone = true then i + (l.length + 1) + 1 else ctFrom l (i + 1) _
   rw [ctFrom_snoc]
   split <;> first | omega | rfl
theorem take_one {l : List Th} {g : Nat} (h : g < l.length) : l.take (g + 1) = l.take g ++ [thI l g] := by
 rw [List.take_add_one, thI_get h]; rfl
theorem ctA_succ {l : List Th} {g : Nat} (h : g < l.length) : ctA l (g + 1) = ctStep (ctA l g) (thI (rotL l) g) := by
 unfold ctA
 rw [take_one (by rw [rotL_len]; exact h), List.foldl_append]; rfl
theorem ct_lens {l : List Th} : ∀ {g : Nat}, g ≤ l.length → (ctA l g).o.length ≤ g ∧ (ctA l g).p.length ≤ 2 * g
 | 0, _ => ⟨Nat.le_refl _, Nat.le_refl _⟩
 | g + 1, h => by
   obtain ⟨h1, h2⟩ := ct_lens (l := l) (g := g) (by omega)
   rw [ctA_succ (by omega)]
   unfold ctStep ctDone
   split
   · refine ⟨?_, Nat.zero_le _⟩
     show (if 1 < (ctA l g).p.length then (ctA l g).o ++ [(ctA l g).p] else (ctA l g).o).length ≤ g + 1
     split
     · rw [List.length_append, List.length_singleton]; omega
     · omega
   · refine ⟨by show (ctA l g).o.length ≤ g + 1; omega, ?_⟩
     show ((if (ctA l g).p = [] then [_] else (ctA l g).p) ++ [_]).length ≤ 2 * (g + 1)
     rw [List.length_append, List.length_singleton]
     split
     · rw [List.length_singleton]; omega
     · omega
theorem rot_idx {l : List Th} {g : Nat} (h : g < l.length) : thI l ((((ctFrom l 0 0 : Nat) : Int) + (g : Nat)).tmod (l.length : Nat)).toNat = thI (rotL l) g ∧ 0 ≤ (((ctFrom l 0 0 : Nat) : Int) + (g : Nat)).tmod (l.length : Nat) ∧ (((ctFrom l 0 0 : Nat) : Int) + (g : Nat)).tmod (l.length : Nat) < (l.length : Nat) := by
 have e : (((ctFrom l 0 0 : Nat) : Int) + (g : Nat)).tmod (l.length : Nat) = (((ctFrom l 0 0 + g) % l.length : Nat) : Int) := by
   rw [Int.tmod_eq_emod_of_nonneg (by omega)]; first | exact (Int.natCast_emod _ _).symm | exact (Int.natCast_mod _ _).symm | exact (Int.ofNat_emod _ _).symm
 have hm : (ctFrom l 0 0 + g) % l.length < l.length := Nat.mod_lt _ (by omega)
 rw [e, show (((ctFrom l 0 0 + g) % l.length : Nat) : Int).toNat = (ctFrom l 0 0 + g) % l.length by omega]
 refine ⟨?_, by omega, by omega⟩
 have h1 := rotL_get h
 rw [thI_get (by rw [rotL_len]; exact h), thI_get hm] at h1
 injection h1 with h1
 exact h1.symm
theorem fit_lst {o : List (List Int)} {i : Nat} : fitP (lstC o i) (lstC o i) := ⟨trivial, rfl, fun _ _ => ⟨trivial, rfl⟩⟩
theorem fit_put {o : List (List Int)} {p : List Int} {i : Nat} {d : CV} (hi : i < o.length + 1) : fitP (mixC (i < o.length) (lstC o i) (if i - o.length = 0 then CV.vs 1 (p.length - 0) fun i _ => CV.int IntKind.i64 (gI p i) else d)) (lstC (o ++ [p]) i) := by
 rw [mixC_eq]
 by_cases c : i < o.length
 · rw [if_pos c]
   have : lstC (o ++ [p]) i = lstC o i := by
     unfold lstC
     have e : (o ++ [p]).getD i [] = o.getD i [] := by rw [List.getD_eq_getElem?_getD, List.getD_eq_getElem?_getD, List.getElem?_append_left c]
     rw [e]
   rw [this]; exact fit_lst
 · rw [if_neg c, if_pos (by omega)]
   have : lstC (o ++ [p]) i = CV.vs 1 (p.length - 0) fun i _ => CV.int IntKind.i64 (gI p i) := by
     unfold lstC
     have e : (o ++ [p]).getD i [] = p := by rw [List.getD_eq_getElem?_getD, show i = o.length by omega, List.getElem?_append_right (Nat.le_refl _)]; simp
     rw [e]; rfl
   rw [this]; exact ⟨trivial, rfl, fun _ _ => ⟨trivial, rfl⟩⟩
theorem cutF_at {l : List Th} : cutF l = ctDone (ctA l l.length) := by
 unfold cutF ctA
 rw [List.take_of_length_le (by rw [rotL_len]; exact Nat.le_refl _)]
def aCu1 (l : List Th) : Ann := { G := Nat, ok := fun _ g => g ≤ l.length, dom := fun _ => [], tm := fun _ g => [(3, .t (intC (ctFrom (l.take g) 0 0))), (12, .t (intC g))], hp := fun _ _ => [], mu := fun _ g => l.length - g }
def aCu2 (l : List Th) : Ann := { G := Nat, ok := fun _ g => g ≤ l.length, dom := fun st => [st.nx, st.nx + 1], tm := fun st g => [(6, .t (.c (.os st.nx 1 (ctA l g).o.length))), (7, .t (.c (.os (st.nx + 1) 1 (ctA l g).p.length))), (26, .t (intC g))], hp := fun st g => [(st.nx, .slot 6, some (.row 26 1 (ctA l g).o.length (fun i _ => lstC (ctA l g).o i))), (st.nx + 1, .slot 7, some (.row 3 1 (ctA l g).p.length (fun i _ => .int .i64 (gI (ctA l g).p i))))], mu := fun _ g => l.length - g }
theorem q81 (a : sCut.α) (ha : sCut.pre a) : CallQ Tryd.prog E0 81 (sCut.arg a) (sCut.res a) := by
 obtain ⟨t, l⟩ := a
 refine bare_say E0_ok [] SigsOk.nil [] EvensOk.nil runs { live := true, l := [(81, 3, aCu1 l), (81, 11, aCu2 l)] } (fuel := 8) ?_
 refine of_red (q := (∃ (g : Nat), g≤l.length∧True∧((True∧(0 : Int) = (↑(ctFrom (List.take g l) (0 : Nat) (0 : Nat)) : Int))∧(True∧(0 : Int) = (↑g : Int))∧True)∧True)∧∀ (g : Nat), g≤l.length→(decide ((↑g : Int) < (↑l.length : Int)) = true→(0 : Int)≤(↑g : Int)∧(↑g : Int) < (↑l.length : Int)∧((thC t (thI l g) (0 : Nat) == (-1 : Int) && (thC t (thI l g) (1 : Nat) == (-1 : Int) && true)) = true→inRange IntKind.i64 ((↑g : Int) + (1 : Int))∧inRange IntKind.i64 ((↑g : Int) + (1 : Int))∧∃ (g' : Nat), g'≤l.length∧l.length - g' < l.length - g∧True∧((True∧(↑g : Int) + (1 : Int) = (↑(ctFrom (List.take g' l) (0 : Nat) (0 : Nat)) : Int))∧(True∧(↑g : Int) + (1 : Int) = (↑g' : Int))∧True)∧True)∧((thC t (thI l g) (0 : Nat) == (-1 : Int) && (thC t (thI l g) (1 : Nat) == (-1 : Int) && true)) = false→inRange IntKind.i64 ((↑g : Int) + (1 : Int))∧∃ (g' : Nat), g'≤l.length∧l.length - g' < l.length - g∧True∧((True∧(↑(ctFrom (List.take g l) (0 : Nat) (0 : Nat)) : Int) = (↑(ctFrom (List.take g' l) (0 : Nat) (0 : Nat)) : Int))∧(True∧(↑g : Int) + (1 : Int) = (↑g' : Int))∧True)∧True))∧(decide ((↑g : Int) < (↑l.length : Int)) = false→(∃ (g : Nat), g≤l.length∧True∧((True∧(ctA l g).o.length = (0 : Nat))∧(True∧(ctA l g).p.length = (0 : Nat))∧(True∧(0 : Int) = (↑g : Int))∧True)∧(ctA l g).o.length = (0 : Nat)∧(ctA l g).p.length = (0 : Nat)∧True)∧∀ (g_1 : Nat), g_1≤l.length→(decide ((↑g_1 : Int) < (↑l.length : Int)) = true→inRange IntKind.i64 ((↑(ctFrom (List.take g l) (0 : Nat) (0 : Nat)) : Int) + (↑g_1 : Int))∧(↑l.length : Int) ≠ (0 : Int)∧(0 : Int)≤((↑(ctFrom (List.take g l) (0 : Nat) (0 : Nat)) : Int) + (↑g_1 : Int)).tmod (↑l.length : Int)∧((↑(ctFrom (List.take g l) (0 : Nat) (0 : Nat)) : Int) + (↑g_1 : Int)).tmod (↑l.length : Int) < (↑l.length : Int)∧((thC t (thI l (((↑(ctFrom (List.take g l) (0 : Nat) (0 : Nat)) : Int) + (↑g_1 : Int)).tmod (↑l.length : Int)).toNat) (0 : Nat) == (-1 : Int) && (thC t (thI l (((↑(ctFrom (List.take g l) (0 : Nat) (0 : Nat)) : Int) + (↑g_1 : Int)).tmod (↑l.length : Int)).toNat) (1 : Nat) == (-1 : Int) && true)) = true→(decide ((1 : Int) < (↑(ctA l g_1).p.length : Int)) = true→(0 : Int)≤(0 : Int)∧(0 : Int)≤(↑(ctA l g_1).p.length : Int)∧(↑(ctA l g_1).p.length : Int)≤(↑(ctA l g_1).p.length : Int)∧(↑(ctA l g_1).p.length : Int)≤(↑(ctA l g_1).p.length : Int)∧((ctA l g_1).o.length + (1 : Nat)) * (24 : Nat)≤(140737488355328 : Nat)∧(ctA l g_1).o.length + (1 : Nat) < (4611686018427387904 : Nat)∧inRange IntKind.i64 ((↑g_1 : Int) + (1 : Int))∧∃ (g' : Nat), g'≤l.length∧l.length - g' < l.length - g_1∧True∧((True∧True∧(ctA l g_1).o.length + (1 : Nat) = (ctA l g').o.length)∧(True∧(ctA l g').p.length = (0 : Nat))∧(True∧(↑g_1 : Int) + (1 : Int) = (↑g' : Int))∧True)∧(True∧True∧(ctA l g_1).o.length + (1 : Nat) = (ctA l g').o.length∧∀ (i : Nat), i < (ctA l g_1).o.length + (1 : Nat)→True∧fitP (mixC (i < (ctA l g_1).o.length) (lstC (ctA l g_1).o i) (if i - (ctA l g_1).o.length = (0 : Nat) then CV.vs (1 : Nat) ((ctA l g_1).p.length - (0 : Nat)) fun (i x : Nat) => CV.int IntKind.i64 (gI (ctA l g_1).p i) else [CV.nils].getD 0 CV.any)) (lstC (ctA l g').o i))∧(ctA l g').p.length = (0 : Nat)∧True)∧(decide ((1 : Int) < (↑(ctA l g_1).p.length : Int)) = false→inRange IntKind.i64 ((↑g_1 : Int) + (1 : Int))∧∃ (g' : Nat), g'≤l.length∧l.length - g' < l.length - g_1∧True∧((True∧True∧(ctA l g_1).o.length = (ctA l g').o.length)∧(True∧(ctA l g').p.length = (0 : Nat))∧(True∧(↑g_1 : Int) + (1 : Int) = (↑g' : Int))∧True)∧(True∧True∧(ctA l g_1).o.length = (ctA l g').o.length∧∀ (i : Nat), i < (ctA l g_1).o.length→True∧True∧((ctA l g_1).o.getD i []).length = ((ctA l g').o.getD i []).length∧∀ (i_1 : Nat), i_1 < ((ctA l g_1).o.getD i []).length→True∧((ctA l g_1).o.getD i []).getD i_1 (0 : Int) = ((ctA l g').o.getD i []).getD i_1 (0 : Int))∧(ctA l g').p.length = (0 : Nat)∧True))∧((thC t (thI l (((↑(ctFrom (List.take g l) (0 : Nat) (0 : Nat)) : Int) + (↑g_1 : Int)).tmod (↑l.length : Int)).toNat) (0 : Nat) == (-1 : Int) && (thC t (thI l (((↑(ctFrom (List.take g l) (0 : Nat) (0 : Nat)) : Int) + (↑g_1 : Int)).tmod (↑l.length : Int)).toNat) (1 : Nat) == (-1 : Int) && true)) = false→(((↑(ctA l g_1).p.length : Int) == (0 : Int)) = true→((1 : Nat) + (1 : Nat)) * (8 : Nat)≤(140737488355328 : Nat)∧(1 : Nat) + (1 : Nat) < (4611686018427387904 : Nat)∧inRange IntKind.i64 ((↑g_1 : Int) + (1 : Int))∧∃ (g' : Nat), g'≤l.length∧l.length - g' < l.length - g_1∧True∧((True∧True∧(ctA l g_1).o.length = (ctA l g').o.length)∧(True∧True∧(1 : Nat) + (1 : Nat) = (ctA l g').p.length)∧(True∧(↑g_1 : Int) + (1 : Int) = (↑g' : Int))∧True)∧(True∧True∧(ctA l g_1).o.length = (ctA l g').o.length∧∀ (i : Nat), i < (ctA l g_1).o.length→True∧True∧((ctA l g_1).o.getD i []).length = ((ctA l g').o.getD i []).length∧∀ (i_1 : Nat), i_1 < ((ctA l g_1).o.getD i []).length→True∧((ctA l g_1).o.getD i []).getD i_1 (0 : Int) = ((ctA l g').o.getD i []).getD i_1 (0 : Int))∧(True∧True∧(1 : Nat) + (1 : Nat) = (ctA l g').p.length∧∀ (i : Nat), i < (1 : Nat) + (1 : Nat)→True∧(if i < (1 : Nat) then if i = (0 : Nat) then thC t (thI l (((↑(ctFrom (List.take g l) (0 : Nat) (0 : Nat)) : Int) + (↑g_1 : Int)).tmod (↑l.length : Int)).toNat) ((0 : Nat) + (nat_lit 1 + (1 : Nat))) else (0 : Int) else if i - (1 : Nat) = (0 : Nat) then thC t (thI l (((↑(ctFrom (List.take g l) (0 : Nat) (0 : Nat)) : Int) + (↑g_1 : Int)).tmod (↑l.length : Int)).toNat) ((0 : Nat) + (nat_lit 2 + (1 : Nat))) else (0 : Int)) = gI (ctA l g').p i)∧True)∧(((↑(ctA l g_1).p.length : Int) == (0 : Int)) = false→((ctA l g_1).p.length + (1 : Nat)) * (8 : Nat)≤(140737488355328 : Nat)∧(ctA l g_1).p.length + (1 : Nat) < (4611686018427387904 : Nat)∧inRange IntKind.i64 ((↑g_1 : Int) + (1 : Int))∧∃ (g' : Nat), g'≤l.length∧l.length - g' < l.length - g_1∧True∧((True∧True∧(ctA l g_1).o.length = (ctA l g').o.length)∧(True∧True∧(ctA l g_1).p.length + (1 : Nat) = (ctA l g').p.length)∧(True∧(↑g_1 : Int) + (1 : Int) = (↑g' : Int))∧True)∧(True∧True∧(ctA l g_1).o.length = (ctA l g').o.length∧∀ (i : Nat), i < (ctA l g_1).o.length→True∧True∧((ctA l g_1).o.getD i []).length = ((ctA l g').o.getD i []).length∧∀ (i_1 : Nat), i_1 < ((ctA l g_1).o.getD i []).length→True∧((ctA l g_1).o.getD i []).getD i_1 (0 : Int) = ((ctA l g').o.getD i []).getD i_1 (0 : Int))∧(True∧True∧(ctA l g_1).p.length + (1 : Nat) = (ctA l g').p.length∧∀ (i : Nat), i < (ctA l g_1).p.length + (1 : Nat)→True∧(if i < (ctA l g_1).p.length then gI (ctA l g_1).p i else if i - (ctA l g_1).p.length = (0 : Nat) then thC t (thI l (((↑(ctFrom (List.take g l) (0 : Nat) (0 : Nat)) : Int) + (↑g_1 : Int)).tmod (↑l.length : Int)).toNat) ((0 : Nat) + (nat_lit 2 + (1 : Nat))) else (0 : Int)) = gI (ctA l g').p i)∧True)))∧(decide ((↑g_1 : Int) < (↑l.length : Int)) = false→(decide ((1 : Int) < (↑(ctA l g_1).p.length : Int)) = true→(0 : Int)≤(0 : Int)∧(0 : Int)≤(↑(ctA l g_1).p.length : Int)∧(↑(ctA l g_1).p.length : Int)≤(↑(ctA l g_1).p.length : Int)∧(↑(ctA l g_1).p.length : Int)≤(↑(ctA l g_1).p.length : Int)∧((ctA l g_1).o.length + (1 : Nat)) * (24 : Nat)≤(140737488355328 : Nat)∧(ctA l g_1).o.length + (1 : Nat) < (4611686018427387904 : Nat)∧True∧True∧(ctA l g_1).o.length + (1 : Nat) = (pcsOf (cutF l)).np∧∀ (i : Nat), i < (ctA l g_1).o.length + (1 : Nat)→True∧fitP (mixC (i < (ctA l g_1).o.length) (lstC (ctA l g_1).o i) (if i - (ctA l g_1).o.length = (0 : Nat) then CV.vs (1 : Nat) ((ctA l g_1).p.length - (0 : Nat)) fun (i x : Nat) => CV.int IntKind.i64 (gI (ctA l g_1).p i) else [CV.nils].getD 0 CV.any)) (CV.vs (1 : Nat) ((pcsOf (cutF l)).len i) fun (k x : Nat) => CV.int IntKind.i64 ((pcsOf (cutF l)).kn i k)))∧(decide ((1 : Int) < (↑(ctA l g_1).p.length : Int)) = false→True∧True∧(ctA l g_1).o.length = (pcsOf (cutF l)).np∧∀ (i : Nat), i < (ctA l g_1).o.length→True∧True∧((ctA l g_1).o.getD i []).length = (pcsOf (cutF l)).len i∧∀ (i_1 : Nat), i_1 < ((ctA l g_1).o.getD i []).length→True∧((ctA l g_1).o.getD i []).getD i_1 (0 : Int) = (pcsOf (cutF l)).kn i i_1)))) (by kernel_rfl) ?_
 simp only [true_and, and_true, inR, Prod.exists, Prod.forall, and_assoc, exists_and_left, exists_eq_left', exists_eq_left, forall_eq, exists_const, forall_const, loopN, loopM, fa2, fas, fas2, dup1, dup2, dup3, dup4, ite_true, exhs, exhn, exhz, exho, exA, ex1, ex2, ex3, ex4, ex5, beqI, bneI, decide_true, Bool.true_and, decide_eq_true_eq, decide_eq_false_iff_not, ne_eq, Decidable.not_not]
 obtain ⟨h1000, hb⟩ := (show l.length ≤ 1000 ∧ ∀ x ∈ l, ∀ i, x.q = some i → 0 ≤ t.b i 0 from ha)
 have lens := fun g hg => ct_lens (l := l) (g := g) hg
 have fle := ctFrom_le (l := l)
 rw [List.take_of_length_le (Nat.le_refl l.length)]
 have stepO : ∀ g, g < l.length → ∀ i, i < (ctA l g).o.length → ((ctA l g).o.getD i []).length = ((ctA l g).o.getD i []).length ∧ ∀ i_1, i_1 < ((ctA l g).o.getD i []).length → ((ctA l g).o.getD i []).getD i_1 0 = ((ctA l g).o.getD i []).getD i_1 0 := fun _ _ _ _ => ⟨rfl, fun _ _ => rfl⟩
 refine ⟨Nat.zero_le _, rfl, fun g hg => ?_, ⟨0, Nat.zero_le _, rfl, rfl, rfl, rfl, rfl⟩, fun g hg => ?_, fun hp => ?_, fun hp => ?_⟩
 · rw [thNone (hb _ (thI_mem hg)), take_one hg, ctFrom_snoc, List.length_take]
   refine ⟨by omega, by omega, fun hn => ?_, fun hn => ?_⟩
   · rw [if_pos hn]
     exact ⟨by omega, by omega, by omega, by omega, by omega, by omega, by omega⟩
   · rw [if_neg (by rw [hn]; decide)]
     exact ⟨by omega, by omega, by omega, by omega, rfl⟩
 · obtain ⟨e, i0, i1⟩ := rot_idx hg
   obtain ⟨l1, l2⟩ := lens g (by omega)
   have hm : thI (rotL l) g ∈ l := rotL_perm.mem_iff.1 (thI_mem (by rw [rotL_len]; exact hg))
   have es := ctA_succ hg
   rw [e, thNone (hb _ hm)]
   refine ⟨by omega, by omega, by omega, i0, i1, fun hn => ⟨fun hp => ?_, fun hp => ?_⟩, fun hn => ⟨fun hp => ?_, fun hp => ?_⟩⟩
   · have es2 : ctA l (g + 1) = ⟨(ctA l g).o ++ [(ctA l g).p], []⟩ := by
       rw [es]; unfold ctStep ctDone
       rw [Option.isNone_iff_eq_none] at hn
       rw [hn, if_pos (by omega)]
     exact ⟨by omega, by omega, by omega, by omega, by omega, by omega, by omega, by omega, g + 1, by omega, by omega, by rw [es2]; simp, by rw [es2]; rfl, by omega, by rw [es2]; simp, fun i hi => by rw [es2]; exact fit_put hi, by rw [es2]; rfl⟩
   · have es2 : ctA l (g + 1) = ⟨(ctA l g).o, []⟩ := by
       rw [es]; unfold ctStep ctDone
       rw [Option.isNone_iff_eq_none] at hn
       rw [hn, if_neg (by omega)]
     exact ⟨by omega, by omega, g + 1, by omega, by omega, by rw [es2], by rw [es2]; rfl, by omega, by rw [es2], fun i _ => by rw [es2]; exact ⟨rfl, fun _ _ => rfl⟩, by rw [es2]; rfl⟩
   · have hp0 : (ctA l g).p = [] := List.length_eq_zero_iff.1 (by omega)
     have es2 : ctA l (g + 1) = ⟨(ctA l g).o, [(thI (rotL l) g).f] ++ [(thI (rotL l) g).t]⟩ := by
       rw [es]; unfold ctStep
       cases q : (thI (rotL l) g).q with
       | none => rw [q] at hn; cases hn
       | some i => simp only [hp0, if_true]
     refine ⟨by omega, by omega, by omega, by omega, g + 1, by omega, by omega, by rw [es2], by rw [es2]; rfl, by omega, by rw [es2], fun i _ => by rw [es2]; exact ⟨rfl, fun _ _ => rfl⟩, by rw [es2]; rfl, fun i hi => ?_⟩
     rw [es2]
     match i, hi with
     | 0, _ => rfl
     | 1, _ => rfl
   · have hp0 : (ctA l g).p ≠ [] := fun h => by rw [h] at hp; exact hp rfl
     have es2 : ctA l (g + 1) = ⟨(ctA l g).o, (ctA l g).p ++ [(thI (rotL l) g).t]⟩ := by
       rw [es]; unfold ctStep
       cases q : (thI (rotL l) g).q with
       | none => rw [q] at hn; cases hn
       | some i => simp only [if_neg hp0]
     refine ⟨by omega, by omega, by omega, by omega, g + 1, by omega, by omega, by rw [es2], by rw [es2]; simp, by omega, by rw [es2], fun i _ => by rw [es2]; exact ⟨rfl, fun _ _ => rfl⟩, by rw [es2]; simp, fun i hi => ?_⟩
     rw [es2]
     exact gI_put hi
 · obtain ⟨l1, l2⟩ := lens l.length (Nat.le_refl _)
   have e : cutF l = (ctA l l.length).o ++ [(ctA l l.length).p] := by rw [cutF_at]; unfold ctDone; rw [if_pos (by omega)]
   rw [e]
   exact ⟨by omega, by omega, by omega, by omega, by omega, by omega, by show _ = ((ctA l l.length).o ++ [(ctA l l.length).p]).length; simp, fun i hi => fit_put hi⟩
 · have e : cutF l = (ctA l l.length).o := by rw [cutF_at]; unfold ctDone; rw [if_neg (by omega)]
   rw [e]
   exact ⟨rfl, fun _ _ => ⟨rfl, fun _ _ => rfl⟩⟩
end Go.Proofs.YtcfmdhlohahhcaaDoor
namespace Go.Proofs.YtcfmdhlohahhcaaDoor
open Go Go.Sx Nm
set_option maxRecDepth 100000
set_option maxHeartbeats 2000000
def knN (t : Torn) : Nat := (t.w * t.h).toNat
def fewT (t : Torn) : Nat := few (knN t) t.n t.b
def sFew : Sig := ⟨Torn, fun t => [tornTV t], TkOk, fun t => [.v (intC (fewT t))]⟩
theorem oddG_le {n : Nat} {b : Nat → Nat → Int} {G : Int → Int} {g : Nat} : ∀ {i : Nat}, oddG n b G g i ≤ i
 | 0 => Nat.le_refl _
 | i + 1 => by
   have := oddG_le (n := n) (b := b) (G := G) (g := g) (i := i)
   rw [oddG]
   split <;> omega
theorem sumF_bd {f : Nat → Nat} {c : Nat} (h : ∀ i, f i ≤ c) : ∀ {n : Nat}, Nm.sumF n f ≤ n * c
 | 0 => Nat.zero_le _
 | n + 1 => by
   have := sumF_bd h (n := n)
   have := h n
   rw [Nm.sumF, Nat.succ_mul]; omega
theorem needG_le {N n : Nat} {b : Nat → Nat → Int} {G : Int → Int} {g : Nat} (h : N ≤ 36) : needG N n b G g ≤ 37 := by
 have := oddG_le (n := n) (b := b) (G := G) (g := g) (i := N)
 unfold needG
 split <;> omega
def aFw1 (t : Torn) : Ann := { G := Nat, ok := fun _ g => g ≤ knN t, dom := fun st => [osN (st.tm 4)], tm := fun _ g => [(6, .t (intC g))], hp := fun st g => [(osN (st.tm 4), .self, some (.row 3 1 (knN t) (fun j _ => .int .i64 (if j < g then (j : Int) else 0))))], mu := fun _ g => knN t - g }
def aFw2 (t : Torn) : Ann := { G := Nat, ok := fun _ g => g ≤ knN t, dom := fun st => [osN (st.tm 4)], tm := fun _ g => [(7, .t (intC g))], hp := fun st g => [(osN (st.tm 4), .self, some (.row 3 1 (knN t) (fun j _ => .int .i64 (fwR t.n t.b g j))))], mu := fun _ g => knN t - g }
def aFw3 (t : Torn) : Ann := { G := Nat × Nat, ok := fun st g => isI (st.tm 7) g.2 ∧ g.1 ≤ t.n, dom := fun st => [osN (st.tm 4)], tm := fun _ g => [(8, .t (intC g.1))], hp := fun st g => [(osN (st.tm 4), .self, some (.row 3 1 (knN t) (fun j _ => .int .i64 (fwB t.b g.1 (fwR t.n t.b g.2) j))))], mu := fun _ g => t.n - g.1 }
def aFw4 (t : Torn) : Ann := { G := Nat, ok := fun _ g => g ≤ t.n, dom := fun st => [osN (st.tm 5)], tm := fun _ g => [(11, .t (intC g))], hp := fun st g => [(osN (st.tm 5), .self, some (.row 3 1 (knN t) (fun j _ => .int .i64 (cntN g fun i => inc t.b i (j : Nat)))))], mu := fun _ g => t.n - g }
def aFw5 (t : Torn) : Ann := { G := Nat, ok := fun _ g => g ≤ knN t, dom := fun _ => [], tm := fun _ g => [(12, .t (intC (Nm.sumF g (needG (knN t) t.n t.b (lab (knN t) t.n t.b))))), (13, .t (intC g))], hp := fun _ _ => [], mu := fun _ g => knN t - g }
def aFw6 (t : Torn) : Ann := { G := Nat × Nat, ok := fun st g => isI (st.tm 13) g.2 ∧ g.1 ≤ knN t, dom := fun _ => [], tm := fun _ g => [(14, .t (intC (oddG t.n t.b (lab (knN t) t.n t.b) g.2 g.1))), (15, .t (.c (.bool (anyG (knN t) t.n t.b (lab (knN t) t.n t.b) g.2 g.1)))), (16, .t (intC g.1))], hp := fun _ _ => [], mu := fun _ g => knN t - g.1 }
theorem q35 (t : Torn) (ht : TkOk t) : CallQ Tryd.prog E0 35 (sFew.arg t) (sFew.res t) := by
 refine bare_say E0_ok [] SigsOk.nil [] EvensOk.nil runs { live := true, l := [(35, 4, aFw1 t), (35, 8, aFw2 t), (35, 11, aFw3 t), (35, 17, aFw4 t), (35, 23, aFw5 t), (35, 27, aFw6 t)], o := [(35, 15, fun st => [(osN (st.tm 4), [9, 11])])] } (fuel := 8) ?_
 refine of_red (q := inRange IntKind.i64 (t.w * t.h)∧(0 : Int)≤t.w * t.h∧t.w * t.h = t.w * t.h∧(↑(8 : Nat) : Int) * (t.w * t.h)≤(140737488355328 : Int)∧t.w * t.h < (4611686018427387904 : Int)∧(0 : Int)≤t.w * t.h∧t.w * t.h = t.w * t.h∧(↑(8 : Nat) : Int) * (t.w * t.h)≤(140737488355328 : Int)∧t.w * t.h < (4611686018427387904 : Int)∧(∃ (g : Nat), g≤knN t∧True∧((True∧(0 : Int) = (↑g : Int))∧True)∧(True∧True∧(t.w * t.h).toNat = knN t∧∀ (i : Nat), i < (t.w * t.h).toNat→True∧(0 : Int) = if i < g then (↑i : Int) else (0 : Int))∧True)∧∀ (g : Nat), g≤knN t→(decide ((↑g : Int) < t.w * t.h) = true→(0 : Int)≤(↑g : Int)∧(↑g : Int) < (↑(t.w * t.h).toNat : Int)∧inRange IntKind.i64 ((↑g : Int) + (1 : Int))∧∃ (g' : Nat), g'≤knN t∧knN t - g' < knN t - g∧True∧((True∧(↑g : Int) + (1 : Int) = (↑g' : Int))∧True)∧(True∧True∧knN t = knN t∧∀ (i : Nat), i < knN t→True∧(if i = g then (↑g : Int) else if i < g then (↑i : Int) else (0 : Int)) = if i < g' then (↑i : Int) else (0 : Int))∧True)∧(decide ((↑g : Int) < t.w * t.h) = false→(∃ (g_1 : Nat), g_1≤knN t∧True∧((True∧(0 : Int) = (↑g_1 : Int))∧True)∧(True∧True∧knN t = knN t∧∀ (i : Nat), i < knN t→True∧(if i < g then (↑i : Int) else (0 : Int)) = fwR t.n t.b g_1 (↑i : Int))∧True)∧∀ (g : Nat), g≤knN t→(decide ((↑g : Int) < t.w * t.h) = true→(∃ (g_1 : Nat × Nat), ((↑g : Int) = (↑g_1.snd : Int)∧g_1.fst≤t.n)∧True∧((True∧(0 : Int) = (↑g_1.fst : Int))∧True)∧(True∧True∧knN t = knN t∧∀ (i : Nat), i < knN t→True∧fwR t.n t.b g (↑i : Int) = fwB t.b g_1.fst (fwR t.n t.b g_1.snd) (↑i : Int))∧True)∧∀ (g_1 : Nat × Nat), (↑g : Int) = (↑g_1.snd : Int)∧g_1.fst≤t.n→(decide ((↑g_1.fst : Int) < (↑t.n : Int)) = true→(0 : Int)≤(↑g_1.fst : Int)∧(↑g_1.fst : Int) < (↑t.n : Int)∧(0 : Int)≤t.b g_1.fst (0 : Nat)∧t.b g_1.fst (0 : Nat) < (↑(t.w * t.h).toNat : Int)∧(0 : Int)≤t.b g_1.fst ((0 : Nat) + (nat_lit 0 + (1 : Nat)))∧t.b g_1.fst ((0 : Nat) + (nat_lit 0 + (1 : Nat))) < (↑(t.w * t.h).toNat : Int)∧(0 : Int)≤t.b g_1.fst (0 : Nat)∧t.b g_1.fst (0 : Nat) < (↑(t.w * t.h).toNat : Int)∧(0 : Int)≤t.b g_1.fst ((0 : Nat) + (nat_lit 0 + (1 : Nat)))∧t.b g_1.fst ((0 : Nat) + (nat_lit 0 + (1 : Nat))) < (↑(t.w * t.h).toNat : Int)∧inRange IntKind.i64 ((↑g_1.fst : Int) + (1 : Int))∧∃ (g' : Nat × Nat), ((↑g : Int) = (↑g'.snd : Int)∧g'.fst≤t.n)∧t.n - g'.fst < t.n - g_1.fst∧True∧((True∧(↑g_1.fst : Int) + (1 : Int) = (↑g'.fst : Int))∧True)∧(True∧True∧knN t = knN t∧∀ (i : Nat), i < knN t→True∧(if i = (t.b g_1.fst ((0 : Nat) + (nat_lit 0 + (1 : Nat)))).toNat then imin (fwB t.b g_1.fst (fwR t.n t.b g_1.snd) (↑(t.b g_1.fst (0 : Nat)).toNat : Int)) (fwB t.b g_1.fst (fwR t.n t.b g_1.snd) (↑(t.b g_1.fst ((0 : Nat) + (nat_lit 0 + (1 : Nat)))).toNat : Int)) else if i = (t.b g_1.fst (0 : Nat)).toNat then imin (fwB t.b g_1.fst (fwR t.n t.b g_1.snd) (↑(t.b g_1.fst (0 : Nat)).toNat : Int)) (fwB t.b g_1.fst (fwR t.n t.b g_1.snd) (↑(t.b g_1.fst ((0 : Nat) + (nat_lit 0 + (1 : Nat)))).toNat : Int)) else fwB t.b g_1.fst (fwR t.n t.b g_1.snd) (↑i : Int)) = fwB t.b g'.fst (fwR t.n t.b g'.snd) (↑i : Int))∧True)∧(decide ((↑g_1.fst : Int) < (↑t.n : Int)) = false→inRange IntKind.i64 ((↑g : Int) + (1 : Int))∧∃ (g' : Nat), g'≤knN t∧knN t - g' < knN t - g∧True∧((True∧(↑g : Int) + (1 : Int) = (↑g' : Int))∧True)∧(True∧True∧knN t = knN t∧∀ (i : Nat), i < knN t→True∧fwB t.b g_1.fst (fwR t.n t.b g_1.snd) (↑i : Int) = fwR t.n t.b g' (↑i : Int))∧True))∧(decide ((↑g : Int) < t.w * t.h) = false→(∃ (g : Nat), g≤t.n∧True∧((True∧(0 : Int) = (↑g : Int))∧True)∧(True∧True∧(t.w * t.h).toNat = knN t∧∀ (i : Nat), i < (t.w * t.h).toNat→True∧(0 : Int) = (↑(cntN g fun (i_1 : Nat) => inc t.b i_1 (↑i : Int)) : Int))∧True)∧∀ (g_1 : Nat), g_1≤t.n→(decide ((↑g_1 : Int) < (↑t.n : Int)) = true→(0 : Int)≤(↑g_1 : Int)∧(↑g_1 : Int) < (↑t.n : Int)∧(0 : Int)≤t.b g_1 (0 : Nat)∧t.b g_1 (0 : Nat) < (↑(t.w * t.h).toNat : Int)∧inRange IntKind.i64 ((↑(cntN g_1 fun (i : Nat) => inc t.b i (↑(t.b g_1 (0 : Nat)).toNat : Int)) : Int) + (1 : Int))∧(0 : Int)≤t.b g_1 (0 : Nat)∧t.b g_1 (0 : Nat) < (↑(t.w * t.h).toNat : Int)∧(0 : Int)≤(↑g_1 : Int)∧(↑g_1 : Int) < (↑t.n : Int)∧(0 : Int)≤t.b g_1 ((0 : Nat) + (nat_lit 0 + (1 : Nat)))∧t.b g_1 ((0 : Nat) + (nat_lit 0 + (1 : Nat))) < (↑(t.w * t.h).toNat : Int)∧inRange IntKind.i64 ((if (t.b g_1 ((0 : Nat) + (nat_lit 0 + (1 : Nat)))).toNat = (t.b g_1 (0 : Nat)).toNat then (↑(cntN g_1 fun (i : Nat) => inc t.b i (↑(t.b g_1 (0 : Nat)).toNat : Int)) : Int) + (1 : Int) else (↑(cntN g_1 fun (i : Nat) => inc t.b i (↑(t.b g_1 ((0 : Nat) + (nat_lit 0 + (1 : Nat)))).toNat : Int)) : Int)) + (1 : Int))∧(0 : Int)≤t.b g_1 ((0 : Nat) + (nat_lit 0 + (1 : Nat)))∧t.b g_1 ((0 : Nat) + (nat_lit 0 + (1 : Nat))) < (↑(t.w * t.h).toNat : Int)∧inRange IntKind.i64 ((↑g_1 : Int) + (1 : Int))∧∃ (g' : Nat), g'≤t.n∧t.n - g' < t.n - g_1∧True∧((True∧(↑g_1 : Int) + (1 : Int) = (↑g' : Int))∧True)∧(True∧True∧knN t = knN t∧∀ (i : Nat), i < knN t→True∧(if i = (t.b g_1 ((0 : Nat) + (nat_lit 0 + (1 : Nat)))).toNat then (if (t.b g_1 ((0 : Nat) + (nat_lit 0 + (1 : Nat)))).toNat = (t.b g_1 (0 : Nat)).toNat then (↑(cntN g_1 fun (i : Nat) => inc t.b i (↑(t.b g_1 (0 : Nat)).toNat : Int)) : Int) + (1 : Int) else (↑(cntN g_1 fun (i : Nat) => inc t.b i (↑(t.b g_1 ((0 : Nat) + (nat_lit 0 + (1 : Nat)))).toNat : Int)) : Int)) + (1 : Int) else if i = (t.b g_1 (0 : Nat)).toNat then (↑(cntN g_1 fun (i : Nat) => inc t.b i (↑(t.b g_1 (0 : Nat)).toNat : Int)) : Int) + (1 : Int) else (↑(cntN g_1 fun (i_1 : Nat) => inc t.b i_1 (↑i : Int)) : Int)) = (↑(cntN g' fun (i_1 : Nat) => inc t.b i_1 (↑i : Int)) : Int))∧True)∧(decide ((↑g_1 : Int) < (↑t.n : Int)) = false→(∃ (g : Nat), g≤knN t∧True∧((True∧(0 : Int) = (↑(Nm.sumF g (needG (knN t) t.n t.b (lab (knN t) t.n t.b))) : Int))∧(True∧(0 : Int) = (↑g : Int))∧True)∧True)∧∀ (g_2 : Nat), g_2≤knN t→(decide ((↑g_2 : Int) < t.w * t.h) = true→(∃ (g : Nat × Nat), ((↑g_2 : Int) = (↑g.snd : Int)∧g.fst≤knN t)∧True∧((True∧(0 : Int) = (↑(oddG t.n t.b (lab (knN t) t.n t.b) g.snd g.fst) : Int))∧(True∧anyG (knN t) t.n t.b (lab (knN t) t.n t.b) g.snd g.fst = false)∧(True∧(0 : Int) = (↑g.fst : Int))∧True)∧True)∧∀ (g_3 : Nat × Nat), (↑g_2 : Int) = (↑g_3.snd : Int)∧g_3.fst≤knN t→(decide ((↑g_3.fst : Int) < t.w * t.h) = true→(0 : Int)≤(↑g_3.fst : Int)∧(↑g_3.fst : Int) < (↑(t.w * t.h).toNat : Int)∧((fwR t.n t.b g (↑g_3.fst : Int) == (↑g_2 : Int)) = true→(0 : Int)≤(↑g_3.fst : Int)∧(↑g_3.fst : Int) < (↑(t.w * t.h).toNat : Int)∧(decide ((0 : Int) < (↑(cntN g_1 fun (i : Nat) => inc t.b i (↑g_3.fst : Int)) : Int)) = true→(0 : Int)≤(↑g_3.fst : Int)∧(↑g_3.fst : Int) < (↑(t.w * t.h).toNat : Int)∧(2 : Int) ≠ (0 : Int)∧inRange IntKind.i64 ((↑(oddG t.n t.b (lab (knN t) t.n t.b) g_3.snd g_3.fst) : Int) + (↑(cntN g_1 fun (i : Nat) => inc t.b i (↑g_3.fst : Int)) : Int).tmod (2 : Int))∧inRange IntKind.i64 ((↑g_3.fst : Int) + (1 : Int))∧∃ (g' : Nat × Nat), ((↑g_2 : Int) = (↑g'.snd : Int)∧g'.fst≤knN t)∧knN t - g'.fst < knN t - g_3.fst∧True∧((True∧(↑(oddG t.n t.b (lab (knN t) t.n t.b) g_3.snd g_3.fst) : Int) + (↑(cntN g_1 fun (i : Nat) => inc t.b i (↑g_3.fst : Int)) : Int).tmod (2 : Int) = (↑(oddG t.n t.b (lab (knN t) t.n t.b) g'.snd g'.fst) : Int))∧(True∧anyG (knN t) t.n t.b (lab (knN t) t.n t.b) g'.snd g'.fst = true)∧(True∧(↑g_3.fst : Int) + (1 : Int) = (↑g'.fst : Int))∧True)∧True)∧(decide ((0 : Int) < (↑(cntN g_1 fun (i : Nat) => inc t.b i (↑g_3.fst : Int)) : Int)) = false→inRange IntKind.i64 ((↑g_3.fst : Int) + (1 : Int))∧∃ (g' : Nat × Nat), ((↑g_2 : Int) = (↑g'.snd : Int)∧g'.fst≤knN t)∧knN t - g'.fst < knN t - g_3.fst∧True∧((True∧(↑(oddG t.n t.b (lab (knN t) t.n t.b) g_3.snd g_3.fst) : Int) = (↑(oddG t.n t.b (lab (knN t) t.n t.b) g'.snd g'.fst) : Int))∧(True∧anyG (knN t) t.n t.b (lab (knN t) t.n t.b) g_3.snd g_3.fst = anyG (knN t) t.n t.b (lab (knN t) t.n t.b) g'.snd g'.fst)∧(True∧(↑g_3.fst : Int) + (1 : Int) = (↑g'.fst : Int))∧True)∧True))∧((fwR t.n t.b g (↑g_3.fst : Int) == (↑g_2 : Int)) = false→inRange IntKind.i64 ((↑g_3.fst : Int) + (1 : Int))∧∃ (g' : Nat × Nat), ((↑g_2 : Int) = (↑g'.snd : Int)∧g'.fst≤knN t)∧knN t - g'.fst < knN t - g_3.fst∧True∧((True∧(↑(oddG t.n t.b (lab (knN t) t.n t.b) g_3.snd g_3.fst) : Int) = (↑(oddG t.n t.b (lab (knN t) t.n t.b) g'.snd g'.fst) : Int))∧(True∧anyG (knN t) t.n t.b (lab (knN t) t.n t.b) g_3.snd g_3.fst = anyG (knN t) t.n t.b (lab (knN t) t.n t.b) g'.snd g'.fst)∧(True∧(↑g_3.fst : Int) + (1 : Int) = (↑g'.fst : Int))∧True)∧True))∧(decide ((↑g_3.fst : Int) < t.w * t.h) = false→(anyG (knN t) t.n t.b (lab (knN t) t.n t.b) g_3.snd g_3.fst = true→(2 : Int) ≠ (0 : Int)∧inRange IntKind.i64 ((↑(oddG t.n t.b (lab (knN t) t.n t.b) g_3.snd g_3.fst) : Int).tdiv (2 : Int))∧inRange IntKind.i64 ((↑(Nm.sumF g_2 (needG (knN t) t.n t.b (lab (knN t) t.n t.b))) : Int) + imax (1 : Int) ((↑(oddG t.n t.b (lab (knN t) t.n t.b) g_3.snd g_3.fst) : Int).tdiv (2 : Int)))∧inRange IntKind.i64 ((↑g_2 : Int) + (1 : Int))∧∃ (g' : Nat), g'≤knN t∧knN t - g' < knN t - g_2∧True∧((True∧(↑(Nm.sumF g_2 (needG (knN t) t.n t.b (lab (knN t) t.n t.b))) : Int) + imax (1 : Int) ((↑(oddG t.n t.b (lab (knN t) t.n t.b) g_3.snd g_3.fst) : Int).tdiv (2 : Int)) = (↑(Nm.sumF g' (needG (knN t) t.n t.b (lab (knN t) t.n t.b))) : Int))∧(True∧(↑g_2 : Int) + (1 : Int) = (↑g' : Int))∧True)∧True)∧(anyG (knN t) t.n t.b (lab (knN t) t.n t.b) g_3.snd g_3.fst = false→inRange IntKind.i64 ((↑g_2 : Int) + (1 : Int))∧∃ (g' : Nat), g'≤knN t∧knN t - g' < knN t - g_2∧True∧((True∧(↑(Nm.sumF g_2 (needG (knN t) t.n t.b (lab (knN t) t.n t.b))) : Int) = (↑(Nm.sumF g' (needG (knN t) t.n t.b (lab (knN t) t.n t.b))) : Int))∧(True∧(↑g_2 : Int) + (1 : Int) = (↑g' : Int))∧True)∧True)))∧(decide ((↑g_2 : Int) < t.w * t.h) = false→True∧(↑(Nm.sumF g_2 (needG (knN t) t.n t.b (lab (knN t) t.n t.b))) : Int) = (↑(fewT t) : Int)))))) (by kernel_rfl) ?_
 simp only [true_and, and_true, inR, Prod.exists, Prod.forall, and_assoc, exists_and_left, exists_eq_left', exists_eq_left, forall_eq, exists_const, forall_const, loopN, loopM, fa2, fas, fas2, dup1, dup2, dup3, dup4, ite_true, exhs, exhn, exhz, exho, exA, ex1, ex2, ex3, ex4, ex5, beqI, bneI, decide_true, Bool.true_and, decide_eq_true_eq, decide_eq_false_iff_not, ne_eq, Decidable.not_not]
 have P := wh_bd ht.wl ht.wu ht.hl ht.hu
 have hN : ((knN t : Nat) : Int) = t.w * t.h := by unfold knN; omega
 have hNN : (t.w * t.h).toNat = knN t := rfl
 have B : BrOk (knN t) t.n t.b := BrOk.of ht
 have few := ht.few
 have e8 : (↑8 : Int) = 8 := rfl
 rw [hNN, ← hN]
 have e1 : ∀ i, t.b i (0 + (0 + 1)) = t.b i 1 := fun _ => rfl
 simp only [e1]
 refine ⟨by omega, by omega, by omega, by omega, by omega, by omega, by omega, by omega, ⟨0, Nat.zero_le _, rfl, trivial, fun i _ => by rw [if_neg (Nat.not_lt_zero i)]⟩, fun g hg => ⟨fun hlt => ⟨by omega, by omega, by omega, by omega, g + 1, by omega, by omega, by omega, fun i hi => ?_⟩, fun hge => ⟨⟨0, Nat.zero_le _, rfl, fun i hi => ?_⟩, fun g' hg' => ⟨fun hlt => ⟨⟨0, Nat.zero_le _, rfl, fun _ _ => rfl⟩, fun a b hab => ?_⟩, fun hge2 => ?_⟩⟩⟩⟩
 · by_cases c : i = g
   · rw [if_pos c, if_pos (by omega), c]
   · rw [if_neg c]
     by_cases d : i < g
     · rw [if_pos d, if_pos (by omega)]
     · rw [if_neg d, if_neg (by omega)]
 · rw [if_pos (by omega)]; rfl
 · obtain ⟨eb, hle⟩ := hab
   obtain rfl : b = g' := by omega
   refine ⟨fun hlt2 => ?_, fun hge2 => ?_⟩
   · have k := B.kn a (by omega)
     have c0 : (((t.b a 0).toNat : Nat) : Int) = t.b a 0 := by omega
     have c1 : (((t.b a 1).toNat : Nat) : Int) = t.b a 1 := by omega
     rw [c0, c1]
     refine ⟨by omega, by omega, by omega, by omega, by omega, by omega, by omega, by omega, by omega, by omega, by omega, by omega, a + 1, by omega, by omega, by omega, fun i hi => ?_⟩
     show _ = setI (setI (fwB t.b a (fwR t.n t.b b)) (t.b a 0) _) (t.b a 1) _ (i : Int)
     unfold setI
     by_cases d1 : i = (t.b a 1).toNat
     · rw [if_pos d1, if_pos (show (i : Int) = t.b a 1 by omega)]
     · rw [if_neg d1, if_neg (show ¬ (i : Int) = t.b a 1 by omega)]
       by_cases d0 : i = (t.b a 0).toNat
       · rw [if_pos d0, if_pos (show (i : Int) = t.b a 0 by omega)]
       · rw [if_neg d0, if_neg (show ¬ (i : Int) = t.b a 0 by omega)]
   · obtain rfl : a = t.n := by omega
     exact ⟨by omega, by omega, b + 1, by omega, by omega, by omega, fun i _ => rfl⟩
 · obtain rfl : g' = knN t := by omega
   have eL : fwR t.n t.b (knN t) = lab (knN t) t.n t.b := rfl
   rw [eL]
   refine ⟨⟨0, Nat.zero_le _, rfl, trivial, fun i _ => rfl⟩, fun g hg => ?_, Nat.zero_le _, rfl, fun k hk => ⟨fun hlt => ⟨Nat.zero_le _, rfl, rfl, fun a b hab => ?_⟩, fun hge3 => ?_⟩⟩
   · have k := B.kn g hg
     have lt := B.lt g hg
     have c0 : (((t.b g 0).toNat : Nat) : Int) = t.b g 0 := by omega
     have c1 : (((t.b g 1).toNat : Nat) : Int) = t.b g 1 := by omega
     have m : ∀ v : Int, cntN g (fun i => inc t.b i v) ≤ g := fun v => cntN_max
     have m0 := m (t.b g 0)
     have m1 := m (t.b g 1)
     have nn : ¬ (t.b g 1).toNat = (t.b g 0).toNat := by omega
     rw [c0, c1]
     simp only [if_neg nn]
     refine ⟨by omega, by omega, by omega, by omega, by omega, by omega, by omega, by omega, by omega, by omega, by omega, by omega, by omega, by omega, by omega, by omega, by omega, by omega, g + 1, by omega, by omega, by omega, fun i hi => ?_⟩
     have eS : cntN (g + 1) (fun j => inc t.b j (i : Int)) = cntN g (fun j => inc t.b j (i : Int)) + if inc t.b g (i : Int) = true then 1 else 0 := rfl
     rw [eS]
     by_cases d1 : i = (t.b g 1).toNat
     · have : (i : Int) = t.b g 1 := by omega
       rw [if_pos d1, this, if_pos (inc_iff.2 (.inr rfl))]; omega
     · by_cases d0 : i = (t.b g 0).toNat
       · have : (i : Int) = t.b g 0 := by omega
         rw [if_neg d1, if_pos d0, this, if_pos (inc_iff.2 (.inl rfl))]; omega
       · rw [if_neg d1, if_neg d0, if_neg]
         · omega
         · rw [inc_iff]; omega
   · obtain ⟨eb, hle⟩ := hab
     obtain rfl : b = k := by omega
     have ob := oddG_le (n := t.n) (b := t.b) (G := lab (knN t) t.n t.b) (g := b) (i := a)
     have N36 := B.N36
     have sb := sumF_bd (f := needG (knN t) t.n t.b (lab (knN t) t.n t.b)) (fun _ => needG_le N36) (n := b)
     have hb37 : b * 37 ≤ 36 * 37 := Nat.mul_le_mul_right _ (by omega)
     refine ⟨fun hlt2 => ?_, fun hge3 => ?_⟩
     · have eO : oddG t.n t.b (lab (knN t) t.n t.b) b (a + 1) = oddG t.n t.b (lab (knN t) t.n t.b) b a + if lab (knN t) t.n t.b (a : Int) = b ∧ 0 < meets t.n t.b (a : Int) then meets t.n t.b (a : Int) % 2 else 0 := rfl
       have eA : anyG (knN t) t.n t.b (lab (knN t) t.n t.b) b (a + 1) = (anyG (knN t) t.n t.b (lab (knN t) t.n t.b) b a || (decide (lab (knN t) t.n t.b (a : Int) = b) && decide (0 < meets t.n t.b (a : Int)))) := rfl
       have eM : cntN t.n (fun i => inc t.b i (a : Int)) = meets t.n t.b (a : Int) := rfl
       rw [eM, eO, eA]
       refine ⟨by omega, by omega, fun h1 => ⟨by omega, by omega, fun h2 => ?_, fun h2 => ?_⟩, fun h1 => ?_⟩
       · have et : ((meets t.n t.b (a : Int) : Nat) : Int).tmod 2 = ((meets t.n t.b (a : Int) % 2 : Nat) : Int) := by rw [Int.tmod_eq_emod_of_nonneg (by omega)]; omega
         rw [et, if_pos ⟨h1, by omega⟩, decide_eq_true h1, decide_eq_true (show 0 < meets t.n t.b (a : Int) by omega)]
         exact ⟨by omega, by omega, by omega, by omega, by omega, by omega, by omega, by omega, by omega, by omega, by simp⟩
       · rw [if_neg (fun h => by omega), decide_eq_false (show ¬ 0 < meets t.n t.b (a : Int) by omega)]
         exact ⟨by omega, by omega, by omega, by omega, by omega, by simp⟩
       · rw [if_neg (fun h => h1 h.1), decide_eq_false h1]
         exact ⟨by omega, by omega, by omega, by omega, by omega, by simp⟩
     · obtain rfl : a = knN t := by omega
       have eS : Nm.sumF (b + 1) (needG (knN t) t.n t.b (lab (knN t) t.n t.b)) = Nm.sumF b (needG (knN t) t.n t.b (lab (knN t) t.n t.b)) + needG (knN t) t.n t.b (lab (knN t) t.n t.b) b := rfl
       rw [eS]
       refine ⟨fun hT => ?_, fun hF => ?_⟩
       · have et : ((oddG t.n t.b (lab (knN t) t.n t.b) b (knN t) : Nat) : Int).tdiv 2 = ((oddG t.n t.b (lab (knN t) t.n t.b) b (knN t) / 2 : Nat) : Int) := by rw [Int.tdiv_eq_ediv_of_nonneg (by omega)]; omega
         have em : imax 1 (((oddG t.n t.b (lab (knN t) t.n t.b) b (knN t) / 2 : Nat) : Int)) = ((max 1 (oddG t.n t.b (lab (knN t) t.n t.b) b (knN t) / 2) : Nat) : Int) := by
           unfold imax; split <;> omega
         have en : needG (knN t) t.n t.b (lab (knN t) t.n t.b) b = max 1 (oddG t.n t.b (lab (knN t) t.n t.b) b (knN t) / 2) := if_pos hT
         rw [et, em, en]
         exact ⟨by omega, by omega, by omega, by omega, by omega, by omega, by omega, by omega, by omega, by omega⟩
       · have en : needG (knN t) t.n t.b (lab (knN t) t.n t.b) b = 0 := if_neg (by rw [hF]; decide)
         rw [en]
         exact ⟨by omega, by omega, by omega, by omega, by omega⟩
   · obtain rfl : k = knN t := by omega
     rfl
end Go.Proofs.YtcfmdhlohahhcaaDoor
namespace Go.Sx
open Go
variable {P : Program} {E : Env}
theorem kept_say (hE : EnvOk P E) (T : List (Nat × Sig)) (hT : SigsOk P E T) (V : List (Nat × ESpec)) (hV : EvensOk P E V) (h0 : ∀ f, (E.fn f).isSome = true → ∃ fn c, P.funcs[f]? = some fn ∧ (fn.name == "runtime.NumGoroutine") = false ∧ fn.body = some c) {f : FuncId} (R : KSpec) (s : R.γ → Say) {fuel : Nat}
   (h : ∀ g, R.ok g → inlBody (E.say T V (s g)) (vc (E.say T V (s g)) fuel) f (R.arg g) (canonHp (R.hp g)) (lenR (R.hp g)) [] (fun v hp _ _ => keptFit R g v hp)) : ∀ g, R.ok g → SemK P E f R g :=
 fun g hg => SemK.congr (E := E.say T V (s g)) (E' := E) say_gl (semK_of (hE.say_ hT hV h0 (s g)) (fun _ _ hI hIf hY => draw_ok (hE.say_ hT hV h0 (s g)) hI hIf hY) (h g hg))
end Go.Sx
