/- Texts for the law of the last part, part 17. -/
import Derived.Test.YtcfmdhlohahhcaaDoorTwineP16
set_option linter.unusedSimpArgs false
set_option linter.unusedVariables false
namespace Nm
open Go Go.Sx
def mendE (t : Torn) : Int := if tchk t = true then (if t.n = 0 then 4 else 0) else 23
structure MdPost (t : Torn) (L : List (List Int)) : Prop where
 yes : tchk t = true → 0 < t.n → (∀ j, j < t.n → cntL t.b j L = 1) ∧ (∀ p ∈ L, PcOk t.n t.b p) ∧ L.length = few (t.w * t.h).toNat t.n t.b
 no : ¬ (tchk t = true ∧ 0 < t.n) → L = []
theorem jn_nil {ks : List Int} : jnM (jnL []) ks = none := by
 match ks with
 | [] => rfl
 | [v] => rfl
 | v :: w :: l => rfl
theorem fst_none {m : List Int → Option (Int × Nat)} {ks : List Int} (h : fstM m ks = none) : m ks = none := by
 unfold fstM at h
 cases q : m ks with
 | none => rfl
 | some x => rw [q] at h; cases h
def mapJ (m : List Int → Option (Int × Nat)) (x y : Int) (c : Nat) : List Int → Option (Int × Nat) := fun ks => if ks = [y] then some (x, c + 1) else if ks = [x] then some (y, c) else m ks
theorem mapJ_fst {m : List Int → Option (Int × Nat)} {l : List Int} {q c : Nat} {x y : Int} (hl : l.length = 2 * q) (hn : (l ++ [x, y]).Nodup) (h : ∀ ks, fstM m ks = jnM (jnL l) ks) (ks : List Int) : fstM (mapJ m x y c) ks = jnM (jnL (l ++ [x, y])) ks := by
 have other : (∀ v, ks ≠ [v]) → fstM (mapJ m x y c) ks = fstM m ks := fun hk => by
   unfold fstM mapJ
   rw [if_neg (hk y), if_neg (hk x)]
 match ks with
 | [] => rw [other (by simp), h]; rfl
 | v :: w :: l => rw [other (by simp), h]; rfl
 | [v] =>
   show fstM (mapJ m x y c) [v] = jnL (l ++ [x, y]) v
   rw [jnL_two hl hn]
   unfold fstM mapJ
   by_cases a : v = y
   · rw [if_pos (by rw [a]), if_pos a]
   · rw [if_neg (by simpa using a), if_neg a]
     by_cases d : v = x
     · rw [if_pos (by rw [d]), if_pos d]
     · rw [if_neg (by simpa using d), if_neg d]
       exact h [v]
theorem mapJ_st {m : List Int → Option (Int × Nat)} {x y : Int} {c : Nat} (h : ∀ ks a b, m ks = some (a, b) → b < c) (ks : List Int) (a : Int) (b : Nat) (e : mapJ m x y c ks = some (a, b)) : b < c + 2 := by
 unfold mapJ at e
 split at e
 · injection e with e; injection e with _ e; omega
 · split at e
   · injection e with e; injection e with _ e; omega
   · have := h ks a b e; omega
theorem take_two {l : List Int} {i : Nat} (h : i + 1 < l.length) : l.take (i + 2) = l.take i ++ [gI l i, gI l (i + 1)] := by
 have one : ∀ k, k < l.length → l.take (k + 1) = l.take k ++ [gI l k] := fun k hk => by
   unfold gI
   rw [List.take_add_one, List.getD_eq_getElem?_getD, List.getElem?_eq_getElem hk]; rfl
 rw [one (i + 1) h, one i (by omega), List.append_assoc]; rfl
theorem oddL_few {N n : Nat} {b : Nat → Nat → Int} (B : BrOk N n b) {s : Int} (hs : 0 ≤ s ∧ s < N) : (oddL n b s).length ≤ 36 ∧ ∀ v ∈ oddL n b s, 0 ≤ v ∧ v < 36 := by
 have k : ∀ v ∈ oddL n b s, 0 ≤ v ∧ v < 36 := fun v hv => grpK_kn (s := s) B.k36 (by have := B.N36; omega) (i := 36) v (by rw [← grp_eq]; exact (oddL_mem.1 hv).1)
 exact ⟨nod_few oddL_nod k, k⟩
theorem getD_app {o m : List (List Int)} {i : Nat} : (o ++ m).getD i [] = if i < o.length then o.getD i [] else m.getD (i - o.length) [] := by
 rw [List.getD_eq_getElem?_getD, List.getElem?_append]
 split
 · rw [List.getD_eq_getElem?_getD]
 · rw [List.getD_eq_getElem?_getD]
theorem MdInv.few {N n : Nat} {b : Nat → Nat → Int} (B : BrOk N n b) {lf : Nat → Bool} {L : List (List Int)} (M : MdInv N n b lf L) : L.length ≤ 36 * 37 := by
 have N36 := B.N36
 have h := Go.Proofs.YtcfmdhlohahhcaaDoor.sumF_bd (f := fun g => if 0 < gone N n b lf g then needG N n b (lab N n b) g else 0) (c := 37) (fun g => by
   show (if 0 < gone N n b lf g then needG N n b (lab N n b) g else 0) ≤ 37
   split
   · exact Go.Proofs.YtcfmdhlohahhcaaDoor.needG_le N36
   · exact Nat.zero_le _) (n := N)
 rw [← M.num] at h
 have : N * 37 ≤ 36 * 37 := Nat.mul_le_mul_right _ N36
 omega
end Nm
namespace Go.Proofs.YtcfmdhlohahhcaaDoor
open Go Go.Sx Nm
set_option maxRecDepth 100000
set_option maxHeartbeats 4000000
def rMd : KSpec where
 γ := Torn
 δ := List (List Int)
 ok t := t.wf
 arg t := [tornTV t]
 hp _ := []
 post t L := MdPost t L
 fin _ _ := []
 res t L := [pcsTV (pcsOf L), intC (mendE t)]
noncomputable def E1 : Env := E0.kep 99 rSp
theorem E1_ok : EnvOk Tryd.prog E1 := E0_ok.kep r99
theorem E0_gl : E0.gl = E1.gl := rfl
def aMe (t : Torn) : Ann := { G := Nat × (Nat → Bool) × List (List Int), ok := fun _ x => x.1 ≤ t.n ∧ MdInv (t.w * t.h).toNat t.n t.b x.2.1 x.2.2 ∧ ∀ j, j < x.1 → x.2.1 j = false, dom := fun st => [osN (st.tm 6), osN (st.tm 7), st.nx], tm := fun st x => [(8, .t (.c (.os st.nx 1 x.2.2.length))), (29, .t (intC x.1))], hp := fun st x => [(osN (st.tm 6), .self, some (.box 72 (fun j => .bool (x.2.1 j)))), (osN (st.tm 7), .self, some (.mp MI (numM t.b t.n))), (st.nx, .slot 8, some (.row 26 1 x.2.2.length (fun i _ => lstC x.2.2 i)))], mu := fun _ x => t.n - x.1 }
def aJn (t : Torn) : Ann := { G := Int × Nat × (List Int → Option (Int × Nat)), ok := fun st x => isI (st.tm 1) x.1 ∧ 2 * x.2.1 ≤ (oddL t.n t.b x.1).length ∧ (∀ ks, fstM x.2.2 ks = jnM (jnL ((oddL t.n t.b x.1).take (2 * x.2.1))) ks) ∧ (∀ ks v, x.2.2 ks = some v → v.2 < 2 * x.2.1), dom := fun st => [osN (st.tm 15)], tm := fun _ x => [(12, .t (intC (2 * x.2.1 : Nat)))], hp := fun st x => [(osN (st.tm 15), .self, some (.mq MJ x.2.2 (2 * x.2.1)))], mu := fun _ x => (oddL t.n t.b x.1).length - 2 * x.2.1 }
def cJ1 (t : Torn) : Ann := { G := Int, ok := fun st x => isI (st.tm 1) x, dom := fun st => [osN (st.tm 15)], tm := fun _ _ => [], hp := fun st x => [(osN (st.tm 15), .self, some (.mp MJ (jnM (jnL (oddL t.n t.b x)))))], mu := fun _ _ => 0 }
def cJ2 : Ann := { G := Unit, ok := fun _ _ => True, dom := fun st => [st.nx, st.nx + 1], tm := fun st _ => [(13, .t (.c (.ptr st.nx 0)))], hp := fun st _ => [(st.nx, .self, some (.box 1 (fun _ => .os (st.nx + 1) 4 0))), (st.nx + 1, .box st.nx 0, some (.row 173 4 0 (fun _ _ => .int .i64 0)))], mu := fun _ _ => 0 }
theorem r34 : ∀ t, rMd.ok t → SemK Tryd.prog E1 34 rMd t := by
 refine kept_say E1_ok [(81, sCut), (80, sGrp), (30, sCkT)] ((show SigsOk Tryd.prog E0 [(81, sCut), (80, sGrp), (30, sCkT)] from (((SigsOk.nil.cons u30 q30).cons u80 q80).cons u81 q81)).congr E0_gl) [] EvensOk.nil runs rMd (fun t => { live := true, l := [(34, 8, aMe t), (73, 4, aAl t), (82, 3, aJn t)], c := [(82, 6, cJ1 t), (82, 7, cJ2)], o := [(82, 5, oJ)] }) (fuel := 8) fun t ht => ?_
 refine of_red (q := ∃ (x : Torn), ((True ∧ ((((True ∧ True ∧ t.w = x.w) ∧ True ∧ t.h = x.h) ∧ True ∧ True ∧ t.n = x.n ∧ ∀ (i : Nat), i < t.n → (True ∧ t.b i 0 = x.b i 0) ∧ t.b i 1 = x.b i 1) ∧ True ∧ t.m = x.m) ∧ True ∧ t.k = x.k) ∧ True) ∧ (x.n < (4611686018427387904 : Nat) ∧ ∀ (i : Nat), i < x.n → ((-9223372036854775808 : Int) ≤ x.b i (0 : Nat) ∧ x.b i (0 : Nat) ≤ (9223372036854775807 : Int)) ∧ (-9223372036854775808 : Int) ≤ x.b i (1 : Nat) ∧ x.b i (1 : Nat) ≤ (9223372036854775807 : Int)) ∧ ((tchkE x != (0 : Int)) = true → ∃ (d : List (List Int)), MdPost t d ∧ True ∧ True ∧ (True ∧ (pcsOf d).np = (0 : Nat)) ∧ (True ∧ tchkE x = mendE t) ∧ True) ∧ ((tchkE x != (0 : Int)) = false → (∃ (g : Nat), g ≤ t.n ∧ True ∧ ((True ∧ (0 : Int) = (↑g : Int)) ∧ True) ∧ (True ∧ ∀ (j : Nat), j < (72 : Nat) → True ∧ decide (j < g) = false) ∧ (True ∧ ∀ (ks : List Int), none = numM t.b g ks) ∧ True) ∧ ∀ (g : Nat), g ≤ t.n → (decide ((↑g : Int) < (↑t.n : Int)) = true → (0 : Int) ≤ (↑g : Int) ∧ (↑g : Int) < (↑t.n : Int) ∧ (0 : Int) ≤ (↑g : Int) ∧ (↑g : Int) < (↑(72 : Nat) : Int) ∧ inRange IntKind.i64 (t.b g (0 : Nat)) ∧ inRange IntKind.i64 (t.b g ((0 : Nat) + (1 : Nat))) ∧ inRange IntKind.i64 ((↑g : Int) + (1 : Int)) ∧ ∃ (g' : Nat), g' ≤ t.n ∧ t.n - g' < t.n - g ∧ True ∧ ((True ∧ (↑g : Int) + (1 : Int) = (↑g' : Int)) ∧ True) ∧ (True ∧ ∀ (j : Nat), j < (72 : Nat) → True ∧ (if j = (0 : Nat) + g * (1 : Nat) + (0 : Nat) then true else decide (j < g)) = decide (j < g')) ∧ (True ∧ ∀ (ks : List Int), (if ks = [t.b g (0 : Nat), t.b g ((0 : Nat) + (1 : Nat))] then some (↑g : Int) else numM t.b g ks) = numM t.b g' ks) ∧ True) ∧ (decide ((↑g : Int) < (↑t.n : Int)) = false → (∃ (g_1 : Nat × (Nat → Bool) × List (List Int)), (g_1.fst ≤ t.n ∧ MdInv (t.w * t.h).toNat t.n t.b g_1.snd.fst g_1.snd.snd ∧ ∀ (j : Nat), j < g_1.fst → g_1.snd.fst j = false) ∧ True ∧ ((True ∧ g_1.snd.snd.length = (0 : Nat)) ∧ (True ∧ (0 : Int) = (↑g_1.fst : Int)) ∧ True) ∧ (True ∧ ∀ (j : Nat), j < (72 : Nat) → True ∧ decide (j < g) = g_1.snd.fst j) ∧ (True ∧ ∀ (ks : List Int), numM t.b g ks = numM t.b t.n ks) ∧ g_1.snd.snd.length = (0 : Nat) ∧ True) ∧ ∀ (g : Nat × (Nat → Bool) × List (List Int)), (g.fst ≤ t.n ∧ MdInv (t.w * t.h).toNat t.n t.b g.snd.fst g.snd.snd ∧ ∀ (j : Nat), j < g.fst → g.snd.fst j = false) → (decide ((↑g.fst : Int) < (↑t.n : Int)) = true → (0 : Int) ≤ (↑g.fst : Int) ∧ (↑g.fst : Int) < (↑t.n : Int) ∧ (0 : Int) ≤ (↑g.fst : Int) ∧ (↑g.fst : Int) < (↑(72 : Nat) : Int) ∧ ((!g.snd.fst ((0 : Nat) + g.fst * (1 : Nat) + (0 : Nat) + (0 : Nat))) = true → inRange IntKind.i64 ((↑g.fst : Int) + (1 : Int)) ∧ ∃ (g' : Nat × (Nat → Bool) × List (List Int)), (g'.fst ≤ t.n ∧ MdInv (t.w * t.h).toNat t.n t.b g'.snd.fst g'.snd.snd ∧ ∀ (j : Nat), j < g'.fst → g'.snd.fst j = false) ∧ t.n - g'.fst < t.n - g.fst ∧ True ∧ ((True ∧ True ∧ g.snd.snd.length = g'.snd.snd.length) ∧ (True ∧ (↑g.fst : Int) + (1 : Int) = (↑g'.fst : Int)) ∧ True) ∧ (True ∧ ∀ (j : Nat), j < (72 : Nat) → True ∧ g.snd.fst j = g'.snd.fst j) ∧ (True ∧ ∀ (ks : List Int), numM t.b t.n ks = numM t.b t.n ks) ∧ (True ∧ True ∧ g.snd.snd.length = g'.snd.snd.length ∧ ∀ (i : Nat), i < g.snd.snd.length → True ∧ True ∧ (g.snd.snd.getD i []).length = (g'.snd.snd.getD i []).length ∧ ∀ (i_1 : Nat), i_1 < (g.snd.snd.getD i []).length → True ∧ (g.snd.snd.getD i []).getD i_1 (0 : Int) = (g'.snd.snd.getD i []).getD i_1 (0 : Int)) ∧ True) ∧ ((!g.snd.fst ((0 : Nat) + g.fst * (1 : Nat) + (0 : Nat) + (0 : Nat))) = false → ∃ (x : GpAsk), ((True ∧ ((((True ∧ True ∧ t.w = x.t.w) ∧ True ∧ t.h = x.t.h) ∧ True ∧ True ∧ t.n = x.t.n ∧ ∀ (i : Nat), i < t.n → (True ∧ t.b i 0 = x.t.b i 0) ∧ t.b i 1 = x.t.b i 1) ∧ True ∧ t.m = x.t.m) ∧ True ∧ t.k = x.t.k) ∧ (True ∧ t.b g.fst (0 : Nat) = x.s) ∧ True) ∧ (TkOk x.t ∧ (0 : Int) ≤ x.s ∧ x.s < (36 : Int)) ∧ ((∃ (g_1 : Int × Nat × (List Int → Option (Int × Nat))), (t.b g.fst (0 : Nat) = g_1.fst ∧ (2 : Nat) * g_1.snd.fst ≤ (oddL t.n t.b g_1.fst).length ∧ (∀ (ks : List Int), fstM g_1.snd.snd ks = jnM (jnL (List.take ((2 : Nat) * g_1.snd.fst) (oddL t.n t.b g_1.fst))) ks) ∧ ∀ (ks : List Int) (v : Int × Nat), g_1.snd.snd ks = some v → v.snd < (2 : Nat) * g_1.snd.fst) ∧ True ∧ ((True ∧ (0 : Int) = (↑((2 : Nat) * g_1.snd.fst) : Int)) ∧ True) ∧ (True ∧ (∀ (ks : List Int), none = g_1.snd.snd ks) ∧ (0 : Nat) = (2 : Nat) * g_1.snd.fst) ∧ True) ∧ ∀ (g_1 : Int × Nat × (List Int → Option (Int × Nat))), (t.b g.fst (0 : Nat) = g_1.fst ∧ (2 : Nat) * g_1.snd.fst ≤ (oddL t.n t.b g_1.fst).length ∧ (∀ (ks : List Int), fstM g_1.snd.snd ks = jnM (jnL (List.take ((2 : Nat) * g_1.snd.fst) (oddL t.n t.b g_1.fst))) ks) ∧ ∀ (ks : List Int) (v : Int × Nat), g_1.snd.snd ks = some v → v.snd < (2 : Nat) * g_1.snd.fst) → inRange IntKind.i64 ((↑((2 : Nat) * g_1.snd.fst) : Int) + (1 : Int)) ∧ (decide ((↑((2 : Nat) * g_1.snd.fst) : Int) + (1 : Int) < (↑(oddL x.t.n x.t.b x.s).length : Int)) = true → (0 : Int) ≤ (↑((2 : Nat) * g_1.snd.fst) : Int) ∧ (↑((2 : Nat) * g_1.snd.fst) : Int) < (↑(oddL x.t.n x.t.b x.s).length : Int) ∧ inRange IntKind.i64 ((↑((2 : Nat) * g_1.snd.fst) : Int) + (1 : Int)) ∧ (0 : Int) ≤ (↑((2 : Nat) * g_1.snd.fst) : Int) + (1 : Int) ∧ (↑((2 : Nat) * g_1.snd.fst) : Int) + (1 : Int) < (↑(oddL x.t.n x.t.b x.s).length : Int) ∧ inRange IntKind.i64 ((↑((2 : Nat) * g_1.snd.fst) : Int) + (1 : Int)) ∧ (0 : Int) ≤ (↑((2 : Nat) * g_1.snd.fst) : Int) + (1 : Int) ∧ (↑((2 : Nat) * g_1.snd.fst) : Int) + (1 : Int) < (↑(oddL x.t.n x.t.b x.s).length : Int) ∧ (0 : Int) ≤ (↑((2 : Nat) * g_1.snd.fst) : Int) ∧ (↑((2 : Nat) * g_1.snd.fst) : Int) < (↑(oddL x.t.n x.t.b x.s).length : Int) ∧ inRange IntKind.i64 (gI (oddL x.t.n x.t.b x.s) ((2 : Nat) * g_1.snd.fst)) ∧ stmp (if [gI (oddL x.t.n x.t.b x.s) ((2 : Nat) * g_1.snd.fst)] = [gI (oddL x.t.n x.t.b x.s) ((2 : Nat) * g_1.snd.fst)] then some (entV (g_1.snd.snd [gI (oddL x.t.n x.t.b x.s) ((2 : Nat) * g_1.snd.fst)]), entS ((2 : Nat) * g_1.snd.fst) (g_1.snd.snd [gI (oddL x.t.n x.t.b x.s) ((2 : Nat) * g_1.snd.fst)])) else g_1.snd.snd [gI (oddL x.t.n x.t.b x.s) ((2 : Nat) * g_1.snd.fst)]) = some (↑(entS ((2 : Nat) * g_1.snd.fst) (g_1.snd.snd [gI (oddL x.t.n x.t.b x.s) ((2 : Nat) * g_1.snd.fst)])) : Int) ∧ inRange IntKind.i64 (gI (oddL x.t.n x.t.b x.s) ((↑((2 : Nat) * g_1.snd.fst) : Int) + (1 : Int)).toNat) ∧ stmp (if [gI (oddL x.t.n x.t.b x.s) ((↑((2 : Nat) * g_1.snd.fst) : Int) + (1 : Int)).toNat] = [gI (oddL x.t.n x.t.b x.s) ((↑((2 : Nat) * g_1.snd.fst) : Int) + (1 : Int)).toNat] then some (entV (if [gI (oddL x.t.n x.t.b x.s) ((↑((2 : Nat) * g_1.snd.fst) : Int) + (1 : Int)).toNat] = [gI (oddL x.t.n x.t.b x.s) ((2 : Nat) * g_1.snd.fst)] then some (gI (oddL x.t.n x.t.b x.s) ((↑((2 : Nat) * g_1.snd.fst) : Int) + (1 : Int)).toNat, entS ((2 : Nat) * g_1.snd.fst) (g_1.snd.snd [gI (oddL x.t.n x.t.b x.s) ((2 : Nat) * g_1.snd.fst)])) else if [gI (oddL x.t.n x.t.b x.s) ((↑((2 : Nat) * g_1.snd.fst) : Int) + (1 : Int)).toNat] = [gI (oddL x.t.n x.t.b x.s) ((2 : Nat) * g_1.snd.fst)] then some (entV (g_1.snd.snd [gI (oddL x.t.n x.t.b x.s) ((2 : Nat) * g_1.snd.fst)]), entS ((2 : Nat) * g_1.snd.fst) (g_1.snd.snd [gI (oddL x.t.n x.t.b x.s) ((2 : Nat) * g_1.snd.fst)])) else g_1.snd.snd [gI (oddL x.t.n x.t.b x.s) ((↑((2 : Nat) * g_1.snd.fst) : Int) + (1 : Int)).toNat]), entS (entC ((2 : Nat) * g_1.snd.fst) (g_1.snd.snd [gI (oddL x.t.n x.t.b x.s) ((2 : Nat) * g_1.snd.fst)])) (if [gI (oddL x.t.n x.t.b x.s) ((↑((2 : Nat) * g_1.snd.fst) : Int) + (1 : Int)).toNat] = [gI (oddL x.t.n x.t.b x.s) ((2 : Nat) * g_1.snd.fst)] then some (gI (oddL x.t.n x.t.b x.s) ((↑((2 : Nat) * g_1.snd.fst) : Int) + (1 : Int)).toNat, entS ((2 : Nat) * g_1.snd.fst) (g_1.snd.snd [gI (oddL x.t.n x.t.b x.s) ((2 : Nat) * g_1.snd.fst)])) else if [gI (oddL x.t.n x.t.b x.s) ((↑((2 : Nat) * g_1.snd.fst) : Int) + (1 : Int)).toNat] = [gI (oddL x.t.n x.t.b x.s) ((2 : Nat) * g_1.snd.fst)] then some (entV (g_1.snd.snd [gI (oddL x.t.n x.t.b x.s) ((2 : Nat) * g_1.snd.fst)]), entS ((2 : Nat) * g_1.snd.fst) (g_1.snd.snd [gI (oddL x.t.n x.t.b x.s) ((2 : Nat) * g_1.snd.fst)])) else g_1.snd.snd [gI (oddL x.t.n x.t.b x.s) ((↑((2 : Nat) * g_1.snd.fst) : Int) + (1 : Int)).toNat])) else if [gI (oddL x.t.n x.t.b x.s) ((↑((2 : Nat) * g_1.snd.fst) : Int) + (1 : Int)).toNat] = [gI (oddL x.t.n x.t.b x.s) ((2 : Nat) * g_1.snd.fst)] then some (gI (oddL x.t.n x.t.b x.s) ((↑((2 : Nat) * g_1.snd.fst) : Int) + (1 : Int)).toNat, entS ((2 : Nat) * g_1.snd.fst) (g_1.snd.snd [gI (oddL x.t.n x.t.b x.s) ((2 : Nat) * g_1.snd.fst)])) else if [gI (oddL x.t.n x.t.b x.s) ((↑((2 : Nat) * g_1.snd.fst) : Int) + (1 : Int)).toNat] = [gI (oddL x.t.n x.t.b x.s) ((2 : Nat) * g_1.snd.fst)] then some (entV (g_1.snd.snd [gI (oddL x.t.n x.t.b x.s) ((2 : Nat) * g_1.snd.fst)]), entS ((2 : Nat) * g_1.snd.fst) (g_1.snd.snd [gI (oddL x.t.n x.t.b x.s) ((2 : Nat) * g_1.snd.fst)])) else g_1.snd.snd [gI (oddL x.t.n x.t.b x.s) ((↑((2 : Nat) * g_1.snd.fst) : Int) + (1 : Int)).toNat]) = some (↑(entS (entC ((2 : Nat) * g_1.snd.fst) (g_1.snd.snd [gI (oddL x.t.n x.t.b x.s) ((2 : Nat) * g_1.snd.fst)])) (if [gI (oddL x.t.n x.t.b x.s) ((↑((2 : Nat) * g_1.snd.fst) : Int) + (1 : Int)).toNat] = [gI (oddL x.t.n x.t.b x.s) ((2 : Nat) * g_1.snd.fst)] then some (gI (oddL x.t.n x.t.b x.s) ((↑((2 : Nat) * g_1.snd.fst) : Int) + (1 : Int)).toNat, entS ((2 : Nat) * g_1.snd.fst) (g_1.snd.snd [gI (oddL x.t.n x.t.b x.s) ((2 : Nat) * g_1.snd.fst)])) else if [gI (oddL x.t.n x.t.b x.s) ((↑((2 : Nat) * g_1.snd.fst) : Int) + (1 : Int)).toNat] = [gI (oddL x.t.n x.t.b x.s) ((2 : Nat) * g_1.snd.fst)] then some (entV (g_1.snd.snd [gI (oddL x.t.n x.t.b x.s) ((2 : Nat) * g_1.snd.fst)]), entS ((2 : Nat) * g_1.snd.fst) (g_1.snd.snd [gI (oddL x.t.n x.t.b x.s) ((2 : Nat) * g_1.snd.fst)])) else g_1.snd.snd [gI (oddL x.t.n x.t.b x.s) ((↑((2 : Nat) * g_1.snd.fst) : Int) + (1 : Int)).toNat])) : Int) ∧ inRange IntKind.i64 ((↑((2 : Nat) * g_1.snd.fst) : Int) + (2 : Int)) ∧ ∃ (g' : Int × Nat × (List Int → Option (Int × Nat))), (t.b g.fst (0 : Nat) = g'.fst ∧ (2 : Nat) * g'.snd.fst ≤ (oddL t.n t.b g'.fst).length ∧ (∀ (ks : List Int), fstM g'.snd.snd ks = jnM (jnL (List.take ((2 : Nat) * g'.snd.fst) (oddL t.n t.b g'.fst))) ks) ∧ ∀ (ks : List Int) (v : Int × Nat), g'.snd.snd ks = some v → v.snd < (2 : Nat) * g'.snd.fst) ∧ (oddL t.n t.b g'.fst).length - (2 : Nat) * g'.snd.fst < (oddL t.n t.b g_1.fst).length - (2 : Nat) * g_1.snd.fst ∧ True ∧ ((True ∧ (↑((2 : Nat) * g_1.snd.fst) : Int) + (2 : Int) = (↑((2 : Nat) * g'.snd.fst) : Int)) ∧ True) ∧ (True ∧ (∀ (ks : List Int), (if ks = [gI (oddL x.t.n x.t.b x.s) ((↑((2 : Nat) * g_1.snd.fst) : Int) + (1 : Int)).toNat] then some (gI (oddL x.t.n x.t.b x.s) ((2 : Nat) * g_1.snd.fst), entS (entC ((2 : Nat) * g_1.snd.fst) (g_1.snd.snd [gI (oddL x.t.n x.t.b x.s) ((2 : Nat) * g_1.snd.fst)])) (if [gI (oddL x.t.n x.t.b x.s) ((↑((2 : Nat) * g_1.snd.fst) : Int) + (1 : Int)).toNat] = [gI (oddL x.t.n x.t.b x.s) ((2 : Nat) * g_1.snd.fst)] then some (gI (oddL x.t.n x.t.b x.s) ((↑((2 : Nat) * g_1.snd.fst) : Int) + (1 : Int)).toNat, entS ((2 : Nat) * g_1.snd.fst) (g_1.snd.snd [gI (oddL x.t.n x.t.b x.s) ((2 : Nat) * g_1.snd.fst)])) else if [gI (oddL x.t.n x.t.b x.s) ((↑((2 : Nat) * g_1.snd.fst) : Int) + (1 : Int)).toNat] = [gI (oddL x.t.n x.t.b x.s) ((2 : Nat) * g_1.snd.fst)] then some (entV (g_1.snd.snd [gI (oddL x.t.n x.t.b x.s) ((2 : Nat) * g_1.snd.fst)]), entS ((2 : Nat) * g_1.snd.fst) (g_1.snd.snd [gI (oddL x.t.n x.t.b x.s) ((2 : Nat) * g_1.snd.fst)])) else g_1.snd.snd [gI (oddL x.t.n x.t.b x.s) ((↑((2 : Nat) * g_1.snd.fst) : Int) + (1 : Int)).toNat])) else if ks = [gI (oddL x.t.n x.t.b x.s) ((↑((2 : Nat) * g_1.snd.fst) : Int) + (1 : Int)).toNat] then some (entV (if [gI (oddL x.t.n x.t.b x.s) ((↑((2 : Nat) * g_1.snd.fst) : Int) + (1 : Int)).toNat] = [gI (oddL x.t.n x.t.b x.s) ((2 : Nat) * g_1.snd.fst)] then some (gI (oddL x.t.n x.t.b x.s) ((↑((2 : Nat) * g_1.snd.fst) : Int) + (1 : Int)).toNat, entS ((2 : Nat) * g_1.snd.fst) (g_1.snd.snd [gI (oddL x.t.n x.t.b x.s) ((2 : Nat) * g_1.snd.fst)])) else if [gI (oddL x.t.n x.t.b x.s) ((↑((2 : Nat) * g_1.snd.fst) : Int) + (1 : Int)).toNat] = [gI (oddL x.t.n x.t.b x.s) ((2 : Nat) * g_1.snd.fst)] then some (entV (g_1.snd.snd [gI (oddL x.t.n x.t.b x.s) ((2 : Nat) * g_1.snd.fst)]), entS ((2 : Nat) * g_1.snd.fst) (g_1.snd.snd [gI (oddL x.t.n x.t.b x.s) ((2 : Nat) * g_1.snd.fst)])) else g_1.snd.snd [gI (oddL x.t.n x.t.b x.s) ((↑((2 : Nat) * g_1.snd.fst) : Int) + (1 : Int)).toNat]), entS (entC ((2 : Nat) * g_1.snd.fst) (g_1.snd.snd [gI (oddL x.t.n x.t.b x.s) ((2 : Nat) * g_1.snd.fst)])) (if [gI (oddL x.t.n x.t.b x.s) ((↑((2 : Nat) * g_1.snd.fst) : Int) + (1 : Int)).toNat] = [gI (oddL x.t.n x.t.b x.s) ((2 : Nat) * g_1.snd.fst)] then some (gI (oddL x.t.n x.t.b x.s) ((↑((2 : Nat) * g_1.snd.fst) : Int) + (1 : Int)).toNat, entS ((2 : Nat) * g_1.snd.fst) (g_1.snd.snd [gI (oddL x.t.n x.t.b x.s) ((2 : Nat) * g_1.snd.fst)])) else if [gI (oddL x.t.n x.t.b x.s) ((↑((2 : Nat) * g_1.snd.fst) : Int) + (1 : Int)).toNat] = [gI (oddL x.t.n x.t.b x.s) ((2 : Nat) * g_1.snd.fst)] then some (entV (g_1.snd.snd [gI (oddL x.t.n x.t.b x.s) ((2 : Nat) * g_1.snd.fst)]), entS ((2 : Nat) * g_1.snd.fst) (g_1.snd.snd [gI (oddL x.t.n x.t.b x.s) ((2 : Nat) * g_1.snd.fst)])) else g_1.snd.snd [gI (oddL x.t.n x.t.b x.s) ((↑((2 : Nat) * g_1.snd.fst) : Int) + (1 : Int)).toNat])) else if ks = [gI (oddL x.t.n x.t.b x.s) ((2 : Nat) * g_1.snd.fst)] then some (gI (oddL x.t.n x.t.b x.s) ((↑((2 : Nat) * g_1.snd.fst) : Int) + (1 : Int)).toNat, entS ((2 : Nat) * g_1.snd.fst) (g_1.snd.snd [gI (oddL x.t.n x.t.b x.s) ((2 : Nat) * g_1.snd.fst)])) else if ks = [gI (oddL x.t.n x.t.b x.s) ((2 : Nat) * g_1.snd.fst)] then some (entV (g_1.snd.snd [gI (oddL x.t.n x.t.b x.s) ((2 : Nat) * g_1.snd.fst)]), entS ((2 : Nat) * g_1.snd.fst) (g_1.snd.snd [gI (oddL x.t.n x.t.b x.s) ((2 : Nat) * g_1.snd.fst)])) else g_1.snd.snd ks) = g'.snd.snd ks) ∧ entC (entC ((2 : Nat) * g_1.snd.fst) (g_1.snd.snd [gI (oddL x.t.n x.t.b x.s) ((2 : Nat) * g_1.snd.fst)])) (if [gI (oddL x.t.n x.t.b x.s) ((↑((2 : Nat) * g_1.snd.fst) : Int) + (1 : Int)).toNat] = [gI (oddL x.t.n x.t.b x.s) ((2 : Nat) * g_1.snd.fst)] then some (gI (oddL x.t.n x.t.b x.s) ((↑((2 : Nat) * g_1.snd.fst) : Int) + (1 : Int)).toNat, entS ((2 : Nat) * g_1.snd.fst) (g_1.snd.snd [gI (oddL x.t.n x.t.b x.s) ((2 : Nat) * g_1.snd.fst)])) else if [gI (oddL x.t.n x.t.b x.s) ((↑((2 : Nat) * g_1.snd.fst) : Int) + (1 : Int)).toNat] = [gI (oddL x.t.n x.t.b x.s) ((2 : Nat) * g_1.snd.fst)] then some (entV (g_1.snd.snd [gI (oddL x.t.n x.t.b x.s) ((2 : Nat) * g_1.snd.fst)]), entS ((2 : Nat) * g_1.snd.fst) (g_1.snd.snd [gI (oddL x.t.n x.t.b x.s) ((2 : Nat) * g_1.snd.fst)])) else g_1.snd.snd [gI (oddL x.t.n x.t.b x.s) ((↑((2 : Nat) * g_1.snd.fst) : Int) + (1 : Int)).toNat]) = (2 : Nat) * g'.snd.fst) ∧ True) ∧ (decide ((↑((2 : Nat) * g_1.snd.fst) : Int) + (1 : Int) < (↑(oddL x.t.n x.t.b x.s).length : Int)) = false → ∃ (g_2 : Int), t.b g.fst (0 : Nat) = g_2 ∧ True ∧ True ∧ (True ∧ ∀ (ks : List Int), fstM g_1.snd.snd ks = jnM (jnL (oddL t.n t.b g_2)) ks) ∧ True)) ∧ ∀ (g_1 : Int), t.b g.fst (0 : Nat) = g_1 → (∃ (g : Unit), True ∧ True ∧ ((True ∧ (0 : Nat) = (0 : Nat)) ∧ True) ∧ (True ∧ True ∧ True ∧ (0 : Nat) = (0 : Nat)) ∧ (0 : Nat) = (0 : Nat) ∧ True) ∧ ∀ (g_2 : Unit), True → (lookFn fnTab (99 : Nat)).isSome = true ∧ ∃ (g_3 : SpAsk), (TkOk g_3.t ∧ GrOk g_3.t.n g_3.t.b g_3.C ∧ SpPre g_3.t.n g_3.t.b g_3.C g_3.s g_3.k g_3.e ∧ g_3.Y.length + muS g_3.t.n g_3.s ≤ (1000 : Nat) ∧ (0 : Int) ≤ g_3.k ∧ g_3.k < (36 : Int)) ∧ True ∧ ((True ∧ t.b g.fst (0 : Nat) = g_3.k) ∧ (True ∧ (0 : Nat) = (0 : Nat)) ∧ (True ∧ (0 : Nat) = (0 : Nat)) ∧ (True ∧ (0 : Nat) = (0 : Nat)) ∧ (True ∧ (0 : Nat) = (0 : Nat)) ∧ (True ∧ (0 : Nat) = (0 : Nat)) ∧ (True ∧ (0 : Nat) = (0 : Nat)) ∧ True) ∧ ((True ∧ ((((True ∧ True ∧ t.w = g_3.t.w) ∧ True ∧ t.h = g_3.t.h) ∧ True ∧ True ∧ t.n = g_3.t.n ∧ ∀ (i : Nat), i < t.n → (True ∧ t.b i 0 = g_3.t.b i 0) ∧ t.b i 1 = g_3.t.b i 1) ∧ True ∧ t.m = g_3.t.m) ∧ True ∧ t.k = g_3.t.k) ∧ (True ∧ True ∧ True) ∧ (True ∧ True ∧ True ∧ (0 : Nat) = (0 : Nat)) ∧ (True ∧ True ∧ True ∧ True ∧ (((((True ∧ True ∧ (0 : Nat) = (0 : Nat)) ∧ True ∧ (0 : Nat) = (0 : Nat)) ∧ True ∧ (0 : Nat) = (0 : Nat)) ∧ True ∧ (0 : Nat) = (0 : Nat)) ∧ True ∧ (0 : Nat) = (0 : Nat)) ∧ True ∧ (0 : Nat) = (0 : Nat)) ∧ (True ∧ True ∧ True ∧ True ∧ (0 : Nat) = g_3.Y.length) ∧ (True ∧ True ∧ True) ∧ (True ∧ ∀ (ks : List Int), numM t.b t.n ks = numM g_3.t.b g_3.t.n ks) ∧ (True ∧ ∀ (j : Nat), j < (72 : Nat) → True ∧ g.snd.fst j = g_3.s.lf j) ∧ (True ∧ ∀ (ks : List Int), jnM (jnL (oddL t.n t.b g_1)) ks = jnM g_3.s.jn ks) ∧ (True ∧ True ∧ (0 : Nat) = g_3.Y.length ∧ ∀ (i : Nat), i < (0 : Nat) → (((True ∧ (0 : Int) = thC g_3.t (thI g_3.Y i) 0) ∧ (0 : Int) = thC g_3.t (thI g_3.Y i) 1) ∧ (0 : Int) = thC g_3.t (thI g_3.Y i) 2) ∧ (0 : Int) = thC g_3.t (thI g_3.Y i) 3) ∧ True) ∧ ∀ (d : rSp.δ), SpPost g_3.t.n g_3.t.b g_3.C g_3.s g_3.k g_3.e d.fst d.snd → ∃ (x : CuAsk), ((True ∧ True ∧ (g_3.Y ++ d.snd).length = x.l.length ∧ ∀ (i : Nat), i < (g_3.Y ++ d.snd).length → (((True ∧ thC g_3.t (thI (g_3.Y ++ d.snd) i) 0 = thC x.t (thI x.l i) 0) ∧ thC g_3.t (thI (g_3.Y ++ d.snd) i) 1 = thC x.t (thI x.l i) 1) ∧ thC g_3.t (thI (g_3.Y ++ d.snd) i) 2 = thC x.t (thI x.l i) 2) ∧ thC g_3.t (thI (g_3.Y ++ d.snd) i) 3 = thC x.t (thI x.l i) 3) ∧ True) ∧ (x.l.length ≤ (1000 : Nat) ∧ ∀ (x_1 : Th), List.Mem x_1 x.l → ∀ (i : Nat), x_1.q = some i → (0 : Int) ≤ x.t.b i (0 : Nat)) ∧ (g.snd.snd.length + (pcsOf (cutF x.l)).np) * (24 : Nat) ≤ (140737488355328 : Nat) ∧ g.snd.snd.length + (pcsOf (cutF x.l)).np < (4611686018427387904 : Nat) ∧ inRange IntKind.i64 ((↑g.fst : Int) + (1 : Int)) ∧ ∃ (g' : Nat × (Nat → Bool) × List (List Int)), (g'.fst ≤ t.n ∧ MdInv (t.w * t.h).toNat t.n t.b g'.snd.fst g'.snd.snd ∧ ∀ (j : Nat), j < g'.fst → g'.snd.fst j = false) ∧ t.n - g'.fst < t.n - g.fst ∧ True ∧ ((True ∧ True ∧ g.snd.snd.length + (pcsOf (cutF x.l)).np = g'.snd.snd.length) ∧ (True ∧ (↑g.fst : Int) + (1 : Int) = (↑g'.fst : Int)) ∧ True) ∧ (True ∧ ∀ (j : Nat), j < (72 : Nat) → True ∧ d.fst.lf j = g'.snd.fst j) ∧ (True ∧ ∀ (ks : List Int), numM g_3.t.b g_3.t.n ks = numM t.b t.n ks) ∧ (True ∧ True ∧ g.snd.snd.length + (pcsOf (cutF x.l)).np = g'.snd.snd.length ∧ ∀ (i : Nat), i < g.snd.snd.length + (pcsOf (cutF x.l)).np → True ∧ True ∧ (if i < g.snd.snd.length then (g.snd.snd.getD i []).length else (pcsOf (cutF x.l)).len (i - g.snd.snd.length)) = (g'.snd.snd.getD i []).length ∧ ∀ (i_1 : Nat), (i_1 < if i < g.snd.snd.length then (g.snd.snd.getD i []).length else (pcsOf (cutF x.l)).len (i - g.snd.snd.length)) → True ∧ (if i < g.snd.snd.length then (g.snd.snd.getD i []).getD i_1 (0 : Int) else (pcsOf (cutF x.l)).kn (i - g.snd.snd.length) i_1) = (g'.snd.snd.getD i []).getD i_1 (0 : Int)) ∧ True)) ∧ (decide ((↑g.fst : Int) < (↑t.n : Int)) = false → (((↑g.snd.snd.length : Int) == (0 : Int)) = true → ∃ (d : List (List Int)), MdPost t d ∧ True ∧ True ∧ (True ∧ (pcsOf d).np = (0 : Nat)) ∧ (True ∧ (4 : Int) = mendE t) ∧ True) ∧ (((↑g.snd.snd.length : Int) == (0 : Int)) = false → (0 : Int) ≤ (0 : Int) ∧ (0 : Int) ≤ (↑g.snd.snd.length : Int) ∧ (↑g.snd.snd.length : Int) ≤ (↑g.snd.snd.length : Int) ∧ (↑g.snd.snd.length : Int) ≤ (↑g.snd.snd.length : Int) ∧ ∃ (d : List (List Int)), MdPost t d ∧ True ∧ True ∧ (True ∧ True ∧ g.snd.snd.length - (0 : Nat) = (pcsOf d).np ∧ ∀ (i : Nat), i < g.snd.snd.length - (0 : Nat) → True ∧ True ∧ (g.snd.snd.getD i []).length = (pcsOf d).len i ∧ ∀ (i_1 : Nat), i_1 < (g.snd.snd.getD i []).length → True ∧ (g.snd.snd.getD i []).getD i_1 (0 : Int) = (pcsOf d).kn i i_1) ∧ (True ∧ (0 : Int) = mendE t) ∧ True))))) (by kernel_rfl) ?_
 simp only [true_and, and_true, inR, Prod.exists, Prod.forall, and_assoc, exists_and_left, exists_eq_left', exists_eq_left, forall_eq, exists_const, forall_const, loopN, loopM, fa2, fas, fas2, dup1, dup2, dup3, dup4, ite_true, exhs, exhn, exhz, exho, exA, ex1, ex2, ex3, ex4, ex5, beqI, bneI, decide_true, Bool.true_and, decide_eq_true_eq, decide_eq_false_iff_not, ne_eq, Decidable.not_not]
 obtain ⟨hw, hb⟩ := (show t.n < 4611686018427387904 ∧ ∀ i, i < t.n → iR (t.b i 0) ∧ iR (t.b i 1) from ht)
 refine exTn ⟨hw, fun i hi => ⟨(hb i hi).1.1, (hb i hi).1.2, (hb i hi).2.1, (hb i hi).2.2⟩, fun e => ?_, fun e => ?_⟩
 · obtain ⟨e1, e2⟩ := not_tk e
   exact ⟨[], ⟨fun h => by (rw [e1] at h; cases h), fun _ => rfl⟩, rfl, by unfold mendE; rw [e2, if_neg (by rw [e1]; decide)]⟩
 have hc := tk_of e
 have T := tchk_ok hc
 have h72 := T.few
 have B := BrOk.of T
 have N36 := B.N36
 refine ⟨⟨0, by omega, rfl, fun j _ => by omega, fun _ => rfl⟩, fun g hg => ⟨by omega, by omega, by omega, by omega, (hb g hg).1.1, (hb g hg).1.2, (hb g hg).2.1, (hb g hg).2.2, by omega, by omega, g + 1, by omega, by omega, by omega, fun j hj => ?_, fun ks => rfl⟩, ⟨0, Nat.zero_le _, fun j => decide (j < t.n), [], MdInv.start, fun j hj => absurd hj (Nat.not_lt_zero j), rfl, rfl, fun _ _ => rfl, rfl⟩, fun a lf L hA => ?_⟩
 · by_cases d : j = g
   · rw [if_pos (by omega), decide_eq_true (show j < g + 1 by omega)]
   · rw [if_neg (by omega)]; apply decide_eq_decide.2; omega
 obtain ⟨hle, M, hd0⟩ := hA
 have hL := M.few B
 have ei : 0 + a * 1 + 0 + 0 = a := by omega
 rw [ei]
 refine ⟨fun hlt => ⟨by omega, by omega, by omega, by omega, fun hf => ?_, fun hf => ?_⟩, fun hge => ⟨fun h0 => ?_, fun h0 => ?_⟩⟩
 · rw [Bool.not_eq_true'] at hf
   exact ⟨by omega, by omega, a + 1, by omega, lf, L, M, fun j hj => by
     by_cases d : j = a
     · rw [d]; exact hf
     · exact hd0 j (by omega), by omega, rfl, by omega, fun _ _ => rfl, rfl, fun _ _ => ⟨rfl, fun _ _ => rfl⟩⟩
 · rw [Bool.not_eq_false'] at hf
   have ha : a < t.n := by omega
   have hs := (B.kn a ha).1
   obtain ⟨oF, oR⟩ := oddL_few B hs
   obtain ⟨q, hq⟩ := oddL_even B hs
   have P := M.pre B ha hf
   have G : GrOk t.n t.b (· ∈ grp t.n t.b (t.b a 0)) := ⟨fun i hi => Int.ne_of_lt (B.lt i hi), B.cls hs, B.k36⟩
   refine ⟨⟨t, t.b a 0⟩, rfl, rfl, rfl, fun _ _ => ⟨rfl, rfl⟩, rfl, rfl, rfl, T, by show 0 ≤ t.b a 0; omega, by show t.b a 0 < 36; omega, ⟨0, Nat.zero_le _, fun _ => none, fun ks => ?_, fun ks a b h => (by cases h), rfl, fun _ => rfl, rfl⟩, fun s p m hA => ?_, fun g1 hg1 => ?_⟩
   · rw [Nat.mul_zero, List.take_zero, jn_nil]; rfl
   · obtain ⟨es, h2p, hm, hst⟩ := hA
     subst es
     show -9223372036854775808 ≤ ((2 * p : Nat) : Int) + 1 ∧ ((2 * p : Nat) : Int) + 1 ≤ 9223372036854775807 ∧ (((2 * p : Nat) : Int) + 1 < ((oddL t.n t.b (t.b a 0)).length : Int) → _) ∧ (¬ ((2 * p : Nat) : Int) + 1 < ((oddL t.n t.b (t.b a 0)).length : Int) → _)
     generalize hO : oddL t.n t.b (t.b a 0) = O at *
     refine ⟨by omega, by omega, fun h1 => ?_, fun h1 => ?_⟩
     · have h1' : 2 * p + 1 < O.length := by omega
       have eT : (((2 * p : Nat) : Int) + 1).toNat = 2 * p + 1 := by omega
       have nod : O.Nodup := by rw [← hO]; exact oddL_nod
       have etk := take_two h1'
       have nod2 : (O.take (2 * p) ++ [gI O (2 * p), gI O (2 * p + 1)]).Nodup := by rw [← etk]; exact nod.sublist (List.take_sublist _ _)
       have tl : (O.take (2 * p)).length = 2 * p := by rw [List.length_take]; omega
       have r0 := oR _ (gI_mem (show 2 * p < O.length by omega))
       have r1 := oR _ (gI_mem h1')
       rw [eT]
       generalize gI O (2 * p) = o0 at *
       generalize gI O (2 * p + 1) = o1 at *
       have nn := List.nodup_append.1 nod2
       have n01 : o1 ≠ o0 := fun e => by
         have := nn.2.1
         rw [e] at this
         simp at this
       have no : ∀ x, x ∈ [o0, o1] → m [x] = none := fun x hx => by
         apply fst_none
         rw [hm]
         show jnL (O.take (2 * p)) x = none
         cases c : jnL (O.take (2 * p)) x with
         | none => rfl
         | some w => exact absurd rfl (nn.2.2 x (jnL_mem c).1 x hx)
       have hb0 := no o0 (by simp)
       have hb1 := no o1 (by simp)
       have hn10 : ([o1] = [o0]) = False := by simp [n01]
       simp only [hb0, hb1, hn10, if_false, entV, entS, entC]
       refine ⟨by omega, by omega, by omega, by omega, by omega, by omega, by omega, by omega, by omega, by omega, by omega, by omega, by omega, by omega, rfl, by omega, by omega, rfl, by omega, by omega, p + 1, by omega, mapJ m o0 o1 (2 * p), fun ks => ?_, fun ks a b e => ?_, by omega, by omega, fun ks => ?_, by omega⟩
       · rw [show 2 * (p + 1) = 2 * p + 2 by omega, etk]
         exact mapJ_fst (q := p) tl nod2 hm ks
       · have := mapJ_st hst ks a b e; omega
       · unfold mapJ
         by_cases c : ks = [o1]
         · rw [if_pos c, if_pos c]
         · rw [if_neg c, if_neg c, if_neg c]
           by_cases d : ks = [o0]
           · rw [if_pos d, if_pos d]
           · rw [if_neg d, if_neg d, if_neg d]
     · intro ks
       rw [hm, List.take_of_length_le (by omega)]
   · subst hg1
     refine ⟨is99, ⟨t, (· ∈ grp t.n t.b (t.b a 0)), ⟨lf, jnL (oddL t.n t.b (t.b a 0))⟩, t.b a 0, t.b a 0, []⟩, T, G, P, ?_, by show 0 ≤ t.b a 0; omega, by show t.b a 0 < 36; omega, rfl, rfl, rfl, rfl, fun _ _ => ⟨rfl, rfl⟩, rfl, rfl, rfl, fun _ => rfl, fun _ _ => rfl, fun _ => rfl, rfl, fun i hi => absurd hi (Nat.not_lt_zero i), fun d hd => ?_⟩
     · show 0 + (cntN t.n lf + cntN 36 _) ≤ 1000
       have h1 := cntN_max (p := lf) (n := t.n)
       have h2 := cntN_max (p := fun v : Nat => ((jnL (oddL t.n t.b (t.b a 0))) (v : Int)).isSome) (n := 36)
       show 0 + (cntN t.n lf + cntN 36 fun v : Nat => ((jnL (oddL t.n t.b (t.b a 0))) (v : Int)).isSome) ≤ 1000
       omega
     · have hd : SpPost t.n t.b (· ∈ grp t.n t.b (t.b a 0)) ⟨lf, jnL (oddL t.n t.b (t.b a 0))⟩ (t.b a 0) (t.b a 0) d.1 d.2 := hd
       have M2 := M.step B ha hf hd
       have hL2 := M2.few B
       have hWl : d.2.length ≤ 1000 := by
         have h0 := hd.len
         have h1 := cntN_max (p := lf) (n := t.n)
         have h2 := cntN_max (p := fun v : Nat => ((jnL (oddL t.n t.b (t.b a 0))) (v : Int)).isSome) (n := 36)
         have h3 : muS t.n ⟨lf, jnL (oddL t.n t.b (t.b a 0))⟩ = cntN t.n lf + cntN 36 fun v : Nat => ((jnL (oddL t.n t.b (t.b a 0))) (v : Int)).isSome := rfl
         omega
       have enp : (pcsOf (cutF d.2)).np = (cutF d.2).length := rfl
       rw [List.length_append] at hL2
       refine ⟨⟨t, d.2⟩, rfl, fun _ _ => ⟨rfl, rfl, rfl, rfl⟩, hWl, fun x hx i e => ?_, by rw [enp]; omega, by rw [enp]; omega, by omega, by omega, a + 1, by omega, d.1.lf, L ++ cutF d.2, M2, fun j hj => ?_, by omega, by rw [enp, List.length_append], by omega, fun _ _ => rfl, fun _ => rfl, by rw [enp, List.length_append], fun i hi => ?_⟩
       · have o := hd.acc.ok x hx
         unfold ThOk at o
         rw [e] at o
         exact (B.kn i o.1).1.1
       · by_cases c : j = a
         · subst c
           exact (hd.clo (t.b j 0) (.inl rfl)).1 j ha (inc_iff.2 (.inl rfl))
         · rw [hd.acc.lf]
           show (lf j && _) = false
           rw [hd0 j (by omega)]; rfl
       · rw [getD_app]
         by_cases c : i < L.length
         · simp only [if_pos c]; exact ⟨trivial, fun _ _ => trivial⟩
         · simp only [if_neg c]; exact ⟨rfl, fun _ _ => rfl⟩
 · obtain rfl : a = t.n := by omega
   have h0 : L = [] := List.length_eq_zero_iff.1 (by omega)
   subst h0
   obtain ⟨k1, k2, k3⟩ := M.end_ B hd0
   have n0 : t.n = 0 := by
     apply Classical.byContradiction
     intro hn
     have := k1 0 (by omega)
     cases this
   exact ⟨[], ⟨fun _ h => by omega, fun _ => rfl⟩, rfl, by unfold mendE; rw [if_pos hc, if_pos n0]⟩
 · obtain rfl : a = t.n := by omega
   obtain ⟨k1, k2, k3⟩ := M.end_ B hd0
   have n0 : t.n ≠ 0 := fun hn => by
     cases L with
     | nil => exact h0 rfl
     | cons p L =>
       have hp := k2 p (by simp)
       match p, hp with
       | [], hp => exact absurd hp.1 (by decide)
       | [x], hp => exact absurd hp.1 (by simp)
       | x :: y :: l, hp =>
         obtain ⟨j, hj, _⟩ := hp.2.1
         omega
   exact ⟨by omega, by omega, by omega, by omega, L, ⟨fun _ _ => ⟨k1, k2, k3⟩, fun h => absurd ⟨hc, by omega⟩ h⟩, rfl, fun _ _ => ⟨rfl, fun _ _ => rfl⟩, by unfold mendE; rw [if_pos hc, if_neg n0]⟩
end Go.Proofs.YtcfmdhlohahhcaaDoor
namespace Nm
open Go Go.Sx
theorem steps_sum {N n : Nat} {b : Nat → Nat → Int} (B : BrOk N n b) : ∀ {p : List Int}, p ≠ [] → hasP n b p → sumF n (fun j => cntP b j p) + 1 = p.length
 | [], h, _ => absurd rfl h
 | [x], _, _ => by
   have : sumF n (fun j => cntP b j [x]) = 0 := sumF_zero fun _ _ => rfl
   rw [this]; rfl
 | x :: y :: l, _, h => by
   have ih := steps_sum B (p := y :: l) (by simp) h.2
   have e : sumF n (fun j => cntP b j (x :: y :: l)) = sumF n (fun j => stp b x y j) + sumF n (fun j => cntP b j (y :: l)) := by
     rw [← sumF_add]; rfl
   obtain ⟨j, hj, hb⟩ := h.1
   obtain ⟨_, hs⟩ := stp_bar B.lt B.dif hj (step_bar B hj hb)
   have := sumF_one (f := fun i => stp b x y i) (g := fun _ => 0) (k := j) (d := 1) hj (fun i hi hne => by rw [hs i hi, if_neg hne]) (by rw [hs j hj, if_pos rfl])
   rw [sumF_zero fun _ _ => rfl] at this
   rw [e, this, List.length_cons, ← ih]; omega
theorem sumF_const {c : Nat} : ∀ {n : Nat}, sumF n (fun _ => c) = n * c
 | 0 => by rw [Nat.zero_mul]; rfl
 | n + 1 => by rw [sumF, sumF_const, Nat.succ_mul]
theorem cntP_le {b : Nat → Nat → Int} {j : Nat} : ∀ {L : List (List Int)} {p : List Int}, p ∈ L → cntP b j p ≤ cntL b j L
 | [], p, h => by cases h
 | q :: L, p, h => by
   show _ ≤ cntP b j q + cntL b j L
   rcases List.mem_cons.1 h with rfl | h
   · omega
   · have := cntP_le (b := b) (j := j) h; omega
theorem sum_pcs {N n : Nat} {b : Nat → Nat → Int} (B : BrOk N n b) : ∀ {L : List (List Int)}, (∀ p ∈ L, PcOk n b p) → L.length ≤ sumF n fun j => cntL b j L
 | [], _ => Nat.zero_le _
 | p :: L, h => by
   have ih := sum_pcs B (L := L) fun q hq => h q (List.mem_cons.2 (.inr hq))
   have hp := h p (List.mem_cons.2 (.inl rfl))
   have ne : p ≠ [] := fun e => by have := hp.1; rw [e] at this; exact absurd this (by decide)
   have s := steps_sum B ne hp.2
   have e : sumF n (fun j => cntL b j (p :: L)) = sumF n (fun j => cntP b j p) + sumF n (fun j => cntL b j L) := by rw [← sumF_add]; rfl
   have := hp.1
   rw [e, List.length_cons]; omega
theorem mend_bd {N n : Nat} {b : Nat → Nat → Int} (B : BrOk N n b) {L : List (List Int)} (h1 : ∀ j, j < n → cntL b j L = 1) (h2 : ∀ p ∈ L, PcOk n b p) : L.length ≤ n ∧ ∀ p ∈ L, p.length ≤ n + 1 ∧ ∀ v ∈ p, 0 ≤ v ∧ v < N := by
 have s1 : sumF n (fun j => cntL b j L) = n := by
   rw [sumF_congr (g := fun _ => 1) fun j hj => h1 j hj, sumF_const, Nat.mul_one]
 refine ⟨by have := sum_pcs B h2; omega, fun p hp => ⟨?_, knot_rng B (h2 p hp).1 (h2 p hp).2⟩⟩
 have ne : p ≠ [] := fun e => by have := (h2 p hp).1; rw [e] at this; exact absurd this (by decide)
 have s := steps_sum B ne (h2 p hp).2
 have := sumF_le (f := fun j => cntP b j p) (g := fun j => cntL b j L) (n := n) fun j _ => cntP_le hp
 omega
theorem pcs_wf {N n : Nat} {b : Nat → Nat → Int} (B : BrOk N n b) (h72 : n ≤ 72) {L : List (List Int)} (h1 : ∀ j, j < n → cntL b j L = 1) (h2 : ∀ p ∈ L, PcOk n b p) : (pcsOf L).wf := by
 obtain ⟨a1, a2⟩ := mend_bd B h1 h2
 have N36 := B.N36
 refine ⟨by show L.length ≤ 1073741824; omega, fun i hi => ?_⟩
 have hi : i < L.length := hi
 have hm : L.getD i [] ∈ L := by rw [List.getD_eq_getElem?_getD, List.getElem?_eq_getElem hi]; exact List.getElem_mem hi
 obtain ⟨c1, c2⟩ := a2 _ hm
 refine ⟨by show (L.getD i []).length ≤ 1073741824; omega, fun k hk => ?_⟩
 have hk : k < (L.getD i []).length := hk
 have := c2 ((L.getD i []).getD k 0) (by
   generalize L.getD i [] = p at hk
   rw [List.getD_eq_getElem?_getD, List.getElem?_eq_getElem hk]; exact List.getElem_mem hk)
 show -9223372036854775808 ≤ (L.getD i []).getD k 0 ∧ (L.getD i []).getD k 0 ≤ 9223372036854775807
 omega
end Nm
namespace Go.Proofs.YtcfmdhlohahhcaaDoor
open Go Go.Sx Nm
set_option maxRecDepth 100000
set_option maxHeartbeats 2000000
noncomputable def E2 : Env := E1.kep 34 rMd
theorem E2_ok : EnvOk Tryd.prog E2 := E1_ok.kep r34
theorem E2_gl : E0.gl = E2.gl := rfl
def twnV (t : Torn) : Int := if tchk t = true then twV t (fewT t) else 0
def sTwn : Sig := ⟨Torn, fun t => [tornTV t], Torn.wf, fun t => [.v (intC (twnV t)), .v (intC (tchkE t))]⟩
theorem is34 : (lookFn fnTab 34).isSome = true := by kernel_rfl
theorem mend4 {t : Torn} (h : mendE t = 4) : tchk t = true ∧ t.n = 0 := by
 unfold mendE at h
 split at h
 · rename_i c
   split at h
   · rename_i d; exact ⟨c, d⟩
   · cases h
 · cases h
theorem mend0 {t : Torn} (h : mendE t = 0) : tchk t = true ∧ t.n ≠ 0 := by
 unfold mendE at h
 split at h
 · rename_i c
   split at h
   · cases h
   · rename_i d; exact ⟨c, d⟩
 · cases h
theorem mend23 {t : Torn} (h : ¬ mendE t = 4) (h0 : ¬ mendE t = 0) : tchk t = false ∧ mendE t = 23 := by
 unfold mendE at h h0 ⊢
 cases c : tchk t with
 | true =>
   rw [c, if_pos rfl] at h h0
   split at h <;> rename_i d
   · exact absurd rfl h
   · rw [if_neg d] at h0; exact absurd rfl h0
 | false => exact ⟨rfl, rfl⟩
theorem few_none {N : Nat} {b : Nat → Nat → Int} : few N 0 b = 0 := by
 unfold few
 refine sumF_zero fun g _ => ?_
 unfold needG
 rw [if_neg]
 intro h
 obtain ⟨v, _, _, h3⟩ := anyG_iff.1 h
 obtain ⟨i, hi, _⟩ := meets_pos.1 h3
 omega
theorem twn0 {t : Torn} (h : tchk t = true) (hn : t.n = 0) : twnV t = 0 := by
 unfold twnV
 rw [if_pos h]
 have : fewT t = 0 := by unfold fewT; rw [hn]; exact few_none
 unfold twV
 rw [this, hn]; simp
theorem q32 (t : Torn) (ht : t.wf) : CallQ Tryd.prog E0 32 (sTwn.arg t) (sTwn.res t) := by
 refine CallQ.congr (E := E2) (E' := E0) E2_gl.symm (bare_say E2_ok [(75, sTwi), (30, sCkT), (127, sTdN), (123, sTdE), (126, sSl 8), (122, sSl 6), (125, sLg 1), (120, sLg 0), (124, sAt 1), (119, sAt 0), (121, sLong)] ((show SigsOk Tryd.prog E0 [(75, sTwi), (30, sCkT), (127, sTdN), (123, sTdE), (126, sSl 8), (122, sSl 6), (125, sLg 1), (120, sLg 0), (124, sAt 1), (119, sAt 0), (121, sLong)] from (((((((((((SigsOk.nil.cons u121 fun x _ => q121 x).cons u119 fun x _ => q119 x).cons u124 fun x _ => q124 x).cons u120 fun x _ => q120 x).cons u125 fun x _ => q125 x).cons u122 fun x _ => q122 x).cons u126 fun x _ => q126 x).cons u123 q123).cons u127 q127).cons u30 q30).cons u75 q75)).congr E2_gl) [] EvensOk.nil runs { live := true } (fuel := 8) ?_)
 refine of_red (q := (lookFn fnTab (34 : Nat)).isSome = true ∧ ∃ (g : Torn), (g.n < (4611686018427387904 : Nat) ∧ ∀ (i : Nat), i < g.n → ((-9223372036854775808 : Int) ≤ g.b i (0 : Nat) ∧ g.b i (0 : Nat) ≤ (9223372036854775807 : Int)) ∧ (-9223372036854775808 : Int) ≤ g.b i (1 : Nat) ∧ g.b i (1 : Nat) ≤ (9223372036854775807 : Int)) ∧ True ∧ ((True ∧ ((((True ∧ True ∧ t.w = g.w) ∧ True ∧ t.h = g.h) ∧ True ∧ True ∧ t.n = g.n ∧ ∀ (i : Nat), i < t.n → (True ∧ t.b i 0 = g.b i 0) ∧ t.b i 1 = g.b i 1) ∧ True ∧ t.m = g.m) ∧ True ∧ t.k = g.k) ∧ True) ∧ True ∧ ∀ (d : rMd.δ), MdPost g d → ((mendE g == (4 : Int)) = true → (True ∧ (0 : Int) = twnV t) ∧ (True ∧ (0 : Int) = tchkE t) ∧ True) ∧ ((mendE g == (4 : Int)) = false → ((mendE g == (0 : Int)) = true → ∃ (x : TwAsk), ((True ∧ ((((True ∧ True ∧ t.w = x.t.w) ∧ True ∧ t.h = x.t.h) ∧ True ∧ True ∧ t.n = x.t.n ∧ ∀ (i : Nat), i < t.n → (True ∧ t.b i 0 = x.t.b i 0) ∧ t.b i 1 = x.t.b i 1) ∧ True ∧ t.m = x.t.m) ∧ True ∧ t.k = x.t.k) ∧ (True ∧ (↑(pcsOf d).np : Int) = (↑x.p : Int)) ∧ True) ∧ (tk0 x.t = true ∧ x.t.n ≤ (72 : Nat) ∧ x.p ≤ (1000 : Nat)) ∧ (True ∧ twV x.t (↑x.p : Int) = twnV t) ∧ (True ∧ (0 : Int) = tchkE t) ∧ True) ∧ ((mendE g == (0 : Int)) = false → (True ∧ (0 : Int) = twnV t) ∧ (True ∧ mendE g = tchkE t) ∧ True))) (by kernel_rfl) ?_
 simp only [true_and, and_true, inR, Prod.exists, Prod.forall, and_assoc, exists_and_left, exists_eq_left', exists_eq_left, forall_eq, exists_const, forall_const, loopN, loopM, fa2, fas, fas2, dup1, dup2, dup3, dup4, ite_true, exhs, exhn, exhz, exho, exA, ex1, ex2, ex3, ex4, ex5, beqI, bneI, decide_true, Bool.true_and, decide_eq_true_eq, decide_eq_false_iff_not, ne_eq, Decidable.not_not]
 obtain ⟨hw, hb⟩ := (show t.n < 4611686018427387904 ∧ ∀ i, i < t.n → iR (t.b i 0) ∧ iR (t.b i 1) from ht)
 refine ⟨is34, t, hw, fun i hi => ⟨(hb i hi).1.1, (hb i hi).1.2, (hb i hi).2.1, (hb i hi).2.2⟩, rfl, rfl, rfl, fun _ _ => ⟨rfl, rfl⟩, rfl, rfl, fun d hd => ⟨fun h => ?_, fun h => ⟨fun h0 => ?_, fun h0 => ?_⟩⟩⟩
 · obtain ⟨h1, h2⟩ := mend4 h
   unfold tchkE
   rw [if_pos h1, twn0 h1 h2]; exact ⟨rfl, rfl⟩
 · obtain ⟨h1, h2⟩ := mend0 h0
   have T := tchk_ok h1
   obtain ⟨c1, c2, c3⟩ := hd.yes h1 (by omega)
   have c4 := (mend_bd (BrOk.of T) c1 c2).1
   have h72 := T.few
   have enp : (pcsOf d).np = d.length := rfl
   refine exTw ⟨T.t0, h72, by show (pcsOf d).np ≤ 1000; omega, ?_, by unfold tchkE; rw [if_pos h1]⟩
   unfold twnV
   rw [if_pos h1]
   show twV t ((pcsOf d).np : Int) = twV t (fewT t : Nat)
   rw [enp, c3]; rfl
 · obtain ⟨h1, h2⟩ := mend23 h h0
   unfold twnV tchkE
   rw [h2, h1]; exact ⟨rfl, rfl⟩
end Go.Proofs.YtcfmdhlohahhcaaDoor
namespace Nm
open Go Go.Sx
def firstN (p : Nat → Bool) : Nat → Nat → Nat
 | 0, k => k
 | n + 1, k => if p k = true then k else firstN p n (k + 1)
theorem firstN_ok {p : Nat → Bool} : ∀ {n k : Nat}, firstN p n k < k + n → p (firstN p n k) = true
 | 0, k, h => by simp only [firstN] at h; omega
 | n + 1, k, h => by
   rw [firstN] at h ⊢
   split
   · assumption
   · rename_i c
     rw [if_neg c] at h
     exact firstN_ok (by omega)
theorem firstN_at {p : Nat → Bool} : ∀ {n k j : Nat}, k ≤ j → j < k + n → p j = true → (∀ i, k ≤ i → i < j → p i = false) → firstN p n k = j
 | 0, k, j, h1, h2, _, _ => by omega
 | n + 1, k, j, h1, h2, h3, h4 => by
   rw [firstN]
   by_cases c : k = j
   · subst c; rw [if_pos h3]
   · rw [if_neg (by rw [h4 k (Nat.le_refl _) (by omega)]; decide), firstN_at (by omega) (by omega) h3 fun i hi => h4 i (by omega)]
theorem firstN_none {p : Nat → Bool} : ∀ {n k : Nat}, (∀ i, k ≤ i → i < k + n → p i = false) → firstN p n k = k + n
 | 0, k, _ => rfl
 | n + 1, k, h => by
   rw [firstN, if_neg (by rw [h k (Nat.le_refl _) (by omega)]; decide), firstN_none fun i h1 h2 => h i (by omega) (by omega)]; omega
structure EsS where
 u : Nat → Bool
 p : List Int
def setU (u : Nat → Bool) (j : Nat) : Nat → Bool := fun i => if i = j then true else u i
def useB (b : Nat → Nat → Int) (s : EsS) (j : Nat) : Bool := !s.u j && inc b j (ltI s.p)
def exStep (n : Nat) (b : Nat → Nat → Int) (s : EsS) : EsS := if firstN (useB b s) n 0 < n then ⟨setU s.u (firstN (useB b s) n 0), s.p ++ [othr b (firstN (useB b s) n 0) (ltI s.p)]⟩ else s
def exK (n : Nat) (b : Nat → Nat → Int) (s : EsS) : Nat → EsS
 | 0 => s
 | m + 1 => exStep n b (exK n b s m)
def spS0 (b : Nat → Nat → Int) (u : Nat → Bool) (k : Nat) : EsS := ⟨setU u k, [b k 0, b k 1]⟩
structure SoS where
 u : Nat → Bool
 o : List (List Int)
def spK (n : Nat) (b : Nat → Nat → Int) (n0 : Nat) : Nat → SoS
 | 0 => ⟨fun _ => false, []⟩
 | i + 1 => if (spK n b n0 i).u ((n0 + i) % n) = true then spK n b n0 i else ⟨(exK n b (spS0 b (spK n b n0 i).u ((n0 + i) % n)) n).u, (spK n b n0 i).o ++ [(exK n b (spS0 b (spK n b n0 i).u ((n0 + i) % n)) n).p]⟩
def spunF (n : Nat) (b : Nat → Nat → Int) (n0 : Nat) : List (List Int) := (spK n b n0 n).o
theorem exK_stop {n : Nat} {b : Nat → Nat → Int} {s : EsS} {m : Nat} (h : ∀ j, j < n → useB b (exK n b s m) j = false) : ∀ {d : Nat}, exK n b s (m + d) = exK n b s m
 | 0 => rfl
 | d + 1 => by
   rw [← Nat.add_assoc, exK, exK_stop h, exStep, if_neg]
   rw [firstN_none fun i _ hi => h i (by omega)]; omega
def usedN (n : Nat) (u : Nat → Bool) : Nat := cntN n u
theorem usedN_set {n : Nat} {u : Nat → Bool} {j : Nat} (hj : j < n) (h : u j = false) : usedN n u < usedN n (setU u j) :=
 cntN_lt hj (fun i _ hi => by unfold setU; split; rfl; exact hi) h (by unfold setU; rw [if_pos rfl])
theorem exStep_used {n : Nat} {b : Nat → Nat → Int} {s : EsS} {j : Nat} (hj : j < n) (hu : useB b s j = true) (hm : ∀ i, i < j → useB b s i = false) : exStep n b s = ⟨setU s.u j, s.p ++ [othr b j (ltI s.p)]⟩ := by
 have e : firstN (useB b s) n 0 = j := firstN_at (Nat.zero_le _) (by omega) hu fun i _ hi => hm i hi
 unfold exStep
 rw [e, if_pos hj]
structure EsOk (n : Nat) (b : Nat → Nat → Int) (c : Nat → Nat) (s : EsS) : Prop where
 cnt : ∀ j, j < n → c j + cntP b j s.p = if s.u j = true then 1 else 0
 len : 2 ≤ s.p.length
 has : hasP n b s.p
theorem ltI_snoc {l : List Int} {x : Int} : ltI (l ++ [x]) = x := by unfold ltI; simp
theorem snoc_of {p : List Int} (h : p ≠ []) : ∃ l, p = l ++ [ltI p] := by
 rcases List.eq_nil_or_concat p with rfl | ⟨l, x, rfl⟩
 · exact absurd rfl h
 · rw [List.concat_eq_append, ltI_snoc]; exact ⟨l, rfl⟩
theorem othr_stp {N n : Nat} {b : Nat → Nat → Int} (B : BrOk N n b) {j : Nat} (hj : j < n) {v : Int} (hv : inc b j v = true) : barEq b (imin v (othr b j v)) (imax v (othr b j v)) j = true ∧ ∀ i, i < n → stp b v (othr b j v) i = if i = j then 1 else 0 :=
 stp_bar B.lt B.dif hj (othr_of hv)
theorem EsOk.step {N n : Nat} {b : Nat → Nat → Int} (B : BrOk N n b) {c : Nat → Nat} {s : EsS} (h : EsOk n b c s) : EsOk n b c (exStep n b s) := by
 unfold exStep
 split
 · rename_i hlt
   have hu := firstN_ok (p := useB b s) (n := n) (k := 0) (by omega)
   generalize hj : firstN (useB b s) n 0 = j at *
   unfold useB at hu
   rw [Bool.and_eq_true, Bool.not_eq_true'] at hu
   have ne : s.p ≠ [] := fun e => by have := h.len; rw [e] at this; exact absurd this (by decide)
   obtain ⟨l, el⟩ := snoc_of ne
   obtain ⟨s1, s2⟩ := othr_stp B hlt hu.2
   refine ⟨fun i hi => ?_, ?_, ?_⟩
   · have := h.cnt i hi
     have e : cntP b i (s.p ++ [othr b j (ltI s.p)]) = cntP b i s.p + stp b (ltI s.p) (othr b j (ltI s.p)) i := by
       have := cntP_snoc (b := b) (j := i) (l := l) (x := ltI s.p) (y := othr b j (ltI s.p))
       rw [← el] at this; exact this
     show c i + cntP b i (s.p ++ [othr b j (ltI s.p)]) = if setU s.u j i = true then 1 else 0
     rw [e, s2 i hi]
     unfold setU
     by_cases d : i = j
     · subst d; rw [hu.1] at this; simp only [Bool.false_eq_true, if_false] at this; rw [if_pos rfl, if_pos rfl, if_pos rfl]; omega
     · rw [if_neg d, if_neg d]; omega
   · show 2 ≤ (s.p ++ [_]).length
     have := h.len
     rw [List.length_append]; omega
   · have := hasP_snoc (n := n) (b := b) (l := l) (x := ltI s.p) (y := othr b j (ltI s.p))
     rw [← el] at this
     exact this.2 ⟨h.has, j, hlt, s1⟩
 · exact h
theorem EsOk.k {N n : Nat} {b : Nat → Nat → Int} (B : BrOk N n b) {c : Nat → Nat} {s : EsS} (h : EsOk n b c s) : ∀ {m : Nat}, EsOk n b c (exK n b s m)
 | 0 => h
 | m + 1 => (EsOk.k B h).step B
structure SoOk (n : Nat) (b : Nat → Nat → Int) (n0 i : Nat) (s : SoS) : Prop where
 cnt : ∀ j, j < n → cntL b j s.o = if s.u j = true then 1 else 0
 ok : ∀ p ∈ s.o, PcOk n b p
 us : ∀ i', i' < i → s.u ((n0 + i') % n) = true
theorem exStep_mono {n : Nat} {b : Nat → Nat → Int} {s : EsS} {j : Nat} (h : s.u j = true) : (exStep n b s).u j = true := by
 unfold exStep
 split
 · show setU s.u _ j = true
   unfold setU; split
   · rfl
   · exact h
 · exact h
theorem exK_mono {n : Nat} {b : Nat → Nat → Int} {s : EsS} {j : Nat} (h : s.u j = true) : ∀ {m : Nat}, (exK n b s m).u j = true
 | 0 => h
 | m + 1 => exStep_mono (exK_mono h)
theorem spS0_ok {N n : Nat} {b : Nat → Nat → Int} (B : BrOk N n b) {n0 i k : Nat} {s : SoS} (h : SoOk n b n0 i s) (hk : k < n) (hu : s.u k = false) : EsOk n b (fun j => cntL b j s.o) (spS0 b s.u k) := by
 obtain ⟨s1, s2⟩ := stp_bar B.lt B.dif hk (f := b k 0) (t := b k 1) (.inl ⟨rfl, rfl⟩)
 refine ⟨fun j hj => ?_, Nat.le_refl _, ⟨⟨k, hk, s1⟩, trivial⟩⟩
 show cntL b j s.o + (stp b (b k 0) (b k 1) j + 0) = if setU s.u k j = true then 1 else 0
 rw [h.cnt j hj, s2 j hj]
 unfold setU
 by_cases d : j = k
 · subst d; rw [hu, if_pos rfl, if_pos rfl]; rfl
 · rw [if_neg d, if_neg d]; omega
theorem spK_ok {N n : Nat} {b : Nat → Nat → Int} (B : BrOk N n b) (hn : 0 < n) {n0 : Nat} : ∀ {i : Nat}, SoOk n b n0 i (spK n b n0 i)
 | 0 => ⟨fun j _ => rfl, fun p h => (by cases h), fun i h => by omega⟩
 | i + 1 => by
   have ih := spK_ok B hn (n0 := n0) (i := i)
   have hk : (n0 + i) % n < n := Nat.mod_lt _ hn
   rw [spK]
   split
   · rename_i hu
     exact ⟨ih.cnt, ih.ok, fun i' hi' => by
       by_cases d : i' = i
       · subst d; exact hu
       · exact ih.us i' (by omega)⟩
   · rename_i hu
     have hu : (spK n b n0 i).u ((n0 + i) % n) = false := by simpa using hu
     have E := (spS0_ok B ih hk hu).k B (m := n)
     refine ⟨fun j hj => ?_, fun p hp => ?_, fun i' hi' => ?_⟩
     · show cntL b j (_ ++ [_]) = _
       rw [cntL_append]
       have := E.cnt j hj
       show cntL b j _ + (cntP b j _ + 0) = _
       omega
     · rcases List.mem_append.1 hp with hp | hp
       · exact ih.ok p hp
       · rw [List.mem_singleton.1 hp]; exact ⟨E.len, E.has⟩
     · refine exK_mono ?_
       show setU _ _ _ = true
       unfold setU
       by_cases d : i' = i
       · subst d; rw [if_pos rfl]
       · split
         · rfl
         · exact ih.us i' (by omega)
theorem spun_mends {N n : Nat} {b : Nat → Nat → Int} (B : BrOk N n b) (hn : 0 < n) {n0 : Nat} (h0 : n0 < n) : (∀ j, j < n → cntL b j (spunF n b n0) = 1) ∧ ∀ p ∈ spunF n b n0, PcOk n b p := by
 have h := spK_ok B hn (n0 := n0) (i := n)
 refine ⟨fun j hj => ?_, h.ok⟩
 have hu : (spK n b n0 n).u j = true := by
   have := h.us (if n0 ≤ j then j - n0 else j + n - n0) (by split <;> omega)
   have e : (n0 + (if n0 ≤ j then j - n0 else j + n - n0)) % n = j := by
     split
     · rw [show n0 + (j - n0) = j by omega, Nat.mod_eq_of_lt hj]
     · rw [show n0 + (j + n - n0) = j + n by omega, Nat.add_mod_right, Nat.mod_eq_of_lt hj]
   rw [e] at this; exact this
 have := h.cnt j hj
 rw [hu] at this
 exact this
theorem exK_len {n : Nat} {b : Nat → Nat → Int} {s : EsS} : ∀ {m : Nat}, (exK n b s m).p.length ≤ s.p.length + m
 | 0 => Nat.le_refl _
 | m + 1 => by
   have ih := exK_len (n := n) (b := b) (s := s) (m := m)
   rw [exK, exStep]
   split
   · show (_ ++ [_]).length ≤ _
     rw [List.length_append, List.length_singleton]; omega
   · omega
theorem spK_len {n : Nat} {b : Nat → Nat → Int} {n0 : Nat} : ∀ {i : Nat}, (spK n b n0 i).o.length ≤ i
 | 0 => Nat.le_refl _
 | i + 1 => by
   have ih := spK_len (n := n) (b := b) (n0 := n0) (i := i)
   rw [spK]
   split
   · omega
   · show (_ ++ [_]).length ≤ _
     rw [List.length_append, List.length_singleton]; omega
theorem exK_rng {N n : Nat} {b : Nat → Nat → Int} (B : BrOk N n b) {s : EsS} (hp : s.p ≠ []) (h : ∀ v ∈ s.p, 0 ≤ v ∧ v < N) : ∀ {m : Nat}, (exK n b s m).p ≠ [] ∧ ∀ v ∈ (exK n b s m).p, 0 ≤ v ∧ v < N
 | 0 => ⟨hp, h⟩
 | m + 1 => by
   obtain ⟨i1, i2⟩ := exK_rng B hp h (m := m)
   rw [exK, exStep]
   split
   · rename_i hlt
     have hu := firstN_ok (p := useB b (exK n b s m)) (n := n) (k := 0) (by omega)
     generalize firstN (useB b (exK n b s m)) n 0 = j at *
     unfold useB at hu
     rw [Bool.and_eq_true] at hu
     refine ⟨by simp, fun v hv => ?_⟩
     rcases List.mem_append.1 hv with hv | hv
     · exact i2 v hv
     · rw [List.mem_singleton.1 hv]
       have k := B.kn j hlt
       rcases othr_of hu.2 with ⟨_, e⟩ | ⟨_, e⟩ <;> rw [e]
       · exact k.2
       · exact k.1
   · exact ⟨i1, i2⟩
end Nm
namespace Go.Proofs.YtcfmdhlohahhcaaDoor
open Go Go.Sx Nm
set_option maxRecDepth 100000
set_option maxHeartbeats 2000000
structure SnAsk where
 t : Torn
 m : Int
def snN (t : Torn) (m : Int) : Nat := (m % (t.n : Int)).toNat
def sSpn : Sig := ⟨SnAsk, fun a => [tornTV a.t, intC a.m], fun a => TkOk a.t ∧ 0 < a.t.n, fun a => [.v (pcsTV (pcsOf (spunF a.t.n a.t.b (snN a.t a.m))))]⟩
def snS (t : Torn) (m : Int) (i : Nat) : SoS := spK t.n t.b (snN t m) i
def snK (t : Torn) (m : Int) (i : Nat) : Nat := (snN t m + i) % t.n
def snE (t : Torn) (m : Int) (i : Nat) : Nat → EsS := exK t.n t.b (spS0 t.b (snS t m i).u (snK t m i))
theorem gI_last {p : List Int} (h : p ≠ []) : gI p (p.length - 1) = ltI p := by
 obtain ⟨l, e⟩ := snoc_of h
 have : gI (l ++ [ltI p]) ((l ++ [ltI p]).length - 1) = ltI p := by
   rw [List.length_append, List.length_singleton, Nat.add_sub_cancel]; exact gI_end
 rw [← e] at this; exact this
theorem fit_set {u : Nat → Bool} {k i : Nat} : fitP (if i = k then CV.tt else CV.bool (u i)) (CV.bool (setU u k i)) := by
 unfold setU
 by_cases c : i = k
 · rw [if_pos c, if_pos c]; exact rfl
 · rw [if_neg c, if_neg c]; exact rfl
theorem snK_eq {t : Torn} {m : Int} (hn : 0 < t.n) (g : Nat) : (m % (t.n : Int) + (g : Int)) % (t.n : Int) = ((snK t m g : Nat) : Int) ∧ snK t m g < t.n := by
 have h0 := Int.emod_nonneg m (show (t.n : Int) ≠ 0 by omega)
 have e : m % (t.n : Int) = ((snN t m : Nat) : Int) := by unfold snN; omega
 refine ⟨?_, Nat.mod_lt _ hn⟩
 rw [e]
 unfold snK
 first | exact (Int.natCast_emod _ _).symm | exact (Int.natCast_mod _ _).symm | exact (Int.ofNat_emod _ _).symm
def aSn1 (t : Torn) (m : Int) : Ann := { G := Nat, ok := fun _ g => g ≤ t.n, dom := fun st => [osN (st.tm 6), st.nx], tm := fun st g => [(5, .t (.c (.os st.nx 1 (snS t m g).o.length))), (7, .t (intC g))], hp := fun st g => [(osN (st.tm 6), .self, some (.row 4 1 t.n (fun j _ => .bool ((snS t m g).u j)))), (st.nx, .slot 5, some (.row 26 1 (snS t m g).o.length (fun i _ => lstC (snS t m g).o i)))], mu := fun _ g => t.n - g }
structure SnOk (t : Torn) (m : Int) (q j i : Nat) : Prop where
 hi : i < t.n
 u : (snS t m i).u (snK t m i) = false
 hq : q + 1 ≤ usedN t.n (snE t m i q).u
 no : ∀ j', j' < j → useB t.b (snE t m i q) j' = false
def aSn2 (t : Torn) (m : Int) : Ann := { G := Nat × Nat × Nat, ok := fun st g => isI (st.tm 7) g.2.2 ∧ g.2.1 ≤ t.n ∧ SnOk t m g.1 g.2.1 g.2.2, dom := fun st => [osN (st.tm 6), osN (st.tm 9), st.nx], tm := fun st g => [(9, .t (.c (.os st.nx 1 (snE t m g.2.2 g.1).p.length))), (10, .t (intC g.2.1))], hp := fun st g => [(osN (st.tm 6), .self, some (.row 4 1 t.n (fun j _ => .bool ((snE t m g.2.2 g.1).u j)))), (osN (st.tm 9), .self, none), (st.nx, .slot 9, some (.row 3 1 (snE t m g.2.2 g.1).p.length (fun j _ => .int .i64 (gI (snE t m g.2.2 g.1).p j))))], mu := fun _ g => (t.n - g.1) * (t.n + 1) + (t.n - g.2.1) }
theorem q48 (a : sSpn.α) (ha : sSpn.pre a) : CallQ Tryd.prog E0 48 (sSpn.arg a) (sSpn.res a) := by
 obtain ⟨t, m⟩ := a
 refine bare_say E0_ok [(43, sMod)] (show SigsOk Tryd.prog E0 [(43, sMod)] from (SigsOk.nil.cons u43 q43)) [] EvensOk.nil runs { live := true, l := [(48, 4, aSn1 t m), (48, 11, aSn2 t m)] } (fuel := 8) ?_
 refine of_red (q := (0 : Int) ≤ (↑t.n : Int) ∧ (↑t.n : Int) = (↑t.n : Int) ∧ (↑(1 : Nat) : Int) * (↑t.n : Int) ≤ (140737488355328 : Int) ∧ (↑t.n : Int) < (4611686018427387904 : Int) ∧ (∃ (g : Nat), g ≤ t.n ∧ True ∧ ((True ∧ (snS t m g).o.length = (0 : Nat)) ∧ (True ∧ (0 : Int) = (↑g : Int)) ∧ True) ∧ (True ∧ True ∧ t.n = t.n ∧ ∀ (i : Nat), i < t.n → True ∧ (snS t m g).u i = false) ∧ (snS t m g).o.length = (0 : Nat) ∧ True) ∧ ∀ (g : Nat), g ≤ t.n → (decide ((↑g : Int) < (↑t.n : Int)) = true → ∃ (x : Int × Int), ((True ∧ m = x.fst) ∧ (True ∧ (↑t.n : Int) = x.snd) ∧ True) ∧ ((0 : Int) < x.snd ∧ x.snd ≤ (9223372036854775807 : Int)) ∧ inRange IntKind.i64 (x.fst % x.snd + (↑g : Int)) ∧ ∃ (x_1 : Int × Int), ((True ∧ x.fst % x.snd + (↑g : Int) = x_1.fst) ∧ (True ∧ (↑t.n : Int) = x_1.snd) ∧ True) ∧ ((0 : Int) < x_1.snd ∧ x_1.snd ≤ (9223372036854775807 : Int)) ∧ (0 : Int) ≤ x_1.fst % x_1.snd ∧ x_1.fst % x_1.snd < (↑t.n : Int) ∧ ((snS t m g).u (x_1.fst % x_1.snd).toNat = true → inRange IntKind.i64 ((↑g : Int) + (1 : Int)) ∧ ∃ (g' : Nat), g' ≤ t.n ∧ t.n - g' < t.n - g ∧ True ∧ ((True ∧ True ∧ (snS t m g).o.length = (snS t m g').o.length) ∧ (True ∧ (↑g : Int) + (1 : Int) = (↑g' : Int)) ∧ True) ∧ (True ∧ True ∧ t.n = t.n ∧ ∀ (i : Nat), i < t.n → True ∧ (snS t m g).u i = (snS t m g').u i) ∧ (True ∧ True ∧ (snS t m g).o.length = (snS t m g').o.length ∧ ∀ (i : Nat), i < (snS t m g).o.length → True ∧ True ∧ ((snS t m g).o.getD i []).length = ((snS t m g').o.getD i []).length ∧ ∀ (i_1 : Nat), i_1 < ((snS t m g).o.getD i []).length → True ∧ ((snS t m g).o.getD i []).getD i_1 (0 : Int) = ((snS t m g').o.getD i []).getD i_1 (0 : Int)) ∧ True) ∧ ((snS t m g).u (x_1.fst % x_1.snd).toNat = false → (0 : Int) ≤ x_1.fst % x_1.snd ∧ x_1.fst % x_1.snd < (↑t.n : Int) ∧ (0 : Int) ≤ x_1.fst % x_1.snd ∧ x_1.fst % x_1.snd < (↑t.n : Int) ∧ (0 : Int) ≤ x_1.fst % x_1.snd ∧ x_1.fst % x_1.snd < (↑t.n : Int) ∧ (∃ (g_1 : Nat × Nat × Nat), ((↑g : Int) = (↑g_1.snd.snd : Int) ∧ g_1.snd.fst ≤ t.n ∧ SnOk t m g_1.fst g_1.snd.fst g_1.snd.snd) ∧ True ∧ ((True ∧ True ∧ (2 : Nat) = (snE t m g_1.snd.snd g_1.fst).p.length) ∧ (True ∧ (0 : Int) = (↑g_1.snd.fst : Int)) ∧ True) ∧ (True ∧ True ∧ t.n = t.n ∧ ∀ (i : Nat), i < t.n → True ∧ fitP (if i = (x_1.fst % x_1.snd).toNat then ((1 : Nat), fun (x : Nat) => CV.tt).snd 0 else CV.bool ((snS t m g).u i)) (CV.bool ((snE t m g_1.snd.snd g_1.fst).u i))) ∧ (True ∧ True ∧ (2 : Nat) = (snE t m g_1.snd.snd g_1.fst).p.length ∧ ∀ (i : Nat), i < (2 : Nat) → True ∧ (if i = (1 : Nat) then t.b (x_1.fst % x_1.snd).toNat ((0 : Nat) + (nat_lit 0 + (1 : Nat))) else if i = (0 : Nat) then t.b (x_1.fst % x_1.snd).toNat (0 : Nat) else (0 : Int)) = gI (snE t m g_1.snd.snd g_1.fst).p i) ∧ True) ∧ ∀ (g_1 : Nat × Nat × Nat), (↑g : Int) = (↑g_1.snd.snd : Int) ∧ g_1.snd.fst ≤ t.n ∧ SnOk t m g_1.fst g_1.snd.fst g_1.snd.snd → (decide ((↑g_1.snd.fst : Int) < (↑t.n : Int)) = true → (0 : Int) ≤ (↑g_1.snd.fst : Int) ∧ (↑g_1.snd.fst : Int) < (↑t.n : Int) ∧ inRange IntKind.i64 ((↑(snE t m g_1.snd.snd g_1.fst).p.length : Int) - (1 : Int)) ∧ (0 : Int) ≤ (↑(snE t m g_1.snd.snd g_1.fst).p.length : Int) - (1 : Int) ∧ (↑(snE t m g_1.snd.snd g_1.fst).p.length : Int) - (1 : Int) < (↑(snE t m g_1.snd.snd g_1.fst).p.length : Int) ∧ (0 : Int) ≤ (↑g_1.snd.fst : Int) ∧ (↑g_1.snd.fst : Int) < (↑t.n : Int) ∧ ((snE t m g_1.snd.snd g_1.fst).u g_1.snd.fst = true → inRange IntKind.i64 ((↑g_1.snd.fst : Int) + (1 : Int)) ∧ ∃ (g' : Nat × Nat × Nat), ((↑g : Int) = (↑g'.snd.snd : Int) ∧ g'.snd.fst ≤ t.n ∧ SnOk t m g'.fst g'.snd.fst g'.snd.snd) ∧ (t.n - g'.fst) * (t.n + (1 : Nat)) + (t.n - g'.snd.fst) < (t.n - g_1.fst) * (t.n + (1 : Nat)) + (t.n - g_1.snd.fst) ∧ True ∧ ((True ∧ True ∧ (snE t m g_1.snd.snd g_1.fst).p.length = (snE t m g'.snd.snd g'.fst).p.length) ∧ (True ∧ (↑g_1.snd.fst : Int) + (1 : Int) = (↑g'.snd.fst : Int)) ∧ True) ∧ (True ∧ True ∧ t.n = t.n ∧ ∀ (i : Nat), i < t.n → True ∧ (snE t m g_1.snd.snd g_1.fst).u i = (snE t m g'.snd.snd g'.fst).u i) ∧ (True ∧ True ∧ (snE t m g_1.snd.snd g_1.fst).p.length = (snE t m g'.snd.snd g'.fst).p.length ∧ ∀ (i : Nat), i < (snE t m g_1.snd.snd g_1.fst).p.length → True ∧ gI (snE t m g_1.snd.snd g_1.fst).p i = gI (snE t m g'.snd.snd g'.fst).p i) ∧ True) ∧ ((snE t m g_1.snd.snd g_1.fst).u g_1.snd.fst = false → ((t.b g_1.snd.fst (0 : Nat) != gI (snE t m g_1.snd.snd g_1.fst).p ((↑(snE t m g_1.snd.snd g_1.fst).p.length : Int) - (1 : Int)).toNat) = true → ((t.b g_1.snd.fst ((0 : Nat) + (nat_lit 0 + (1 : Nat))) != gI (snE t m g_1.snd.snd g_1.fst).p ((↑(snE t m g_1.snd.snd g_1.fst).p.length : Int) - (1 : Int)).toNat) = true → inRange IntKind.i64 ((↑g_1.snd.fst : Int) + (1 : Int)) ∧ ∃ (g' : Nat × Nat × Nat), ((↑g : Int) = (↑g'.snd.snd : Int) ∧ g'.snd.fst ≤ t.n ∧ SnOk t m g'.fst g'.snd.fst g'.snd.snd) ∧ (t.n - g'.fst) * (t.n + (1 : Nat)) + (t.n - g'.snd.fst) < (t.n - g_1.fst) * (t.n + (1 : Nat)) + (t.n - g_1.snd.fst) ∧ True ∧ ((True ∧ True ∧ (snE t m g_1.snd.snd g_1.fst).p.length = (snE t m g'.snd.snd g'.fst).p.length) ∧ (True ∧ (↑g_1.snd.fst : Int) + (1 : Int) = (↑g'.snd.fst : Int)) ∧ True) ∧ (True ∧ True ∧ t.n = t.n ∧ ∀ (i : Nat), i < t.n → True ∧ (snE t m g_1.snd.snd g_1.fst).u i = (snE t m g'.snd.snd g'.fst).u i) ∧ (True ∧ True ∧ (snE t m g_1.snd.snd g_1.fst).p.length = (snE t m g'.snd.snd g'.fst).p.length ∧ ∀ (i : Nat), i < (snE t m g_1.snd.snd g_1.fst).p.length → True ∧ gI (snE t m g_1.snd.snd g_1.fst).p i = gI (snE t m g'.snd.snd g'.fst).p i) ∧ True) ∧ ((t.b g_1.snd.fst ((0 : Nat) + (nat_lit 0 + (1 : Nat))) != gI (snE t m g_1.snd.snd g_1.fst).p ((↑(snE t m g_1.snd.snd g_1.fst).p.length : Int) - (1 : Int)).toNat) = false → (0 : Int) ≤ (↑g_1.snd.fst : Int) ∧ (↑g_1.snd.fst : Int) < (↑t.n : Int) ∧ inRange IntKind.i64 (t.b g_1.snd.fst (0 : Nat) + t.b g_1.snd.fst ((0 : Nat) + (nat_lit 0 + (1 : Nat)))) ∧ inRange IntKind.i64 (t.b g_1.snd.fst (0 : Nat) + t.b g_1.snd.fst ((0 : Nat) + (nat_lit 0 + (1 : Nat))) - gI (snE t m g_1.snd.snd g_1.fst).p ((↑(snE t m g_1.snd.snd g_1.fst).p.length : Int) - (1 : Int)).toNat) ∧ ((snE t m g_1.snd.snd g_1.fst).p.length + (1 : Nat)) * (8 : Nat) ≤ (140737488355328 : Nat) ∧ (snE t m g_1.snd.snd g_1.fst).p.length + (1 : Nat) < (4611686018427387904 : Nat) ∧ inRange IntKind.i64 ((-1 : Int) + (1 : Int)) ∧ ∃ (g' : Nat × Nat × Nat), ((↑g : Int) = (↑g'.snd.snd : Int) ∧ g'.snd.fst ≤ t.n ∧ SnOk t m g'.fst g'.snd.fst g'.snd.snd) ∧ (t.n - g'.fst) * (t.n + (1 : Nat)) + (t.n - g'.snd.fst) < (t.n - g_1.fst) * (t.n + (1 : Nat)) + (t.n - g_1.snd.fst) ∧ True ∧ ((True ∧ True ∧ (snE t m g_1.snd.snd g_1.fst).p.length + (1 : Nat) = (snE t m g'.snd.snd g'.fst).p.length) ∧ (True ∧ (-1 : Int) + (1 : Int) = (↑g'.snd.fst : Int)) ∧ True) ∧ (True ∧ True ∧ t.n = t.n ∧ ∀ (i : Nat), i < t.n → True ∧ fitP (if i = g_1.snd.fst then ((1 : Nat), fun (x : Nat) => CV.tt).snd 0 else CV.bool ((snE t m g_1.snd.snd g_1.fst).u i)) (CV.bool ((snE t m g'.snd.snd g'.fst).u i))) ∧ (True ∧ True ∧ (snE t m g_1.snd.snd g_1.fst).p.length + (1 : Nat) = (snE t m g'.snd.snd g'.fst).p.length ∧ ∀ (i : Nat), i < (snE t m g_1.snd.snd g_1.fst).p.length + (1 : Nat) → True ∧ (if i < (snE t m g_1.snd.snd g_1.fst).p.length then gI (snE t m g_1.snd.snd g_1.fst).p i else if i - (snE t m g_1.snd.snd g_1.fst).p.length = (0 : Nat) then t.b g_1.snd.fst (0 : Nat) + t.b g_1.snd.fst ((0 : Nat) + (nat_lit 0 + (1 : Nat))) - gI (snE t m g_1.snd.snd g_1.fst).p ((↑(snE t m g_1.snd.snd g_1.fst).p.length : Int) - (1 : Int)).toNat else (0 : Int)) = gI (snE t m g'.snd.snd g'.fst).p i) ∧ True)) ∧ ((t.b g_1.snd.fst (0 : Nat) != gI (snE t m g_1.snd.snd g_1.fst).p ((↑(snE t m g_1.snd.snd g_1.fst).p.length : Int) - (1 : Int)).toNat) = false → (0 : Int) ≤ (↑g_1.snd.fst : Int) ∧ (↑g_1.snd.fst : Int) < (↑t.n : Int) ∧ inRange IntKind.i64 (t.b g_1.snd.fst (0 : Nat) + t.b g_1.snd.fst ((0 : Nat) + (nat_lit 0 + (1 : Nat)))) ∧ inRange IntKind.i64 (t.b g_1.snd.fst (0 : Nat) + t.b g_1.snd.fst ((0 : Nat) + (nat_lit 0 + (1 : Nat))) - gI (snE t m g_1.snd.snd g_1.fst).p ((↑(snE t m g_1.snd.snd g_1.fst).p.length : Int) - (1 : Int)).toNat) ∧ ((snE t m g_1.snd.snd g_1.fst).p.length + (1 : Nat)) * (8 : Nat) ≤ (140737488355328 : Nat) ∧ (snE t m g_1.snd.snd g_1.fst).p.length + (1 : Nat) < (4611686018427387904 : Nat) ∧ inRange IntKind.i64 ((-1 : Int) + (1 : Int)) ∧ ∃ (g' : Nat × Nat × Nat), ((↑g : Int) = (↑g'.snd.snd : Int) ∧ g'.snd.fst ≤ t.n ∧ SnOk t m g'.fst g'.snd.fst g'.snd.snd) ∧ (t.n - g'.fst) * (t.n + (1 : Nat)) + (t.n - g'.snd.fst) < (t.n - g_1.fst) * (t.n + (1 : Nat)) + (t.n - g_1.snd.fst) ∧ True ∧ ((True ∧ True ∧ (snE t m g_1.snd.snd g_1.fst).p.length + (1 : Nat) = (snE t m g'.snd.snd g'.fst).p.length) ∧ (True ∧ (-1 : Int) + (1 : Int) = (↑g'.snd.fst : Int)) ∧ True) ∧ (True ∧ True ∧ t.n = t.n ∧ ∀ (i : Nat), i < t.n → True ∧ fitP (if i = g_1.snd.fst then ((1 : Nat), fun (x : Nat) => CV.tt).snd 0 else CV.bool ((snE t m g_1.snd.snd g_1.fst).u i)) (CV.bool ((snE t m g'.snd.snd g'.fst).u i))) ∧ (True ∧ True ∧ (snE t m g_1.snd.snd g_1.fst).p.length + (1 : Nat) = (snE t m g'.snd.snd g'.fst).p.length ∧ ∀ (i : Nat), i < (snE t m g_1.snd.snd g_1.fst).p.length + (1 : Nat) → True ∧ (if i < (snE t m g_1.snd.snd g_1.fst).p.length then gI (snE t m g_1.snd.snd g_1.fst).p i else if i - (snE t m g_1.snd.snd g_1.fst).p.length = (0 : Nat) then t.b g_1.snd.fst (0 : Nat) + t.b g_1.snd.fst ((0 : Nat) + (nat_lit 0 + (1 : Nat))) - gI (snE t m g_1.snd.snd g_1.fst).p ((↑(snE t m g_1.snd.snd g_1.fst).p.length : Int) - (1 : Int)).toNat else (0 : Int)) = gI (snE t m g'.snd.snd g'.fst).p i) ∧ True))) ∧ (decide ((↑g_1.snd.fst : Int) < (↑t.n : Int)) = false → ((snS t m g).o.length + (1 : Nat)) * (24 : Nat) ≤ (140737488355328 : Nat) ∧ (snS t m g).o.length + (1 : Nat) < (4611686018427387904 : Nat) ∧ inRange IntKind.i64 ((↑g : Int) + (1 : Int)) ∧ ∃ (g' : Nat), g' ≤ t.n ∧ t.n - g' < t.n - g ∧ True ∧ ((True ∧ True ∧ (snS t m g).o.length + (1 : Nat) = (snS t m g').o.length) ∧ (True ∧ (↑g : Int) + (1 : Int) = (↑g' : Int)) ∧ True) ∧ (True ∧ True ∧ t.n = t.n ∧ ∀ (i : Nat), i < t.n → True ∧ (snE t m g_1.snd.snd g_1.fst).u i = (snS t m g').u i) ∧ (True ∧ True ∧ (snS t m g).o.length + (1 : Nat) = (snS t m g').o.length ∧ ∀ (i : Nat), i < (snS t m g).o.length + (1 : Nat) → True ∧ fitP (mixC (i < (snS t m g).o.length) (lstC (snS t m g).o i) (if i - (snS t m g).o.length = (0 : Nat) then CV.vs (1 : Nat) (snE t m g_1.snd.snd g_1.fst).p.length fun (j x : Nat) => CV.int IntKind.i64 (gI (snE t m g_1.snd.snd g_1.fst).p j) else [CV.nils].getD 0 CV.any)) (lstC (snS t m g').o i)) ∧ True))) ∧ (decide ((↑g : Int) < (↑t.n : Int)) = false → True ∧ True ∧ (snS t m g).o.length = (pcsOf (spunF t.n t.b (snN t m))).np ∧ ∀ (i : Nat), i < (snS t m g).o.length → True ∧ True ∧ ((snS t m g).o.getD i []).length = (pcsOf (spunF t.n t.b (snN t m))).len i ∧ ∀ (i_1 : Nat), i_1 < ((snS t m g).o.getD i []).length → True ∧ ((snS t m g).o.getD i []).getD i_1 (0 : Int) = (pcsOf (spunF t.n t.b (snN t m))).kn i i_1)) (by kernel_rfl) ?_
 simp only [true_and, and_true, inR, Prod.exists, Prod.forall, and_assoc, exists_and_left, exists_eq_left', exists_eq_left, forall_eq, exists_const, forall_const, loopN, loopM, fa2, fas, fas2, dup1, dup2, dup3, dup4, ite_true, exhs, exhn, exhz, exho, exA, ex1, ex2, ex3, ex4, ex5, beqI, bneI, decide_true, Bool.true_and, decide_eq_true_eq, decide_eq_false_iff_not, ne_eq, Decidable.not_not]
 obtain ⟨T, hn⟩ := (show TkOk t ∧ 0 < t.n from ha)
 have B := BrOk.of T
 have h72 := T.few
 have N36 := B.N36
 have hm0 := Int.emod_nonneg m (show (t.n : Int) ≠ 0 by omega)
 have hm1 := Int.emod_lt_of_pos m (show (0 : Int) < t.n by omega)
 have ol : ∀ i, (snS t m i).o.length ≤ i := fun i => spK_len
 refine ⟨by omega, by omega, by omega, ⟨0, Nat.zero_le _, rfl, rfl, fun _ _ => rfl, rfl⟩, fun g hg => ?_, rfl, fun _ _ => ⟨rfl, fun _ _ => rfl⟩⟩
 obtain ⟨eK, hK⟩ := snK_eq (m := m) hn g
 rw [eK, Int.toNat_natCast]
 have olg := ol g
 refine ⟨by omega, by omega, by omega, by omega, by omega, by omega, by omega, by omega, fun hu => ?_, fun hu => ⟨by omega, by omega, by omega, by omega, by omega, by omega, ⟨0, 0, Nat.zero_le _, ⟨hg, hu, ?_, fun j' h => absurd h (Nat.not_lt_zero _)⟩, rfl, rfl, fun i hi => ?_, rfl, fun i hi => ?_⟩, fun q j b hA => ?_⟩⟩
 · have e : snS t m (g + 1) = snS t m g := if_pos hu
   exact ⟨by omega, by omega, g + 1, by omega, by omega, by rw [e], by omega, fun _ _ => by rw [e], by rw [e], fun _ _ => by rw [e]; exact ⟨rfl, fun _ _ => rfl⟩⟩
 · have := usedN_set hK hu
   show 0 + 1 ≤ usedN t.n (setU (snS t m g).u (snK t m g))
   omega
 · exact fit_set
 · match i, hi with
   | 0, _ => rfl
   | 1, _ => rfl
 · obtain ⟨eb, hj, O⟩ := hA
   obtain rfl : b = g := by omega
   have kk := B.kn _ hK
   obtain ⟨pne, prg⟩ := exK_rng B (s := spS0 t.b (snS t m b).u (snK t m b)) (by show [t.b (snK t m b) 0, t.b (snK t m b) 1] ≠ []; simp) (fun v hv => by
     have hv : v ∈ [t.b (snK t m b) 0, t.b (snK t m b) 1] := hv
     rcases List.mem_cons.1 hv with rfl | hv
     · exact kk.1
     · rw [List.mem_singleton.1 hv]; exact kk.2) (m := q)
   have pne : (snE t m b q).p ≠ [] := pne
   have prg : ∀ v ∈ (snE t m b q).p, 0 ≤ v ∧ v < ((t.w * t.h).toNat : Int) := prg
   have pl : (snE t m b q).p.length ≤ 2 + q := exK_len
   have pl0 : 0 < (snE t m b q).p.length := List.length_pos_iff.2 pne
   have hqn : usedN t.n (snE t m b q).u ≤ t.n := cntN_max
   have Oq := O.hq
   have er := prg _ (ltI_mem pne)
   have eT : (((snE t m b q).p.length : Int) - 1).toNat = (snE t m b q).p.length - 1 := by omega
   have e1 : t.b j (0 + (0 + 1)) = t.b j 1 := rfl
   rw [eT, gI_last pne, e1]
   refine ⟨fun hlt => ?_, fun hge => ?_⟩
   · have kn := B.kn j (by omega)
     have go : useB t.b (snE t m b q) j = false → SnOk t m q (j + 1) b := fun h => ⟨O.hi, O.u, O.hq, fun j' hj' => by
       by_cases c : j' = j
       · rw [c]; exact h
       · exact O.no j' (by omega)⟩
     refine ⟨by omega, by omega, by omega, by omega, by omega, by omega, by omega, by omega, fun hu => ?_, fun hu => ⟨fun h0 => ⟨fun h1 => ?_, fun h1 => ?_⟩, fun h0 => ?_⟩⟩
     · exact ⟨by omega, by omega, q, j + 1, by omega, go (by unfold useB; rw [hu]; rfl), by omega, rfl, by omega, fun _ _ => rfl, rfl, fun _ _ => rfl⟩
     · have hinc : inc t.b j (ltI (snE t m b q).p) = false := by
         rw [Bool.eq_false_iff, ne_eq, inc_iff]; exact fun h => h.elim h0 h1
       exact ⟨by omega, by omega, q, j + 1, by omega, go (by unfold useB; rw [hinc, Bool.and_false]), by omega, rfl, by omega, fun _ _ => rfl, rfl, fun _ _ => rfl⟩
     · have hinc : inc t.b j (ltI (snE t m b q).p) = true := inc_iff.2 (.inr h1)
       have hu0 : (snE t m b q).u j = false := hu
       have hj : j < t.n := by omega
       have hus : useB t.b (snE t m b q) j = true := by
         unfold useB; rw [hu0, hinc]; rfl
       have eS : snE t m b (q + 1) = ⟨setU (snE t m b q).u j, (snE t m b q).p ++ [othr t.b j (ltI (snE t m b q).p)]⟩ := exStep_used hj hus O.no
       have hus2 := usedN_set hj hu0
       have hmax : usedN t.n (setU (snE t m b q).u j) ≤ t.n := cntN_max
       have hq := O.hq
       have hmul : (t.n - q) * (t.n + 1) = (t.n - (q + 1)) * (t.n + 1) + (t.n + 1) := by
         rw [show t.n - q = (t.n - (q + 1)) + 1 by omega, Nat.succ_mul]
       have eo : t.b j 0 + t.b j 1 - ltI (snE t m b q).p = othr t.b j (ltI (snE t m b q).p) := rfl
       rw [eo]
       have ro : 0 ≤ othr t.b j (ltI (snE t m b q).p) ∧ othr t.b j (ltI (snE t m b q).p) < 36 := by
         rcases othr_of hinc with ⟨_, e⟩ | ⟨_, e⟩ <;> rw [e] <;> omega
       refine ⟨by omega, by omega, by omega, by omega, by omega, by omega, by omega, by omega, by omega, by omega, q + 1, 0, Nat.zero_le _, ⟨O.hi, O.u, by rw [eS]; show q + 1 + 1 ≤ usedN t.n (setU (snE t m b q).u j); omega, fun j' h => absurd h (Nat.not_lt_zero _)⟩, ?_, by rw [eS]; simp, rfl, fun i hi => ?_, by rw [eS]; simp, fun i hi => ?_⟩
       · rw [hmul]
         generalize (t.n - (q + 1)) * (t.n + 1) = y
         omega
       · rw [eS]; exact fit_set
       · rw [eS]; exact gI_put hi
     · have hinc : inc t.b j (ltI (snE t m b q).p) = true := inc_iff.2 (.inl h0)
       have hu0 : (snE t m b q).u j = false := hu
       have hj : j < t.n := by omega
       have hus : useB t.b (snE t m b q) j = true := by
         unfold useB; rw [hu0, hinc]; rfl
       have eS : snE t m b (q + 1) = ⟨setU (snE t m b q).u j, (snE t m b q).p ++ [othr t.b j (ltI (snE t m b q).p)]⟩ := exStep_used hj hus O.no
       have hus2 := usedN_set hj hu0
       have hmax : usedN t.n (setU (snE t m b q).u j) ≤ t.n := cntN_max
       have hq := O.hq
       have hmul : (t.n - q) * (t.n + 1) = (t.n - (q + 1)) * (t.n + 1) + (t.n + 1) := by
         rw [show t.n - q = (t.n - (q + 1)) + 1 by omega, Nat.succ_mul]
       have eo : t.b j 0 + t.b j 1 - ltI (snE t m b q).p = othr t.b j (ltI (snE t m b q).p) := rfl
       rw [eo]
       have ro : 0 ≤ othr t.b j (ltI (snE t m b q).p) ∧ othr t.b j (ltI (snE t m b q).p) < 36 := by
         rcases othr_of hinc with ⟨_, e⟩ | ⟨_, e⟩ <;> rw [e] <;> omega
       refine ⟨by omega, by omega, by omega, by omega, by omega, by omega, by omega, by omega, by omega, by omega, q + 1, 0, Nat.zero_le _, ⟨O.hi, O.u, by rw [eS]; show q + 1 + 1 ≤ usedN t.n (setU (snE t m b q).u j); omega, fun j' h => absurd h (Nat.not_lt_zero _)⟩, ?_, by rw [eS]; simp, rfl, fun i hi => ?_, by rw [eS]; simp, fun i hi => ?_⟩
       · rw [hmul]
         generalize (t.n - (q + 1)) * (t.n + 1) = y
         omega
       · rw [eS]; exact fit_set
       · rw [eS]; exact gI_put hi
   · obtain rfl : j = t.n := by omega
     have est : snE t m b t.n = snE t m b q := by
       have := exK_stop (s := spS0 t.b (snS t m b).u (snK t m b)) (m := q) O.no (d := t.n - q)
       rw [show q + (t.n - q) = t.n by omega] at this
       exact this
     have e : snS t m (b + 1) = ⟨(snE t m b q).u, (snS t m b).o ++ [(snE t m b q).p]⟩ := by
       rw [← est]
       exact if_neg (by rw [show (spK t.n t.b (snN t m) b).u ((snN t m + b) % t.n) = false from O.u]; decide)
     exact ⟨by omega, by omega, by omega, by omega, b + 1, by omega, by omega, by rw [e]; simp, by omega, fun _ _ => by rw [e], by rw [e]; simp, fun i hi => by rw [e]; exact fit_put hi⟩
end Go.Proofs.YtcfmdhlohahhcaaDoor
