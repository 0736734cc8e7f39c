/- Texts for the law of the last part, part 17. -/
import Derived.Test.YtcfmdhlohahhcaaDoorMendsUptoP16
set_option linter.unusedSimpArgs false
set_option linter.unusedVariables false
namespace Nm
open Go Go.Sx
def mendE (t : Torn) : Int := if tchk t = true then (if t.n = 0 then 4 else 0) else 23
structure MdPost (t : Torn) (L : List (List Int)) : Prop where
 yes : tchk t = true → 0 < t.n → (∀ j, j < t.n → cntL t.b j L = 1) ∧ (∀ p ∈ L, PcOk t.n t.b p) ∧ L.length = few (t.w * t.h).toNat t.n t.b
 no : ¬ (tchk t = true ∧ 0 < t.n) → L = []
theorem jn_nil {ks : List Int} : jnM (jnL []) ks = none := by
 match ks with
 | [] => rfl
 | [v] => rfl
 | v :: w :: l => rfl
theorem fst_none {m : List Int → Option (Int × Nat)} {ks : List Int} (h : fstM m ks = none) : m ks = none := by
 unfold fstM at h
 cases q : m ks with
 | none => rfl
 | some x => rw [q] at h; cases h
def mapJ (m : List Int → Option (Int × Nat)) (x y : Int) (c : Nat) : List Int → Option (Int × Nat) := fun ks => if ks = [y] then some (x, c + 1) else if ks = [x] then some (y, c) else m ks
theorem mapJ_fst {m : List Int → Option (Int × Nat)} {l : List Int} {q c : Nat} {x y : Int} (hl : l.length = 2 * q) (hn : (l ++ [x, y]).Nodup) (h : ∀ ks, fstM m ks = jnM (jnL l) ks) (ks : List Int) : fstM (mapJ m x y c) ks = jnM (jnL (l ++ [x, y])) ks := by
 have other : (∀ v, ks ≠ [v]) → fstM (mapJ m x y c) ks = fstM m ks := fun hk => by
   unfold fstM mapJ
   rw [if_neg (hk y), if_neg (hk x)]
 match ks with
 | [] => rw [other (by simp), h]; rfl
 | v :: w :: l => rw [other (by simp), h]; rfl
 | [v] =>
   show fstM (mapJ m x y c) [v] = jnL (l ++ [x, y]) v
   rw [jnL_two hl hn]
   unfold fstM mapJ
   by_cases a : v = y
   · rw [if_pos (by rw [a]), if_pos a]
   · rw [if_neg (by simpa using a), if_neg a]
     by_cases d : v = x
     · rw [if_pos (by rw [d]), if_pos d]
     · rw [if_neg (by simpa using d), if_neg d]
       exact h [v]
theorem mapJ_st {m : List Int → Option (Int × Nat)} {x y : Int} {c : Nat} (h : ∀ ks a b, m ks = some (a, b) → b < c) (ks : List Int) (a : Int) (b : Nat) (e : mapJ m x y c ks = some (a, b)) : b < c + 2 := by
 unfold mapJ at e
 split at e
 · injection e with e; injection e with _ e; omega
 · split at e
   · injection e with e; injection e with _ e; omega
   · have := h ks a b e; omega
theorem take_two {l : List Int} {i : Nat} (h : i + 1 < l.length) : l.take (i + 2) = l.take i ++ [gI l i, gI l (i + 1)] := by
 have one : ∀ k, k < l.length → l.take (k + 1) = l.take k ++ [gI l k] := fun k hk => by
   unfold gI
   rw [List.take_add_one, List.getD_eq_getElem?_getD, List.getElem?_eq_getElem hk]; rfl
 rw [one (i + 1) h, one i (by omega), List.append_assoc]; rfl
theorem oddL_few {N n : Nat} {b : Nat → Nat → Int} (B : BrOk N n b) {s : Int} (hs : 0 ≤ s ∧ s < N) : (oddL n b s).length ≤ 36 ∧ ∀ v ∈ oddL n b s, 0 ≤ v ∧ v < 36 := by
 have k : ∀ v ∈ oddL n b s, 0 ≤ v ∧ v < 36 := fun v hv => grpK_kn (s := s) B.k36 (by have := B.N36; omega) (i := 36) v (by rw [← grp_eq]; exact (oddL_mem.1 hv).1)
 exact ⟨nod_few oddL_nod k, k⟩
theorem getD_app {o m : List (List Int)} {i : Nat} : (o ++ m).getD i [] = if i < o.length then o.getD i [] else m.getD (i - o.length) [] := by
 rw [List.getD_eq_getElem?_getD, List.getElem?_append]
 split
 · rw [List.getD_eq_getElem?_getD]
 · rw [List.getD_eq_getElem?_getD]
theorem MdInv.few {N n : Nat} {b : Nat → Nat → Int} (B : BrOk N n b) {lf : Nat → Bool} {L : List (List Int)} (M : MdInv N n b lf L) : L.length ≤ 36 * 37 := by
 have N36 := B.N36
 have h := Go.Proofs.YtcfmdhlohahhcaaDoor.sumF_bd (f := fun g => if 0 < gone N n b lf g then needG N n b (lab N n b) g else 0) (c := 37) (fun g => by
   show (if 0 < gone N n b lf g then needG N n b (lab N n b) g else 0) ≤ 37
   split
   · exact Go.Proofs.YtcfmdhlohahhcaaDoor.needG_le N36
   · exact Nat.zero_le _) (n := N)
 rw [← M.num] at h
 have : N * 37 ≤ 36 * 37 := Nat.mul_le_mul_right _ N36
 omega
end Nm
namespace Go.Proofs.YtcfmdhlohahhcaaDoor
open Go Go.Sx Nm
set_option maxRecDepth 100000
set_option maxHeartbeats 4000000
def rMd : KSpec where
 γ := Torn
 δ := List (List Int)
 ok t := t.wf
 arg t := [tornTV t]
 hp _ := []
 post t L := MdPost t L
 fin _ _ := []
 res t L := [pcsTV (pcsOf L), intC (mendE t)]
noncomputable def E1 : Env := E0.kep 99 rSp
theorem E1_ok : EnvOk Tryd.prog E1 := E0_ok.kep r99
theorem E0_gl : E0.gl = E1.gl := rfl
def aMe (t : Torn) : Ann := { G := Nat × (Nat → Bool) × List (List Int), ok := fun _ x => x.1 ≤ t.n ∧ MdInv (t.w * t.h).toNat t.n t.b x.2.1 x.2.2 ∧ ∀ j, j < x.1 → x.2.1 j = false, dom := fun st => [osN (st.tm 6), osN (st.tm 7), st.nx], tm := fun st x => [(8, .t (.c (.os st.nx 1 x.2.2.length))), (29, .t (intC x.1))], hp := fun st x => [(osN (st.tm 6), .self, some (.box 72 (fun j => .bool (x.2.1 j)))), (osN (st.tm 7), .self, some (.mp MI (numM t.b t.n))), (st.nx, .slot 8, some (.row 26 1 x.2.2.length (fun i _ => lstC x.2.2 i)))], mu := fun _ x => t.n - x.1 }
def aJn (t : Torn) : Ann := { G := Int × Nat × (List Int → Option (Int × Nat)), ok := fun st x => isI (st.tm 1) x.1 ∧ 2 * x.2.1 ≤ (oddL t.n t.b x.1).length ∧ (∀ ks, fstM x.2.2 ks = jnM (jnL ((oddL t.n t.b x.1).take (2 * x.2.1))) ks) ∧ (∀ ks v, x.2.2 ks = some v → v.2 < 2 * x.2.1), dom := fun st => [osN (st.tm 15)], tm := fun _ x => [(12, .t (intC (2 * x.2.1 : Nat)))], hp := fun st x => [(osN (st.tm 15), .self, some (.mq MJ x.2.2 (2 * x.2.1)))], mu := fun _ x => (oddL t.n t.b x.1).length - 2 * x.2.1 }
def cJ1 (t : Torn) : Ann := { G := Int, ok := fun st x => isI (st.tm 1) x, dom := fun st => [osN (st.tm 15)], tm := fun _ _ => [], hp := fun st x => [(osN (st.tm 15), .self, some (.mp MJ (jnM (jnL (oddL t.n t.b x)))))], mu := fun _ _ => 0 }
def cJ2 : Ann := { G := Unit, ok := fun _ _ => True, dom := fun st => [st.nx, st.nx + 1], tm := fun st _ => [(13, .t (.c (.ptr st.nx 0)))], hp := fun st _ => [(st.nx, .self, some (.box 1 (fun _ => .os (st.nx + 1) 4 0))), (st.nx + 1, .box st.nx 0, some (.row 173 4 0 (fun _ _ => .int .i64 0)))], mu := fun _ _ => 0 }
theorem r34 : ∀ t, rMd.ok t → SemK Tryd.prog E1 34 rMd t := by
 refine kept_say E1_ok [(81, sCut), (80, sGrp), (30, sCkT)] ((show SigsOk Tryd.prog E0 [(81, sCut), (80, sGrp), (30, sCkT)] from (((SigsOk.nil.cons u30 q30).cons u80 q80).cons u81 q81)).congr E0_gl) [] EvensOk.nil runs rMd (fun t => { live := true, l := [(34, 8, aMe t), (73, 4, aAl t), (82, 3, aJn t)], c := [(82, 6, cJ1 t), (82, 7, cJ2)], o := [(82, 5, oJ)] }) (fuel := 8) fun t ht => ?_
 refine of_red (q := ∃ (x : Torn), ((True∧((((True∧True∧t.w = x.w)∧True∧t.h = x.h)∧True∧True∧t.n = x.n∧∀ (i : Nat), i < t.n→(True∧t.b i 0 = x.b i 0)∧t.b i 1 = x.b i 1)∧True∧t.m = x.m)∧True∧t.k = x.k)∧True)∧(x.n < (4611686018427387904 : Nat)∧∀ (i : Nat), i < x.n→((-9223372036854775808 : Int)≤x.b i (0 : Nat)∧x.b i (0 : Nat)≤(9223372036854775807 : Int))∧(-9223372036854775808 : Int)≤x.b i (1 : Nat)∧x.b i (1 : Nat)≤(9223372036854775807 : Int))∧((tchkE x != (0 : Int)) = true→∃ (d : List (List Int)), MdPost t d∧True∧True∧(True∧(pcsOf d).np = (0 : Nat))∧(True∧tchkE x = mendE t)∧True)∧((tchkE x != (0 : Int)) = false→(∃ (g : Nat), g≤t.n∧True∧((True∧(0 : Int) = (↑g : Int))∧True)∧(True∧∀ (j : Nat), j < (72 : Nat)→True∧decide (j < g) = false)∧(True∧∀ (ks : List Int), none = numM t.b g ks)∧True)∧∀ (g : Nat), g≤t.n→(decide ((↑g : Int) < (↑t.n : Int)) = true→(0 : Int)≤(↑g : Int)∧(↑g : Int) < (↑t.n : Int)∧(0 : Int)≤(↑g : Int)∧(↑g : Int) < (↑(72 : Nat) : Int)∧inRange IntKind.i64 (t.b g (0 : Nat))∧inRange IntKind.i64 (t.b g ((0 : Nat) + (1 : Nat)))∧inRange IntKind.i64 ((↑g : Int) + (1 : Int))∧∃ (g' : Nat), g'≤t.n∧t.n - g' < t.n - g∧True∧((True∧(↑g : Int) + (1 : Int) = (↑g' : Int))∧True)∧(True∧∀ (j : Nat), j < (72 : Nat)→True∧(if j = (0 : Nat) + g * (1 : Nat) + (0 : Nat) then true else decide (j < g)) = decide (j < g'))∧(True∧∀ (ks : List Int), (if ks = [t.b g (0 : Nat), t.b g ((0 : Nat) + (1 : Nat))] then some (↑g : Int) else numM t.b g ks) = numM t.b g' ks)∧True)∧(decide ((↑g : Int) < (↑t.n : Int)) = false→(∃ (g_1 : Nat × (Nat→Bool) × List (List Int)), (g_1.fst≤t.n∧MdInv (t.w * t.h).toNat t.n t.b g_1.snd.fst g_1.snd.snd∧∀ (j : Nat), j < g_1.fst→g_1.snd.fst j = false)∧True∧((True∧g_1.snd.snd.length = (0 : Nat))∧(True∧(0 : Int) = (↑g_1.fst : Int))∧True)∧(True∧∀ (j : Nat), j < (72 : Nat)→True∧decide (j < g) = g_1.snd.fst j)∧(True∧∀ (ks : List Int), numM t.b g ks = numM t.b t.n ks)∧g_1.snd.snd.length = (0 : Nat)∧True)∧∀ (g : Nat × (Nat→Bool) × List (List Int)), (g.fst≤t.n∧MdInv (t.w * t.h).toNat t.n t.b g.snd.fst g.snd.snd∧∀ (j : Nat), j < g.fst→g.snd.fst j = false)→(decide ((↑g.fst : Int) < (↑t.n : Int)) = true→(0 : Int)≤(↑g.fst : Int)∧(↑g.fst : Int) < (↑t.n : Int)∧(0 : Int)≤(↑g.fst : Int)∧(↑g.fst : Int) < (↑(72 : Nat) : Int)∧((!g.snd.fst ((0 : Nat) + g.fst * (1 : Nat) + (0 : Nat) + (0 : Nat))) = true→inRange IntKind.i64 ((↑g.fst : Int) + (1 : Int))∧∃ (g' : Nat × (Nat→Bool) × List (List Int)), (g'.fst≤t.n∧MdInv (t.w * t.h).toNat t.n t.b g'.snd.fst g'.snd.snd∧∀ (j : Nat), j < g'.fst→g'.snd.fst j = false)∧t.n - g'.fst < t.n - g.fst∧True∧((True∧True∧g.snd.snd.length = g'.snd.snd.length)∧(True∧(↑g.fst : Int) + (1 : Int) = (↑g'.fst : Int))∧True)∧(True∧∀ (j : Nat), j < (72 : Nat)→True∧g.snd.fst j = g'.snd.fst j)∧(True∧∀ (ks : List Int), numM t.b t.n ks = numM t.b t.n ks)∧(True∧True∧g.snd.snd.length = g'.snd.snd.length∧∀ (i : Nat), i < g.snd.snd.length→True∧True∧(g.snd.snd.getD i []).length = (g'.snd.snd.getD i []).length∧∀ (i_1 : Nat), i_1 < (g.snd.snd.getD i []).length→True∧(g.snd.snd.getD i []).getD i_1 (0 : Int) = (g'.snd.snd.getD i []).getD i_1 (0 : Int))∧True)∧((!g.snd.fst ((0 : Nat) + g.fst * (1 : Nat) + (0 : Nat) + (0 : Nat))) = false→∃ (x : GpAsk), ((True∧((((True∧True∧t.w = x.t.w)∧True∧t.h = x.t.h)∧True∧True∧t.n = x.t.n∧∀ (i : Nat), i < t.n→(True∧t.b i 0 = x.t.b i 0)∧t.b i 1 = x.t.b i 1)∧True∧t.m = x.t.m)∧True∧t.k = x.t.k)∧(True∧t.b g.fst (0 : Nat) = x.s)∧True)∧(TkOk x.t∧(0 : Int)≤x.s∧x.s < (36 : Int))∧((∃ (g_1 : Int × Nat × (List Int→Option (Int × Nat))), (t.b g.fst (0 : Nat) = g_1.fst∧(2 : Nat) * g_1.snd.fst≤(oddL t.n t.b g_1.fst).length∧(∀ (ks : List Int), fstM g_1.snd.snd ks = jnM (jnL (List.take ((2 : Nat) * g_1.snd.fst) (oddL t.n t.b g_1.fst))) ks)∧∀ (ks : List Int) (v : Int × Nat), g_1.snd.snd ks = some v→v.snd < (2 : Nat) * g_1.snd.fst)∧True∧((True∧(0 : Int) = (↑((2 : Nat) * g_1.snd.fst) : Int))∧True)∧(True∧(∀ (ks : List Int), none = g_1.snd.snd ks)∧(0 : Nat) = (2 : Nat) * g_1.snd.fst)∧True)∧∀ (g_1 : Int × Nat × (List Int→Option (Int × Nat))), (t.b g.fst (0 : Nat) = g_1.fst∧(2 : Nat) * g_1.snd.fst≤(oddL t.n t.b g_1.fst).length∧(∀ (ks : List Int), fstM g_1.snd.snd ks = jnM (jnL (List.take ((2 : Nat) * g_1.snd.fst) (oddL t.n t.b g_1.fst))) ks)∧∀ (ks : List Int) (v : Int × Nat), g_1.snd.snd ks = some v→v.snd < (2 : Nat) * g_1.snd.fst)→inRange IntKind.i64 ((↑((2 : Nat) * g_1.snd.fst) : Int) + (1 : Int))∧(decide ((↑((2 : Nat) * g_1.snd.fst) : Int) + (1 : Int) < (↑(oddL x.t.n x.t.b x.s).length : Int)) = true→(0 : Int)≤(↑((2 : Nat) * g_1.snd.fst) : Int)∧(↑((2 : Nat) * g_1.snd.fst) : Int) < (↑(oddL x.t.n x.t.b x.s).length : Int)∧inRange IntKind.i64 ((↑((2 : Nat) * g_1.snd.fst) : Int) + (1 : Int))∧(0 : Int)≤(↑((2 : Nat) * g_1.snd.fst) : Int) + (1 : Int)∧(↑((2 : Nat) * g_1.snd.fst) : Int) + (1 : Int) < (↑(oddL x.t.n x.t.b x.s).length : Int)∧inRange IntKind.i64 ((↑((2 : Nat) * g_1.snd.fst) : Int) + (1 : Int))∧(0 : Int)≤(↑((2 : Nat) * g_1.snd.fst) : Int) + (1 : Int)∧(↑((2 : Nat) * g_1.snd.fst) : Int) + (1 : Int) < (↑(oddL x.t.n x.t.b x.s).length : Int)∧(0 : Int)≤(↑((2 : Nat) * g_1.snd.fst) : Int)∧(↑((2 : Nat) * g_1.snd.fst) : Int) < (↑(oddL x.t.n x.t.b x.s).length : Int)∧inRange IntKind.i64 (gI (oddL x.t.n x.t.b x.s) ((2 : Nat) * g_1.snd.fst))∧stmp (if [gI (oddL x.t.n x.t.b x.s) ((2 : Nat) * g_1.snd.fst)] = [gI (oddL x.t.n x.t.b x.s) ((2 : Nat) * g_1.snd.fst)] then some (entV (g_1.snd.snd [gI (oddL x.t.n x.t.b x.s) ((2 : Nat) * g_1.snd.fst)]), entS ((2 : Nat) * g_1.snd.fst) (g_1.snd.snd [gI (oddL x.t.n x.t.b x.s) ((2 : Nat) * g_1.snd.fst)])) else g_1.snd.snd [gI (oddL x.t.n x.t.b x.s) ((2 : Nat) * g_1.snd.fst)]) = some (↑(entS ((2 : Nat) * g_1.snd.fst) (g_1.snd.snd [gI (oddL x.t.n x.t.b x.s) ((2 : Nat) * g_1.snd.fst)])) : Int)∧inRange IntKind.i64 (gI (oddL x.t.n x.t.b x.s) ((↑((2 : Nat) * g_1.snd.fst) : Int) + (1 : Int)).toNat)∧stmp (if [gI (oddL x.t.n x.t.b x.s) ((↑((2 : Nat) * g_1.snd.fst) : Int) + (1 : Int)).toNat] = [gI (oddL x.t.n x.t.b x.s) ((↑((2 : Nat) * g_1.snd.fst) : Int) + (1 : Int)).toNat] then some (entV (if [gI (oddL x.t.n x.t.b x.s) ((↑((2 : Nat) * g_1.snd.fst) : Int) + (1 : Int)).toNat] = [gI (oddL x.t.n x.t.b x.s) ((2 : Nat) * g_1.snd.fst)] then some (gI (oddL x.t.n x.t.b x.s) ((↑((2 : Nat) * g_1.snd.fst) : Int) + (1 : Int)).toNat, entS ((2 : Nat) * g_1.snd.fst) (g_1.snd.snd [gI (oddL x.t.n x.t.b x.s) ((2 : Nat) * g_1.snd.fst)])) else if [gI (oddL x.t.n x.t.b x.s) ((↑((2 : Nat) * g_1.snd.fst) : Int) + (1 : Int)).toNat] = [gI (oddL x.t.n x.t.b x.s) ((2 : Nat) * g_1.snd.fst)] then some (entV (g_1.snd.snd [gI (oddL x.t.n x.t.b x.s) ((2 : Nat) * g_1.snd.fst)]), entS ((2 : Nat) * g_1.snd.fst) (g_1.snd.snd [gI (oddL x.t.n x.t.b x.s) ((2 : Nat) * g_1.snd.fst)])) else g_1.snd.snd [gI (oddL x.t.n x.t.b x.s) ((↑((2 : Nat) * g_1.snd.fst) : Int) + (1 : Int)).toNat]), entS (entC ((2 : Nat) * g_1.snd.fst) (g_1.snd.snd [gI (oddL x.t.n x.t.b x.s) ((2 : Nat) * g_1.snd.fst)])) (if [gI (oddL x.t.n x.t.b x.s) ((↑((2 : Nat) * g_1.snd.fst) : Int) + (1 : Int)).toNat] = [gI (oddL x.t.n x.t.b x.s) ((2 : Nat) * g_1.snd.fst)] then some (gI (oddL x.t.n x.t.b x.s) ((↑((2 : Nat) * g_1.snd.fst) : Int) + (1 : Int)).toNat, entS ((2 : Nat) * g_1.snd.fst) (g_1.snd.snd [gI (oddL x.t.n x.t.b x.s) ((2 : Nat) * g_1.snd.fst)])) else if [gI (oddL x.t.n x.t.b x.s) ((↑((2 : Nat) * g_1.snd.fst) : Int) + (1 : Int)).toNat] = [gI (oddL x.t.n x.t.b x.s) ((2 : Nat) * g_1.snd.fst)] then some (entV (g_1.snd.snd [gI (oddL x.t.n x.t.b x.s) ((2 : Nat) * g_1.snd.fst)]), entS ((2 : Nat) * g_1.snd.fst) (g_1.snd.snd [gI (oddL x.t.n x.t.b x.s) ((2 : Nat) * g_1.snd.fst)])) else g_1.snd.snd [gI (oddL x.t.n x.t.b x.s) ((↑((2 : Nat) * g_1.snd.fst) : Int) + (1 : Int)).toNat])) else if [gI (oddL x.t.n x.t.b x.s) ((↑((2 : Nat) * g_1.snd.fst) : Int) + (1 : Int)).toNat] = [gI (oddL x.t.n x.t.b x.s) ((2 : Nat) * g_1.snd.fst)] then some (gI (oddL x.t.n x.t.b x.s) ((↑((2 : Nat) * g_1.snd.fst) : Int) + (1 : Int)).toNat, entS ((2 : Nat) * g_1.snd.fst) (g_1.snd.snd [gI (oddL x.t.n x.t.b x.s) ((2 : Nat) * g_1.snd.fst)])) else if [gI (oddL x.t.n x.t.b x.s) ((↑((2 : Nat) * g_1.snd.fst) : Int) + (1 : Int)).toNat] = [gI (oddL x.t.n x.t.b x.s) ((2 : Nat) * g_1.snd.fst)] then some (entV (g_1.snd.snd [gI (oddL x.t.n x.t.b x.s) ((2 : Nat) * g_1.snd.fst)]), entS ((2 : Nat) * g_1.snd.fst) (g_1.snd.snd [gI (oddL x.t.n x.t.b x.s) ((2 : Nat) * g_1.snd.fst)])) else g_1.snd.snd [gI (oddL x.t.n x.t.b x.s) ((↑((2 : Nat) * g_1.snd.fst) : Int) + (1 : Int)).toNat]) = some (↑(entS (entC ((2 : Nat) * g_1.snd.fst) (g_1.snd.snd [gI (oddL x.t.n x.t.b x.s) ((2 : Nat) * g_1.snd.fst)])) (if [gI (oddL x.t.n x.t.b x.s) ((↑((2 : Nat) * g_1.snd.fst) : Int) + (1 : Int)).toNat] = [gI (oddL x.t.n x.t.b x.s) ((2 : Nat) * g_1.snd.fst)] then some (gI (oddL x.t.n x.t.b x.s) ((↑((2 : Nat) * g_1.snd.fst) : Int) + (1 : Int)).toNat, entS ((2 : Nat) * g_1.snd.fst) (g_1.snd.snd [gI (oddL x.t.n x.t.b x.s) ((2 : Nat) * g_1.snd.fst)])) else if [gI (oddL x.t.n x.t.b x.s) ((↑((2 : Nat) * g_1.snd.fst) : Int) + (1 : Int)).toNat] = [gI (oddL x.t.n x.t.b x.s) ((2 : Nat) * g_1.snd.fst)] then some (entV (g_1.snd.snd [gI (oddL x.t.n x.t.b x.s) ((2 : Nat) * g_1.snd.fst)]), entS ((2 : Nat) * g_1.snd.fst) (g_1.snd.snd [gI (oddL x.t.n x.t.b x.s) ((2 : Nat) * g_1.snd.fst)])) else g_1.snd.snd [gI (oddL x.t.n x.t.b x.s) ((↑((2 : Nat) * g_1.snd.fst) : Int) + (1 : Int)).toNat])) : Int)∧inRange IntKind.i64 ((↑((2 : Nat) * g_1.snd.fst) : Int) + (2 : Int))∧∃ (g' : Int × Nat × (List Int→Option (Int × Nat))), (t.b g.fst (0 : Nat) = g'.fst∧(2 : Nat) * g'.snd.fst≤(oddL t.n t.b g'.fst).length∧(∀ (ks : List Int), fstM g'.snd.snd ks = jnM (jnL (List.take ((2 : Nat) * g'.snd.fst) (oddL t.n t.b g'.fst))) ks)∧∀ (ks : List Int) (v : Int × Nat), g'.snd.snd ks = some v→v.snd < (2 : Nat) * g'.snd.fst)∧(oddL t.n t.b g'.fst).length - (2 : Nat) * g'.snd.fst < (oddL t.n t.b g_1.fst).length - (2 : Nat) * g_1.snd.fst∧True∧((True∧(↑((2 : Nat) * g_1.snd.fst) : Int) + (2 : Int) = (↑((2 : Nat) * g'.snd.fst) : Int))∧True)∧(True∧(∀ (ks : List Int), (if ks = [gI (oddL x.t.n x.t.b x.s) ((↑((2 : Nat) * g_1.snd.fst) : Int) + (1 : Int)).toNat] then some (gI (oddL x.t.n x.t.b x.s) ((2 : Nat) * g_1.snd.fst), entS (entC ((2 : Nat) * g_1.snd.fst) (g_1.snd.snd [gI (oddL x.t.n x.t.b x.s) ((2 : Nat) * g_1.snd.fst)])) (if [gI (oddL x.t.n x.t.b x.s) ((↑((2 : Nat) * g_1.snd.fst) : Int) + (1 : Int)).toNat] = [gI (oddL x.t.n x.t.b x.s) ((2 : Nat) * g_1.snd.fst)] then some (gI (oddL x.t.n x.t.b x.s) ((↑((2 : Nat) * g_1.snd.fst) : Int) + (1 : Int)).toNat, entS ((2 : Nat) * g_1.snd.fst) (g_1.snd.snd [gI (oddL x.t.n x.t.b x.s) ((2 : Nat) * g_1.snd.fst)])) else if [gI (oddL x.t.n x.t.b x.s) ((↑((2 : Nat) * g_1.snd.fst) : Int) + (1 : Int)).toNat] = [gI (oddL x.t.n x.t.b x.s) ((2 : Nat) * g_1.snd.fst)] then some (entV (g_1.snd.snd [gI (oddL x.t.n x.t.b x.s) ((2 : Nat) * g_1.snd.fst)]), entS ((2 : Nat) * g_1.snd.fst) (g_1.snd.snd [gI (oddL x.t.n x.t.b x.s) ((2 : Nat) * g_1.snd.fst)])) else g_1.snd.snd [gI (oddL x.t.n x.t.b x.s) ((↑((2 : Nat) * g_1.snd.fst) : Int) + (1 : Int)).toNat])) else if ks = [gI (oddL x.t.n x.t.b x.s) ((↑((2 : Nat) * g_1.snd.fst) : Int) + (1 : Int)).toNat] then some (entV (if [gI (oddL x.t.n x.t.b x.s) ((↑((2 : Nat) * g_1.snd.fst) : Int) + (1 : Int)).toNat] = [gI (oddL x.t.n x.t.b x.s) ((2 : Nat) * g_1.snd.fst)] then some (gI (oddL x.t.n x.t.b x.s) ((↑((2 : Nat) * g_1.snd.fst) : Int) + (1 : Int)).toNat, entS ((2 : Nat) * g_1.snd.fst) (g_1.snd.snd [gI (oddL x.t.n x.t.b x.s) ((2 : Nat) * g_1.snd.fst)])) else if [gI (oddL x.t.n x.t.b x.s) ((↑((2 : Nat) * g_1.snd.fst) : Int) + (1 : Int)).toNat] = [gI (oddL x.t.n x.t.b x.s) ((2 : Nat) * g_1.snd.fst)] then some (entV (g_1.snd.snd [gI (oddL x.t.n x.t.b x.s) ((2 : Nat) * g_1.snd.fst)]), entS ((2 : Nat) * g_1.snd.fst) (g_1.snd.snd [gI (oddL x.t.n x.t.b x.s) ((2 : Nat) * g_1.snd.fst)])) else g_1.snd.snd [gI (oddL x.t.n x.t.b x.s) ((↑((2 : Nat) * g_1.snd.fst) : Int) + (1 : Int)).toNat]), entS (entC ((2 : Nat) * g_1.snd.fst) (g_1.snd.snd [gI (oddL x.t.n x.t.b x.s) ((2 : Nat) * g_1.snd.fst)])) (if [gI (oddL x.t.n x.t.b x.s) ((↑((2 : Nat) * g_1.snd.fst) : Int) + (1 : Int)).toNat] = [gI (oddL x.t.n x.t.b x.s) ((2 : Nat) * g_1.snd.fst)] then some (gI (oddL x.t.n x.t.b x.s) ((↑((2 : Nat) * g_1.snd.fst) : Int) + (1 : Int)).toNat, entS ((2 : Nat) * g_1.snd.fst) (g_1.snd.snd [gI (oddL x.t.n x.t.b x.s) ((2 : Nat) * g_1.snd.fst)])) else if [gI (oddL x.t.n x.t.b x.s) ((↑((2 : Nat) * g_1.snd.fst) : Int) + (1 : Int)).toNat] = [gI (oddL x.t.n x.t.b x.s) ((2 : Nat) * g_1.snd.fst)] then some (entV (g_1.snd.snd [gI (oddL x.t.n x.t.b x.s) ((2 : Nat) * g_1.snd.fst)]), entS ((2 : Nat) * g_1.snd.fst) (g_1.snd.snd [gI (oddL x.t.n x.t.b x.s) ((2 : Nat) * g_1.snd.fst)])) else g_1.snd.snd [gI (oddL x.t.n x.t.b x.s) ((↑((2 : Nat) * g_1.snd.fst) : Int) + (1 : Int)).toNat])) else if ks = [gI (oddL x.t.n x.t.b x.s) ((2 : Nat) * g_1.snd.fst)] then some (gI (oddL x.t.n x.t.b x.s) ((↑((2 : Nat) * g_1.snd.fst) : Int) + (1 : Int)).toNat, entS ((2 : Nat) * g_1.snd.fst) (g_1.snd.snd [gI (oddL x.t.n x.t.b x.s) ((2 : Nat) * g_1.snd.fst)])) else if ks = [gI (oddL x.t.n x.t.b x.s) ((2 : Nat) * g_1.snd.fst)] then some (entV (g_1.snd.snd [gI (oddL x.t.n x.t.b x.s) ((2 : Nat) * g_1.snd.fst)]), entS ((2 : Nat) * g_1.snd.fst) (g_1.snd.snd [gI (oddL x.t.n x.t.b x.s) ((2 : Nat) * g_1.snd.fst)])) else g_1.snd.snd ks) = g'.snd.snd ks)∧entC (entC ((2 : Nat) * g_1.snd.fst) (g_1.snd.snd [gI (oddL x.t.n x.t.b x.s) ((2 : Nat) * g_1.snd.fst)])) (if [gI (oddL x.t.n x.t.b x.s) ((↑((2 : Nat) * g_1.snd.fst) : Int) + (1 : Int)).toNat] = [gI (oddL x.t.n x.t.b x.s) ((2 : Nat) * g_1.snd.fst)] then some (gI (oddL x.t.n x.t.b x.s) ((↑((2 : Nat) * g_1.snd.fst) : Int) + (1 : Int)).toNat, entS ((2 : Nat) * g_1.snd.fst) (g_1.snd.snd [gI (oddL x.t.n x.t.b x.s) ((2 : Nat) * g_1.snd.fst)])) else if [gI (oddL x.t.n x.t.b x.s) ((↑((2 : Nat) * g_1.snd.fst) : Int) + (1 : Int)).toNat] = [gI (oddL x.t.n x.t.b x.s) ((2 : Nat) * g_1.snd.fst)] then some (entV (g_1.snd.snd [gI (oddL x.t.n x.t.b x.s) ((2 : Nat) * g_1.snd.fst)]), entS ((2 : Nat) * g_1.snd.fst) (g_1.snd.snd [gI (oddL x.t.n x.t.b x.s) ((2 : Nat) * g_1.snd.fst)])) else g_1.snd.snd [gI (oddL x.t.n x.t.b x.s) ((↑((2 : Nat) * g_1.snd.fst) : Int) + (1 : Int)).toNat]) = (2 : Nat) * g'.snd.fst)∧True)∧(decide ((↑((2 : Nat) * g_1.snd.fst) : Int) + (1 : Int) < (↑(oddL x.t.n x.t.b x.s).length : Int)) = false→∃ (g_2 : Int), t.b g.fst (0 : Nat) = g_2∧True∧True∧(True∧∀ (ks : List Int), fstM g_1.snd.snd ks = jnM (jnL (oddL t.n t.b g_2)) ks)∧True))∧∀ (g_1 : Int), t.b g.fst (0 : Nat) = g_1→(∃ (g : Unit), True∧True∧((True∧(0 : Nat) = (0 : Nat))∧True)∧(True∧True∧True∧(0 : Nat) = (0 : Nat))∧(0 : Nat) = (0 : Nat)∧True)∧∀ (g_2 : Unit), True→(lookFn fnTab (99 : Nat)).isSome = true∧∃ (g_3 : SpAsk), (TkOk g_3.t∧GrOk g_3.t.n g_3.t.b g_3.C∧SpPre g_3.t.n g_3.t.b g_3.C g_3.s g_3.k g_3.e∧g_3.Y.length + muS g_3.t.n g_3.s≤(1000 : Nat)∧(0 : Int)≤g_3.k∧g_3.k < (36 : Int))∧True∧((True∧t.b g.fst (0 : Nat) = g_3.k)∧(True∧(0 : Nat) = (0 : Nat))∧(True∧(0 : Nat) = (0 : Nat))∧(True∧(0 : Nat) = (0 : Nat))∧(True∧(0 : Nat) = (0 : Nat))∧(True∧(0 : Nat) = (0 : Nat))∧(True∧(0 : Nat) = (0 : Nat))∧True)∧((True∧((((True∧True∧t.w = g_3.t.w)∧True∧t.h = g_3.t.h)∧True∧True∧t.n = g_3.t.n∧∀ (i : Nat), i < t.n→(True∧t.b i 0 = g_3.t.b i 0)∧t.b i 1 = g_3.t.b i 1)∧True∧t.m = g_3.t.m)∧True∧t.k = g_3.t.k)∧(True∧True∧True)∧(True∧True∧True∧(0 : Nat) = (0 : Nat))∧(True∧True∧True∧True∧(((((True∧True∧(0 : Nat) = (0 : Nat))∧True∧(0 : Nat) = (0 : Nat))∧True∧(0 : Nat) = (0 : Nat))∧True∧(0 : Nat) = (0 : Nat))∧True∧(0 : Nat) = (0 : Nat))∧True∧(0 : Nat) = (0 : Nat))∧(True∧True∧True∧True∧(0 : Nat) = g_3.Y.length)∧(True∧True∧True)∧(True∧∀ (ks : List Int), numM t.b t.n ks = numM g_3.t.b g_3.t.n ks)∧(True∧∀ (j : Nat), j < (72 : Nat)→True∧g.snd.fst j = g_3.s.lf j)∧(True∧∀ (ks : List Int), jnM (jnL (oddL t.n t.b g_1)) ks = jnM g_3.s.jn ks)∧(True∧True∧(0 : Nat) = g_3.Y.length∧∀ (i : Nat), i < (0 : Nat)→(((True∧(0 : Int) = thC g_3.t (thI g_3.Y i) 0)∧(0 : Int) = thC g_3.t (thI g_3.Y i) 1)∧(0 : Int) = thC g_3.t (thI g_3.Y i) 2)∧(0 : Int) = thC g_3.t (thI g_3.Y i) 3)∧True)∧∀ (d : rSp.δ), SpPost g_3.t.n g_3.t.b g_3.C g_3.s g_3.k g_3.e d.fst d.snd→∃ (x : CuAsk), ((True∧True∧(g_3.Y ++ d.snd).length = x.l.length∧∀ (i : Nat), i < (g_3.Y ++ d.snd).length→(((True∧thC g_3.t (thI (g_3.Y ++ d.snd) i) 0 = thC x.t (thI x.l i) 0)∧thC g_3.t (thI (g_3.Y ++ d.snd) i) 1 = thC x.t (thI x.l i) 1)∧thC g_3.t (thI (g_3.Y ++ d.snd) i) 2 = thC x.t (thI x.l i) 2)∧thC g_3.t (thI (g_3.Y ++ d.snd) i) 3 = thC x.t (thI x.l i) 3)∧True)∧(x.l.length≤(1000 : Nat)∧∀ (x_1 : Th), List.Mem x_1 x.l→∀ (i : Nat), x_1.q = some i→(0 : Int)≤x.t.b i (0 : Nat))∧(g.snd.snd.length + (pcsOf (cutF x.l)).np) * (24 : Nat)≤(140737488355328 : Nat)∧g.snd.snd.length + (pcsOf (cutF x.l)).np < (4611686018427387904 : Nat)∧inRange IntKind.i64 ((↑g.fst : Int) + (1 : Int))∧∃ (g' : Nat × (Nat→Bool) × List (List Int)), (g'.fst≤t.n∧MdInv (t.w * t.h).toNat t.n t.b g'.snd.fst g'.snd.snd∧∀ (j : Nat), j < g'.fst→g'.snd.fst j = false)∧t.n - g'.fst < t.n - g.fst∧True∧((True∧True∧g.snd.snd.length + (pcsOf (cutF x.l)).np = g'.snd.snd.length)∧(True∧(↑g.fst : Int) + (1 : Int) = (↑g'.fst : Int))∧True)∧(True∧∀ (j : Nat), j < (72 : Nat)→True∧d.fst.lf j = g'.snd.fst j)∧(True∧∀ (ks : List Int), numM g_3.t.b g_3.t.n ks = numM t.b t.n ks)∧(True∧True∧g.snd.snd.length + (pcsOf (cutF x.l)).np = g'.snd.snd.length∧∀ (i : Nat), i < g.snd.snd.length + (pcsOf (cutF x.l)).np→True∧True∧(if i < g.snd.snd.length then (g.snd.snd.getD i []).length else (pcsOf (cutF x.l)).len (i - g.snd.snd.length)) = (g'.snd.snd.getD i []).length∧∀ (i_1 : Nat), (i_1 < if i < g.snd.snd.length then (g.snd.snd.getD i []).length else (pcsOf (cutF x.l)).len (i - g.snd.snd.length))→True∧(if i < g.snd.snd.length then (g.snd.snd.getD i []).getD i_1 (0 : Int) else (pcsOf (cutF x.l)).kn (i - g.snd.snd.length) i_1) = (g'.snd.snd.getD i []).getD i_1 (0 : Int))∧True))∧(decide ((↑g.fst : Int) < (↑t.n : Int)) = false→(((↑g.snd.snd.length : Int) == (0 : Int)) = true→∃ (d : List (List Int)), MdPost t d∧True∧True∧(True∧(pcsOf d).np = (0 : Nat))∧(True∧(4 : Int) = mendE t)∧True)∧(((↑g.snd.snd.length : Int) == (0 : Int)) = false→(0 : Int)≤(0 : Int)∧(0 : Int)≤(↑g.snd.snd.length : Int)∧(↑g.snd.snd.length : Int)≤(↑g.snd.snd.length : Int)∧(↑g.snd.snd.length : Int)≤(↑g.snd.snd.length : Int)∧∃ (d : List (List Int)), MdPost t d∧True∧True∧(True∧True∧g.snd.snd.length - (0 : Nat) = (pcsOf d).np∧∀ (i : Nat), i < g.snd.snd.length - (0 : Nat)→True∧True∧(g.snd.snd.getD i []).length = (pcsOf d).len i∧∀ (i_1 : Nat), i_1 < (g.snd.snd.getD i []).length→True∧(g.snd.snd.getD i []).getD i_1 (0 : Int) = (pcsOf d).kn i i_1)∧(True∧(0 : Int) = mendE t)∧True))))) (by kernel_rfl) ?_
 simp only [true_and, and_true, inR, Prod.exists, Prod.forall, and_assoc, exists_and_left, exists_eq_left', exists_eq_left, forall_eq, exists_const, forall_const, loopN, loopM, fa2, fas, fas2, dup1, dup2, dup3, dup4, ite_true, exhs, exhn, exhz, exho, exA, ex1, ex2, ex3, ex4, ex5, beqI, bneI, decide_true, Bool.true_and, decide_eq_true_eq, decide_eq_false_iff_not, ne_eq, Decidable.not_not]
 obtain ⟨hw, hb⟩ := (show t.n < 4611686018427387904 ∧ ∀ i, i < t.n → iR (t.b i 0) ∧ iR (t.b i 1) from ht)
 refine exTn ⟨hw, fun i hi => ⟨(hb i hi).1.1, (hb i hi).1.2, (hb i hi).2.1, (hb i hi).2.2⟩, fun e => ?_, fun e => ?_⟩
 · obtain ⟨e1, e2⟩ := not_tk e
   exact ⟨[], ⟨fun h => by (rw [e1] at h; cases h), fun _ => rfl⟩, rfl, by unfold mendE; rw [e2, if_neg (by rw [e1]; decide)]⟩
 have hc := tk_of e
 have T := tchk_ok hc
 have h72 := T.few
 have B := BrOk.of T
 have N36 := B.N36
 refine ⟨⟨0, by omega, rfl, fun j _ => by omega, fun _ => rfl⟩, fun g hg => ⟨by omega, by omega, by omega, by omega, (hb g hg).1.1, (hb g hg).1.2, (hb g hg).2.1, (hb g hg).2.2, by omega, by omega, g + 1, by omega, by omega, by omega, fun j hj => ?_, fun ks => rfl⟩, ⟨0, Nat.zero_le _, fun j => decide (j < t.n), [], MdInv.start, fun j hj => absurd hj (Nat.not_lt_zero j), rfl, rfl, fun _ _ => rfl, rfl⟩, fun a lf L hA => ?_⟩
 · by_cases d : j = g
   · rw [if_pos (by omega), decide_eq_true (show j < g + 1 by omega)]
   · rw [if_neg (by omega)]; apply decide_eq_decide.2; omega
 obtain ⟨hle, M, hd0⟩ := hA
 have hL := M.few B
 have ei : 0 + a * 1 + 0 + 0 = a := by omega
 rw [ei]
 refine ⟨fun hlt => ⟨by omega, by omega, by omega, by omega, fun hf => ?_, fun hf => ?_⟩, fun hge => ⟨fun h0 => ?_, fun h0 => ?_⟩⟩
 · rw [Bool.not_eq_true'] at hf
   exact ⟨by omega, by omega, a + 1, by omega, lf, L, M, fun j hj => by
     by_cases d : j = a
     · rw [d]; exact hf
     · exact hd0 j (by omega), by omega, rfl, by omega, fun _ _ => rfl, rfl, fun _ _ => ⟨rfl, fun _ _ => rfl⟩⟩
 · rw [Bool.not_eq_false'] at hf
   have ha : a < t.n := by omega
   have hs := (B.kn a ha).1
   obtain ⟨oF, oR⟩ := oddL_few B hs
   obtain ⟨q, hq⟩ := oddL_even B hs
   have P := M.pre B ha hf
   have G : GrOk t.n t.b (· ∈ grp t.n t.b (t.b a 0)) := ⟨fun i hi => Int.ne_of_lt (B.lt i hi), B.cls hs, B.k36⟩
   refine ⟨⟨t, t.b a 0⟩, rfl, rfl, rfl, fun _ _ => ⟨rfl, rfl⟩, rfl, rfl, rfl, T, by show 0 ≤ t.b a 0; omega, by show t.b a 0 < 36; omega, ⟨0, Nat.zero_le _, fun _ => none, fun ks => ?_, fun ks a b h => (by cases h), rfl, fun _ => rfl, rfl⟩, fun s p m hA => ?_, fun g1 hg1 => ?_⟩
   · rw [Nat.mul_zero, List.take_zero, jn_nil]; rfl
   · obtain ⟨es, h2p, hm, hst⟩ := hA
     subst es
     show -9223372036854775808 ≤ ((2 * p : Nat) : Int) + 1 ∧ ((2 * p : Nat) : Int) + 1 ≤ 9223372036854775807 ∧ (((2 * p : Nat) : Int) + 1 < ((oddL t.n t.b (t.b a 0)).length : Int) → _) ∧ (¬ ((2 * p : Nat) : Int) + 1 < ((oddL t.n t.b (t.b a 0)).length : Int) → _)
     generalize hO : oddL t.n t.b (t.b a 0) = O at *
     refine ⟨by omega, by omega, fun h1 => ?_, fun h1 => ?_⟩
     · have h1' : 2 * p + 1 < O.length := by omega
       have eT : (((2 * p : Nat) : Int) + 1).toNat = 2 * p + 1 := by omega
       have nod : O.Nodup := by rw [← hO]; exact oddL_nod
       have etk := take_two h1'
       have nod2 : (O.take (2 * p) ++ [gI O (2 * p), gI O (2 * p + 1)]).Nodup := by rw [← etk]; exact nod.sublist (List.take_sublist _ _)
       have tl : (O.take (2 * p)).length = 2 * p := by rw [List.length_take]; omega
       have r0 := oR _ (gI_mem (show 2 * p < O.length by omega))
       have r1 := oR _ (gI_mem h1')
       rw [eT]
       generalize gI O (2 * p) = o0 at *
       generalize gI O (2 * p + 1) = o1 at *
       have nn := List.nodup_append.1 nod2
       have n01 : o1 ≠ o0 := fun e => by
         have := nn.2.1
         rw [e] at this
         simp at this
       have no : ∀ x, x ∈ [o0, o1] → m [x] = none := fun x hx => by
         apply fst_none
         rw [hm]
         show jnL (O.take (2 * p)) x = none
         cases c : jnL (O.take (2 * p)) x with
         | none => rfl
         | some w => exact absurd rfl (nn.2.2 x (jnL_mem c).1 x hx)
       have hb0 := no o0 (by simp)
       have hb1 := no o1 (by simp)
       have hn10 : ([o1] = [o0]) = False := by simp [n01]
       simp only [hb0, hb1, hn10, if_false, entV, entS, entC]
       refine ⟨by omega, by omega, by omega, by omega, by omega, by omega, by omega, by omega, by omega, by omega, by omega, by omega, by omega, by omega, rfl, by omega, by omega, rfl, by omega, by omega, p + 1, by omega, mapJ m o0 o1 (2 * p), fun ks => ?_, fun ks a b e => ?_, by omega, by omega, fun ks => ?_, by omega⟩
       · rw [show 2 * (p + 1) = 2 * p + 2 by omega, etk]
         exact mapJ_fst (q := p) tl nod2 hm ks
       · have := mapJ_st hst ks a b e; omega
       · unfold mapJ
         by_cases c : ks = [o1]
         · rw [if_pos c, if_pos c]
         · rw [if_neg c, if_neg c, if_neg c]
           by_cases d : ks = [o0]
           · rw [if_pos d, if_pos d]
           · rw [if_neg d, if_neg d, if_neg d]
     · intro ks
       rw [hm, List.take_of_length_le (by omega)]
   · subst hg1
     refine ⟨is99, ⟨t, (· ∈ grp t.n t.b (t.b a 0)), ⟨lf, jnL (oddL t.n t.b (t.b a 0))⟩, t.b a 0, t.b a 0, []⟩, T, G, P, ?_, by show 0 ≤ t.b a 0; omega, by show t.b a 0 < 36; omega, rfl, rfl, rfl, rfl, fun _ _ => ⟨rfl, rfl⟩, rfl, rfl, rfl, fun _ => rfl, fun _ _ => rfl, fun _ => rfl, rfl, fun i hi => absurd hi (Nat.not_lt_zero i), fun d hd => ?_⟩
     · show 0 + (cntN t.n lf + cntN 36 _) ≤ 1000
       have h1 := cntN_max (p := lf) (n := t.n)
       have h2 := cntN_max (p := fun v : Nat => ((jnL (oddL t.n t.b (t.b a 0))) (v : Int)).isSome) (n := 36)
       show 0 + (cntN t.n lf + cntN 36 fun v : Nat => ((jnL (oddL t.n t.b (t.b a 0))) (v : Int)).isSome) ≤ 1000
       omega
     · have hd : SpPost t.n t.b (· ∈ grp t.n t.b (t.b a 0)) ⟨lf, jnL (oddL t.n t.b (t.b a 0))⟩ (t.b a 0) (t.b a 0) d.1 d.2 := hd
       have M2 := M.step B ha hf hd
       have hL2 := M2.few B
       have hWl : d.2.length ≤ 1000 := by
         have h0 := hd.len
         have h1 := cntN_max (p := lf) (n := t.n)
         have h2 := cntN_max (p := fun v : Nat => ((jnL (oddL t.n t.b (t.b a 0))) (v : Int)).isSome) (n := 36)
         have h3 : muS t.n ⟨lf, jnL (oddL t.n t.b (t.b a 0))⟩ = cntN t.n lf + cntN 36 fun v : Nat => ((jnL (oddL t.n t.b (t.b a 0))) (v : Int)).isSome := rfl
         omega
       have enp : (pcsOf (cutF d.2)).np = (cutF d.2).length := rfl
       rw [List.length_append] at hL2
       refine ⟨⟨t, d.2⟩, rfl, fun _ _ => ⟨rfl, rfl, rfl, rfl⟩, hWl, fun x hx i e => ?_, by rw [enp]; omega, by rw [enp]; omega, by omega, by omega, a + 1, by omega, d.1.lf, L ++ cutF d.2, M2, fun j hj => ?_, by omega, by rw [enp, List.length_append], by omega, fun _ _ => rfl, fun _ => rfl, by rw [enp, List.length_append], fun i hi => ?_⟩
       · have o := hd.acc.ok x hx
         unfold ThOk at o
         rw [e] at o
         exact (B.kn i o.1).1.1
       · by_cases c : j = a
         · subst c
           exact (hd.clo (t.b j 0) (.inl rfl)).1 j ha (inc_iff.2 (.inl rfl))
         · rw [hd.acc.lf]
           show (lf j && _) = false
           rw [hd0 j (by omega)]; rfl
       · rw [getD_app]
         by_cases c : i < L.length
         · simp only [if_pos c]; exact ⟨trivial, fun _ _ => trivial⟩
         · simp only [if_neg c]; exact ⟨rfl, fun _ _ => rfl⟩
 · obtain rfl : a = t.n := by omega
   have h0 : L = [] := List.length_eq_zero_iff.1 (by omega)
   subst h0
   obtain ⟨k1, k2, k3⟩ := M.end_ B hd0
   have n0 : t.n = 0 := by
     apply Classical.byContradiction
     intro hn
     have := k1 0 (by omega)
     cases this
   exact ⟨[], ⟨fun _ h => by omega, fun _ => rfl⟩, rfl, by unfold mendE; rw [if_pos hc, if_pos n0]⟩
 · obtain rfl : a = t.n := by omega
   obtain ⟨k1, k2, k3⟩ := M.end_ B hd0
   have n0 : t.n ≠ 0 := fun hn => by
     cases L with
     | nil => exact h0 rfl
     | cons p L =>
       have hp := k2 p (by simp)
       match p, hp with
       | [], hp => exact absurd hp.1 (by decide)
       | [x], hp => exact absurd hp.1 (by simp)
       | x :: y :: l, hp =>
         obtain ⟨j, hj, _⟩ := hp.2.1
         omega
   exact ⟨by omega, by omega, by omega, by omega, L, ⟨fun _ _ => ⟨k1, k2, k3⟩, fun h => absurd ⟨hc, by omega⟩ h⟩, rfl, fun _ _ => ⟨rfl, fun _ _ => rfl⟩, by unfold mendE; rw [if_pos hc, if_neg n0]⟩
end Go.Proofs.YtcfmdhlohahhcaaDoor
namespace Nm
open Go Go.Sx
theorem steps_sum {N n : Nat} {b : Nat → Nat → Int} (B : BrOk N n b) : ∀ {p : List Int}, p ≠ [] → hasP n b p → sumF n (fun j => cntP b j p) + 1 = p.length
 | [], h, _ => absurd rfl h
 | [x], _, _ => by
   have : sumF n (fun j => cntP b j [x]) = 0 := sumF_zero fun _ _ => rfl
   rw [this]; rfl
 | x :: y :: l, _, h => by
   have ih := steps_sum B (p := y :: l) (by simp) h.2
   have e : sumF n (fun j => cntP b j (x :: y :: l)) = sumF n (fun j => stp b x y j) + sumF n (fun j => cntP b j (y :: l)) := by
     rw [← sumF_add]; rfl
   obtain ⟨j, hj, hb⟩ := h.1
   obtain ⟨_, hs⟩ := stp_bar B.lt B.dif hj (step_bar B hj hb)
   have := sumF_one (f := fun i => stp b x y i) (g := fun _ => 0) (k := j) (d := 1) hj (fun i hi hne => by rw [hs i hi, if_neg hne]) (by rw [hs j hj, if_pos rfl])
   rw [sumF_zero fun _ _ => rfl] at this
   rw [e, this, List.length_cons, ← ih]; omega
theorem sumF_const {c : Nat} : ∀ {n : Nat}, sumF n (fun _ => c) = n * c
 | 0 => by rw [Nat.zero_mul]; rfl
 | n + 1 => by rw [sumF, sumF_const, Nat.succ_mul]
theorem cntP_le {b : Nat → Nat → Int} {j : Nat} : ∀ {L : List (List Int)} {p : List Int}, p ∈ L → cntP b j p ≤ cntL b j L
 | [], p, h => by cases h
 | q :: L, p, h => by
   show _ ≤ cntP b j q + cntL b j L
   rcases List.mem_cons.1 h with rfl | h
   · omega
   · have := cntP_le (b := b) (j := j) h; omega
theorem sum_pcs {N n : Nat} {b : Nat → Nat → Int} (B : BrOk N n b) : ∀ {L : List (List Int)}, (∀ p ∈ L, PcOk n b p) → L.length ≤ sumF n fun j => cntL b j L
 | [], _ => Nat.zero_le _
 | p :: L, h => by
   have ih := sum_pcs B (L := L) fun q hq => h q (List.mem_cons.2 (.inr hq))
   have hp := h p (List.mem_cons.2 (.inl rfl))
   have ne : p ≠ [] := fun e => by have := hp.1; rw [e] at this; exact absurd this (by decide)
   have s := steps_sum B ne hp.2
   have e : sumF n (fun j => cntL b j (p :: L)) = sumF n (fun j => cntP b j p) + sumF n (fun j => cntL b j L) := by rw [← sumF_add]; rfl
   have := hp.1
   rw [e, List.length_cons]; omega
theorem mend_bd {N n : Nat} {b : Nat → Nat → Int} (B : BrOk N n b) {L : List (List Int)} (h1 : ∀ j, j < n → cntL b j L = 1) (h2 : ∀ p ∈ L, PcOk n b p) : L.length ≤ n ∧ ∀ p ∈ L, p.length ≤ n + 1 ∧ ∀ v ∈ p, 0 ≤ v ∧ v < N := by
 have s1 : sumF n (fun j => cntL b j L) = n := by
   rw [sumF_congr (g := fun _ => 1) fun j hj => h1 j hj, sumF_const, Nat.mul_one]
 refine ⟨by have := sum_pcs B h2; omega, fun p hp => ⟨?_, knot_rng B (h2 p hp).1 (h2 p hp).2⟩⟩
 have ne : p ≠ [] := fun e => by have := (h2 p hp).1; rw [e] at this; exact absurd this (by decide)
 have s := steps_sum B ne (h2 p hp).2
 have := sumF_le (f := fun j => cntP b j p) (g := fun j => cntL b j L) (n := n) fun j _ => cntP_le hp
 omega
theorem pcs_wf {N n : Nat} {b : Nat → Nat → Int} (B : BrOk N n b) (h72 : n ≤ 72) {L : List (List Int)} (h1 : ∀ j, j < n → cntL b j L = 1) (h2 : ∀ p ∈ L, PcOk n b p) : (pcsOf L).wf := by
 obtain ⟨a1, a2⟩ := mend_bd B h1 h2
 have N36 := B.N36
 refine ⟨by show L.length ≤ 1073741824; omega, fun i hi => ?_⟩
 have hi : i < L.length := hi
 have hm : L.getD i [] ∈ L := by rw [List.getD_eq_getElem?_getD, List.getElem?_eq_getElem hi]; exact List.getElem_mem hi
 obtain ⟨c1, c2⟩ := a2 _ hm
 refine ⟨by show (L.getD i []).length ≤ 1073741824; omega, fun k hk => ?_⟩
 have hk : k < (L.getD i []).length := hk
 have := c2 ((L.getD i []).getD k 0) (by
   generalize L.getD i [] = p at hk
   rw [List.getD_eq_getElem?_getD, List.getElem?_eq_getElem hk]; exact List.getElem_mem hk)
 show -9223372036854775808 ≤ (L.getD i []).getD k 0 ∧ (L.getD i []).getD k 0 ≤ 9223372036854775807
 omega
end Nm
namespace Go.Proofs.YtcfmdhlohahhcaaDoor
open Go Go.Sx Nm
set_option maxRecDepth 100000
set_option maxHeartbeats 2000000
noncomputable def E2 : Env := E1.kep 34 rMd
theorem E2_ok : EnvOk Tryd.prog E2 := E1_ok.kep r34
theorem E2_gl : E0.gl = E2.gl := rfl
def twnV (t : Torn) : Int := if tchk t = true then twV t (fewT t) else 0
def sTwn : Sig := ⟨Torn, fun t => [tornTV t], Torn.wf, fun t => [.v (intC (twnV t)), .v (intC (tchkE t))]⟩
theorem is34 : (lookFn fnTab 34).isSome = true := by kernel_rfl
theorem mend4 {t : Torn} (h : mendE t = 4) : tchk t = true ∧ t.n = 0 := by
 unfold mendE at h
 split at h
 · rename_i c
   split at h
   · rename_i d; exact ⟨c, d⟩
   · cases h
 · cases h
theorem mend0 {t : Torn} (h : mendE t = 0) : tchk t = true ∧ t.n ≠ 0 := by
 unfold mendE at h
 split at h
 · rename_i c
   split at h
   · cases h
   · rename_i d; exact ⟨c, d⟩
 · cases h
theorem mend23 {t : Torn} (h : ¬ mendE t = 4) (h0 : ¬ mendE t = 0) : tchk t = false ∧ mendE t = 23 := by
 unfold mendE at h h0 ⊢
 cases c : tchk t with
 | true =>
   rw [c, if_pos rfl] at h h0
   split at h <;> rename_i d
   · exact absurd rfl h
   · rw [if_neg d] at h0; exact absurd rfl h0
 | false => exact ⟨rfl, rfl⟩
theorem few_none {N : Nat} {b : Nat → Nat → Int} : few N 0 b = 0 := by
 unfold few
 refine sumF_zero fun g _ => ?_
 unfold needG
 rw [if_neg]
 intro h
 obtain ⟨v, _, _, h3⟩ := anyG_iff.1 h
 obtain ⟨i, hi, _⟩ := meets_pos.1 h3
 omega
theorem twn0 {t : Torn} (h : tchk t = true) (hn : t.n = 0) : twnV t = 0 := by
 unfold twnV
 rw [if_pos h]
 have : fewT t = 0 := by unfold fewT; rw [hn]; exact few_none
 unfold twV
 rw [this, hn]; simp
theorem few_le72 {t : Torn} (T : TkOk t) : fewT t ≤ 72 := by
 have B := BrOk.of T
 have h72 := T.few
 have := few_le (L := (List.range t.n).map fun i => [t.b i 0, t.b i 1]) B (fun j hj => ?_) (fun p hp => ?_)
 · rw [List.length_map, List.length_range] at this
   exact Nat.le_trans this h72
 · have : ∀ m, m ≤ t.n → cntL t.b j ((List.range m).map fun i => [t.b i 0, t.b i 1]) = if j < m then 1 else 0 := by
     intro m
     induction m with
     | zero => intro _; rfl
     | succ m ih =>
       intro hm
       obtain ⟨_, s2⟩ := stp_bar B.lt B.dif (show m < t.n by omega) (f := t.b m 0) (t := t.b m 1) (.inl ⟨rfl, rfl⟩)
       rw [List.range_succ, List.map_append, cntL_append, ih (by omega)]
       show _ + (stp t.b (t.b m 0) (t.b m 1) j + 0 + 0) = _
       rw [s2 j hj]
       by_cases c : j = m
       · rw [if_neg (by omega), if_pos c, if_pos (by omega)]
       · rw [if_neg c]
         by_cases d : j < m
         · rw [if_pos d, if_pos (by omega)]
         · rw [if_neg d, if_neg (by omega)]
   rw [this t.n (Nat.le_refl _), if_pos hj]
 · obtain ⟨i, hi, rfl⟩ := List.mem_map.1 hp
   have hi := List.mem_range.1 hi
   obtain ⟨s1, _⟩ := stp_bar B.lt B.dif hi (f := t.b i 0) (t := t.b i 1) (.inl ⟨rfl, rfl⟩)
   exact ⟨Nat.le_refl _, ⟨i, hi, s1⟩, trivial⟩
theorem q32 (t : Torn) (ht : t.wf) : CallQ Tryd.prog E0 32 (sTwn.arg t) (sTwn.res t) := by
 refine CallQ.congr (E := E2) (E' := E0) E2_gl.symm (bare_say E2_ok [(75, sTwi), (30, sCkT), (127, sTdN), (123, sTdE), (126, sSl 8), (122, sSl 6), (125, sLg 1), (120, sLg 0), (124, sAt 1), (119, sAt 0), (121, sLong)] ((show SigsOk Tryd.prog E0 [(75, sTwi), (30, sCkT), (127, sTdN), (123, sTdE), (126, sSl 8), (122, sSl 6), (125, sLg 1), (120, sLg 0), (124, sAt 1), (119, sAt 0), (121, sLong)] from (((((((((((SigsOk.nil.cons u121 fun x _ => q121 x).cons u119 fun x _ => q119 x).cons u124 fun x _ => q124 x).cons u120 fun x _ => q120 x).cons u125 fun x _ => q125 x).cons u122 fun x _ => q122 x).cons u126 fun x _ => q126 x).cons u123 q123).cons u127 q127).cons u30 q30).cons u75 q75)).congr E2_gl) [] EvensOk.nil runs { live := true } (fuel := 8) ?_)
 refine of_red (q := (lookFn fnTab (34 : Nat)).isSome = true∧∃ (g : Torn), (g.n < (4611686018427387904 : Nat)∧∀ (i : Nat), i < g.n→((-9223372036854775808 : Int)≤g.b i (0 : Nat)∧g.b i (0 : Nat)≤(9223372036854775807 : Int))∧(-9223372036854775808 : Int)≤g.b i (1 : Nat)∧g.b i (1 : Nat)≤(9223372036854775807 : Int))∧True∧((True∧((((True∧True∧t.w = g.w)∧True∧t.h = g.h)∧True∧True∧t.n = g.n∧∀ (i : Nat), i < t.n→(True∧t.b i 0 = g.b i 0)∧t.b i 1 = g.b i 1)∧True∧t.m = g.m)∧True∧t.k = g.k)∧True)∧True∧∀ (d : rMd.δ), MdPost g d→((mendE g == (4 : Int)) = true→(True∧(0 : Int) = twnV t)∧(True∧(0 : Int) = tchkE t)∧True)∧((mendE g == (4 : Int)) = false→((mendE g == (0 : Int)) = true→∃ (x : TwAsk), ((True∧((((True∧True∧t.w = x.t.w)∧True∧t.h = x.t.h)∧True∧True∧t.n = x.t.n∧∀ (i : Nat), i < t.n→(True∧t.b i 0 = x.t.b i 0)∧t.b i 1 = x.t.b i 1)∧True∧t.m = x.t.m)∧True∧t.k = x.t.k)∧(True∧(↑(pcsOf d).np : Int) = (↑x.p : Int))∧True)∧(tk0 x.t = true∧x.t.n≤(72 : Nat)∧x.p≤(1000 : Nat))∧(True∧twV x.t (↑x.p : Int) = twnV t)∧(True∧(0 : Int) = tchkE t)∧True)∧((mendE g == (0 : Int)) = false→(True∧(0 : Int) = twnV t)∧(True∧mendE g = tchkE t)∧True))) (by kernel_rfl) ?_
 simp only [true_and, and_true, inR, Prod.exists, Prod.forall, and_assoc, exists_and_left, exists_eq_left', exists_eq_left, forall_eq, exists_const, forall_const, loopN, loopM, fa2, fas, fas2, dup1, dup2, dup3, dup4, ite_true, exhs, exhn, exhz, exho, exA, ex1, ex2, ex3, ex4, ex5, beqI, bneI, decide_true, Bool.true_and, decide_eq_true_eq, decide_eq_false_iff_not, ne_eq, Decidable.not_not]
 obtain ⟨hw, hb⟩ := (show t.n < 4611686018427387904 ∧ ∀ i, i < t.n → iR (t.b i 0) ∧ iR (t.b i 1) from ht)
 refine ⟨is34, t, hw, fun i hi => ⟨(hb i hi).1.1, (hb i hi).1.2, (hb i hi).2.1, (hb i hi).2.2⟩, rfl, rfl, rfl, fun _ _ => ⟨rfl, rfl⟩, rfl, rfl, fun d hd => ⟨fun h => ?_, fun h => ⟨fun h0 => ?_, fun h0 => ?_⟩⟩⟩
 · obtain ⟨h1, h2⟩ := mend4 h
   unfold tchkE
   rw [if_pos h1, twn0 h1 h2]; exact ⟨rfl, rfl⟩
 · obtain ⟨h1, h2⟩ := mend0 h0
   have T := tchk_ok h1
   obtain ⟨c1, c2, c3⟩ := hd.yes h1 (by omega)
   have c4 := (mend_bd (BrOk.of T) c1 c2).1
   have h72 := T.few
   have enp : (pcsOf d).np = d.length := rfl
   refine exTw ⟨T.t0, h72, by show (pcsOf d).np ≤ 1000; omega, ?_, by unfold tchkE; rw [if_pos h1]⟩
   unfold twnV
   rw [if_pos h1]
   show twV t ((pcsOf d).np : Int) = twV t (fewT t : Nat)
   rw [enp, c3]; rfl
 · obtain ⟨h1, h2⟩ := mend23 h h0
   unfold twnV tchkE
   rw [h2, h1]; exact ⟨rfl, rfl⟩
theorem q33 (t : Torn) (ht : t.wf) : CallQ Tryd.prog E0 33 (sTwn.arg t) (sTwn.res t) := by
 refine bare_say E0_ok [(35, sFew), (77, sTwi), (31, sCkT)] (show SigsOk Tryd.prog E0 [(35, sFew), (77, sTwi), (31, sCkT)] from (((SigsOk.nil.cons u31 q31).cons u77 q77).cons u35 q35)) [] EvensOk.nil runs { live := true } (fuel := 8) ?_
 refine of_red (q := ∃ (x : Torn), ((True∧((((True∧True∧t.w = x.w)∧True∧t.h = x.h)∧True∧True∧t.n = x.n∧∀ (i : Nat), i < t.n→(True∧t.b i 0 = x.b i 0)∧t.b i 1 = x.b i 1)∧True∧t.m = x.m)∧True∧t.k = x.k)∧True)∧(x.n < (4611686018427387904 : Nat)∧∀ (i : Nat), i < x.n→((-9223372036854775808 : Int)≤x.b i (0 : Nat)∧x.b i (0 : Nat)≤(9223372036854775807 : Int))∧(-9223372036854775808 : Int)≤x.b i (1 : Nat)∧x.b i (1 : Nat)≤(9223372036854775807 : Int))∧((tchkE x != (0 : Int)) = true→(True∧(0 : Int) = twnV t)∧(True∧tchkE x = tchkE t)∧True)∧((tchkE x != (0 : Int)) = false→∃ (x : Torn), ((True∧((((True∧True∧t.w = x.w)∧True∧t.h = x.h)∧True∧True∧t.n = x.n∧∀ (i : Nat), i < t.n→(True∧t.b i 0 = x.b i 0)∧t.b i 1 = x.b i 1)∧True∧t.m = x.m)∧True∧t.k = x.k)∧True)∧TkOk x∧∃ (x_1 : TwAsk), ((True∧((((True∧True∧t.w = x_1.t.w)∧True∧t.h = x_1.t.h)∧True∧True∧t.n = x_1.t.n∧∀ (i : Nat), i < t.n→(True∧t.b i 0 = x_1.t.b i 0)∧t.b i 1 = x_1.t.b i 1)∧True∧t.m = x_1.t.m)∧True∧t.k = x_1.t.k)∧(True∧(↑(fewT x) : Int) = (↑x_1.p : Int))∧True)∧(tk0 x_1.t = true∧x_1.t.n≤(72 : Nat)∧x_1.p≤(1000 : Nat))∧(True∧twV x_1.t (↑x_1.p : Int) = twnV t)∧(True∧(0 : Int) = tchkE t)∧True)) (by kernel_rfl) ?_
 simp only [true_and, and_true, inR, Prod.exists, Prod.forall, and_assoc, exists_and_left, exists_eq_left', exists_eq_left, forall_eq, exists_const, forall_const, loopN, loopM, fa2, fas, fas2, dup1, dup2, dup3, dup4, ite_true, exhs, exhn, exhz, exho, exA, ex1, ex2, ex3, ex4, ex5, beqI, bneI, decide_true, Bool.true_and, decide_eq_true_eq, decide_eq_false_iff_not, ne_eq, Decidable.not_not]
 obtain ⟨hw, hb⟩ := (show t.n < 4611686018427387904 ∧ ∀ i, i < t.n → iR (t.b i 0) ∧ iR (t.b i 1) from ht)
 refine exTn ⟨hw, fun i hi => ⟨(hb i hi).1.1, (hb i hi).1.2, (hb i hi).2.1, (hb i hi).2.2⟩, fun e => ⟨?_, rfl⟩, fun e => ?_⟩
 · unfold twnV; rw [(not_tk e).1]; rfl
 · have hc := tk_of e
   have T := tchk_ok hc
   have N36 := (BrOk.of T).N36
   have hf : fewT t ≤ 36 * 37 := by
     have h := sumF_bd (f := needG (knN t) t.n t.b (fwR t.n t.b (knN t))) (c := 37) (fun g => needG_le N36) (n := knN t)
     have : knN t * 37 ≤ 36 * 37 := Nat.mul_le_mul_right _ N36
     exact Nat.le_trans h this
   refine exTn ⟨T, exTw ⟨T.t0, T.few, ?_, ?_, by rw [e]⟩⟩
   · show fewT t ≤ 1000
     have := few_le72 T
     omega
   · unfold twnV; rw [if_pos hc]
end Go.Proofs.YtcfmdhlohahhcaaDoor
namespace Nm
open Go Go.Sx
def firstN (p : Nat → Bool) : Nat → Nat → Nat
 | 0, k => k
 | n + 1, k => if p k = true then k else firstN p n (k + 1)
theorem firstN_ok {p : Nat → Bool} : ∀ {n k : Nat}, firstN p n k < k + n → p (firstN p n k) = true
 | 0, k, h => by simp only [firstN] at h; omega
 | n + 1, k, h => by
   rw [firstN] at h ⊢
   split
   · assumption
   · rename_i c
     rw [if_neg c] at h
     exact firstN_ok (by omega)
structure EsS where
 u : Nat → Bool
 p : List Int
def setU (u : Nat → Bool) (j : Nat) : Nat → Bool := fun i => if i = j then true else u i
def useB (b : Nat → Nat → Int) (s : EsS) (j : Nat) : Bool := !s.u j && inc b j (ltI s.p)
def exStep (n : Nat) (b : Nat → Nat → Int) (s : EsS) : EsS := if firstN (useB b s) n 0 < n then ⟨setU s.u (firstN (useB b s) n 0), s.p ++ [othr b (firstN (useB b s) n 0) (ltI s.p)]⟩ else s
def exK (n : Nat) (b : Nat → Nat → Int) (s : EsS) : Nat → EsS
 | 0 => s
 | m + 1 => exStep n b (exK n b s m)
structure EsOk (n : Nat) (b : Nat → Nat → Int) (c : Nat → Nat) (s : EsS) : Prop where
 cnt : ∀ j, j < n → c j + cntP b j s.p = if s.u j = true then 1 else 0
 len : 2 ≤ s.p.length
 has : hasP n b s.p
theorem ltI_snoc {l : List Int} {x : Int} : ltI (l ++ [x]) = x := by unfold ltI; simp
theorem snoc_of {p : List Int} (h : p ≠ []) : ∃ l, p = l ++ [ltI p] := by
 rcases List.eq_nil_or_concat p with rfl | ⟨l, x, rfl⟩
 · exact absurd rfl h
 · rw [List.concat_eq_append, ltI_snoc]; exact ⟨l, rfl⟩
theorem othr_stp {N n : Nat} {b : Nat → Nat → Int} (B : BrOk N n b) {j : Nat} (hj : j < n) {v : Int} (hv : inc b j v = true) : barEq b (imin v (othr b j v)) (imax v (othr b j v)) j = true ∧ ∀ i, i < n → stp b v (othr b j v) i = if i = j then 1 else 0 :=
 stp_bar B.lt B.dif hj (othr_of hv)
theorem EsOk.step {N n : Nat} {b : Nat → Nat → Int} (B : BrOk N n b) {c : Nat → Nat} {s : EsS} (h : EsOk n b c s) : EsOk n b c (exStep n b s) := by
 unfold exStep
 split
 · rename_i hlt
   have hu := firstN_ok (p := useB b s) (n := n) (k := 0) (by omega)
   generalize hj : firstN (useB b s) n 0 = j at *
   unfold useB at hu
   rw [Bool.and_eq_true, Bool.not_eq_true'] at hu
   have ne : s.p ≠ [] := fun e => by have := h.len; rw [e] at this; exact absurd this (by decide)
   obtain ⟨l, el⟩ := snoc_of ne
   obtain ⟨s1, s2⟩ := othr_stp B hlt hu.2
   refine ⟨fun i hi => ?_, ?_, ?_⟩
   · have := h.cnt i hi
     have e : cntP b i (s.p ++ [othr b j (ltI s.p)]) = cntP b i s.p + stp b (ltI s.p) (othr b j (ltI s.p)) i := by
       have := cntP_snoc (b := b) (j := i) (l := l) (x := ltI s.p) (y := othr b j (ltI s.p))
       rw [← el] at this; exact this
     show c i + cntP b i (s.p ++ [othr b j (ltI s.p)]) = if setU s.u j i = true then 1 else 0
     rw [e, s2 i hi]
     unfold setU
     by_cases d : i = j
     · subst d; rw [hu.1] at this; simp only [Bool.false_eq_true, if_false] at this; rw [if_pos rfl, if_pos rfl, if_pos rfl]; omega
     · rw [if_neg d, if_neg d]; omega
   · show 2 ≤ (s.p ++ [_]).length
     have := h.len
     rw [List.length_append]; omega
   · have := hasP_snoc (n := n) (b := b) (l := l) (x := ltI s.p) (y := othr b j (ltI s.p))
     rw [← el] at this
     exact this.2 ⟨h.has, j, hlt, s1⟩
 · exact h
theorem EsOk.k {N n : Nat} {b : Nat → Nat → Int} (B : BrOk N n b) {c : Nat → Nat} {s : EsS} (h : EsOk n b c s) : ∀ {m : Nat}, EsOk n b c (exK n b s m)
 | 0 => h
 | m + 1 => (EsOk.k B h).step B
end Nm
namespace Go.Proofs.YtcfmdhlohahhcaaDoor
open Go Go.Sx Nm
set_option maxRecDepth 100000
set_option maxHeartbeats 2000000
end Go.Proofs.YtcfmdhlohahhcaaDoor
namespace Go.Proofs.YtcfmdhlohahhcaaDoor
open Go Go.Sx Nm
set_option maxRecDepth 100000
def torn4T : Torn := ⟨3, 2, 4, fun i j => ([[0, 1], [1, 2], [1, 4], [0, 3]].getD i []).getD j 0, 10, 3⟩
def torn3T : Torn := ⟨3, 2, 3, fun i j => ([[0, 1], [1, 2], [1, 4]].getD i []).getD j 0, 10, 3⟩
def pcs3 : List (List Int) := [[0, 1, 4], [1, 2]]
theorem tn4 : twnV torn4T = 52 := by decide +kernel
theorem tc4 : tchkE torn4T = 0 := by decide +kernel
theorem tc3 : tchk torn3T = true := by decide +kernel
theorem tE3 : tchkE torn3T = 0 := by decide +kernel
theorem fe3 : few (torn3T.w * torn3T.h).toNat torn3T.n torn3T.b = 2 := by decide +kernel
theorem md3 : mdV torn3T (pcsOf pcs3) = 42 := by decide +kernel
theorem mb3 : mdB torn3T (pcsOf pcs3) = true := by decide +kernel
theorem me3 : mendE torn3T = 0 := by decide +kernel
theorem wf3 : torn3T.wf := ⟨by decide, fun i hi => by
 match i, hi with
 | 0, _ => exact ⟨⟨by decide, by decide⟩, by decide, by decide⟩
 | 1, _ => exact ⟨⟨by decide, by decide⟩, by decide, by decide⟩
 | 2, _ => exact ⟨⟨by decide, by decide⟩, by decide, by decide⟩⟩
theorem wf4 : torn4T.wf := ⟨by decide, fun i hi => by
 match i, hi with
 | 0, _ => exact ⟨⟨by decide, by decide⟩, by decide, by decide⟩
 | 1, _ => exact ⟨⟨by decide, by decide⟩, by decide, by decide⟩
 | 2, _ => exact ⟨⟨by decide, by decide⟩, by decide, by decide⟩
 | 3, _ => exact ⟨⟨by decide, by decide⟩, by decide, by decide⟩⟩
theorem wp3 : (pcsOf pcs3).wf := by
 refine ⟨by decide, fun i hi => ?_⟩
 have hi : i < 2 := hi
 match i, hi with
 | 0, _ => exact ⟨by decide, fun k hk => by
     have hk : k < 3 := hk
     match k, hk with
     | 0, _ => exact ⟨by decide, by decide⟩
     | 1, _ => exact ⟨by decide, by decide⟩
     | 2, _ => exact ⟨by decide, by decide⟩⟩
 | 1, _ => exact ⟨by decide, fun k hk => by
     have hk : k < 2 := hk
     match k, hk with
     | 0, _ => exact ⟨by decide, by decide⟩
     | 1, _ => exact ⟨by decide, by decide⟩⟩
theorem q21g : CallQ Tryd.prog E0 21 [] [.v (.c (.bool true))] := by
 refine CallQ.congr (E := E2) (E' := E0) E2_gl.symm (bare_say E2_ok [(52, sTo), (28, sMd), (32, sTwn), (26, sShift), (24, sCanF), (22, sApart), (19, sFouls), (15, sLies), (46, sTwo), (41, sTwo)] ((show SigsOk Tryd.prog E0 [(52, sTo), (28, sMd), (32, sTwn), (26, sShift), (24, sCanF), (22, sApart), (19, sFouls), (15, sLies), (46, sTwo), (41, sTwo)] from ((((((((((SigsOk.nil.cons u41 fun x _ => q41 x).cons u46 fun x _ => q46 x).cons u15 q15).cons u19 q19).cons u22 q22).cons u24 q24).cons u26 q26).cons u32 q32).cons u28 q28).cons u52 q52)).congr E2_gl) [] EvensOk.nil runs { live := true } (fuel := 8) ?_)
 refine of_red (q := ∃ (x : Int × Int), ((True∧(10 : Int) = x.fst)∧(True∧(20 : Int) = x.snd)∧True)∧True∧∃ (x_1 : Int × Int), ((True∧(10 : Int) = x_1.fst)∧(True∧(20 : Int) = x_1.snd)∧True)∧True∧∃ (x_2 : Int × Int), ((True∧(10 : Int) = x_2.fst)∧(True∧(20 : Int) = x_2.snd)∧True)∧True∧(0 : Int)≤(3 : Int)∧(3 : Int) = (3 : Int)∧(↑(16 : Nat) : Int) * (3 : Int)≤(140737488355328 : Int)∧(3 : Int) < (4611686018427387904 : Int)∧∃ (x_3 : Int × Int), ((True∧(25 : Int) = x_3.fst)∧(True∧(0 : Int) = x_3.snd)∧True)∧True∧∃ (x_4 : LAsk), ((True∧(((True∧True∧True∧(3 : Nat) = x_4.x.hE∧∀ (i : Nat), i < (3 : Nat)→(True∧(if i = (2 : Nat) then x_2.fst else if i = (1 : Nat) then x_1.fst else if i = (0 : Nat) then x.fst else (0 : Int)) = x_4.x.e i 0)∧(if i = (2 : Nat) then x_2.snd else if i = (1 : Nat) then x_1.snd else if i = (0 : Nat) then x.snd else (0 : Int)) = x_4.x.e i 1)∧True∧True∧(3 : Nat) = x_4.x.hN∧∀ (i : Nat), i < (3 : Nat)→(True∧(0 : Int) = x_4.x.n i 0)∧(0 : Int) = x_4.x.n i 1)∧True∧(5 : Int) = x_4.x.gap)∧True∧True∧(2 : Nat) = x_4.x.k∧∀ (i : Nat), i < (2 : Nat)→(((((((((True∧(if i = (1 : Nat) then x_3.fst else if i = (0 : Nat) then (0 : Int) else (0 : Int)) = x_4.x.net i 0)∧(if i = (1 : Nat) then x_3.snd else if i = (0 : Nat) then (0 : Int) else (0 : Int)) = x_4.x.net i 1)∧(if i = (1 : Nat) then (100 : Int) else if i = (0 : Nat) then (100 : Int) else (0 : Int)) = x_4.x.net i 2)∧(if i = (1 : Nat) then (1 : Int) else if i = (0 : Nat) then (1 : Int) else (0 : Int)) = x_4.x.net i 3)∧(if i = (1 : Nat) then (1 : Int) else if i = (0 : Nat) then (0 : Int) else (0 : Int)) = x_4.x.net i 4)∧(if i = (1 : Nat) then (3 : Int) else if i = (0 : Nat) then (3 : Int) else (0 : Int)) = x_4.x.net i 5)∧(if i = (1 : Nat) then (0 : Int) else if i = (0 : Nat) then (0 : Int) else (0 : Int)) = x_4.x.net i 6)∧(if i = (1 : Nat) then (0 : Int) else if i = (0 : Nat) then (0 : Int) else (0 : Int)) = x_4.x.net i 7)∧(if i = (1 : Nat) then (0 : Int) else if i = (0 : Nat) then (0 : Int) else (0 : Int)) = x_4.x.net i 8)∧(if i = (1 : Nat) then (0 : Int) else if i = (0 : Nat) then (0 : Int) else (0 : Int)) = x_4.x.net i 9)∧(True∧(((True∧True∧True∧(3 : Nat) = x_4.t.nE∧∀ (i : Nat), i < (3 : Nat)→True∧(if i = (2 : Nat) then (14 : Int) else if i = (1 : Nat) then (12 : Int) else if i = (0 : Nat) then (10 : Int) else (0 : Int)) = x_4.t.e i)∧True∧True∧(3 : Nat) = x_4.t.nN∧∀ (i : Nat), i < (3 : Nat)→True∧(if i = (2 : Nat) then (0 : Int) else if i = (1 : Nat) then (0 : Int) else if i = (0 : Nat) then (0 : Int) else (0 : Int)) = x_4.t.n i)∧True∧True∧(2 : Nat) = x_4.t.nSE∧∀ (i : Nat), i < (2 : Nat)→True∧(if i = (1 : Nat) then (0 : Int) else if i = (0 : Nat) then (0 : Int) else (0 : Int)) = x_4.t.se i)∧True∧True∧(2 : Nat) = x_4.t.nSN∧∀ (i : Nat), i < (2 : Nat)→True∧(if i = (1 : Nat) then (0 : Int) else if i = (0 : Nat) then (0 : Int) else (0 : Int)) = x_4.t.sn i)∧(True∧(1 : Int) = x_4.k)∧(True∧(3 : Int) = x_4.h)∧True)∧((x_4.x.hE < (4611686018427387904 : Nat)∧x_4.x.hN < (4611686018427387904 : Nat)∧x_4.x.k < (4611686018427387904 : Nat))∧x_4.t.nE < (4611686018427387904 : Nat)∧x_4.t.nN < (4611686018427387904 : Nat)∧x_4.t.nSE < (4611686018427387904 : Nat)∧x_4.t.nSN < (4611686018427387904 : Nat))∧∃ (x : Int × Int), ((True∧(10 : Int) = x.fst)∧(True∧(20 : Int) = x.snd)∧True)∧True∧∃ (x_5 : Int × Int), ((True∧(10 : Int) = x_5.fst)∧(True∧(20 : Int) = x_5.snd)∧True)∧True∧∃ (x_6 : Int × Int), ((True∧(10 : Int) = x_6.fst)∧(True∧(20 : Int) = x_6.snd)∧True)∧True∧(0 : Int)≤(3 : Int)∧(3 : Int) = (3 : Int)∧(↑(16 : Nat) : Int) * (3 : Int)≤(140737488355328 : Int)∧(3 : Int) < (4611686018427387904 : Int)∧∃ (x_7 : Int × Int), ((True∧(25 : Int) = x_7.fst)∧(True∧(0 : Int) = x_7.snd)∧True)∧True∧∃ (x_8 : Fleet × Truth), ((True∧(((True∧True∧True∧(3 : Nat) = x_8.fst.hE∧∀ (i : Nat), i < (3 : Nat)→(True∧(if i = (2 : Nat) then x_6.fst else if i = (1 : Nat) then x_5.fst else if i = (0 : Nat) then x.fst else (0 : Int)) = x_8.fst.e i 0)∧(if i = (2 : Nat) then x_6.snd else if i = (1 : Nat) then x_5.snd else if i = (0 : Nat) then x.snd else (0 : Int)) = x_8.fst.e i 1)∧True∧True∧(3 : Nat) = x_8.fst.hN∧∀ (i : Nat), i < (3 : Nat)→(True∧(0 : Int) = x_8.fst.n i 0)∧(0 : Int) = x_8.fst.n i 1)∧True∧(5 : Int) = x_8.fst.gap)∧True∧True∧(2 : Nat) = x_8.fst.k∧∀ (i : Nat), i < (2 : Nat)→(((((((((True∧(if i = (1 : Nat) then x_7.fst else if i = (0 : Nat) then (0 : Int) else (0 : Int)) = x_8.fst.net i 0)∧(if i = (1 : Nat) then x_7.snd else if i = (0 : Nat) then (0 : Int) else (0 : Int)) = x_8.fst.net i 1)∧(if i = (1 : Nat) then (100 : Int) else if i = (0 : Nat) then (100 : Int) else (0 : Int)) = x_8.fst.net i 2)∧(if i = (1 : Nat) then (1 : Int) else if i = (0 : Nat) then (1 : Int) else (0 : Int)) = x_8.fst.net i 3)∧(if i = (1 : Nat) then (1 : Int) else if i = (0 : Nat) then (0 : Int) else (0 : Int)) = x_8.fst.net i 4)∧(if i = (1 : Nat) then (3 : Int) else if i = (0 : Nat) then (3 : Int) else (0 : Int)) = x_8.fst.net i 5)∧(if i = (1 : Nat) then (0 : Int) else if i = (0 : Nat) then (0 : Int) else (0 : Int)) = x_8.fst.net i 6)∧(if i = (1 : Nat) then (0 : Int) else if i = (0 : Nat) then (0 : Int) else (0 : Int)) = x_8.fst.net i 7)∧(if i = (1 : Nat) then (0 : Int) else if i = (0 : Nat) then (0 : Int) else (0 : Int)) = x_8.fst.net i 8)∧(if i = (1 : Nat) then (0 : Int) else if i = (0 : Nat) then (0 : Int) else (0 : Int)) = x_8.fst.net i 9)∧(True∧(((True∧True∧True∧(3 : Nat) = x_8.snd.nE∧∀ (i : Nat), i < (3 : Nat)→True∧(if i = (2 : Nat) then (10 : Int) else if i = (1 : Nat) then (10 : Int) else if i = (0 : Nat) then (20 : Int) else (0 : Int)) = x_8.snd.e i)∧True∧True∧(3 : Nat) = x_8.snd.nN∧∀ (i : Nat), i < (3 : Nat)→True∧(if i = (2 : Nat) then (0 : Int) else if i = (1 : Nat) then (0 : Int) else if i = (0 : Nat) then (0 : Int) else (0 : Int)) = x_8.snd.n i)∧True∧True∧(2 : Nat) = x_8.snd.nSE∧∀ (i : Nat), i < (2 : Nat)→True∧(if i = (1 : Nat) then (0 : Int) else if i = (0 : Nat) then (0 : Int) else (0 : Int)) = x_8.snd.se i)∧True∧True∧(2 : Nat) = x_8.snd.nSN∧∀ (i : Nat), i < (2 : Nat)→True∧(if i = (1 : Nat) then (0 : Int) else if i = (0 : Nat) then (0 : Int) else (0 : Int)) = x_8.snd.sn i)∧True)∧((x_8.fst.hE < (4611686018427387904 : Nat)∧x_8.fst.hN < (4611686018427387904 : Nat)∧x_8.fst.k < (4611686018427387904 : Nat))∧x_8.snd.nE < (4611686018427387904 : Nat)∧x_8.snd.nN < (4611686018427387904 : Nat)∧x_8.snd.nSE < (4611686018427387904 : Nat)∧x_8.snd.nSN < (4611686018427387904 : Nat))∧∃ (x : Int × Int), ((True∧(10 : Int) = x.fst)∧(True∧(20 : Int) = x.snd)∧True)∧True∧∃ (x_9 : Int × Int), ((True∧(10 : Int) = x_9.fst)∧(True∧(20 : Int) = x_9.snd)∧True)∧True∧∃ (x_10 : Int × Int), ((True∧(10 : Int) = x_10.fst)∧(True∧(20 : Int) = x_10.snd)∧True)∧True∧(0 : Int)≤(3 : Int)∧(3 : Int) = (3 : Int)∧(↑(16 : Nat) : Int) * (3 : Int)≤(140737488355328 : Int)∧(3 : Int) < (4611686018427387904 : Int)∧∃ (x_11 : Int × Int), ((True∧(25 : Int) = x_11.fst)∧(True∧(0 : Int) = x_11.snd)∧True)∧True∧(0 : Int)≤(1 : Int)∧(1 : Int) < (↑(2 : Nat) : Int)∧∃ (x_12 : Int × Int), ((True∧(-4 : Int) = x_12.fst)∧(True∧(0 : Int) = x_12.snd)∧True)∧True∧(0 : Int)≤(1 : Int)∧(1 : Int) < (↑(2 : Nat) : Int)∧∃ (x_13 : QAsk), ((True∧(((True∧True∧True∧(3 : Nat) = x_13.x.hE∧∀ (i : Nat), i < (3 : Nat)→(True∧(if i = (2 : Nat) then x_10.fst else if i = (1 : Nat) then x_9.fst else if i = (0 : Nat) then x.fst else (0 : Int)) = x_13.x.e i 0)∧(if i = (2 : Nat) then x_10.snd else if i = (1 : Nat) then x_9.snd else if i = (0 : Nat) then x.snd else (0 : Int)) = x_13.x.e i 1)∧True∧True∧(3 : Nat) = x_13.x.hN∧∀ (i : Nat), i < (3 : Nat)→(True∧(0 : Int) = x_13.x.n i 0)∧(0 : Int) = x_13.x.n i 1)∧True∧(5 : Int) = x_13.x.gap)∧True∧True∧(2 : Nat) = x_13.x.k∧∀ (i : Nat), i < (2 : Nat)→(((((((((True∧(if i = (1 : Nat) then (50 : Int) else if i = (1 : Nat) then (50 : Int) else if i = (1 : Nat) then x_11.fst else if i = (0 : Nat) then (0 : Int) else (0 : Int)) = x_13.x.net i 0)∧(if i = (1 : Nat) then x_11.snd else if i = (1 : Nat) then x_11.snd else if i = (1 : Nat) then x_11.snd else if i = (0 : Nat) then (0 : Int) else (0 : Int)) = x_13.x.net i 1)∧(if i = (1 : Nat) then (100 : Int) else if i = (1 : Nat) then (100 : Int) else if i = (1 : Nat) then (100 : Int) else if i = (0 : Nat) then (100 : Int) else (0 : Int)) = x_13.x.net i 2)∧(if i = (1 : Nat) then (1 : Int) else if i = (1 : Nat) then (1 : Int) else if i = (1 : Nat) then (1 : Int) else if i = (0 : Nat) then (1 : Int) else (0 : Int)) = x_13.x.net i 3)∧(if i = (1 : Nat) then (1 : Int) else if i = (1 : Nat) then (1 : Int) else if i = (1 : Nat) then (1 : Int) else if i = (0 : Nat) then (0 : Int) else (0 : Int)) = x_13.x.net i 4)∧(if i = (1 : Nat) then (3 : Int) else if i = (1 : Nat) then (3 : Int) else if i = (1 : Nat) then (3 : Int) else if i = (0 : Nat) then (3 : Int) else (0 : Int)) = x_13.x.net i 5)∧(if i = (1 : Nat) then x_12.fst else if i = (1 : Nat) then (0 : Int) else if i = (1 : Nat) then (0 : Int) else if i = (0 : Nat) then (0 : Int) else (0 : Int)) = x_13.x.net i 6)∧(if i = (1 : Nat) then x_12.snd else if i = (1 : Nat) then (0 : Int) else if i = (1 : Nat) then (0 : Int) else if i = (0 : Nat) then (0 : Int) else (0 : Int)) = x_13.x.net i 7)∧(if i = (1 : Nat) then (0 : Int) else if i = (1 : Nat) then (0 : Int) else if i = (1 : Nat) then (0 : Int) else if i = (0 : Nat) then (0 : Int) else (0 : Int)) = x_13.x.net i 8)∧(if i = (1 : Nat) then (0 : Int) else if i = (1 : Nat) then (0 : Int) else if i = (1 : Nat) then (0 : Int) else if i = (0 : Nat) then (0 : Int) else (0 : Int)) = x_13.x.net i 9)∧(True∧(0 : Int) = x_13.i)∧(True∧(1 : Int) = x_13.k)∧(True∧(3 : Int) = x_13.h)∧True)∧(x_13.x.hE < (4611686018427387904 : Nat)∧x_13.x.hN < (4611686018427387904 : Nat)∧x_13.x.k < (4611686018427387904 : Nat))∧∃ (x : Int × Int), ((True∧(10 : Int) = x.fst)∧(True∧(20 : Int) = x.snd)∧True)∧True∧∃ (x_14 : Int × Int), ((True∧(10 : Int) = x_14.fst)∧(True∧(20 : Int) = x_14.snd)∧True)∧True∧∃ (x_15 : Int × Int), ((True∧(10 : Int) = x_15.fst)∧(True∧(20 : Int) = x_15.snd)∧True)∧True∧(0 : Int)≤(3 : Int)∧(3 : Int) = (3 : Int)∧(↑(16 : Nat) : Int) * (3 : Int)≤(140737488355328 : Int)∧(3 : Int) < (4611686018427387904 : Int)∧∃ (x_16 : Int × Int), ((True∧(25 : Int) = x_16.fst)∧(True∧(0 : Int) = x_16.snd)∧True)∧True∧∃ (x_17 : Fleet), ((True∧(((True∧True∧True∧(3 : Nat) = x_17.hE∧∀ (i : Nat), i < (3 : Nat)→(True∧(if i = (2 : Nat) then x_15.fst else if i = (1 : Nat) then x_14.fst else if i = (0 : Nat) then x.fst else (0 : Int)) = x_17.e i 0)∧(if i = (2 : Nat) then x_15.snd else if i = (1 : Nat) then x_14.snd else if i = (0 : Nat) then x.snd else (0 : Int)) = x_17.e i 1)∧True∧True∧(3 : Nat) = x_17.hN∧∀ (i : Nat), i < (3 : Nat)→(True∧(0 : Int) = x_17.n i 0)∧(0 : Int) = x_17.n i 1)∧True∧(5 : Int) = x_17.gap)∧True∧True∧(2 : Nat) = x_17.k∧∀ (i : Nat), i < (2 : Nat)→(((((((((True∧(if i = (1 : Nat) then x_16.fst else if i = (0 : Nat) then (0 : Int) else (0 : Int)) = x_17.net i 0)∧(if i = (1 : Nat) then x_16.snd else if i = (0 : Nat) then (0 : Int) else (0 : Int)) = x_17.net i 1)∧(if i = (1 : Nat) then (100 : Int) else if i = (0 : Nat) then (100 : Int) else (0 : Int)) = x_17.net i 2)∧(if i = (1 : Nat) then (1 : Int) else if i = (0 : Nat) then (1 : Int) else (0 : Int)) = x_17.net i 3)∧(if i = (1 : Nat) then (1 : Int) else if i = (0 : Nat) then (0 : Int) else (0 : Int)) = x_17.net i 4)∧(if i = (1 : Nat) then (3 : Int) else if i = (0 : Nat) then (3 : Int) else (0 : Int)) = x_17.net i 5)∧(if i = (1 : Nat) then (0 : Int) else if i = (0 : Nat) then (0 : Int) else (0 : Int)) = x_17.net i 6)∧(if i = (1 : Nat) then (0 : Int) else if i = (0 : Nat) then (0 : Int) else (0 : Int)) = x_17.net i 7)∧(if i = (1 : Nat) then (0 : Int) else if i = (0 : Nat) then (0 : Int) else (0 : Int)) = x_17.net i 8)∧(if i = (1 : Nat) then (0 : Int) else if i = (0 : Nat) then (0 : Int) else (0 : Int)) = x_17.net i 9)∧True)∧(x_17.hE < (4611686018427387904 : Nat)∧x_17.hN < (4611686018427387904 : Nat)∧x_17.k < (4611686018427387904 : Nat))∧∃ (x : Int × Int), ((True∧(10 : Int) = x.fst)∧(True∧(20 : Int) = x.snd)∧True)∧True∧∃ (x_18 : Int × Int), ((True∧(10 : Int) = x_18.fst)∧(True∧(20 : Int) = x_18.snd)∧True)∧True∧∃ (x_19 : Int × Int), ((True∧(10 : Int) = x_19.fst)∧(True∧(20 : Int) = x_19.snd)∧True)∧True∧(0 : Int)≤(3 : Int)∧(3 : Int) = (3 : Int)∧(↑(16 : Nat) : Int) * (3 : Int)≤(140737488355328 : Int)∧(3 : Int) < (4611686018427387904 : Int)∧∃ (x_20 : Int × Int), ((True∧(25 : Int) = x_20.fst)∧(True∧(0 : Int) = x_20.snd)∧True)∧True∧∃ (x_21 : Fleet × Int × Int), ((True∧(((True∧True∧True∧(3 : Nat) = x_21.fst.hE∧∀ (i : Nat), i < (3 : Nat)→(True∧(if i = (2 : Nat) then x_19.fst else if i = (1 : Nat) then x_18.fst else if i = (0 : Nat) then x.fst else (0 : Int)) = x_21.fst.e i 0)∧(if i = (2 : Nat) then x_19.snd else if i = (1 : Nat) then x_18.snd else if i = (0 : Nat) then x.snd else (0 : Int)) = x_21.fst.e i 1)∧True∧True∧(3 : Nat) = x_21.fst.hN∧∀ (i : Nat), i < (3 : Nat)→(True∧(0 : Int) = x_21.fst.n i 0)∧(0 : Int) = x_21.fst.n i 1)∧True∧(5 : Int) = x_21.fst.gap)∧True∧True∧(2 : Nat) = x_21.fst.k∧∀ (i : Nat), i < (2 : Nat)→(((((((((True∧(if i = (1 : Nat) then x_20.fst else if i = (0 : Nat) then (0 : Int) else (0 : Int)) = x_21.fst.net i 0)∧(if i = (1 : Nat) then x_20.snd else if i = (0 : Nat) then (0 : Int) else (0 : Int)) = x_21.fst.net i 1)∧(if i = (1 : Nat) then (100 : Int) else if i = (0 : Nat) then (100 : Int) else (0 : Int)) = x_21.fst.net i 2)∧(if i = (1 : Nat) then (1 : Int) else if i = (0 : Nat) then (1 : Int) else (0 : Int)) = x_21.fst.net i 3)∧(if i = (1 : Nat) then (1 : Int) else if i = (0 : Nat) then (0 : Int) else (0 : Int)) = x_21.fst.net i 4)∧(if i = (1 : Nat) then (3 : Int) else if i = (0 : Nat) then (3 : Int) else (0 : Int)) = x_21.fst.net i 5)∧(if i = (1 : Nat) then (0 : Int) else if i = (0 : Nat) then (0 : Int) else (0 : Int)) = x_21.fst.net i 6)∧(if i = (1 : Nat) then (0 : Int) else if i = (0 : Nat) then (0 : Int) else (0 : Int)) = x_21.fst.net i 7)∧(if i = (1 : Nat) then (0 : Int) else if i = (0 : Nat) then (0 : Int) else (0 : Int)) = x_21.fst.net i 8)∧(if i = (1 : Nat) then (0 : Int) else if i = (0 : Nat) then (0 : Int) else (0 : Int)) = x_21.fst.net i 9)∧(True∧(1 : Int) = x_21.snd.fst)∧(True∧(100 : Int) = x_21.snd.snd)∧True)∧(x_21.fst.hE < (4611686018427387904 : Nat)∧x_21.fst.hN < (4611686018427387904 : Nat)∧x_21.fst.k < (4611686018427387904 : Nat))∧((liErr x_4.x x_4.t x_4.k x_4.h != (0 : Int)) = true→True∧true = false)∧((liErr x_4.x x_4.t x_4.k x_4.h != (0 : Int)) = false→((fouE x_8.fst x_8.snd != (0 : Int)) = true→True∧true = false)∧((fouE x_8.fst x_8.snd != (0 : Int)) = false→((aqE x_13 != (0 : Int)) = true→True∧true = false)∧((aqE x_13 != (0 : Int)) = false→((canE x_17 != (0 : Int)) = true→True∧true = false)∧((canE x_17 != (0 : Int)) = false→((shE x_21.fst x_21.snd.fst x_21.snd.snd != (0 : Int)) = true→True∧true = false)∧((shE x_21.fst x_21.snd.fst x_21.snd.snd != (0 : Int)) = false→∃ (x : Int × Int), ((True∧(51 : Int) = x.fst)∧(True∧(0 : Int) = x.snd)∧True)∧True∧((!(liR x_4.x x_4.t x_4.k x_4.h (liP x_4.x x_4.t.e x_4.t.se (0 : Nat) x_4.k.toNat x_4.h) == x.fst && (liR x_4.x x_4.t x_4.k x_4.h (liP x_4.x x_4.t.n x_4.t.sn (1 : Nat) x_4.k.toNat x_4.h) == x.snd && true))) = true→True∧true = false)∧((!(liR x_4.x x_4.t x_4.k x_4.h (liP x_4.x x_4.t.e x_4.t.se (0 : Nat) x_4.k.toNat x_4.h) == x.fst && (liR x_4.x x_4.t x_4.k x_4.h (liP x_4.x x_4.t.n x_4.t.sn (1 : Nat) x_4.k.toNat x_4.h) == x.snd && true))) = false→((!(oH (fouO x_8.fst x_8.snd) == (1 : Int) && (oI (fouO x_8.fst x_8.snd) == (0 : Int) && (oK (fouO x_8.fst x_8.snd) == (1 : Int) && true)))) = true→True∧true = false)∧((!(oH (fouO x_8.fst x_8.snd) == (1 : Int) && (oI (fouO x_8.fst x_8.snd) == (0 : Int) && (oK (fouO x_8.fst x_8.snd) == (1 : Int) && true)))) = false→∃ (x : Int × Int), ((True∧(-40 : Int) = x.fst)∧(True∧(-22 : Int) = x.snd)∧True)∧True∧((!(aqR x_13 (raLo (rE x_13.x x_13.i.toNat x_13.k.toNat x_13.h.toNat)) == x.fst && (aqR x_13 (raHi (rE x_13.x x_13.i.toNat x_13.k.toNat x_13.h.toNat)) == x.snd && true))) = true→True∧true = false)∧((!(aqR x_13 (raLo (rE x_13.x x_13.i.toNat x_13.k.toNat x_13.h.toNat)) == x.fst && (aqR x_13 (raHi (rE x_13.x x_13.i.toNat x_13.k.toNat x_13.h.toNat)) == x.snd && true))) = false→∃ (x : Int × Int), ((True∧(0 : Int) = x.fst)∧(True∧(0 : Int) = x.snd)∧True)∧True∧((!(aqR x_13 (raLo (rN x_13.x x_13.i.toNat x_13.k.toNat x_13.h.toNat)) == x.fst && (aqR x_13 (raHi (rN x_13.x x_13.i.toNat x_13.k.toNat x_13.h.toNat)) == x.snd && true))) = true→True∧true = false)∧((!(aqR x_13 (raLo (rN x_13.x x_13.i.toNat x_13.k.toNat x_13.h.toNat)) == x.fst && (aqR x_13 (raHi (rN x_13.x x_13.i.toNat x_13.k.toNat x_13.h.toNat)) == x.snd && true))) = false→((!(oH (canO x_17) == oH (fouO x_8.fst x_8.snd) && (oI (canO x_17) == oI (fouO x_8.fst x_8.snd) && (oK (canO x_17) == oK (fouO x_8.fst x_8.snd) && true)))) = true→True∧true = false)∧((!(oH (canO x_17) == oH (fouO x_8.fst x_8.snd) && (oI (canO x_17) == oI (fouO x_8.fst x_8.snd) && (oK (canO x_17) == oK (fouO x_8.fst x_8.snd) && true)))) = false→((shV x_21.fst x_21.snd.fst x_21.snd.snd != (1 : Int)) = true→True∧true = false)∧((shV x_21.fst x_21.snd.fst x_21.snd.snd != (1 : Int)) = false→∃ (x : ToAsk), ((True∧x.m = (0 : Nat))∧True)∧x.m < (100 : Nat)∧∃ (x_22 : MdAsk), ((True∧((((True∧True∧(toT x.m x.f).w = x_22.t.w)∧True∧(toT x.m x.f).h = x_22.t.h)∧True∧True∧(toT x.m x.f).n = x_22.t.n∧∀ (i : Nat), i < (toT x.m x.f).n→(True∧(toT x.m x.f).b i 0 = x_22.t.b i 0)∧(toT x.m x.f).b i 1 = x_22.t.b i 1)∧True∧(toT x.m x.f).m = x_22.t.m)∧True∧(toT x.m x.f).k = x_22.t.k)∧(True∧True∧(2 : Nat) = x_22.p.np∧∀ (i : Nat), i < (2 : Nat)→True∧fitP (mixC (i = (1 : Nat)) (((1 : Nat), fun (x : Nat) => CV.vs (1 : Nat) (2 : Nat) fun (i' j : Nat) => mixC (i' = (1 : Nat)) (((1 : Nat), fun (x : Nat) => CV.int IntKind.i64 (2 : Int)).snd j) (mixC (i' = (0 : Nat)) (((1 : Nat), fun (x : Nat) => CV.int IntKind.i64 (1 : Int)).snd j) ([CV.int IntKind.i64 (0 : Int)].getD j CV.any))).snd 0) (if i = (0 : Nat) then CV.vs (1 : Nat) (3 : Nat) fun (i' j : Nat) => mixC (i' = (2 : Nat)) (((1 : Nat), fun (x : Nat) => CV.int IntKind.i64 (4 : Int)).snd j) (mixC (i' = (1 : Nat)) (((1 : Nat), fun (x : Nat) => CV.int IntKind.i64 (1 : Int)).snd j) (mixC (i' = (0 : Nat)) (((1 : Nat), fun (x : Nat) => CV.int IntKind.i64 (0 : Int)).snd j) ([CV.int IntKind.i64 (0 : Int)].getD j CV.any))) else [CV.nils].getD 0 CV.any)) (CV.vs (1 : Nat) (x_22.p.len i) fun (k x : Nat) => CV.int IntKind.i64 (x_22.p.kn i k)))∧True)∧((x_22.t.n < (4611686018427387904 : Nat)∧∀ (i : Nat), i < x_22.t.n→((-9223372036854775808 : Int)≤x_22.t.b i (0 : Nat)∧x_22.t.b i (0 : Nat)≤(9223372036854775807 : Int))∧(-9223372036854775808 : Int)≤x_22.t.b i (1 : Nat)∧x_22.t.b i (1 : Nat)≤(9223372036854775807 : Int))∧x_22.p.np≤(1073741824 : Nat)∧∀ (i : Nat), i < x_22.p.np→x_22.p.len i≤(1073741824 : Nat)∧∀ (k : Nat), k < x_22.p.len i→(-9223372036854775808 : Int)≤x_22.p.kn i k∧x_22.p.kn i k≤(9223372036854775807 : Int))∧∃ (x : ToAsk), ((True∧True∧(1 : Nat) = x.m∧∀ (i : Nat), i < (1 : Nat)→(True∧(if i = (0 : Nat) then (0 : Int) else (0 : Int)) = x.f i 0)∧(if i = (0 : Nat) then (3 : Int) else (0 : Int)) = x.f i 1)∧True)∧x.m < (100 : Nat)∧∃ (x_23 : Torn), ((True∧((((True∧True∧(toT x.m x.f).w = x_23.w)∧True∧(toT x.m x.f).h = x_23.h)∧True∧True∧(toT x.m x.f).n = x_23.n∧∀ (i : Nat), i < (toT x.m x.f).n→(True∧(toT x.m x.f).b i 0 = x_23.b i 0)∧(toT x.m x.f).b i 1 = x_23.b i 1)∧True∧(toT x.m x.f).m = x_23.m)∧True∧(toT x.m x.f).k = x_23.k)∧True)∧(x_23.n < (4611686018427387904 : Nat)∧∀ (i : Nat), i < x_23.n→((-9223372036854775808 : Int)≤x_23.b i (0 : Nat)∧x_23.b i (0 : Nat)≤(9223372036854775807 : Int))∧(-9223372036854775808 : Int)≤x_23.b i (1 : Nat)∧x_23.b i (1 : Nat)≤(9223372036854775807 : Int))∧∃ (x : ToAsk), ((True∧x.m = (0 : Nat))∧True)∧x.m < (100 : Nat)∧(lookFn fnTab (34 : Nat)).isSome = true∧∃ (g : Torn), (g.n < (4611686018427387904 : Nat)∧∀ (i : Nat), i < g.n→((-9223372036854775808 : Int)≤g.b i (0 : Nat)∧g.b i (0 : Nat)≤(9223372036854775807 : Int))∧(-9223372036854775808 : Int)≤g.b i (1 : Nat)∧g.b i (1 : Nat)≤(9223372036854775807 : Int))∧True∧((True∧((((True∧True∧(toT x.m x.f).w = g.w)∧True∧(toT x.m x.f).h = g.h)∧True∧True∧(toT x.m x.f).n = g.n∧∀ (i : Nat), i < (toT x.m x.f).n→(True∧(toT x.m x.f).b i 0 = g.b i 0)∧(toT x.m x.f).b i 1 = g.b i 1)∧True∧(toT x.m x.f).m = g.m)∧True∧(toT x.m x.f).k = g.k)∧True)∧True∧∀ (d : rMd.δ), MdPost g d→((tchkE x_22.t == (0 : Int)) = true→((tchkE x_23 == (0 : Int)) = true→((mendE g == (0 : Int)) = true→((mdV x_22.t x_22.p == (42 : Int)) = true→(mdB x_22.t x_22.p = true→((twnV x_23 == (52 : Int)) = true→True∧((↑(pcsOf d).np : Int) == (2 : Int)) = true)∧((twnV x_23 == (52 : Int)) = false→True∧true = false))∧(mdB x_22.t x_22.p = false→True∧true = false))∧((mdV x_22.t x_22.p == (42 : Int)) = false→True∧true = false))∧((mendE g == (0 : Int)) = false→True∧true = false))∧((tchkE x_23 == (0 : Int)) = false→True∧true = false))∧((tchkE x_22.t == (0 : Int)) = false→True∧true = false))))))))))))) (by kernel_rfl) ?_
 have w0 : ∀ l, (flX l).wf := fun l => ⟨by show 3 < 4611686018427387904; decide, by show 3 < 4611686018427387904; decide, by show 2 < 4611686018427387904; decide⟩
 have w1 : ∀ l, (tr0 l).wf := fun l => ⟨by show 3 < 4611686018427387904; decide, by show 3 < 4611686018427387904; decide, by show 2 < 4611686018427387904; decide, by show 2 < 4611686018427387904; decide⟩
 repeat first | (refine ⟨(_, _), ⟨⟨trivial, rfl⟩, ⟨trivial, rfl⟩, trivial⟩, trivial, ?_⟩) | (refine And.intro (by decide) ?_)
 refine ⟨⟨fl0, tr0 [10, 12, 14], 1, 3⟩, ?_, ⟨w0 _, w1 _⟩, ?_⟩
 · repeat' first | exact trivial | exact rfl | apply And.intro | refine all3 ?_ ?_ ?_ | refine all2 ?_ ?_
 repeat first | (refine ⟨(_, _), ⟨⟨trivial, rfl⟩, ⟨trivial, rfl⟩, trivial⟩, trivial, ?_⟩) | (refine And.intro (by decide) ?_)
 refine ⟨(fl0, tr0 [20, 10, 10]), ?_, ⟨w0 _, w1 _⟩, ?_⟩
 · repeat' first | exact trivial | exact rfl | apply And.intro | refine all3 ?_ ?_ ?_ | refine all2 ?_ ?_
 repeat first | (refine ⟨(_, _), ⟨⟨trivial, rfl⟩, ⟨trivial, rfl⟩, trivial⟩, trivial, ?_⟩) | (refine And.intro (by decide) ?_)
 refine ⟨⟨fl1, 0, 1, 3⟩, ?_, w0 _, ?_⟩
 · repeat' first | exact trivial | exact rfl | apply And.intro | refine all3 ?_ ?_ ?_ | refine all2 ?_ ?_
 repeat first | (refine ⟨(_, _), ⟨⟨trivial, rfl⟩, ⟨trivial, rfl⟩, trivial⟩, trivial, ?_⟩) | (refine And.intro (by decide) ?_)
 refine ⟨fl0, ?_, w0 _, ?_⟩
 · repeat' first | exact trivial | exact rfl | apply And.intro | refine all3 ?_ ?_ ?_ | refine all2 ?_ ?_
 repeat first | (refine ⟨(_, _), ⟨⟨trivial, rfl⟩, ⟨trivial, rfl⟩, trivial⟩, trivial, ?_⟩) | (refine And.intro (by decide) ?_)
 refine ⟨(fl0, 1, 100), ?_, w0 _, ?_⟩
 · repeat' first | exact trivial | exact rfl | apply And.intro | refine all3 ?_ ?_ ?_ | refine all2 ?_ ?_
 repeat first | (refine ⟨fun h => absurd h (by decide +kernel), fun _ => ?_⟩) | (refine ⟨(_, _), ⟨⟨trivial, rfl⟩, ⟨trivial, rfl⟩, trivial⟩, trivial, ?_⟩) | (refine And.intro (by decide) ?_)
 refine ⟨⟨0, fun _ _ => 0⟩, ⟨⟨trivial, rfl⟩, trivial⟩, by decide, ⟨torn3T, pcsOf pcs3⟩, ⟨⟨trivial, ?_⟩, ⟨trivial, trivial, rfl, fun i hi => ⟨trivial, ?_⟩⟩, trivial⟩, ⟨wf3, wp3⟩, ⟨1, fun i j => if j = 0 then 0 else 3⟩, ?_, by decide, torn4T, ?_, wf4, ⟨0, fun _ _ => 0⟩, ⟨⟨trivial, rfl⟩, trivial⟩, by decide, is34, torn3T, wf3, trivial, ?_, trivial, fun d hd => ?_⟩
 · repeat' first | exact trivial | exact rfl | apply And.intro | refine all3 ?_ ?_ ?_
 · match i, hi with
   | 0, _ => exact ⟨trivial, rfl, fun i hi => match i, hi with
     | 0, _ => ⟨trivial, rfl⟩
     | 1, _ => ⟨trivial, rfl⟩
     | 2, _ => ⟨trivial, rfl⟩⟩
   | 1, _ => exact ⟨trivial, rfl, fun i hi => match i, hi with
     | 0, _ => ⟨trivial, rfl⟩
     | 1, _ => ⟨trivial, rfl⟩⟩
 · exact ⟨⟨trivial, trivial, rfl, fun i hi => match i, hi with
     | 0, _ => ⟨⟨trivial, rfl⟩, rfl⟩⟩, trivial⟩
 · repeat' first | exact trivial | exact rfl | apply And.intro | refine all4 ?_ ?_ ?_ ?_
 · repeat' first | exact trivial | exact rfl | apply And.intro | refine all3 ?_ ?_ ?_
 · have hl : ((pcsOf d).np : Int) = 2 := by
     have h := (hd.yes tc3 (by decide)).2.2
     rw [fe3] at h
     show ((d.length : Nat) : Int) = 2
     omega
   refine ⟨fun _ => ⟨fun _ => ⟨fun _ => ⟨fun _ => ⟨fun _ => ⟨fun _ => ⟨trivial, by rw [hl]; rfl⟩, fun h => absurd h ?_⟩, fun h => absurd h ?_⟩, fun h => absurd h ?_⟩, fun h => absurd h ?_⟩, fun h => absurd h ?_⟩, fun h => absurd h ?_⟩
   · show ¬ ((twnV torn4T == 52) = false); rw [tn4]; decide
   · show ¬ (mdB torn3T (pcsOf pcs3) = false); rw [mb3]; decide
   · show ¬ ((mdV torn3T (pcsOf pcs3) == 42) = false); rw [md3]; decide
   · show ¬ ((mendE torn3T == 0) = false); rw [me3]; decide
   · show ¬ ((tchkE torn4T == 0) = false); rw [tc4]; decide
   · show ¬ ((tchkE torn3T == 0) = false); rw [tE3]; decide
end Go.Proofs.YtcfmdhlohahhcaaDoor
