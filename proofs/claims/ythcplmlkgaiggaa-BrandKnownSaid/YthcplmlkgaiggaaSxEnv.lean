/- The framework Sx, part 14: environments that grow by contracts. -/
import Derived.Test.YthcplmlkgaiggaaSxDraw3
import Derived.KernelRfl
set_option linter.unusedSimpArgs false
set_option linter.unusedVariables false
namespace Go.Sx

/-- A contract more. -/
def Env.add (E : Env) (f : FuncId) (s : Sig) : Env := { E with sig := fun g => match Nat.beq g f with | true => some s | false => E.sig g }

/-- Loops, and cuts, that are known. -/
def Env.loops (E : Env) (l : Nat → Nat → Option Ann) (c : Nat → Nat → Option Ann := fun _ _ => none) : Env := { E with lam := l, cut := c }

def lookLam : List (Nat × Nat × Ann) → Nat → Nat → Option Ann
  | [], _, _ => none
  | (f, r, A) :: l, g, s => match Nat.beq g f && Nat.beq s r with | true => some A | false => lookLam l g s

section
variable {P : Program} {E E' : Env} {β : Nat → Loc} {Z : Nat → Prop} {hp : Hp} {w : World}

theorem SatH.gl_congr {B : Nat} {Fr : Nat → Prop} (e : E.gl = E'.gl) (h : SatH E B Fr β Z hp w) : SatH E' B Fr β Z hp w :=
  ⟨h.rb, h.own, h.inj, h.zlt, h.fresh, fun g n get hg => h.gl g n get (by rw [e]; exact hg)⟩

theorem CallQ.congr (e : E.gl = E'.gl) {f : FuncId} {args : List TV} {rs : List RV} (h : CallQ P E f args rs) : CallQ P E' f args rs := by
  intro Z w vs hs hr
  refine CallsIn.mono (h Z w vs (hs.gl_congr e.symm) hr) fun e' w' hp => ?_
  obtain ⟨val, β', Z', a1, a2, a3⟩ := hp
  exact ⟨val, β', Z', a1, a2.gl_congr e, a3⟩

theorem SemRec.congr (e : E.gl = E'.gl) {f : FuncId} {R : RSpec} {g : R.γ} (h : SemRec P E f R g) : SemRec P E' f R g := by
  intro Z β w vs hs hr
  refine CallsIn.mono (h Z β w vs (hs.gl_congr e.symm) hr) fun e' w' hp => ?_
  obtain ⟨val, l, Z', a1, a2, a3, a4, a5, a6, a7, a8⟩ := hp
  exact ⟨val, l, Z', a1, a2, a3, a4, a5, a6, a7, fun g n get hg => a8 g n get (by rw [e]; exact hg)⟩

theorem SemK.congr (e : E.gl = E'.gl) {f : FuncId} {R : KSpec} {g : R.γ} (h : SemK P E f R g) : SemK P E' f R g := by
  intro Z β w vs hs hr
  refine CallsIn.mono (h Z β w vs (hs.gl_congr e.symm) hr) fun e' w' hp => ?_
  obtain ⟨val, d, Z', a1, a2, a3, a4, a5, a6, a7, a8, a9⟩ := hp
  exact ⟨val, d, Z', a1, a2, a3, a4, a5, a6, a7, a8, fun g n get hg => a9 g n get (by rw [e]; exact hg)⟩

theorem EnvOk.add (hE : EnvOk P E) {f : FuncId} {s : Sig} (hf : ∃ fn c, P.funcs[f]? = some fn ∧ (fn.name == "runtime.NumGoroutine") = false ∧ fn.body = some c) (hq : ∀ x, s.pre x → CallQ P E f (s.arg x) (s.res x)) : EnvOk P (E.add f s) := by
  refine ⟨hE.tab, hE.fn, fun g hg => ?_, fun g t x ht hx => ?_, hE.mix, hE.maps, fun g R x hR hx => SemRec.congr (E := E) (E' := E.add f s) rfl (hE.again g R x hR hx), fun g R x hR hx => SemK.congr (E := E) (E' := E.add f s) rfl (hE.kept g R x hR hx), fun g Re x hR hx => SemK.congr (E := E) (E' := E.add f s) rfl (hE.even g Re x hR hx)⟩
  · by_cases e : g = f
    · subst e; exact hf
    · refine hE.runs g (hg.imp id (fun h => ?_))
      simp only [Env.add, beq_ne e] at h; exact h
  · by_cases e : g = f
    · subst e
      simp only [Env.add, Nat.beq_refl] at ht
      injection ht with ht; subst ht
      exact CallQ.congr (E := E) (E' := E.add g s) rfl (hq x hx)
    · simp only [Env.add, beq_ne e] at ht
      exact CallQ.congr (E := E) (E' := E.add f s) rfl (hE.sig g t x ht hx)

/-- A table of types. -/
def lookTy : List (Nat × TI) → Nat → Option TI
  | [], _ => none
  | (t, i) :: l, n => match Nat.beq n t with | true => some i | false => lookTy l n

def okKind : TK → Bool
  | .other => false
  | _ => true

theorem lookTy_mem : ∀ {l : List (Nat × TI)} {t : Nat} {i : TI}, lookTy l t = some i → (t, i) ∈ l
  | [], _, _, h => by simp [lookTy] at h
  | (n, j) :: l, t, i, h => by
    simp only [lookTy] at h
    split at h
    · rename_i e
      have := Nat.eq_of_beq_eq_true e
      subst this
      simp at h; subst h; simp
    · exact List.mem_cons_of_mem _ (lookTy_mem h)

theorem map_eq_mem {α β : Type} {f g : α → β} : ∀ {l : List α}, l.map f = l.map g → ∀ x ∈ l, f x = g x
  | [], _, x, hx => by simp at hx
  | a :: l, h, x, hx => by
    simp only [List.map_cons, List.cons.injEq] at h
    rcases List.mem_cons.1 hx with rfl | hx
    · exact h.1
    · exact map_eq_mem h.2 x hx

/-- The table is the program's: one look by the kernel. -/
theorem tab_ok {l : List (Nat × TI)} (hE : E.ty = lookTy l) (h : l.map (fun x => tabTI P x.1) = l.map (fun x => some x.2)) (hk : l.all (fun x => okKind x.2.kind) = true) : TabOk P E := fun t i ht => by
  rw [hE] at ht
  have hm := lookTy_mem ht
  refine ⟨map_eq_mem h _ hm, fun e => ?_⟩
  have := List.all_eq_true.1 hk _ hm
  simp [e, okKind] at this

theorem EnvOk.loops (hE : EnvOk P E) (l c : Nat → Nat → Option Ann) : EnvOk P (E.loops l c) :=
  ⟨hE.tab, hE.fn, hE.runs, fun g t x ht hx => CallQ.congr (E := E) (E' := E.loops l c) rfl (hE.sig g t x ht hx), hE.mix, hE.maps, fun g R x hR hx => SemRec.congr (E := E) (E' := E.loops l c) rfl (hE.again g R x hR hx), fun g R x hR hx => SemK.congr (E := E) (E' := E.loops l c) rfl (hE.kept g R x hR hx), fun g Re x hR hx => SemK.congr (E := E) (E' := E.loops l c) rfl (hE.even g Re x hR hx)⟩

/-- A function's contract, its loops (and cuts) being told. -/
theorem contract_with (hE : EnvOk P E) (l : List (Nat × Nat × Ann)) (c : List (Nat × Nat × Ann)) {fuel : Nat} {f : FuncId} {args : List TV} {rs : List RV} (h : inlOf (E.loops (lookLam l) (lookLam c)) (vc (E.loops (lookLam l) (lookLam c)) fuel) f args (fun _ => none) 0 [] (fun v hp _ _ => resFit hp v rs)) : CallQ P E f args rs :=
  CallQ.congr (E := E.loops (lookLam l) (lookLam c)) (E' := E) rfl (contract (hE.loops (lookLam l) (lookLam c)) h)

theorem of_red {p q : Prop} (e : p = q) (h : q) : p := e ▸ h

/-- Contracts that are known: a table. -/
def lookSig : List (Nat × Sig) → Nat → Option Sig
  | [], _ => none
  | (f, s) :: l, n => match Nat.beq n f with | true => some s | false => lookSig l n

def Env.sigs (E : Env) (l : List (Nat × Sig)) : Env := { E with sig := lookSig l }

/-- What a proof has shown of its table. -/
structure SigsOk (P : Program) (E : Env) (l : List (Nat × Sig)) : Prop where
  all : ∀ f s, (f, s) ∈ l → (∃ fn c, P.funcs[f]? = some fn ∧ (fn.name == "runtime.NumGoroutine") = false ∧ fn.body = some c) ∧ ∀ x, s.pre x → CallQ P E f (s.arg x) (s.res x)

theorem lookSig_mem : ∀ {l : List (Nat × Sig)} {f : Nat} {s : Sig}, lookSig l f = some s → (f, s) ∈ l
  | [], _, _, h => by simp [lookSig] at h
  | (n, j) :: l, t, i, h => by
    simp only [lookSig] at h
    split at h
    · rename_i e
      have := Nat.eq_of_beq_eq_true e
      subst this
      simp at h; subst h; simp
    · exact List.mem_cons_of_mem _ (lookSig_mem h)

theorem SigsOk.nil : SigsOk P E [] := ⟨fun _ _ h => by cases h⟩
theorem SigsOk.cons {l : List (Nat × Sig)} (h : SigsOk P E l) {f : Nat} {s : Sig} (hf : ∃ fn c, P.funcs[f]? = some fn ∧ (fn.name == "runtime.NumGoroutine") = false ∧ fn.body = some c) (hq : ∀ x, s.pre x → CallQ P E f (s.arg x) (s.res x)) : SigsOk P E ((f, s) :: l) :=
  ⟨fun g t hm => by
    rcases List.mem_cons.1 hm with e | hm
    · cases e; exact ⟨hf, hq⟩
    · exact h.all g t hm⟩

/-- Contracts do not hang on the table that others were proved with. -/
theorem EnvOk.sigs (hE : EnvOk P E) {l : List (Nat × Sig)} (h : SigsOk P E l) (h0 : ∀ f, (E.fn f).isSome = true → ∃ fn c, P.funcs[f]? = some fn ∧ (fn.name == "runtime.NumGoroutine") = false ∧ fn.body = some c) : EnvOk P (E.sigs l) := by
  refine ⟨hE.tab, hE.fn, fun f hf => ?_, fun f s x hs hx => ?_, hE.mix, hE.maps, fun g R x hR hx => SemRec.congr (E := E) (E' := E.sigs l) rfl (hE.again g R x hR hx), fun g R x hR hx => SemK.congr (E := E) (E' := E.sigs l) rfl (hE.kept g R x hR hx), fun g Re x hR hx => SemK.congr (E := E) (E' := E.sigs l) rfl (hE.even g Re x hR hx)⟩
  · rcases hf with hf | hf
    · exact h0 f hf
    · obtain ⟨s, hs⟩ := Option.isSome_iff_exists.1 hf
      exact (h.all f s (lookSig_mem hs)).1
  · exact CallQ.congr (E := E) (E' := E.sigs l) rfl ((h.all f s (lookSig_mem hs)).2 x hx)

/-- A contract over a table is a contract over the bare environment. -/
theorem CallQ.bare {l : List (Nat × Sig)} {f : FuncId} {args : List TV} {rs : List RV} (h : CallQ P (E.sigs l) f args rs) : CallQ P E f args rs :=
  CallQ.congr (E := E.sigs l) (E' := E) rfl h

/-- Contracts of an environment's table, and one more. -/
theorem bare_with (hE : EnvOk P E) (T : List (Nat × Sig)) (hT : SigsOk P E T) (h0 : ∀ f, (E.fn f).isSome = true → ∃ fn c, P.funcs[f]? = some fn ∧ (fn.name == "runtime.NumGoroutine") = false ∧ fn.body = some c) (l : List (Nat × Nat × Ann)) (c : List (Nat × Nat × Ann)) {fuel : Nat} {f : FuncId} {args : List TV} {rs : List RV}
    (h : inlOf ((E.sigs T).loops (lookLam l) (lookLam c)) (vc ((E.sigs T).loops (lookLam l) (lookLam c)) fuel) f args (fun _ => none) 0 [] (fun v hp _ _ => resFit hp v rs)) : CallQ P E f args rs :=
  CallQ.bare (contract_with (hE.sigs hT h0) l c h)

/-- What is known stays known behind a bar. -/
def Env.keeping (E : Env) : Env := { E with keep := true }

theorem EnvOk.keeping (hE : EnvOk P E) : EnvOk P E.keeping :=
  ⟨hE.tab, hE.fn, hE.runs, fun g t x ht hx => CallQ.congr (E := E) (E' := E.keeping) rfl (hE.sig g t x ht hx), hE.mix, hE.maps, fun g R x hR hx => SemRec.congr (E := E) (E' := E.keeping) rfl (hE.again g R x hR hx), fun g R x hR hx => SemK.congr (E := E) (E' := E.keeping) rfl (hE.kept g R x hR hx), fun g Re x hR hx => SemK.congr (E := E) (E' := E.keeping) rfl (hE.even g Re x hR hx)⟩

/-- Contracts of an environment's table, and one more; what is known stays known. -/
theorem bare_keep (hE : EnvOk P E) (T : List (Nat × Sig)) (hT : SigsOk P E T) (h0 : ∀ f, (E.fn f).isSome = true → ∃ fn c, P.funcs[f]? = some fn ∧ (fn.name == "runtime.NumGoroutine") = false ∧ fn.body = some c) (l : List (Nat × Nat × Ann)) (c : List (Nat × Nat × Ann)) {fuel : Nat} {f : FuncId} {args : List TV} {rs : List RV}
    (h : inlOf ((E.sigs T).loops (lookLam l) (lookLam c)).keeping (vc ((E.sigs T).loops (lookLam l) (lookLam c)).keeping fuel) f args (fun _ => none) 0 [] (fun v hp _ _ => resFit hp v rs)) : CallQ P E f args rs :=
  CallQ.bare (CallQ.congr (E := (E.sigs T).loops (lookLam l) (lookLam c)) (E' := E.sigs T) rfl (CallQ.congr (E := ((E.sigs T).loops (lookLam l) (lookLam c)).keeping) (E' := (E.sigs T).loops (lookLam l) (lookLam c)) rfl (contract ((hE.sigs hT h0).loops (lookLam l) (lookLam c)).keeping h)))

/-- Slices that are let go before regions. -/
def lookFrz : List (Nat × Nat × List Nat) → Nat → Nat → List Nat
  | [], _, _ => []
  | (f, r, l) :: t, g, s => match Nat.beq g f && Nat.beq s r with | true => l | false => lookFrz t g s
def Env.frzs (E : Env) (z : List (Nat × Nat × List Nat)) : Env := { E with frz := lookFrz z }

theorem EnvOk.frzs (hE : EnvOk P E) (z : List (Nat × Nat × List Nat)) : EnvOk P (E.frzs z) :=
  ⟨hE.tab, hE.fn, hE.runs, fun g t x ht hx => CallQ.congr (E := E) (E' := E.frzs z) rfl (hE.sig g t x ht hx), hE.mix, hE.maps, fun g R x hR hx => SemRec.congr (E := E) (E' := E.frzs z) rfl (hE.again g R x hR hx), fun g R x hR hx => SemK.congr (E := E) (E' := E.frzs z) rfl (hE.kept g R x hR hx), fun g Re x hR hx => SemK.congr (E := E) (E' := E.frzs z) rfl (hE.even g Re x hR hx)⟩

/-- Contracts of an environment's table, and one more; what is known stays known; slices are let go before regions. -/
theorem bare_frz (hE : EnvOk P E) (T : List (Nat × Sig)) (hT : SigsOk P E T) (h0 : ∀ f, (E.fn f).isSome = true → ∃ fn c, P.funcs[f]? = some fn ∧ (fn.name == "runtime.NumGoroutine") = false ∧ fn.body = some c) (l : List (Nat × Nat × Ann)) (c : List (Nat × Nat × Ann)) (z : List (Nat × Nat × List Nat)) {fuel : Nat} {f : FuncId} {args : List TV} {rs : List RV}
    (h : inlOf (((E.sigs T).loops (lookLam l) (lookLam c)).keeping.frzs z) (vc (((E.sigs T).loops (lookLam l) (lookLam c)).keeping.frzs z) fuel) f args (fun _ => none) 0 [] (fun v hp _ _ => resFit hp v rs)) : CallQ P E f args rs :=
  CallQ.bare (CallQ.congr (E := (E.sigs T).loops (lookLam l) (lookLam c)) (E' := E.sigs T) rfl (CallQ.congr (E := ((E.sigs T).loops (lookLam l) (lookLam c)).keeping.frzs z) (E' := (E.sigs T).loops (lookLam l) (lookLam c)) rfl (contract (((hE.sigs hT h0).loops (lookLam l) (lookLam c)).keeping.frzs z) h)))

/-- One function is said to share blocks with its callers. -/
def Env.agn (E : Env) (f : FuncId) (R : RSpec) : Env := { E with again := fun g => match Nat.beq g f with | true => some R | false => none }

def RSpec.below (R : RSpec) (mu : R.γ → Nat) (n : Nat) : RSpec := { R with ok := fun g => R.ok g ∧ mu g < n }

/-- One function more is said to give its callers' blocks back. -/
def Env.kep (E : Env) (f : FuncId) (R : KSpec) : Env := { E with kept := fun g => match Nat.beq g f with | true => some R | false => E.kept g }

def KSpec.below (R : KSpec) (mu : R.γ → Nat) (n : Nat) : KSpec := { R with ok := fun g => R.ok g ∧ mu g < n }

theorem EnvOk.kep (hE : EnvOk P E) {f : FuncId} {R : KSpec} (hR : ∀ g, R.ok g → SemK P E f R g) : EnvOk P (E.kep f R) := by
  refine ⟨hE.tab, hE.fn, hE.runs, fun g t x ht hx => CallQ.congr (E := E) (E' := E.kep f R) rfl (hE.sig g t x ht hx), hE.mix, hE.maps, fun g R' x hR hx => SemRec.congr (E := E) (E' := E.kep f R) rfl (hE.again g R' x hR hx), fun g R' x h1 h2 => ?_, fun g Re x hR hx => SemK.congr (E := E) (E' := E.kep f R) rfl (hE.even g Re x hR hx)⟩
  simp only [Env.kep] at h1
  split at h1
  · rename_i e
    obtain rfl := Nat.eq_of_beq_eq_true e
    injection h1 with h1
    subst h1
    exact SemK.congr (E := E) (E' := E.kep g R) rfl (hR x h2)
  · exact SemK.congr (E := E) (E' := E.kep f R) rfl (hE.kept g R' x h1 h2)

theorem EnvOk.agn (hE : EnvOk P E) {f : FuncId} {R : RSpec} (hR : ∀ g, R.ok g → SemRec P E f R g) : EnvOk P (E.agn f R) := by
  refine ⟨hE.tab, hE.fn, hE.runs, fun g t x ht hx => CallQ.congr (E := E) (E' := E.agn f R) rfl (hE.sig g t x ht hx), hE.mix, hE.maps, fun g R' x h1 h2 => ?_, fun g R1 x hR hx => SemK.congr (E := E) (E' := E.agn f R) rfl (hE.kept g R1 x hR hx), fun g Re x hR hx => SemK.congr (E := E) (E' := E.agn f R) rfl (hE.even g Re x hR hx)⟩
  simp only [Env.agn] at h1
  split at h1
  · rename_i e
    obtain rfl := Nat.eq_of_beq_eq_true e
    injection h1 with h1
    subst h1
    exact SemRec.congr (E := E) (E' := E.agn g R) rfl (hR x h2)
  · cases h1

theorem SigsOk.congr (e : E.gl = E'.gl) {l : List (Nat × Sig)} (h : SigsOk P E l) : SigsOk P E' l :=
  ⟨fun f s hm => ⟨(h.all f s hm).1, fun x hx => CallQ.congr (E := E) (E' := E') e ((h.all f s hm).2 x hx)⟩⟩

theorem semRec_ind (hE : EnvOk P E) {f : FuncId} (R : RSpec) (mu : R.γ → Nat) (h : ∀ n, EnvOk P (E.agn f (R.below mu n)) → ∀ g, R.ok g → mu g = n → SemRec P (E.agn f (R.below mu n)) f R g) : ∀ g, R.ok g → SemRec P E f R g := by
  have main : ∀ n g, mu g = n → R.ok g → SemRec P E f R g := by
    intro n
    induction n using Nat.strongRecOn with
    | ind n ih =>
      intro g hg hok
      have hEn : EnvOk P (E.agn f (R.below mu n)) := hE.agn fun g' hg' => ih (mu g') hg'.2 g' rfl hg'.1
      exact SemRec.congr (E := E.agn f (R.below mu n)) (E' := E) rfl (h n hEn g hok hg)
  exact fun g hg => main (mu g) g rfl hg

/-- A function that calls itself and shares blocks, from its conditions. -/
theorem again_with (hE : EnvOk P E) (T : List (Nat × Sig)) (hT : SigsOk P E T) (h0 : ∀ f, (E.fn f).isSome = true → ∃ fn c, P.funcs[f]? = some fn ∧ (fn.name == "runtime.NumGoroutine") = false ∧ fn.body = some c) (l : List (Nat × Nat × Ann)) (c : List (Nat × Nat × Ann)) {fuel : Nat} {f : FuncId} (R : RSpec) (mu : R.γ → Nat)
    (h : ∀ n g, R.ok g → mu g = n → inlBody (((E.agn f (R.below mu n)).sigs T).loops (lookLam l) (lookLam c)) (vc (((E.agn f (R.below mu n)).sigs T).loops (lookLam l) (lookLam c)) fuel) f (R.arg g) (canonHp (R.hp g)) (lenR (R.hp g)) [] (fun v hp _ _ => resFit hp v [.own R.e R.size (R.len g) (R.get g)])) : ∀ g, R.ok g → SemRec P E f R g :=
  semRec_ind hE R mu fun n hEn g hg hn => SemRec.congr (E := ((E.agn f (R.below mu n)).sigs T).loops (lookLam l) (lookLam c)) (E' := E.agn f (R.below mu n)) rfl
    (semRec_of ((hEn.sigs (hT.congr (E := E) (E' := E.agn f (R.below mu n)) rfl) h0).loops (lookLam l) (lookLam c)) (fun _ _ hI hIf hY => draw_ok ((hEn.sigs (hT.congr (E := E) (E' := E.agn f (R.below mu n)) rfl) h0).loops (lookLam l) (lookLam c)) hI hIf hY) (h n g hg hn))

/-- Likewise, where what is said of loops hangs on the call. -/
theorem again_at (hE : EnvOk P E) (T : List (Nat × Sig)) (hT : SigsOk P E T) (h0 : ∀ f, (E.fn f).isSome = true → ∃ fn c, P.funcs[f]? = some fn ∧ (fn.name == "runtime.NumGoroutine") = false ∧ fn.body = some c) {f : FuncId} (R : RSpec) (l : R.γ → List (Nat × Nat × Ann)) (c : R.γ → List (Nat × Nat × Ann)) {fuel : Nat} (mu : R.γ → Nat)
    (h : ∀ n g, R.ok g → mu g = n → inlBody (((E.agn f (R.below mu n)).sigs T).loops (lookLam (l g)) (lookLam (c g))) (vc (((E.agn f (R.below mu n)).sigs T).loops (lookLam (l g)) (lookLam (c g))) fuel) f (R.arg g) (canonHp (R.hp g)) (lenR (R.hp g)) [] (fun v hp _ _ => resFit hp v [.own R.e R.size (R.len g) (R.get g)])) : ∀ g, R.ok g → SemRec P E f R g :=
  semRec_ind hE R mu fun n hEn g hg hn => SemRec.congr (E := ((E.agn f (R.below mu n)).sigs T).loops (lookLam (l g)) (lookLam (c g))) (E' := E.agn f (R.below mu n)) rfl
    (semRec_of ((hEn.sigs (hT.congr (E := E) (E' := E.agn f (R.below mu n)) rfl) h0).loops (lookLam (l g)) (lookLam (c g))) (fun _ _ hI hIf hY => draw_ok ((hEn.sigs (hT.congr (E := E) (E' := E.agn f (R.below mu n)) rfl) h0).loops (lookLam (l g)) (lookLam (c g))) hI hIf hY) (h n g hg hn))

/-- A contract, where one function is said to share blocks with its callers. -/
theorem bare_again (hE : EnvOk P E) (T : List (Nat × Sig)) (hT : SigsOk P E T) (h0 : ∀ f, (E.fn f).isSome = true → ∃ fn c, P.funcs[f]? = some fn ∧ (fn.name == "runtime.NumGoroutine") = false ∧ fn.body = some c) (l : List (Nat × Nat × Ann)) (c : List (Nat × Nat × Ann)) {f0 : FuncId} (R : RSpec) (hR : ∀ g, R.ok g → SemRec P E f0 R g) {fuel : Nat} {f : FuncId} {args : List TV} {rs : List RV}
    (h : inlOf (((E.agn f0 R).sigs T).loops (lookLam l) (lookLam c)) (vc (((E.agn f0 R).sigs T).loops (lookLam l) (lookLam c)) fuel) f args (fun _ => none) 0 [] (fun v hp _ _ => resFit hp v rs)) : CallQ P E f args rs :=
  CallQ.congr (E := E.agn f0 R) (E' := E) rfl (bare_with (hE.agn hR) T (hT.congr (E := E) (E' := E.agn f0 R) rfl) h0 l c h)

theorem semK_ind (hE : EnvOk P E) {f : FuncId} (R : KSpec) (mu : R.γ → Nat) (h : ∀ n, EnvOk P (E.kep f (R.below mu n)) → ∀ g, R.ok g → mu g = n → SemK P (E.kep f (R.below mu n)) f R g) : ∀ g, R.ok g → SemK P E f R g := by
  have main : ∀ n g, mu g = n → R.ok g → SemK P E f R g := by
    intro n
    induction n using Nat.strongRecOn with
    | ind n ih =>
      intro g hg hok
      have hEn : EnvOk P (E.kep f (R.below mu n)) := hE.kep fun g' hg' => ih (mu g') hg'.2 g' rfl hg'.1
      exact SemK.congr (E := E.kep f (R.below mu n)) (E' := E) rfl (h n hEn g hok hg)
  exact fun g hg => main (mu g) g rfl hg

/-- A function that gives its callers' blocks back (and may call itself), from its conditions; what is said of loops may hang on the call. -/
theorem kept_at (hE : EnvOk P E) (T : List (Nat × Sig)) (hT : SigsOk P E T) (h0 : ∀ f, (E.fn f).isSome = true → ∃ fn c, P.funcs[f]? = some fn ∧ (fn.name == "runtime.NumGoroutine") = false ∧ fn.body = some c) {f : FuncId} (R : KSpec) (l : R.γ → List (Nat × Nat × Ann)) (c : R.γ → List (Nat × Nat × Ann)) {fuel : Nat} (mu : R.γ → Nat)
    (h : ∀ n g, R.ok g → mu g = n → inlBody (((E.kep f (R.below mu n)).sigs T).loops (lookLam (l g)) (lookLam (c g))) (vc (((E.kep f (R.below mu n)).sigs T).loops (lookLam (l g)) (lookLam (c g))) fuel) f (R.arg g) (canonHp (R.hp g)) (lenR (R.hp g)) [] (fun v hp _ _ => keptFit R g v hp)) : ∀ g, R.ok g → SemK P E f R g :=
  semK_ind hE R mu fun n hEn g hg hn => SemK.congr (E := ((E.kep f (R.below mu n)).sigs T).loops (lookLam (l g)) (lookLam (c g))) (E' := E.kep f (R.below mu n)) rfl
    (semK_of ((hEn.sigs (hT.congr (E := E) (E' := E.kep f (R.below mu n)) rfl) h0).loops (lookLam (l g)) (lookLam (c g))) (fun _ _ hI hIf hY => draw_ok ((hEn.sigs (hT.congr (E := E) (E' := E.kep f (R.below mu n)) rfl) h0).loops (lookLam (l g)) (lookLam (c g))) hI hIf hY) (h n g hg hn))

/-- Likewise, of a function that does not call itself. -/
theorem kept_one (hE : EnvOk P E) (T : List (Nat × Sig)) (hT : SigsOk P E T) (h0 : ∀ f, (E.fn f).isSome = true → ∃ fn c, P.funcs[f]? = some fn ∧ (fn.name == "runtime.NumGoroutine") = false ∧ fn.body = some c) {f : FuncId} (R : KSpec) (l : R.γ → List (Nat × Nat × Ann)) (c : R.γ → List (Nat × Nat × Ann)) {fuel : Nat}
    (h : ∀ g, R.ok g → inlBody ((E.sigs T).loops (lookLam (l g)) (lookLam (c g))) (vc ((E.sigs T).loops (lookLam (l g)) (lookLam (c g))) fuel) f (R.arg g) (canonHp (R.hp g)) (lenR (R.hp g)) [] (fun v hp _ _ => keptFit R g v hp)) : ∀ g, R.ok g → SemK P E f R g :=
  fun g hg => SemK.congr (E := (E.sigs T).loops (lookLam (l g)) (lookLam (c g))) (E' := E) rfl
    (semK_of ((hE.sigs hT h0).loops (lookLam (l g)) (lookLam (c g))) (fun _ _ hI hIf hY => draw_ok ((hE.sigs hT h0).loops (lookLam (l g)) (lookLam (c g))) hI hIf hY) (h g hg))

/-- Functions that are said to leave their callers' blocks such as they were: a table. -/
def lookEv : List (Nat × ESpec) → Nat → Option ESpec
  | [], _ => none
  | (f, s) :: l, n => match Nat.beq n f with | true => some s | false => lookEv l n
def Env.evens (E : Env) (l : List (Nat × ESpec)) : Env := { E with even := lookEv l }

/-- What a proof has shown of its table. -/
structure EvensOk (P : Program) (E : Env) (l : List (Nat × ESpec)) : Prop where
  all : ∀ f s, (f, s) ∈ l → ∀ x, s.ok x → SemK P E f s.toK x

theorem lookEv_mem : ∀ {l : List (Nat × ESpec)} {f : Nat} {s : ESpec}, lookEv l f = some s → (f, s) ∈ l
  | [], _, _, h => by simp [lookEv] at h
  | (n, j) :: l, t, i, h => by
    simp only [lookEv] at h
    split at h
    · rename_i e
      have := Nat.eq_of_beq_eq_true e
      subst this
      simp at h; subst h; simp
    · exact List.mem_cons_of_mem _ (lookEv_mem h)

theorem EvensOk.nil : EvensOk P E [] := ⟨fun _ _ h => by cases h⟩
theorem EvensOk.cons {l : List (Nat × ESpec)} (h : EvensOk P E l) {f : Nat} {s : ESpec} (hq : ∀ x, s.ok x → SemK P E f s.toK x) : EvensOk P E ((f, s) :: l) :=
  ⟨fun g t hm => by
    rcases List.mem_cons.1 hm with e | hm
    · cases e; exact hq
    · exact h.all g t hm⟩
theorem EvensOk.congr (e : E.gl = E'.gl) {l : List (Nat × ESpec)} (h : EvensOk P E l) : EvensOk P E' l :=
  ⟨fun f s hm x hx => SemK.congr (E := E) (E' := E') e (h.all f s hm x hx)⟩

theorem EnvOk.evens (hE : EnvOk P E) {l : List (Nat × ESpec)} (h : EvensOk P E l) : EnvOk P (E.evens l) :=
  ⟨hE.tab, hE.fn, hE.runs, fun g t x ht hx => CallQ.congr (E := E) (E' := E.evens l) rfl (hE.sig g t x ht hx), hE.mix, hE.maps, fun g R x hR hx => SemRec.congr (E := E) (E' := E.evens l) rfl (hE.again g R x hR hx), fun g R x hR hx => SemK.congr (E := E) (E' := E.evens l) rfl (hE.kept g R x hR hx),
    fun g R x hR hx => SemK.congr (E := E) (E' := E.evens l) rfl (h.all g R (lookEv_mem hR) x hx)⟩

/-- Blocks of which less is said, before regions. -/
def lookWk : List (Nat × Nat × (St → List (Nat × Blk))) → Nat → Nat → St → List (Nat × Blk)
  | [], _, _, _ => []
  | (f, r, l) :: t, g, s, st => match Nat.beq g f && Nat.beq s r with | true => l st | false => lookWk t g s st
def Env.wks (E : Env) (z : List (Nat × Nat × (St → List (Nat × Blk)))) : Env := { E with wk := lookWk z }
theorem EnvOk.wks (hE : EnvOk P E) (z : List (Nat × Nat × (St → List (Nat × Blk)))) : EnvOk P (E.wks z) :=
  ⟨hE.tab, hE.fn, hE.runs, fun g t x ht hx => CallQ.congr (E := E) (E' := E.wks z) rfl (hE.sig g t x ht hx), hE.mix, hE.maps, fun g R x hR hx => SemRec.congr (E := E) (E' := E.wks z) rfl (hE.again g R x hR hx), fun g R x hR hx => SemK.congr (E := E) (E' := E.wks z) rfl (hE.kept g R x hR hx), fun g R x hR hx => SemK.congr (E := E) (E' := E.wks z) rfl (hE.even g R x hR hx)⟩

/-- All that a proof tells: contracts, functions that leave blocks such as they were, loops, cuts, slices let go, blocks of which less is said. -/
def Env.all (E : Env) (T : List (Nat × Sig)) (V : List (Nat × ESpec)) (l c : List (Nat × Nat × Ann)) (z : List (Nat × Nat × List Nat)) (k : List (Nat × Nat × (St → List (Nat × Blk)))) : Env := ((((E.sigs T).evens V).loops (lookLam l) (lookLam c)).keeping.frzs z).wks k

theorem EnvOk.all_ (hE : EnvOk P E) {T : List (Nat × Sig)} (hT : SigsOk P E T) {V : List (Nat × ESpec)} (hV : EvensOk P E V) (h0 : ∀ f, (E.fn f).isSome = true → ∃ fn c, P.funcs[f]? = some fn ∧ (fn.name == "runtime.NumGoroutine") = false ∧ fn.body = some c) (l c : List (Nat × Nat × Ann)) (z : List (Nat × Nat × List Nat)) (k : List (Nat × Nat × (St → List (Nat × Blk)))) : EnvOk P (E.all T V l c z k) :=
  (((((hE.sigs hT h0).evens (hV.congr (E := E) (E' := E.sigs T) rfl)).loops (lookLam l) (lookLam c)).keeping).frzs z).wks k

/-- A contract. -/
theorem bare_all (hE : EnvOk P E) (T : List (Nat × Sig)) (hT : SigsOk P E T) (V : List (Nat × ESpec)) (hV : EvensOk P E V) (h0 : ∀ f, (E.fn f).isSome = true → ∃ fn c, P.funcs[f]? = some fn ∧ (fn.name == "runtime.NumGoroutine") = false ∧ fn.body = some c) (l c : List (Nat × Nat × Ann)) (z : List (Nat × Nat × List Nat)) (k : List (Nat × Nat × (St → List (Nat × Blk)))) {fuel : Nat} {f : FuncId} {args : List TV} {rs : List RV}
    (h : inlOf (E.all T V l c z k) (vc (E.all T V l c z k) fuel) f args (fun _ => none) 0 [] (fun v hp _ _ => resFit hp v rs)) : CallQ P E f args rs :=
  CallQ.congr (E := E.all T V l c z k) (E' := E) rfl (contract (hE.all_ hT hV h0 l c z k) h)

/-- A function that leaves its callers' blocks such as they were; it may call itself, by a measure. -/
theorem even_at (hE : EnvOk P E) (T : List (Nat × Sig)) (hT : SigsOk P E T) (V : List (Nat × ESpec)) (hV : EvensOk P E V) (h0 : ∀ f, (E.fn f).isSome = true → ∃ fn c, P.funcs[f]? = some fn ∧ (fn.name == "runtime.NumGoroutine") = false ∧ fn.body = some c) {f : FuncId} (R : ESpec) (l c : R.γ → List (Nat × Nat × Ann)) (z : List (Nat × Nat × List Nat)) (k : R.γ → List (Nat × Nat × (St → List (Nat × Blk)))) {fuel : Nat} (mu : R.γ → Nat)
    (h : ∀ n g, R.ok g → mu g = n → ∀ ms : Nat → List Int → Option Int, (∀ n T I, canonHp (R.hp g) n = some (.mpI T I) → ∀ ks x, ms n ks = some x → I ks x) →
      inlBody (E.all T ((f, { R with ok := fun g => R.ok g ∧ mu g < n }) :: V) (l g) (c g) z (k g)) (vc (E.all T ((f, { R with ok := fun g => R.ok g ∧ mu g < n }) :: V) (l g) (c g) z (k g)) fuel) f (R.arg g) (openHp ms (canonHp (R.hp g))) (lenR (R.hp g)) [] (fun v hp _ _ => evenFit R g v hp)) : ∀ g, R.ok g → SemK P E f R.toK g := by
  have main : ∀ n g, mu g = n → R.ok g → SemK P E f R.toK g := by
    intro n
    induction n using Nat.strongRecOn with
    | ind n ih =>
      intro g hg hok
      have hV' : EvensOk P E ((f, { R with ok := fun g => R.ok g ∧ mu g < n }) :: V) := hV.cons fun g' hg' => ih (mu g') hg'.2 g' rfl hg'.1
      have hEn := hE.all_ hT hV' h0 (l g) (c g) z (k g)
      exact SemK.congr (E := E.all T ((f, { R with ok := fun g => R.ok g ∧ mu g < n }) :: V) (l g) (c g) z (k g)) (E' := E) rfl (semE_of hEn (fun _ _ hI hIf hY => draw_ok hEn hI hIf hY) (h n g hok hg))
  exact fun g hg => main (mu g) g rfl hg

/-- Numbers that are one of few, before regions. -/
def lookCs : List (Nat × Nat × List (Nat × List Int)) → Nat → Nat → List (Nat × List Int)
  | [], _, _ => []
  | (f, r, l) :: t, g, s => match Nat.beq g f && Nat.beq s r with | true => l | false => lookCs t g s
def Env.css (E : Env) (z : List (Nat × Nat × List (Nat × List Int))) : Env := { E with cs := lookCs z }
theorem EnvOk.css (hE : EnvOk P E) (z : List (Nat × Nat × List (Nat × List Int))) : EnvOk P (E.css z) :=
  ⟨hE.tab, hE.fn, hE.runs, fun g t x ht hx => CallQ.congr (E := E) (E' := E.css z) rfl (hE.sig g t x ht hx), hE.mix, hE.maps, fun g R x hR hx => SemRec.congr (E := E) (E' := E.css z) rfl (hE.again g R x hR hx), fun g R x hR hx => SemK.congr (E := E) (E' := E.css z) rfl (hE.kept g R x hR hx), fun g R x hR hx => SemK.congr (E := E) (E' := E.css z) rfl (hE.even g R x hR hx)⟩

/-- A contract; numbers that are one of few are gone through. -/
theorem bare_cases (hE : EnvOk P E) (T : List (Nat × Sig)) (hT : SigsOk P E T) (V : List (Nat × ESpec)) (hV : EvensOk P E V) (h0 : ∀ f, (E.fn f).isSome = true → ∃ fn c, P.funcs[f]? = some fn ∧ (fn.name == "runtime.NumGoroutine") = false ∧ fn.body = some c) (l c : List (Nat × Nat × Ann)) (z : List (Nat × Nat × List Nat)) (k : List (Nat × Nat × (St → List (Nat × Blk)))) (q : List (Nat × Nat × List (Nat × List Int))) {fuel : Nat} {f : FuncId} {args : List TV} {rs : List RV}
    (h : inlOf ((E.all T V l c z k).css q) (vc ((E.all T V l c z k).css q) fuel) f args (fun _ => none) 0 [] (fun v hp _ _ => resFit hp v rs)) : CallQ P E f args rs :=
  CallQ.congr (E := (E.all T V l c z k).css q) (E' := E) rfl (contract ((hE.all_ hT hV h0 l c z k).css q) h)

/-- Stores of a drawn region beside other operations: blocks of its own, written in place; but for some regions. -/
def inL : List (Nat × Nat) → Nat → Nat → Bool
  | [], _, _ => false
  | (f, r) :: l, g, s => (Nat.beq g f && Nat.beq s r) || inL l g s
def Env.tights (E : Env) (y : List (Nat × Nat)) : Env := { E with any := fun f r => !(inL y f r), every := inL y }
theorem EnvOk.tights (hE : EnvOk P E) (y : List (Nat × Nat)) : EnvOk P (E.tights y) :=
  ⟨hE.tab, hE.fn, hE.runs, fun g t x ht hx => CallQ.congr (E := E) (E' := E.tights y) rfl (hE.sig g t x ht hx), hE.mix, hE.maps, fun g R x hR hx => SemRec.congr (E := E) (E' := E.tights y) rfl (hE.again g R x hR hx), fun g R x hR hx => SemK.congr (E := E) (E' := E.tights y) rfl (hE.kept g R x hR hx), fun g R x hR hx => SemK.congr (E := E) (E' := E.tights y) rfl (hE.even g R x hR hx)⟩

/-- A contract, with all that a proof can tell. -/
theorem bare_tight (hE : EnvOk P E) (T : List (Nat × Sig)) (hT : SigsOk P E T) (V : List (Nat × ESpec)) (hV : EvensOk P E V) (h0 : ∀ f, (E.fn f).isSome = true → ∃ fn c, P.funcs[f]? = some fn ∧ (fn.name == "runtime.NumGoroutine") = false ∧ fn.body = some c) (l c : List (Nat × Nat × Ann)) (z : List (Nat × Nat × List Nat)) (k : List (Nat × Nat × (St → List (Nat × Blk)))) (q : List (Nat × Nat × List (Nat × List Int))) (y : List (Nat × Nat)) {fuel : Nat} {f : FuncId} {args : List TV} {rs : List RV}
    (h : inlOf (((E.all T V l c z k).css q).tights y) (vc (((E.all T V l c z k).css q).tights y) fuel) f args (fun _ => none) 0 [] (fun v hp _ _ => resFit hp v rs)) : CallQ P E f args rs :=
  CallQ.congr (E := ((E.all T V l c z k).css q).tights y) (E' := E) rfl (contract (((hE.all_ hT hV h0 l c z k).css q).tights y) h)
end
end Go.Sx
