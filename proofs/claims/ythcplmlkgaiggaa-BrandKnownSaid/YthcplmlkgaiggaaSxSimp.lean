/- The framework Sx: little laws that put conditions into a short form. -/
import Derived.Test.YthcplmlkgaiggaaSxEnv
set_option linter.unusedSimpArgs false
set_option linter.unusedVariables false
namespace Go.Sx
theorem inR (n : Int) : inRange .i64 n ↔ -9223372036854775808 ≤ n ∧ n ≤ 9223372036854775807 := Iff.rfl
theorem nx1 {g h : Nat} : ((g : Int) + 1 = (h : Int)) ↔ h = g + 1 := by omega
theorem nx0 {h : Nat} : ((0 : Int) = (h : Int)) ↔ h = 0 := by omega
theorem nx01 {h : Nat} : ((1 : Int) = (h : Int)) ↔ h = 1 := by omega
theorem nxs {g h : Nat} : ((g : Int) = (h : Int)) ↔ h = g := by omega
theorem exs1 {g : Nat} : (∃ a : Nat, (g : Int) = (a : Int)) ↔ True := ⟨fun ⟨a, e⟩ => by obtain rfl : a = g := (by omega); exact trivial, fun h => ⟨g, by omega⟩⟩
theorem exn1 {g : Nat} : (∃ a : Nat, (g : Int) + 1 = (a : Int)) ↔ True := ⟨fun ⟨a, e⟩ => by obtain rfl : a = g + 1 := (by omega); exact trivial, fun h => ⟨g + 1, by omega⟩⟩
theorem exz1 : (∃ a : Nat, (0 : Int) = (a : Int)) ↔ True := ⟨fun ⟨a, e⟩ => by obtain rfl : a = 0 := (by omega); exact trivial, fun h => ⟨0, by omega⟩⟩
theorem exo1 : (∃ a : Nat, (1 : Int) = (a : Int)) ↔ True := ⟨fun ⟨a, e⟩ => by obtain rfl : a = 1 := (by omega); exact trivial, fun h => ⟨1, by omega⟩⟩
theorem exs2 {p1 : Nat → Prop} {g : Nat} : (∃ a : Nat, p1 a ∧ (g : Int) = (a : Int)) ↔ p1 g := ⟨fun ⟨a, h1, e⟩ => by obtain rfl : a = g := (by omega); exact h1, fun h => ⟨g, h, by omega⟩⟩
theorem exn2 {p1 : Nat → Prop} {g : Nat} : (∃ a : Nat, p1 a ∧ (g : Int) + 1 = (a : Int)) ↔ p1 (g + 1) := ⟨fun ⟨a, h1, e⟩ => by obtain rfl : a = g + 1 := (by omega); exact h1, fun h => ⟨g + 1, h, by omega⟩⟩
theorem exz2 {p1 : Nat → Prop} : (∃ a : Nat, p1 a ∧ (0 : Int) = (a : Int)) ↔ p1 0 := ⟨fun ⟨a, h1, e⟩ => by obtain rfl : a = 0 := (by omega); exact h1, fun h => ⟨0, h, by omega⟩⟩
theorem exo2 {p1 : Nat → Prop} : (∃ a : Nat, p1 a ∧ (1 : Int) = (a : Int)) ↔ p1 1 := ⟨fun ⟨a, h1, e⟩ => by obtain rfl : a = 1 := (by omega); exact h1, fun h => ⟨1, h, by omega⟩⟩
theorem exs3 {p1 p2 : Nat → Prop} {g : Nat} : (∃ a : Nat, p1 a ∧ p2 a ∧ (g : Int) = (a : Int)) ↔ p1 g ∧ p2 g := ⟨fun ⟨a, h1, h2, e⟩ => by obtain rfl : a = g := (by omega); exact ⟨h1, h2⟩, fun h => ⟨g, h.1, h.2, by omega⟩⟩
theorem exn3 {p1 p2 : Nat → Prop} {g : Nat} : (∃ a : Nat, p1 a ∧ p2 a ∧ (g : Int) + 1 = (a : Int)) ↔ p1 (g + 1) ∧ p2 (g + 1) := ⟨fun ⟨a, h1, h2, e⟩ => by obtain rfl : a = g + 1 := (by omega); exact ⟨h1, h2⟩, fun h => ⟨g + 1, h.1, h.2, by omega⟩⟩
theorem exz3 {p1 p2 : Nat → Prop} : (∃ a : Nat, p1 a ∧ p2 a ∧ (0 : Int) = (a : Int)) ↔ p1 0 ∧ p2 0 := ⟨fun ⟨a, h1, h2, e⟩ => by obtain rfl : a = 0 := (by omega); exact ⟨h1, h2⟩, fun h => ⟨0, h.1, h.2, by omega⟩⟩
theorem exo3 {p1 p2 : Nat → Prop} : (∃ a : Nat, p1 a ∧ p2 a ∧ (1 : Int) = (a : Int)) ↔ p1 1 ∧ p2 1 := ⟨fun ⟨a, h1, h2, e⟩ => by obtain rfl : a = 1 := (by omega); exact ⟨h1, h2⟩, fun h => ⟨1, h.1, h.2, by omega⟩⟩
theorem exs4 {p1 p2 p3 : Nat → Prop} {g : Nat} : (∃ a : Nat, p1 a ∧ p2 a ∧ p3 a ∧ (g : Int) = (a : Int)) ↔ p1 g ∧ p2 g ∧ p3 g := ⟨fun ⟨a, h1, h2, h3, e⟩ => by obtain rfl : a = g := (by omega); exact ⟨h1, h2, h3⟩, fun h => ⟨g, h.1, h.2.1, h.2.2, by omega⟩⟩
theorem exn4 {p1 p2 p3 : Nat → Prop} {g : Nat} : (∃ a : Nat, p1 a ∧ p2 a ∧ p3 a ∧ (g : Int) + 1 = (a : Int)) ↔ p1 (g + 1) ∧ p2 (g + 1) ∧ p3 (g + 1) := ⟨fun ⟨a, h1, h2, h3, e⟩ => by obtain rfl : a = g + 1 := (by omega); exact ⟨h1, h2, h3⟩, fun h => ⟨g + 1, h.1, h.2.1, h.2.2, by omega⟩⟩
theorem exz4 {p1 p2 p3 : Nat → Prop} : (∃ a : Nat, p1 a ∧ p2 a ∧ p3 a ∧ (0 : Int) = (a : Int)) ↔ p1 0 ∧ p2 0 ∧ p3 0 := ⟨fun ⟨a, h1, h2, h3, e⟩ => by obtain rfl : a = 0 := (by omega); exact ⟨h1, h2, h3⟩, fun h => ⟨0, h.1, h.2.1, h.2.2, by omega⟩⟩
theorem exo4 {p1 p2 p3 : Nat → Prop} : (∃ a : Nat, p1 a ∧ p2 a ∧ p3 a ∧ (1 : Int) = (a : Int)) ↔ p1 1 ∧ p2 1 ∧ p3 1 := ⟨fun ⟨a, h1, h2, h3, e⟩ => by obtain rfl : a = 1 := (by omega); exact ⟨h1, h2, h3⟩, fun h => ⟨1, h.1, h.2.1, h.2.2, by omega⟩⟩
theorem exs5 {p1 p2 p3 p4 : Nat → Prop} {g : Nat} : (∃ a : Nat, p1 a ∧ p2 a ∧ p3 a ∧ p4 a ∧ (g : Int) = (a : Int)) ↔ p1 g ∧ p2 g ∧ p3 g ∧ p4 g := ⟨fun ⟨a, h1, h2, h3, h4, e⟩ => by obtain rfl : a = g := (by omega); exact ⟨h1, h2, h3, h4⟩, fun h => ⟨g, h.1, h.2.1, h.2.2.1, h.2.2.2, by omega⟩⟩
theorem exn5 {p1 p2 p3 p4 : Nat → Prop} {g : Nat} : (∃ a : Nat, p1 a ∧ p2 a ∧ p3 a ∧ p4 a ∧ (g : Int) + 1 = (a : Int)) ↔ p1 (g + 1) ∧ p2 (g + 1) ∧ p3 (g + 1) ∧ p4 (g + 1) := ⟨fun ⟨a, h1, h2, h3, h4, e⟩ => by obtain rfl : a = g + 1 := (by omega); exact ⟨h1, h2, h3, h4⟩, fun h => ⟨g + 1, h.1, h.2.1, h.2.2.1, h.2.2.2, by omega⟩⟩
theorem exz5 {p1 p2 p3 p4 : Nat → Prop} : (∃ a : Nat, p1 a ∧ p2 a ∧ p3 a ∧ p4 a ∧ (0 : Int) = (a : Int)) ↔ p1 0 ∧ p2 0 ∧ p3 0 ∧ p4 0 := ⟨fun ⟨a, h1, h2, h3, h4, e⟩ => by obtain rfl : a = 0 := (by omega); exact ⟨h1, h2, h3, h4⟩, fun h => ⟨0, h.1, h.2.1, h.2.2.1, h.2.2.2, by omega⟩⟩
theorem exo5 {p1 p2 p3 p4 : Nat → Prop} : (∃ a : Nat, p1 a ∧ p2 a ∧ p3 a ∧ p4 a ∧ (1 : Int) = (a : Int)) ↔ p1 1 ∧ p2 1 ∧ p3 1 ∧ p4 1 := ⟨fun ⟨a, h1, h2, h3, h4, e⟩ => by obtain rfl : a = 1 := (by omega); exact ⟨h1, h2, h3, h4⟩, fun h => ⟨1, h.1, h.2.1, h.2.2.1, h.2.2.2, by omega⟩⟩
theorem exs6 {p1 p2 p3 p4 p5 : Nat → Prop} {g : Nat} : (∃ a : Nat, p1 a ∧ p2 a ∧ p3 a ∧ p4 a ∧ p5 a ∧ (g : Int) = (a : Int)) ↔ p1 g ∧ p2 g ∧ p3 g ∧ p4 g ∧ p5 g := ⟨fun ⟨a, h1, h2, h3, h4, h5, e⟩ => by obtain rfl : a = g := (by omega); exact ⟨h1, h2, h3, h4, h5⟩, fun h => ⟨g, h.1, h.2.1, h.2.2.1, h.2.2.2.1, h.2.2.2.2, by omega⟩⟩
theorem exn6 {p1 p2 p3 p4 p5 : Nat → Prop} {g : Nat} : (∃ a : Nat, p1 a ∧ p2 a ∧ p3 a ∧ p4 a ∧ p5 a ∧ (g : Int) + 1 = (a : Int)) ↔ p1 (g + 1) ∧ p2 (g + 1) ∧ p3 (g + 1) ∧ p4 (g + 1) ∧ p5 (g + 1) := ⟨fun ⟨a, h1, h2, h3, h4, h5, e⟩ => by obtain rfl : a = g + 1 := (by omega); exact ⟨h1, h2, h3, h4, h5⟩, fun h => ⟨g + 1, h.1, h.2.1, h.2.2.1, h.2.2.2.1, h.2.2.2.2, by omega⟩⟩
theorem exz6 {p1 p2 p3 p4 p5 : Nat → Prop} : (∃ a : Nat, p1 a ∧ p2 a ∧ p3 a ∧ p4 a ∧ p5 a ∧ (0 : Int) = (a : Int)) ↔ p1 0 ∧ p2 0 ∧ p3 0 ∧ p4 0 ∧ p5 0 := ⟨fun ⟨a, h1, h2, h3, h4, h5, e⟩ => by obtain rfl : a = 0 := (by omega); exact ⟨h1, h2, h3, h4, h5⟩, fun h => ⟨0, h.1, h.2.1, h.2.2.1, h.2.2.2.1, h.2.2.2.2, by omega⟩⟩
theorem exo6 {p1 p2 p3 p4 p5 : Nat → Prop} : (∃ a : Nat, p1 a ∧ p2 a ∧ p3 a ∧ p4 a ∧ p5 a ∧ (1 : Int) = (a : Int)) ↔ p1 1 ∧ p2 1 ∧ p3 1 ∧ p4 1 ∧ p5 1 := ⟨fun ⟨a, h1, h2, h3, h4, h5, e⟩ => by obtain rfl : a = 1 := (by omega); exact ⟨h1, h2, h3, h4, h5⟩, fun h => ⟨1, h.1, h.2.1, h.2.2.1, h.2.2.2.1, h.2.2.2.2, by omega⟩⟩
theorem exs7 {p1 p2 p3 p4 p5 p6 : Nat → Prop} {g : Nat} : (∃ a : Nat, p1 a ∧ p2 a ∧ p3 a ∧ p4 a ∧ p5 a ∧ p6 a ∧ (g : Int) = (a : Int)) ↔ p1 g ∧ p2 g ∧ p3 g ∧ p4 g ∧ p5 g ∧ p6 g := ⟨fun ⟨a, h1, h2, h3, h4, h5, h6, e⟩ => by obtain rfl : a = g := (by omega); exact ⟨h1, h2, h3, h4, h5, h6⟩, fun h => ⟨g, h.1, h.2.1, h.2.2.1, h.2.2.2.1, h.2.2.2.2.1, h.2.2.2.2.2, by omega⟩⟩
theorem exn7 {p1 p2 p3 p4 p5 p6 : Nat → Prop} {g : Nat} : (∃ a : Nat, p1 a ∧ p2 a ∧ p3 a ∧ p4 a ∧ p5 a ∧ p6 a ∧ (g : Int) + 1 = (a : Int)) ↔ p1 (g + 1) ∧ p2 (g + 1) ∧ p3 (g + 1) ∧ p4 (g + 1) ∧ p5 (g + 1) ∧ p6 (g + 1) := ⟨fun ⟨a, h1, h2, h3, h4, h5, h6, e⟩ => by obtain rfl : a = g + 1 := (by omega); exact ⟨h1, h2, h3, h4, h5, h6⟩, fun h => ⟨g + 1, h.1, h.2.1, h.2.2.1, h.2.2.2.1, h.2.2.2.2.1, h.2.2.2.2.2, by omega⟩⟩
theorem exz7 {p1 p2 p3 p4 p5 p6 : Nat → Prop} : (∃ a : Nat, p1 a ∧ p2 a ∧ p3 a ∧ p4 a ∧ p5 a ∧ p6 a ∧ (0 : Int) = (a : Int)) ↔ p1 0 ∧ p2 0 ∧ p3 0 ∧ p4 0 ∧ p5 0 ∧ p6 0 := ⟨fun ⟨a, h1, h2, h3, h4, h5, h6, e⟩ => by obtain rfl : a = 0 := (by omega); exact ⟨h1, h2, h3, h4, h5, h6⟩, fun h => ⟨0, h.1, h.2.1, h.2.2.1, h.2.2.2.1, h.2.2.2.2.1, h.2.2.2.2.2, by omega⟩⟩
theorem exo7 {p1 p2 p3 p4 p5 p6 : Nat → Prop} : (∃ a : Nat, p1 a ∧ p2 a ∧ p3 a ∧ p4 a ∧ p5 a ∧ p6 a ∧ (1 : Int) = (a : Int)) ↔ p1 1 ∧ p2 1 ∧ p3 1 ∧ p4 1 ∧ p5 1 ∧ p6 1 := ⟨fun ⟨a, h1, h2, h3, h4, h5, h6, e⟩ => by obtain rfl : a = 1 := (by omega); exact ⟨h1, h2, h3, h4, h5, h6⟩, fun h => ⟨1, h.1, h.2.1, h.2.2.1, h.2.2.2.1, h.2.2.2.2.1, h.2.2.2.2.2, by omega⟩⟩
theorem exs8 {p1 p2 p3 p4 p5 p6 p7 : Nat → Prop} {g : Nat} : (∃ a : Nat, p1 a ∧ p2 a ∧ p3 a ∧ p4 a ∧ p5 a ∧ p6 a ∧ p7 a ∧ (g : Int) = (a : Int)) ↔ p1 g ∧ p2 g ∧ p3 g ∧ p4 g ∧ p5 g ∧ p6 g ∧ p7 g := ⟨fun ⟨a, h1, h2, h3, h4, h5, h6, h7, e⟩ => by obtain rfl : a = g := (by omega); exact ⟨h1, h2, h3, h4, h5, h6, h7⟩, fun h => ⟨g, h.1, h.2.1, h.2.2.1, h.2.2.2.1, h.2.2.2.2.1, h.2.2.2.2.2.1, h.2.2.2.2.2.2, by omega⟩⟩
theorem exn8 {p1 p2 p3 p4 p5 p6 p7 : Nat → Prop} {g : Nat} : (∃ a : Nat, p1 a ∧ p2 a ∧ p3 a ∧ p4 a ∧ p5 a ∧ p6 a ∧ p7 a ∧ (g : Int) + 1 = (a : Int)) ↔ p1 (g + 1) ∧ p2 (g + 1) ∧ p3 (g + 1) ∧ p4 (g + 1) ∧ p5 (g + 1) ∧ p6 (g + 1) ∧ p7 (g + 1) := ⟨fun ⟨a, h1, h2, h3, h4, h5, h6, h7, e⟩ => by obtain rfl : a = g + 1 := (by omega); exact ⟨h1, h2, h3, h4, h5, h6, h7⟩, fun h => ⟨g + 1, h.1, h.2.1, h.2.2.1, h.2.2.2.1, h.2.2.2.2.1, h.2.2.2.2.2.1, h.2.2.2.2.2.2, by omega⟩⟩
theorem exz8 {p1 p2 p3 p4 p5 p6 p7 : Nat → Prop} : (∃ a : Nat, p1 a ∧ p2 a ∧ p3 a ∧ p4 a ∧ p5 a ∧ p6 a ∧ p7 a ∧ (0 : Int) = (a : Int)) ↔ p1 0 ∧ p2 0 ∧ p3 0 ∧ p4 0 ∧ p5 0 ∧ p6 0 ∧ p7 0 := ⟨fun ⟨a, h1, h2, h3, h4, h5, h6, h7, e⟩ => by obtain rfl : a = 0 := (by omega); exact ⟨h1, h2, h3, h4, h5, h6, h7⟩, fun h => ⟨0, h.1, h.2.1, h.2.2.1, h.2.2.2.1, h.2.2.2.2.1, h.2.2.2.2.2.1, h.2.2.2.2.2.2, by omega⟩⟩
theorem exo8 {p1 p2 p3 p4 p5 p6 p7 : Nat → Prop} : (∃ a : Nat, p1 a ∧ p2 a ∧ p3 a ∧ p4 a ∧ p5 a ∧ p6 a ∧ p7 a ∧ (1 : Int) = (a : Int)) ↔ p1 1 ∧ p2 1 ∧ p3 1 ∧ p4 1 ∧ p5 1 ∧ p6 1 ∧ p7 1 := ⟨fun ⟨a, h1, h2, h3, h4, h5, h6, h7, e⟩ => by obtain rfl : a = 1 := (by omega); exact ⟨h1, h2, h3, h4, h5, h6, h7⟩, fun h => ⟨1, h.1, h.2.1, h.2.2.1, h.2.2.2.1, h.2.2.2.2.1, h.2.2.2.2.2.1, h.2.2.2.2.2.2, by omega⟩⟩
theorem exs9 {p1 p2 p3 p4 p5 p6 p7 p8 : Nat → Prop} {g : Nat} : (∃ a : Nat, p1 a ∧ p2 a ∧ p3 a ∧ p4 a ∧ p5 a ∧ p6 a ∧ p7 a ∧ p8 a ∧ (g : Int) = (a : Int)) ↔ p1 g ∧ p2 g ∧ p3 g ∧ p4 g ∧ p5 g ∧ p6 g ∧ p7 g ∧ p8 g := ⟨fun ⟨a, h1, h2, h3, h4, h5, h6, h7, h8, e⟩ => by obtain rfl : a = g := (by omega); exact ⟨h1, h2, h3, h4, h5, h6, h7, h8⟩, fun h => ⟨g, h.1, h.2.1, h.2.2.1, h.2.2.2.1, h.2.2.2.2.1, h.2.2.2.2.2.1, h.2.2.2.2.2.2.1, h.2.2.2.2.2.2.2, by omega⟩⟩
theorem exn9 {p1 p2 p3 p4 p5 p6 p7 p8 : Nat → Prop} {g : Nat} : (∃ a : Nat, p1 a ∧ p2 a ∧ p3 a ∧ p4 a ∧ p5 a ∧ p6 a ∧ p7 a ∧ p8 a ∧ (g : Int) + 1 = (a : Int)) ↔ p1 (g + 1) ∧ p2 (g + 1) ∧ p3 (g + 1) ∧ p4 (g + 1) ∧ p5 (g + 1) ∧ p6 (g + 1) ∧ p7 (g + 1) ∧ p8 (g + 1) := ⟨fun ⟨a, h1, h2, h3, h4, h5, h6, h7, h8, e⟩ => by obtain rfl : a = g + 1 := (by omega); exact ⟨h1, h2, h3, h4, h5, h6, h7, h8⟩, fun h => ⟨g + 1, h.1, h.2.1, h.2.2.1, h.2.2.2.1, h.2.2.2.2.1, h.2.2.2.2.2.1, h.2.2.2.2.2.2.1, h.2.2.2.2.2.2.2, by omega⟩⟩
theorem exz9 {p1 p2 p3 p4 p5 p6 p7 p8 : Nat → Prop} : (∃ a : Nat, p1 a ∧ p2 a ∧ p3 a ∧ p4 a ∧ p5 a ∧ p6 a ∧ p7 a ∧ p8 a ∧ (0 : Int) = (a : Int)) ↔ p1 0 ∧ p2 0 ∧ p3 0 ∧ p4 0 ∧ p5 0 ∧ p6 0 ∧ p7 0 ∧ p8 0 := ⟨fun ⟨a, h1, h2, h3, h4, h5, h6, h7, h8, e⟩ => by obtain rfl : a = 0 := (by omega); exact ⟨h1, h2, h3, h4, h5, h6, h7, h8⟩, fun h => ⟨0, h.1, h.2.1, h.2.2.1, h.2.2.2.1, h.2.2.2.2.1, h.2.2.2.2.2.1, h.2.2.2.2.2.2.1, h.2.2.2.2.2.2.2, by omega⟩⟩
theorem exo9 {p1 p2 p3 p4 p5 p6 p7 p8 : Nat → Prop} : (∃ a : Nat, p1 a ∧ p2 a ∧ p3 a ∧ p4 a ∧ p5 a ∧ p6 a ∧ p7 a ∧ p8 a ∧ (1 : Int) = (a : Int)) ↔ p1 1 ∧ p2 1 ∧ p3 1 ∧ p4 1 ∧ p5 1 ∧ p6 1 ∧ p7 1 ∧ p8 1 := ⟨fun ⟨a, h1, h2, h3, h4, h5, h6, h7, h8, e⟩ => by obtain rfl : a = 1 := (by omega); exact ⟨h1, h2, h3, h4, h5, h6, h7, h8⟩, fun h => ⟨1, h.1, h.2.1, h.2.2.1, h.2.2.2.1, h.2.2.2.2.1, h.2.2.2.2.2.1, h.2.2.2.2.2.2.1, h.2.2.2.2.2.2.2, by omega⟩⟩
theorem exhs {P : Nat → Prop} {g : Nat} : (∃ a : Nat, (g : Int) = (a : Int) ∧ P a) ↔ P g := ⟨fun ⟨a, e, h⟩ => by obtain rfl : a = g := (by omega); exact h, fun h => ⟨g, by omega, h⟩⟩
theorem exhn {P : Nat → Prop} {g : Nat} : (∃ a : Nat, (g : Int) + 1 = (a : Int) ∧ P a) ↔ P (g + 1) := ⟨fun ⟨a, e, h⟩ => by obtain rfl : a = g + 1 := (by omega); exact h, fun h => ⟨g + 1, by omega, h⟩⟩
theorem exhz {P : Nat → Prop} : (∃ a : Nat, (0 : Int) = (a : Int) ∧ P a) ↔ P 0 := ⟨fun ⟨a, e, h⟩ => by obtain rfl : a = 0 := (by omega); exact h, fun h => ⟨0, by omega, h⟩⟩
theorem exho {P : Nat → Prop} : (∃ a : Nat, (1 : Int) = (a : Int) ∧ P a) ↔ P 1 := ⟨fun ⟨a, e, h⟩ => by obtain rfl : a = 1 := (by omega); exact h, fun h => ⟨1, by omega, h⟩⟩
section
variable {α : Sort _} {p q r s t u v : α → Prop} {a' : α}
theorem ex1 : (∃ a, a = a') ↔ True := ⟨fun _ => trivial, fun _ => ⟨a', rfl⟩⟩
theorem ex2 : (∃ a, p a ∧ a = a') ↔ p a' := ⟨fun ⟨_, h, e⟩ => e ▸ h, fun h => ⟨a', h, rfl⟩⟩
theorem ex3 : (∃ a, p a ∧ q a ∧ a = a') ↔ p a' ∧ q a' := ⟨fun ⟨_, h, h2, e⟩ => e ▸ ⟨h, h2⟩, fun ⟨h, h2⟩ => ⟨a', h, h2, rfl⟩⟩
theorem ex4 : (∃ a, p a ∧ q a ∧ r a ∧ a = a') ↔ p a' ∧ q a' ∧ r a' := ⟨fun ⟨_, h, h2, h3, e⟩ => e ▸ ⟨h, h2, h3⟩, fun ⟨h, h2, h3⟩ => ⟨a', h, h2, h3, rfl⟩⟩
theorem ex5 : (∃ a, p a ∧ q a ∧ r a ∧ s a ∧ a = a') ↔ p a' ∧ q a' ∧ r a' ∧ s a' := ⟨fun ⟨_, h, h2, h3, h4, e⟩ => e ▸ ⟨h, h2, h3, h4⟩, fun ⟨h, h2, h3, h4⟩ => ⟨a', h, h2, h3, h4, rfl⟩⟩
theorem ex6 : (∃ a, p a ∧ q a ∧ r a ∧ s a ∧ t a ∧ a = a') ↔ p a' ∧ q a' ∧ r a' ∧ s a' ∧ t a' := ⟨fun ⟨_, h, h2, h3, h4, h5, e⟩ => e ▸ ⟨h, h2, h3, h4, h5⟩, fun ⟨h, h2, h3, h4, h5⟩ => ⟨a', h, h2, h3, h4, h5, rfl⟩⟩
theorem ex7 : (∃ a, p a ∧ q a ∧ r a ∧ s a ∧ t a ∧ u a ∧ a = a') ↔ p a' ∧ q a' ∧ r a' ∧ s a' ∧ t a' ∧ u a' := ⟨fun ⟨_, h, h2, h3, h4, h5, h6, e⟩ => e ▸ ⟨h, h2, h3, h4, h5, h6⟩, fun ⟨h, h2, h3, h4, h5, h6⟩ => ⟨a', h, h2, h3, h4, h5, h6, rfl⟩⟩
theorem ex8 : (∃ a, p a ∧ q a ∧ r a ∧ s a ∧ t a ∧ u a ∧ v a ∧ a = a') ↔ p a' ∧ q a' ∧ r a' ∧ s a' ∧ t a' ∧ u a' ∧ v a' := ⟨fun ⟨_, h, h2, h3, h4, h5, h6, h7, e⟩ => e ▸ ⟨h, h2, h3, h4, h5, h6, h7⟩, fun ⟨h, h2, h3, h4, h5, h6, h7⟩ => ⟨a', h, h2, h3, h4, h5, h6, h7, rfl⟩⟩
end
/-- A loop up to a number: its rounds, and its end. -/
theorem loopN {n : Nat} {A B : Nat → Prop} : (∀ g : Nat, g ≤ n → ((g : Int) < (n : Int) → A g) ∧ (¬ (g : Int) < (n : Int) → B g)) ↔ (∀ g, g < n → A g) ∧ B n :=
  ⟨fun h => ⟨fun g hg => (h g (by omega)).1 (by omega), (h n (by omega)).2 (by omega)⟩, fun h g hg => ⟨fun hl => h.1 g (by omega), fun hl => by obtain rfl : g = n := (by omega); exact h.2⟩⟩
theorem loopM {n : Nat} {M A B : Nat → Prop} : (∀ g : Nat, g ≤ n ∧ M g → ((g : Int) < (n : Int) → A g) ∧ (¬ (g : Int) < (n : Int) → B g)) ↔ (∀ g, g < n → M g → A g) ∧ (M n → B n) :=
  ⟨fun h => ⟨fun g hg hm => (h g ⟨by omega, hm⟩).1 (by omega), fun hm => (h n ⟨by omega, hm⟩).2 (by omega)⟩, fun h g hg => ⟨fun hl => h.1 g (by omega) hg.2, fun hl => by obtain rfl : g = n := (by omega); exact h.2 hg.2⟩⟩
theorem beqI {a b : Int} : (a == b) = decide (a = b) := rfl
theorem bneI {a b : Int} : (a != b) = decide (a ≠ b) := by by_cases h : a = b <;> simp [h]
theorem fas {g : Nat} {P : Nat → Prop} : (∀ a : Nat, (g : Int) = (a : Int) → P a) ↔ P g := ⟨fun h => h g rfl, fun h a e => by obtain rfl : g = a := (by omega); exact h⟩
theorem fas2 {β : Type} {g : Nat} {P : Nat → β → Prop} {Q : Nat → β → Prop} : (∀ (a : Nat) (b : β), (g : Int) = (a : Int) ∧ P a b → Q a b) ↔ ∀ b, P g b → Q g b := ⟨fun h b hp => h g b ⟨rfl, hp⟩, fun h a b ⟨e, hp⟩ => by obtain rfl : g = a := (by omega); exact h b hp⟩
theorem fa2 {α β : Type} {g : α} {P : α → β → Prop} {Q : α → β → Prop} : (∀ a b, a = g ∧ P a b → Q a b) ↔ ∀ b, P g b → Q g b := ⟨fun h b hp => h g b ⟨rfl, hp⟩, fun h a b ⟨e, hp⟩ => by subst e; exact h b hp⟩
theorem dup1 {c X Y : Prop} : (c → (c → X) ∧ (¬c → Y)) ↔ (c → X) := ⟨fun h hc => (h hc).1 hc, fun h hc => ⟨h, fun n => absurd hc n⟩⟩
theorem dup2 {c X Y : Prop} : (¬c → (c → X) ∧ (¬c → Y)) ↔ (¬c → Y) := ⟨fun h hc => (h hc).2 hc, fun h hc => ⟨fun c => absurd c hc, h⟩⟩
theorem dup3 {b : Bool} {X Y : Prop} : (b = true → (b = true → X) ∧ (b = false → Y)) ↔ (b = true → X) := ⟨fun h hc => (h hc).1 hc, fun h hc => ⟨h, fun n => by (rw [hc] at n; cases n)⟩⟩
theorem dup4 {b : Bool} {X Y : Prop} : (b = false → (b = true → X) ∧ (b = false → Y)) ↔ (b = false → Y) := ⟨fun h hc => (h hc).2 hc, fun h hc => ⟨fun n => by (rw [hc] at n; cases n), h⟩⟩
theorem and_imp' {a b c : Prop} : (a ∧ b → c) ↔ (a → b → c) := ⟨fun h x y => h ⟨x, y⟩, fun h ⟨x, y⟩ => h x y⟩
/-- A temporary's whole number. -/
def isI (v : AV) (n : Int) : Prop := match v with | .t (.c (.int _ m)) => m = n | _ => False
end Go.Sx
namespace Go.Sx
/-- The name that a slice of the call's own, or a pointer, bears. -/
def osN (v : AV) : Nat := match v with | .t (.c (.os n _ _)) => n | .t (.c (.ptr n _)) => n | _ => 0
/-- A box's whole number. -/
def isB (b : Option Blk) (off : Nat) (n : Int) : Prop := match b with | some (.box _ get) => isI (.t (.c (get off))) n | _ => False
end Go.Sx
