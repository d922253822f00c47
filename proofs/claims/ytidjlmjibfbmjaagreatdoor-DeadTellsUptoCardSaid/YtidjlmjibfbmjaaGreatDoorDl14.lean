/- Short lemmas for the walks. -/
import Derived.Test.YtidjlmjibfbmjaaGreatDoorDl13
namespace Go.DL
open Go.RowKit
theorem br {t : Bool} {X Y : Prop} : (t = true → X) → (t = false → Y) → match t with | true => X | false => Y := by
  intro h1 h2
  cases t
  · exact h2 rfl
  · exact h1 rfl
theorem brd {p : Prop} [Decidable p] {X Y : Prop} : (p → X) → (¬ p → Y) → match decide p with | true => X | false => Y := by
  intro h1 h2
  by_cases h : p
  · rw [decide_eq_true h]; exact h1 h
  · rw [decide_eq_false h]; exact h2 h
theorem brn {p : Prop} [Decidable p] {X Y : Prop} : (¬ p → X) → (p → Y) → match !decide p with | true => X | false => Y := by
  intro h1 h2
  by_cases h : p
  · rw [decide_eq_true h]; exact h2 h
  · rw [decide_eq_false h]; exact h1 h
theorem wrap64 {n : Int} (h1 : -9223372036854775808 ≤ n) (h2 : n ≤ 9223372036854775807) : IntKind.i64.wrap n = n :=
  wrap_in .i64 n (by simp only [IntKind.signed, kMax, if_true]; omega) (by simp only [kMax]; omega)
theorem wrap_len {n : Nat} (h : n ≤ maxLen) : IntKind.i64.wrap (n : Int) = n := wrap64 (by omega) (by simp only [maxLen] at h; omega)
theorem wrap_succ {n m : Nat} (h : n < m) (hm : m ≤ maxLen) : IntKind.i64.wrap ((n : Int) + 1) = ((n + 1 : Nat) : Int) := by
  simp only [maxLen] at hm
  rw [wrap64 (by omega) (by omega)]
  omega
theorem row_at {α : Type} {l : List α} {f : α → List D} {i : Nat} (h : i < l.length) : (l.map f)[((i : Int)).toNat]? = some (f l[i]) := by
  simp [h]
theorem row_int {α : Type} {l : List α} {f : α → List D} {i : Int} (h0 : 0 ≤ i) (h : i < l.length) : (l.map f)[i.toNat]? = some (f (l[i.toNat]'(by omega))) := by
  have : i.toNat < l.length := by omega
  simp [this]
/-- lists of numbers, of truth values -/
def il (l : List Int) : D := .sl (l.map fun n => [.i .i64 n])
def bl (l : List Bool) : D := .sl (l.map fun b => [.b b])
theorem wf_map {α : Type} {f : α → List D} : ∀ {l : List α}, (D.sl (l.map f)).wf → l.length ≤ maxLen := fun h => by
  have := h.1
  simpa using this
end Go.DL
