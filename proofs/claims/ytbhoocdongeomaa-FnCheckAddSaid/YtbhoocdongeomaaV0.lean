/- Words for searches in lists. -/
import Derived.Test.YtbhoocdongeomaaI1
set_option linter.unusedVariables false
namespace Go.Proofs.Ytbhoocdongeomaa
open Go.RowKit
/-- r: the place of the first that p takes; -1: none -/
def IsIdx {α : Type} (p : α → Bool) (l : List α) (r : Int) : Prop :=
  (∃ (k : Nat) (x : α), r = k ∧ l[k]? = some x ∧ p x = true ∧ ∀ y ∈ l.take k, p y = false) ∨ (r = -1 ∧ ∀ y ∈ l, p y = false)
def IdxRet {α : Type} (p : α → Bool) (l : List α) (w : World) (e : Ending) (w' : World) : Prop :=
  ∃ r : Int, e = .returned (.int .i64 r) ∧ Only [] w w' ∧ IsIdx p l r
theorem take_all {α : Type} (p : α → Bool) (l : List α) (k : Nat) (x : α) (hx : l[k]? = some x) (h : ∀ y ∈ l.take k, p y = false) (hp : p x = false) : ∀ y ∈ l.take (k + 1), p y = false := by
  intro y hy
  have hk : k < l.length := (List.getElem?_eq_some_iff.1 hx).1
  rw [List.take_succ_eq_append_getElem hk, List.mem_append] at hy
  rcases hy with hy | hy
  · exact h y hy
  · rw [List.mem_singleton.1 hy, (List.getElem?_eq_some_iff.1 hx).2]; exact hp
theorem idx_any {α : Type} {p : α → Bool} {l : List α} {r : Int} (h : IsIdx p l r) : decide (0 ≤ r) = l.any p := by
  rcases h with ⟨k, x, rfl, hx, hp, _⟩ | ⟨rfl, hn⟩
  · have : l.any p = true := List.any_eq_true.2 ⟨x, List.mem_of_getElem? hx, hp⟩
    rw [this]; simp
  · have : l.any p = false := by
      rw [List.any_eq_false]
      intro y hy; rw [hn y hy]; simp
    rw [this]; rfl
end Go.Proofs.Ytbhoocdongeomaa
