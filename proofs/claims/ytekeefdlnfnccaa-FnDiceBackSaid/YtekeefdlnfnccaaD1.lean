/- Contracts of the dice's leaves. -/
import Derived.Test.YtekeefdlnfnccaaRows
import Derived.Test.YtekeefdlnfnccaaDM
import Derived.WalkKit
import Derived.ProofKit
import Derived.Outline
import Derived.OpenShut
import Derived.BigQuiet
import Derived.Deep.QuietTactic
namespace Go.Proofs.Ytekeefdlnfnccaa
open Go.ChangeShapes Go.WideShapes Go.ChangeAt Go.RowKit

theorem ret_bool {a b : Bool} (h : a = b) : Ending.returned (.bool a) = .returned (.bool b) := by rw [h]
theorem ret_int {k : IntKind} {a b : Int} (h : a = b) : Ending.returned (.int k a) = .returned (.int k b) := by rw [h]

theorem in_any (n lo hi : Int) (w : World) :
    Calls Try.prog 35 #[.int .i64 n, .int .i64 lo, .int .i64 hi] w fun e w' => e = .returned (.bool (inB n lo hi)) ∧ w = w' := by
  by_cases h1 : lo ≤ n <;> by_cases h2 : n ≤ hi
  all_goals
    go_enter Try.func35, Try.ntmps35
    go_wp2
    go_ret
    exact ⟨ret_bool (by first | (simp [inB]; done) | (simp [inB]; omega)), rfl⟩

theorem l1In_any (n lo hi : Int) (w : World) :
    Calls Try.prog 33 #[.int .i64 n, .int .i64 lo, .int .i64 hi] w fun e w' => e = .returned (.bool (inB n lo hi)) ∧ w = w' := by
  by_cases h1 : lo ≤ n <;> by_cases h2 : n ≤ hi
  all_goals
    go_enter Try.func33, Try.ntmps33
    go_wp2
    go_ret
    exact ⟨ret_bool (by first | (simp [inB]; done) | (simp [inB]; omega)), rfl⟩

theorem isSeed_any (n : Int) (w : World) :
    Calls Try.prog 34 #[.int .i64 n] w fun e w' => e = .returned (.bool (seedB n)) ∧ w = w' := by
  go_enter Try.func34, Try.ntmps34
  go_wp2_with (go_at_call 35; refine (in_any _ _ _ _).mono ?_; rintro e w' ⟨rfl, rfl⟩)
  go_ret
  exact ⟨rfl, rfl⟩

theorem diceNext_yes (n : Int) (w : World) (h : seedB n = true) :
    Calls Try.prog 14 #[.int .i64 n] w fun e w' => e = .returned (.int .i64 (nextM n)) ∧ w = w' := by
  have h1 : 0 ≤ n := (seedB_iff.1 h).1
  have h2 : n ≤ 2147483647 := (seedB_iff.1 h).2
  go_enter Try.func14, Try.ntmps14
  go_wp2_with (go_at_call 34; refine (isSeed_any _ _).mono ?_; rintro e w' ⟨rfl, rfl⟩)
  go_ret
  exact ⟨rfl, rfl⟩
theorem diceNext_no (n : Int) (w : World) (h : seedB n = false) :
    Calls Try.prog 14 #[.int .i64 n] w fun e w' => e = .returned (.int .i64 (-1)) ∧ w = w' := by
  go_enter Try.func14, Try.ntmps14
  go_wp2_with (go_at_call 34; refine (isSeed_any _ _).mono ?_; rintro e w' ⟨rfl, rfl⟩)
  go_ret
  exact ⟨rfl, rfl⟩


theorem specDiceNext_yes (n : Int) (w : World) (h : seedB n = true) :
    Calls Try.prog 13 #[.int .i64 n] w fun e w' => e = .returned (.int .i64 (nextM n)) ∧ w = w' := by
  have h1 : 0 ≤ n := (seedB_iff.1 h).1
  have h2 : n ≤ 2147483647 := (seedB_iff.1 h).2
  have h3 : inB n 0 2147483647 = true := h
  go_enter Try.func13, Try.ntmps13
  go_wp2_with (go_at_call 33; refine (l1In_any _ _ _ _).mono ?_; rintro e w' ⟨rfl, rfl⟩)
  go_ret
  exact ⟨rfl, rfl⟩
theorem specDiceNext_no (n : Int) (w : World) (h : seedB n = false) :
    Calls Try.prog 13 #[.int .i64 n] w fun e w' => e = .returned (.int .i64 (-1)) ∧ w = w' := by
  have h3 : inB n 0 2147483647 = false := h
  go_enter Try.func13, Try.ntmps13
  go_wp2_with (go_at_call 33; refine (l1In_any _ _ _ _).mono ?_; rintro e w' ⟨rfl, rfl⟩)
  go_ret
  exact ⟨rfl, rfl⟩
def rollB (seed sides : Int) : Bool := seedB seed && inB sides 1 20
theorem diceRoll_yes (n s : Int) (w : World) (h : seedB n = true) (h' : inB s 1 20 = true) :
    Calls Try.prog 16 #[.int .i64 n, .int .i64 s] w fun e w' => e = .returned (.tuple #[.int .i64 (rollM n s), .int .i64 (nextM n)]) ∧ w = w' := by
  have h1 : 1 ≤ s := (inB_iff.1 h').1
  have h2 := seedB_iff.1 (nextM_seed n)
  go_enter Try.func16, Try.ntmps16
  go_wp2_with (first | (go_at_call 34; refine (isSeed_any _ _).mono ?_; rintro e w' ⟨rfl, rfl⟩) | (go_at_call 35; refine (in_any _ _ _ _).mono ?_; rintro e w' ⟨rfl, rfl⟩) | (go_at_call 14; refine (diceNext_yes _ _ h).mono ?_; rintro e w' ⟨rfl, rfl⟩))
  go_ret2
  exact ⟨rfl, rfl⟩
theorem diceRoll_no (n s : Int) (w : World) (h : rollB n s = false) :
    Calls Try.prog 16 #[.int .i64 n, .int .i64 s] w fun e w' => e = .returned (.tuple #[.int .i64 (-1), .int .i64 (-1)]) ∧ w = w' := by
  cases h1 : seedB n
  · go_enter Try.func16, Try.ntmps16
    go_wp2_with (first | (go_at_call 34; refine (isSeed_any _ _).mono ?_; rintro e w' ⟨rfl, rfl⟩) | (go_at_call 35; refine (in_any _ _ _ _).mono ?_; rintro e w' ⟨rfl, rfl⟩))
    go_ret2
    exact ⟨rfl, rfl⟩
  · have h2 : inB s 1 20 = false := by simpa [rollB, h1] using h
    go_enter Try.func16, Try.ntmps16
    go_wp2_with (first | (go_at_call 34; refine (isSeed_any _ _).mono ?_; rintro e w' ⟨rfl, rfl⟩) | (go_at_call 35; refine (in_any _ _ _ _).mono ?_; rintro e w' ⟨rfl, rfl⟩))
    go_ret2
    exact ⟨rfl, rfl⟩
theorem specDiceRoll_yes (n s : Int) (w : World) (h : seedB n = true) (h' : inB s 1 20 = true) :
    Calls Try.prog 15 #[.int .i64 n, .int .i64 s] w fun e w' => e = .returned (.tuple #[.int .i64 (rollM n s), .int .i64 (nextM n)]) ∧ w = w' := by
  have h1 : 1 ≤ s := (inB_iff.1 h').1
  have h2 := seedB_iff.1 (nextM_seed n)
  have h3 : inB n 0 2147483647 = true := h
  go_enter Try.func15, Try.ntmps15
  go_wp2_with (first | (go_at_call 33; refine (l1In_any _ _ _ _).mono ?_; rintro e w' ⟨rfl, rfl⟩) | (go_at_call 13; refine (specDiceNext_yes _ _ h).mono ?_; rintro e w' ⟨rfl, rfl⟩))
  go_ret2
  exact ⟨rfl, rfl⟩
theorem specDiceRoll_no (n s : Int) (w : World) (h : rollB n s = false) :
    Calls Try.prog 15 #[.int .i64 n, .int .i64 s] w fun e w' => e = .returned (.tuple #[.int .i64 (-1), .int .i64 (-1)]) ∧ w = w' := by
  cases h1 : inB n 0 2147483647
  · go_enter Try.func15, Try.ntmps15
    go_wp2_with (go_at_call 33; refine (l1In_any _ _ _ _).mono ?_; rintro e w' ⟨rfl, rfl⟩)
    go_ret2
    exact ⟨rfl, rfl⟩
  · have h2 : inB s 1 20 = false := by simpa [rollB, seedB, h1] using h
    go_enter Try.func15, Try.ntmps15
    go_wp2_with (go_at_call 33; refine (l1In_any _ _ _ _).mono ?_; rintro e w' ⟨rfl, rfl⟩)
    go_ret2
    exact ⟨rfl, rfl⟩
end Go.Proofs.Ytekeefdlnfnccaa
