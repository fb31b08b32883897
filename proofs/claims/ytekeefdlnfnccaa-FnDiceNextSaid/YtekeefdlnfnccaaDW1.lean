/- The dice's laws, walked: the small ones. -/
import Derived.Test.YtekeefdlnfnccaaD9
set_option linter.unusedVariables false
namespace Go.Proofs.Ytekeefdlnfnccaa
open Go.ChangeShapes Go.WideShapes Go.ChangeAt Go.RowKit

theorem cancel_of (M m i t d j : Int) (h1 : m * i = 1 + M * t) (h2 : d * m = M * j) : d = M * (j * i - d * t) := by
  have h3 : d * m * i = M * j * i := by rw [h2]
  rw [Int.mul_assoc, h1, Int.mul_add, Int.mul_one] at h3
  rw [Int.mul_sub, ← Int.mul_assoc, ← h3, Int.mul_left_comm M d t]
  omega
theorem dvd_of_same (M x y : Int) (h : x % M = y % M) : ∃ j, x - y = M * j := by
  have h1 : (x - y) % M = 0 := Int.emod_eq_emod_iff_emod_sub_eq_zero.1 h
  exact Int.dvd_of_emod_eq_zero h1
theorem lin_of (a b m c x : Int) (h : a * m + c - (b * m + c) = x) : (a - b) * m = x := by rw [Int.sub_mul]; omega
theorem inj_of (M m c i t a b : Int) (h1 : m * i = 1 + M * t) (ha : 0 ≤ a ∧ a < M) (hb : 0 ≤ b ∧ b < M) (h : (a * m + c) % M = (b * m + c) % M) : a = b := by
  obtain ⟨j, hj⟩ := dvd_of_same _ _ _ h
  have h2 := lin_of _ _ _ _ _ hj
  have h5 := cancel_of M m i t (a - b) j h1 h2
  generalize j * i - (a - b) * t = q at h5
  have hM : 0 < M := by omega
  have hq : q = 0 := by
    rcases Int.lt_trichotomy q 0 with h | h | h
    · have : M * q ≤ M * (-1) := Int.mul_le_mul_of_nonneg_left (by omega) (by omega)
      omega
    · exact h
    · have : M * 1 ≤ M * q := Int.mul_le_mul_of_nonneg_left (by omega) (by omega)
      omega
  rw [hq, Int.mul_zero] at h5
  omega
theorem nextM_inj {a b : Int} (ha : 0 ≤ a ∧ a ≤ 2147483647) (hb : 0 ≤ b ∧ b ≤ 2147483647) (h : nextM a = nextM b) : a = b :=
  inj_of 2147483648 1103515245 12345 1857678181 954594553 a b (by decide) (by omega) (by omega) h
theorem nextM_bd (a : Int) : 0 ≤ nextM a ∧ nextM a ≤ 2147483647 := seedB_iff.1 (nextM_seed a)

theorem exactNext (a : Int) (w : World) : Calls Try.prog 3 #[.int .i64 a] w (BoolRet true w) := by
  cases ha : seedB a
  · have HA := Lib.hid ha
    clear ha
    go_enter Try.func3, Try.ntmps3
    go_wp2_with (first | (go_at_call 13; refine (specDiceNext_no _ _ HA.out).mono ?_; rintro e w' ⟨rfl, rfl⟩) | (go_at_call 14; refine (diceNext_no _ _ HA.out).mono ?_; rintro e w' ⟨rfl, rfl⟩))
    go_ret
    exact ⟨rfl, Only.refl _ _⟩
  · have HA := Lib.hid ha
    clear ha
    go_enter Try.func3, Try.ntmps3
    go_wp2_with (first | (go_at_call 13; refine (specDiceNext_yes _ _ HA.out).mono ?_; rintro e w' ⟨rfl, rfl⟩) | (go_at_call 14; refine (diceNext_yes _ _ HA.out).mono ?_; rintro e w' ⟨rfl, rfl⟩))
    go_ret
    exact ⟨rfl, Only.refl _ _⟩
theorem rollB_yes {a s : Int} (h : rollB a s = true) : seedB a = true ∧ inB s 1 20 = true := by
  simpa [rollB] using h
theorem exactRoll (a s : Int) (w : World) : Calls Try.prog 4 #[.int .i64 a, .int .i64 s] w (BoolRet true w) := by
  cases ha : rollB a s
  · have HA := Lib.hid ha
    clear ha
    go_enter Try.func4, Try.ntmps4
    go_wp2_with (first | (go_at_call 15; refine (specDiceRoll_no _ _ _ HA.out).mono ?_; rintro e w' ⟨rfl, rfl⟩) | (go_at_call 16; refine (diceRoll_no _ _ _ HA.out).mono ?_; rintro e w' ⟨rfl, rfl⟩))
    go_ret
    exact ⟨rfl, Only.refl _ _⟩
  · have HA := Lib.hid (rollB_yes ha)
    clear ha
    go_enter Try.func4, Try.ntmps4
    go_wp2_with (first | (go_at_call 15; refine (specDiceRoll_yes _ _ _ HA.out.1 HA.out.2).mono ?_; rintro e w' ⟨rfl, rfl⟩) | (go_at_call 16; refine (diceRoll_yes _ _ _ HA.out.1 HA.out.2).mono ?_; rintro e w' ⟨rfl, rfl⟩))
    go_ret
    exact ⟨rfl, Only.refl _ _⟩
theorem exactMix (v : Value) (l : List Int) (w : World) (h : RawSl w v l) : Calls Try.prog 5 #[v] w (BoolRet true w) := by
  obtain ⟨a, c, rfl, h1, h2⟩ := h.form
  by_cases hl : 1048576 < l.length
  · have hd : decide (1048576 < (l.length : Int)) = true := by simp; omega
    go_enter Try.func5, Try.ntmps5
    go_wp2
    go_ret
    exact ⟨rfl, Only.refl _ _⟩
  · have hd : decide (1048576 < (l.length : Int)) = false := by simp; omega
    go_enter Try.func5, Try.ntmps5
    go_wp2_with fail
    refine (toIntS_any _ l _ h (by omega)).mono ?_
    rintro e w1 ⟨v1, b1, rfl, s1, _, _, o1⟩
    go_wp2_with fail
    refine (spec_mix_any v1 l b1 _ s1).mono ?_
    rintro e w1' ⟨rfl, rfl⟩
    go_wp2_with fail
    refine (toIntS_any _ l _ (h.only o1) (by omega)).mono ?_
    rintro e w2 ⟨v2, b2, rfl, s2, _, _, o2⟩
    go_wp2_with fail
    refine (mix_any v2 l b2 _ s2).mono ?_
    rintro e w2' ⟨rfl, rfl⟩
    go_wp2_with fail
    refine (toIntS_any _ l _ ((h.only o1).only o2) (by omega)).mono ?_
    rintro e w3 ⟨v3, b3, rfl, s3, _, _, o3⟩
    go_wp2_with fail
    refine (eqIntS_yes v2 v3 l b2 b3 _ (s2.only0 o3) s3).mono ?_
    rintro e w4 ⟨rfl, o4⟩
    go_wp2
    go_ret
    exact ⟨rfl, ((o1.trans o2).trans o3).trans o4⟩
theorem lawNext (v v' : Value) (l l' : List UInt8) (w : World) (h : RawSl w v l) (h' : RawSl w v' l') : Calls Try.prog 6 #[v, v'] w (BoolRet true w) := by
  obtain ⟨a, c, rfl, h1, h2⟩ := h.form
  obtain ⟨a', c', rfl, h1', h2'⟩ := h'.form
  by_cases hl : 1048576 < l.length
  · have hd : decide (1048576 < (l.length : Int)) = true := by simp; omega
    go_enter Try.func6, Try.ntmps6
    go_wp2
    go_ret
    exact ⟨rfl, Only.refl _ _⟩
  have hd : decide (1048576 < (l.length : Int)) = false := by simp; omega
  by_cases hl' : 1048576 < l'.length
  · have hd' : decide (1048576 < (l'.length : Int)) = true := by simp; omega
    go_enter Try.func6, Try.ntmps6
    go_wp2
    go_ret
    exact ⟨rfl, Only.refl _ _⟩
  have hd' : decide (1048576 < (l'.length : Int)) = false := by simp; omega
  go_enter Try.func6, Try.ntmps6
  go_wp2_with fail
  refine (drawNext_any _ l _ h (by omega)).mono ?_
  rintro e w1 ⟨x, rfl, o1⟩
  go_wp2_with fail
  refine (drawNext_any _ l' _ (h'.only o1) (by omega)).mono ?_
  rintro e w2 ⟨y, rfl, o2⟩
  have o := o1.trans o2
  clear o1 o2
  cases hx : seedB x
  · have HX := Lib.hid hx
    clear hx
    go_wp2_with (first | (go_at_call 13; refine (specDiceNext_no _ _ HX.out).mono ?_; rintro e w' ⟨rfl, rfl⟩) | (go_at_call 14; refine (diceNext_no _ _ HX.out).mono ?_; rintro e w' ⟨rfl, rfl⟩))
    go_ret
    exact ⟨rfl, o⟩
  have HX := Lib.hid hx
  have hxb := seedB_iff.1 hx
  have hnx := nextM_bd x
  have d1 : decide (nextM x < 0) = false := by simp; omega
  have d2 : decide (nextM x ≤ 2147483647) = true := by simp; omega
  clear hx
  cases hy : seedB y
  · have hyb : ¬ (0 ≤ y ∧ y ≤ 2147483647) := fun h => by rw [seedB_iff.2 h] at hy; cases hy
    clear hy
    by_cases hy0 : y < 0
    · have d3 : decide (y < 0) = true := by simp; omega
      go_wp2_with (first | (go_at_call 13; refine (specDiceNext_yes _ _ HX.out).mono ?_; rintro e w' ⟨rfl, rfl⟩) | (go_at_call 14; refine (diceNext_yes _ _ HX.out).mono ?_; rintro e w' ⟨rfl, rfl⟩))
      go_ret
      exact ⟨rfl, o⟩
    · have d3 : decide (y < 0) = false := by simp; omega
      have d4 : decide (2147483647 < y) = true := by simp; omega
      go_wp2_with (first | (go_at_call 13; refine (specDiceNext_yes _ _ HX.out).mono ?_; rintro e w' ⟨rfl, rfl⟩) | (go_at_call 14; refine (diceNext_yes _ _ HX.out).mono ?_; rintro e w' ⟨rfl, rfl⟩))
      go_ret
      exact ⟨rfl, o⟩
  have HY := Lib.hid hy
  have hyb := seedB_iff.1 hy
  clear hy
  have d3 : decide (y < 0) = false := by simp; omega
  have d4 : decide (2147483647 < y) = false := by simp; omega
  by_cases hxy : x = y
  · subst hxy
    go_wp2_with (first | (go_at_call 13; refine (specDiceNext_yes _ _ HX.out).mono ?_; rintro e w' ⟨rfl, rfl⟩) | (go_at_call 14; refine (diceNext_yes _ _ HX.out).mono ?_; rintro e w' ⟨rfl, rfl⟩))
    go_ret
    exact ⟨rfl, o⟩
  · have e1 : (x == y) = false := by simpa using hxy
    have e2 : (nextM x == nextM y) = false := by simpa using fun h => hxy (nextM_inj hxb hyb h)
    clear hxy
    go_wp2_with fail
    refine (diceNext_yes _ _ HX.out).mono ?_
    rintro e w' ⟨rfl, rfl⟩
    go_wp2_with fail
    refine (specDiceNext_yes _ _ HX.out).mono ?_
    rintro e w' ⟨rfl, rfl⟩
    go_wp2_with fail
    refine (diceNext_yes _ _ HY.out).mono ?_
    rintro e w' ⟨rfl, rfl⟩
    go_wp2
    go_ret
    exact ⟨rfl, o⟩
end Go.Proofs.Ytekeefdlnfnccaa
