/- The laws on sums that say 'as the reference': the last place at which three agree. -/
import Derived.Test.YtbhoocdongeomaaC5
set_option linter.unusedVariables false
namespace Go.Proofs.Ytbhoocdongeomaa
open Go.ChangeShapes Go.WideShapes Go.ChangeAt Go.RowKit


theorem exactCheckStable_big (v : Value) (l : List Check) (w : World) (h : RawSl w v l) (hl : 1048576 < l.length) : Calls Try.prog 4 #[v] w (BoolRet true w) := by
  go_enter Try.func4, Try.ntmps4
  go_wp2_with fail
  refine (szCheckS_no v l 1048576 _ h hl (by omega)).mono ?_
  rintro e w1 ⟨rfl, rfl⟩
  go_wp2
  go_ret
  exact ⟨rfl, Only.refl _ _⟩

set_option maxRecDepth 100000 in
set_option maxHeartbeats 2000000 in
theorem exactCheckStable_small (v : Value) (l : List Check) (hl : l.length ≤ 1048576) (w : World) (h : RawSl w v l) : Calls Try.prog 4 #[v] w (BoolRet true w) := by
  have hdl : decide ((1048576 : Int) - l.length < 0) = false := by simp; omega
  go_enter Try.func4, Try.ntmps4
  go_wp2_with fail
  refine (szCheckS_ok v l 1048576 _ h hl (by omega)).mono ?_
  rintro e w1 ⟨rfl, rfl⟩
  go_wp2_with fail
  refine (toCheckS_any v l _ h hl).mono ?_
  rintro e w2 ⟨v2, b2, rfl, s2, hbb2, hn2, o2⟩
  have hz_y : ∀ q ∈ b2, w.heap.size ≤ q := fun q hq => by have := hbb2 q hq; omega
  go_wp2_with fail
  refine (specCheckStable_any _ l _ _ s2).mono ?_
  rintro e w3 ⟨r1, r2, r3, rfl, hr1, o3⟩
  have s_y_3 := s2.only0 o3
  have oA3 := o2.trans o3
  clear s2 o2 o3
  clear s_y_3
  have HR := Lib.hid hr1
  clear hr1
  go_wp2_with fail
  refine (toCheckS_any v l _ (h.only oA3) hl).mono ?_
  rintro e w4 ⟨v4, b4, rfl, s4, hbb4, hn4, o4⟩
  have hz_x : ∀ q ∈ b4, w.heap.size ≤ q := fun q hq => by have := hbb4 q hq; have := oA3.size; omega
  have oA4 := oA3.trans o4
  clear oA3 o4
  go_wp2_with fail
  refine (checkStable_any _ l _ _ s4).mono ?_
  rintro e w5 ⟨q1, q2, q3, rfl, hr2, o5⟩
  have s_x_5 := s4.only0 o5
  have oA5 := oA4.trans o5
  clear s4 oA4 o5
  obtain ⟨rfl, rfl, rfl⟩ := StRet.uniq HR.out hr2
  clear hr2 HR
  have hbe : (r3 == r3) = true := by simp
  go_wp2_with fail
  refine (toCheckS_any v l _ (h.only oA5) hl).mono ?_
  rintro e w6 ⟨v6, b6, rfl, s6, hbb6, hn6, o6⟩
  have hd_z_x : ∀ q ∈ b6, q ∉ b4 := fun q hq hq' => by have := s_x_5.old q hq'; have := hbb6 q hq; omega
  have hz_z : ∀ q ∈ b6, w.heap.size ≤ q := fun q hq => by have := hbb6 q hq; have := oA5.size; omega
  have s_x_6 := s_x_5.only0 o6
  have oA6 := oA5.trans o6
  clear s_x_5 oA5 o6
  go_wp2_with fail
  refine (eqCheckS_yes _ _ l _ _ _ s_x_6 s6).mono ?_
  rintro e w7 ⟨rfl, o7⟩
  have s_x_7 := s_x_6.only0 o7
  have s_z_7 := s6.only0 o7
  have oA7 := oA6.trans o7
  clear s_x_6 s6 oA6 o7
  go_wp2
  go_ret
  exact ⟨rfl, oA7⟩

theorem exactCheckStable (v : Value) (l : List Check) (w : World) (h : RawSl w v l) : Calls Try.prog 4 #[v] w (BoolRet true w) := by
  by_cases hl : 1048576 < l.length
  · exact exactCheckStable_big v l w h hl
  · exact exactCheckStable_small v l (by omega) w h

end Go.Proofs.Ytbhoocdongeomaa
