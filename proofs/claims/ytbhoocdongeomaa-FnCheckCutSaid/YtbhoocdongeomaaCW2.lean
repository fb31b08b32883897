/- The laws on sums, walked: what is behind a place. -/
import Derived.Test.YtbhoocdongeomaaCP
set_option linter.unusedVariables false
namespace Go.Proofs.Ytbhoocdongeomaa
open Go.ChangeShapes Go.WideShapes Go.ChangeAt Go.RowKit

set_option maxRecDepth 100000 in
set_option maxHeartbeats 4000000 in
theorem lawCut (v : Value) (l : List UInt8) (w : World) (h : RawSl w v l) : Calls Try.prog 9 #[v] w (BoolRet true w) := by
  obtain ⟨a, c, rfl, h1, h2⟩ := h.form
  by_cases hl : 1048576 < l.length
  · have hd : decide (1048576 < (l.length : Int)) = true := by simp; omega
    go_enter Try.func9, Try.ntmps9
    go_wp2
    go_ret
    exact ⟨rfl, Only.refl _ _⟩
  have hd : decide (1048576 < (l.length : Int)) = false := by simp; omega
  go_enter Try.func9, Try.ntmps9
  go_wp2_with fail
  refine (drawCheckCut_any _ l _ h (by omega)).mono ?_
  rintro e w1 ⟨v1, z, bs, s, rfl, s1, hz, hb1, hs0, o1⟩
  obtain ⟨a1, c1, rfl, h3, h4⟩ := s1.form
  clear h
  go_wp2_with fail
  refine (checkCut_any _ z bs s _ s1).mono ?_
  rintro e w2 ⟨v2, b2, rfl, x2, hbb2, hn2, o2⟩
  have s2 := s1.only0 o2
  have oA2 := o1.trans o2
  clear s1 o1 o2
  go_wp2_with fail
  refine (specCheckCut_any _ z bs s _ s2).mono ?_
  rintro e w3 ⟨v3, b3, rfl, y3, hbb3, hn3, o3⟩
  have s3 := s2.only0 o3
  have x3 := x2.only0 o3
  have oA3 := oA2.trans o3
  clear s2 x2 oA2 o3
  go_wp2_with fail
  refine (wpChecks_yes _ _ _ _ _ _ x3 y3).mono ?_
  rintro e w4 ⟨rfl, o4⟩
  have s4 := s3.only0 o4
  have x4 := x3.only0 o4
  have oA4 := oA3.trans o4
  clear s3 x3 y3 oA3 o4
  go_wp2_with fail
  refine (checkOk_any _ z bs _ s4).mono ?_
  rintro e w5 ⟨rfl, o5⟩
  have s5 := s4.only0 o5
  have x5 := x4.only0 o5
  have oA5 := oA4.trans o5
  clear s4 x4 oA4 o5
  cases hok : checkOkM z
  · go_wp2_with fail
    refine (specCheckCut_any _ z bs s _ s5).mono ?_
    rintro e w6 ⟨v6, b6, rfl, y6, hbb6, hn6, o6⟩
    have x6 := x5.only0 o6
    go_wp2_with fail
    refine (wpChecks_yes _ _ _ _ _ _ x6 y6).mono ?_
    rintro e w7 ⟨rfl, o7⟩
    go_wp2
    go_ret
    exact ⟨rfl, (oA5.trans o6).trans o7⟩
  have HOK := Lib.hid hok
  have HAG := Lib.hid (cutL_again hok s)
  have HPS := Lib.hid (cutL_past (l := z) s)
  obtain ⟨y, hy⟩ : ∃ y, y = cutL z s := ⟨_, rfl⟩
  rw [← hy] at x5
  have hyl : y.length ≤ 25 := by
    rw [hy, cutL, if_pos hok]; exact Nat.le_trans (List.length_filter_le _ _) hz
  have HY := Lib.hid hy
  clear hok hy
  obtain ⟨a2, c2, rfl, g1, g2⟩ := x5.form
  go_wp2_with fail
  go_loopw [6] (fun i wr => ∃ (k : Nat), k ≤ y.length ∧ i = .int .i64 (k : Int) ∧ wr = w5) (fun i _ => y.length - (intOf i).toNat)
  case atStart => exact ⟨0, Nat.zero_le _, rfl, rfl⟩
  case round =>
    obtain ⟨k, hk, rfl, rfl⟩ := hrel
    by_cases hlt : k < y.length
    · obtain ⟨b, q, rfl, _⟩ := x5.addr (by omega)
      obtain ⟨x, hx, _, _, d0, d1, d2⟩ := x5.check_cells hlt
      have hp := HPS.out x (by rw [← HY.out]; exact List.mem_of_getElem? hx)
      have hpb : decide (x.seq ≤ s) = false := decide_eq_false (by omega)
      clear hx hp
      go_wp2
      exact ⟨⟨k + 1, by omega, by go_num, by first | trivial | rfl⟩, by simp [intOf]; omega⟩
    · go_wp2_with fail
      refine (checkStable_any _ z bs _ s5).mono ?_
      rintro e w6 ⟨r1, r2, r3, rfl, hr1, o6⟩
      have HR := Lib.hid hr1
      have x6 := x5.only0 o6
      have oA6 := oA5.trans o6
      clear hr1 s5 x5 oA5 o6
      go_wp2_with fail
      refine (checkStable_any _ y b2 _ x6).mono ?_
      rintro e w7 ⟨q1, q2, q3, rfl, hr2, o7⟩
      have HQ := Lib.hid hr2
      have x7 := x6.only0 o7
      have oA7 := oA6.trans o7
      clear hr2 x6 oA6 o7
      go_wp2_with fail
      refine (checkCut_any _ y b2 s _ x7).mono ?_
      rintro e w8 ⟨v8, b8, rfl, y8, hbb8, hn8, o8⟩
      have x8 := x7.only0 o8
      have oA8 := oA7.trans o8
      have hya : cutL y s = y := by rw [HY.out]; exact HAG.out
      rw [hya] at y8
      clear hya x7 oA7 o8
      go_wp2_with fail
      refine (wpChecks_yes _ _ _ _ _ _ y8 x8).mono ?_
      rintro e w9 ⟨rfl, o9⟩
      have oA9 := oA8.trans o9
      clear y8 x8 oA8 o9
      cases hf : r3
      · go_wp2
        go_ret
        exact ⟨rfl, oA9⟩
      by_cases hle : r1 ≤ s
      · have hd5 : decide (r1 ≤ s) = true := decide_eq_true hle
        go_wp2
        go_ret
        exact ⟨rfl, oA9⟩
      · have hd5 : decide (r1 ≤ s) = false := decide_eq_false hle
        obtain ⟨rfl, rfl, rfl⟩ := StRet.cut HOK.out HR.out (by rw [← HY.out]; exact HQ.out) hf (by omega)
        go_wp2
        go_ret
        exact ⟨rfl, oA9⟩
end Go.Proofs.Ytbhoocdongeomaa
