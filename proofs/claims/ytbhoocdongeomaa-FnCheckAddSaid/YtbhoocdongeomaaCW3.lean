/- The laws on sums, walked: each keeper has one sum at a place. -/
import Derived.Test.YtbhoocdongeomaaCP
set_option linter.unusedVariables false
namespace Go.Proofs.Ytbhoocdongeomaa
open Go.ChangeShapes Go.WideShapes Go.ChangeAt Go.RowKit

theorem GoesOn.no {had has : Bool} {was sum now next : Int} (h : GoesOn had was sum has now next) (hf : had = false) : True := trivial
set_option maxRecDepth 100000 in
set_option maxHeartbeats 4000000 in
theorem lawAdd (v : Value) (l : List UInt8) (w : World) (h : RawSl w v l) : Calls Try.prog 7 #[v] w (BoolRet true w) := by
  obtain ⟨a, c, rfl, h1, h2⟩ := h.form
  by_cases hl : 1048576 < l.length
  · have hd : decide (1048576 < (l.length : Int)) = true := by simp; omega
    go_enter Try.func7, Try.ntmps7
    go_wp2
    go_ret
    exact ⟨rfl, Only.refl _ _⟩
  have hd : decide (1048576 < (l.length : Int)) = false := by simp; omega
  go_enter Try.func7, Try.ntmps7
  go_wp2_with fail
  refine (drawCheckAdd_any _ l _ h (by omega)).mono ?_
  rintro e w1 ⟨v1, z, bs, x, rfl, s1, hz, hb1, o1⟩
  obtain ⟨a1, c1, rfl, h3, h4⟩ := s1.form
  have hB := Blk.new w1 34 #[.int .i64 x.frm, .int .i64 x.seq, .int .i64 x.sum]
  have on := (Only.refl [] w1).alloc (.cells #[.int .i64 x.frm, .int .i64 x.seq, .int .i64 x.sum] 34)
  have s1' := s1.only0 on
  have oA1 := o1.trans on
  clear h s1 o1 on
  go_wp2_with fail
  refine (checkAdd_any _ z bs x _ s1').mono ?_
  rintro e w2 ⟨v2, b2, rfl, x2, hbb2, hn2, o2⟩
  have s2 := s1'.only0 o2
  have hB2 := hB.only o2 (by simp)
  have oA2 := oA1.trans o2
  have d0 : w2.cell? ⟨w1.heap.size, 0, none⟩ = some (.int .i64 x.frm) := hB2.cell 0
  have d1 : w2.cell? ⟨w1.heap.size, 1, none⟩ = some (.int .i64 x.seq) := hB2.cell 1
  have d2 : w2.cell? ⟨w1.heap.size, 2, none⟩ = some (.int .i64 x.sum) := hB2.cell 2
  clear s1' oA1 o2 hB
  go_wp2_with fail
  refine (specCheckAdd_any _ z bs x _ s2).mono ?_
  rintro e w3 ⟨v3, b3, rfl, y3, hbb3, hn3, o3⟩
  have s3 := s2.only0 o3
  have x3 := x2.only0 o3
  have hB3 := hB2.only o3 (by simp)
  have oA3 := oA2.trans o3
  clear s2 x2 oA2 o3 hB2 d0 d1 d2
  have hfe : ∀ f : Bool, (f != f) = false := by simp
  have hfe2 := hfe (addB z x)
  clear hfe
  go_wp2_with fail
  refine (wpChecks_yes _ _ _ _ _ _ x3 y3).mono ?_
  rintro e w4 ⟨rfl, o4⟩
  have s4 := s3.only0 o4
  have x4 := x3.only0 o4
  have y4 := y3.only0 o4
  have hB4 := hB3.only o4 (by simp)
  have oA4 := oA3.trans o4
  clear s3 x3 y3 oA3 o4 hB3
  go_wp2_with fail
  refine (checkOk_any _ z bs _ s4).mono ?_
  rintro e w5 ⟨rfl, o5⟩
  have s5 := s4.only0 o5
  have x5 := x4.only0 o5
  have y5 := y4.only0 o5
  have hB5 := hB4.only o5 (by simp)
  have oA5 := oA4.trans o5
  clear s4 x4 y4 oA4 o5 hB4
  go_wp2_with fail
  refine (specCheckOk_any _ z bs _ s5).mono ?_
  rintro e w6 ⟨rfl, o6⟩
  have s6 := s5.only0 o6
  have x6 := x5.only0 o6
  have y6 := y5.only0 o6
  have hB6 := hB5.only o6 (by simp)
  have oA6 := oA5.trans o6
  clear s5 x5 y5 oA5 o6 hB5
  have hk : (checkOkM z != checkOkM z) = false := by simp
  have hk2 : (checkOkM z == checkOkM z) = true := by simp
  cases hf : addB z x
  · have hfe3 : (false != false) = false := rfl
    have HF := Lib.hid hf
    clear hf
    go_wp2_with fail
    refine (wpChecks_yes _ _ _ _ _ _ x6 y6).mono ?_
    rintro e w7 ⟨rfl, o7⟩
    have s7 := s6.only0 o7
    have x7 := x6.only0 o7
    have oA7 := oA6.trans o7
    clear s6 x6 y6 oA6 o7
    go_wp2_with fail
    refine (checkOk_any _ z bs _ s7).mono ?_
    rintro e w8 ⟨rfl, o8⟩
    have s8 := s7.only0 o8
    have x8 := x7.only0 o8
    have oA8 := oA7.trans o8
    clear s7 x7 oA7 o8
    go_wp2_with fail
    refine (specCheckOk_any _ z bs _ s8).mono ?_
    rintro e w9 ⟨rfl, o9⟩
    have s9 := s8.only0 o9
    have x9 := x8.only0 o9
    have oA9 := oA8.trans o9
    clear s8 x8 oA8 o9
    go_wp2_with fail
    refine (checkOk_any _ z bs _ s9).mono ?_
    rintro e w10 ⟨rfl, o10⟩
    have s10 := s9.only0 o10
    have x10 := x9.only0 o10
    have oA10 := oA9.trans o10
    clear s9 x9 oA9 o10
    cases hok : checkOkM z
    · go_wp2
      go_ret
      exact ⟨rfl, oA10⟩
    · have hzl : addL z x = z := by
        have h5 := HF.out
        unfold addB at h5
        rw [hok, Bool.true_and] at h5
        rw [addL, hok, h5]; rfl
      rw [hzl] at x10
      clear hzl
      go_wp2_with fail
      refine (wpChecks_yes _ _ _ _ _ _ x10 s10).mono ?_
      rintro e w11 ⟨rfl, o11⟩
      go_wp2
      go_ret
      exact ⟨rfl, oA10.trans o11⟩
  · have HF := Lib.hid hf
    have hboth : checkOkM z = true ∧ checkOkM (z ++ [x]) = true := by simpa [addB] using hf
    have hyl : addL z x = z ++ [x] := by rw [addL, if_pos hboth.1, if_pos hboth.2]
    obtain ⟨y, hy⟩ : ∃ y, y = z ++ [x] := ⟨_, rfl⟩
    rw [hyl, ← hy] at x6
    have HY := Lib.hid hy
    have hag : addB y x = false := by rw [hy]; exact addB_again z x
    have hoky : checkOkM y = true := by rw [hy]; exact hboth.2
    have HB := Lib.hid hboth
    clear hyl hy hf hboth y6
    obtain ⟨a2, c2, rfl, g1, g2⟩ := x6.form
    have e0 : w6.cell? ⟨w1.heap.size, 0, none⟩ = some (.int .i64 x.frm) := hB6.cell 0
    have e1 : w6.cell? ⟨w1.heap.size, 1, none⟩ = some (.int .i64 x.seq) := hB6.cell 1
    have e2 : w6.cell? ⟨w1.heap.size, 2, none⟩ = some (.int .i64 x.sum) := hB6.cell 2
    have hfe3 : (true != true) = false := rfl
    go_wp2_with fail
    refine (checkAdd_any _ y b2 x _ x6).mono ?_
    rintro e w7 ⟨v7, b7, rfl, _, _, _, o7⟩
    have s7 := s6.only0 o7
    have x7 := x6.only0 o7
    have oA7 := oA6.trans o7
    clear s6 x6 oA6 o7 e0 e1 e2 hB6
    rw [hag]
    go_wp2_with fail
    refine (checkStable_any _ z bs _ s7).mono ?_
    rintro e w8 ⟨r1, r2, r3, rfl, hr1, o8⟩
    have HR := Lib.hid hr1
    have x8 := x7.only0 o8
    have oA8 := oA7.trans o8
    clear hr1 s7 x7 oA7 o8
    go_wp2_with fail
    refine (checkStable_any _ y b2 _ x8).mono ?_
    rintro e w9 ⟨q1, q2, q3, rfl, hr2, o9⟩
    have HQ := Lib.hid hr2
    have x9 := x8.only0 o9
    have oA9 := oA8.trans o9
    clear hr2 x8 oA8 o9
    go_wp2_with fail
    refine (checkOk_any _ y b2 _ x9).mono ?_
    rintro e w10 ⟨rfl, o10⟩
    have oA10 := oA9.trans o10
    clear x9 oA9 o10
    have HG := Lib.hid (StRet.add HF.out HR.out (by rw [← HY.out]; exact HQ.out))
    cases hh : r3
    · go_wp2
      go_ret
      exact ⟨rfl, oA10⟩
    · obtain ⟨rfl, hle, hor⟩ := HG.out hh
      have hd5 : decide (r1 ≤ q1) = true := decide_eq_true hle
      by_cases hlt : r1 < q1
      · have hd6 : decide (r1 < q1) = true := decide_eq_true hlt
        clear hor
        go_wp2
        go_ret
        exact ⟨rfl, oA10⟩
      · have hd6 : decide (r1 < q1) = false := decide_eq_false hlt
        have he : (q2 == r2) = true := by
          rcases hor with h | h
          · exact absurd h hlt
          · simpa using h
        clear hor
        go_wp2
        go_ret
        exact ⟨rfl, oA10⟩
end Go.Proofs.Ytbhoocdongeomaa
