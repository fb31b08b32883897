/- The dice's laws, walked: shuffled, and back. -/
import Derived.Test.YtekeefdlnfnccaaDW3
set_option linter.unusedVariables false
namespace Go.Proofs.Ytekeefdlnfnccaa
open Go.ChangeShapes Go.WideShapes Go.ChangeAt Go.RowKit

/-- how many there are up to a place -/
def cntM (v : Int) (l : List Int) (k : Nat) : Int := ((l.take k).count v : Nat)
theorem cntM_succ (v : Int) (l : List Int) (k : Nat) (h : k < l.length) : cntM v l (k + 1) = cntM v l k + if l.getD k 0 = v then 1 else 0 := by
  unfold cntM
  rw [take_getD l k h, List.count_append, List.count_singleton]
  simp only [beq_iff_eq]
  split <;> simp
theorem cntM_le (v : Int) (l : List Int) (k : Nat) : 0 ≤ cntM v l k ∧ cntM v l k ≤ l.length := by
  unfold cntM
  have h1 := List.count_le_length (a := v) (l := l.take k)
  have h2 := List.length_take_le k l
  have h3 := List.length_take_le' k l
  omega
set_option maxHeartbeats 2000000 in
theorem lawShuffle (v : Value) (l : List UInt8) (w : World) (h : RawSl w v l) : Calls Try.prog 11 #[v] w (BoolRet true w) := by
  obtain ⟨a, c, rfl, h1, h2⟩ := h.form
  by_cases hl : 1048576 < l.length
  · have hd : decide (1048576 < (l.length : Int)) = true := by simp; omega
    go_enter Try.func11, Try.ntmps11
    go_wp2
    go_ret
    exact ⟨rfl, Only.refl _ _⟩
  have hd : decide (1048576 < (l.length : Int)) = false := by simp; omega
  go_enter Try.func11, Try.ntmps11
  go_wp2_with fail
  refine (drawShuffle_any _ l _ h (by omega)).mono ?_
  rintro e w1 ⟨z, sd, v1, b1, hz, rfl, s1, hb1, o1⟩
  obtain ⟨a1, c1, rfl, h3, h4⟩ := s1.form
  have hxl := shR_len z sd
  have HB := Lib.hid (shR_back z sd)
  have HC := Lib.hid (shR_count z sd)
  go_wp2_with fail
  refine (shuffle_any _ z b1 sd _ s1).mono ?_
  rintro e w2 ⟨v2, b2, rfl, s2, hb2, _, o2⟩
  obtain ⟨a2, c2, rfl, h5, h6⟩ := s2.form
  have s1b := s1.only0 o2
  have oA := o1.trans o2
  clear s1 o1 o2
  go_wp2_with fail
  refine (spec_shuffle_any _ z b1 sd _ s1b).mono ?_
  rintro e w3 ⟨v3, b3, rfl, s3, hb3, _, o3⟩
  have s1c := s1b.only0 o3
  have s2c := s2.only0 o3
  have oB := oA.trans o3
  clear s1b s2 oA o3
  go_wp2_with fail
  refine (wpInts_yes _ _ _ _ _ _ s2c s3).mono ?_
  rintro e w4 ⟨rfl, o4⟩
  have s1d := s1c.only0 o4
  have s2d := s2c.only0 o4
  have oC := oB.trans o4
  clear s1c s2c oB o4 s3
  by_cases hxz : (shR z sd).length = z.length
  · -- as many: the counts, and back
    have HB' := Lib.hid (HB.out hxz)
    have HC' := Lib.hid (HC.out hxz)
    have HXZ := Lib.hid hxz
    rw [hxz] at s2d h5
    rw [hxz]
    clear HB HC hxz hxl
    generalize shR z sd = x at *
    go_wp2_with fail
    go_loop [6] (fun v => ∃ k : Nat, k ≤ 9 ∧ v = .int .i64 (k : Int)) (fun v => (9 - intOf v).toNat)
    case atStart => exact ⟨0, by omega, rfl⟩
    case round =>
      obtain ⟨k, hk, rfl⟩ := hrel
      by_cases hk9 : k < 9
      · go_wp2_with fail
        go_loop [7, 8] (fun n i => ∃ j : Nat, j ≤ z.length ∧ i = .int .i64 (j : Int) ∧ n = .int .i64 (cntM k x j - cntM k z j)) (fun _ i => (z.length - intOf i).toNat)
        case atStart => exact ⟨0, by omega, rfl, rfl⟩
        case round =>
          obtain ⟨j, hj, rfl, rfl⟩ := hrel
          have bx := cntM_le k x j
          rw [HXZ.out] at bx
          have bz := cntM_le k z j
          by_cases hjl : j < z.length
          · obtain ⟨q1, p1, rfl, _⟩ := s1d.addr (by omega)
            obtain ⟨q2, p2, rfl, _⟩ := s2d.addr (by rw [HXZ.out]; omega)
            have c1 := (s1d.int_cell hjl).1
            have c2 := (s2d.int_cell (i := j) (by rw [HXZ.out]; exact hjl)).1
            have n1 := cntM_succ k z j hjl
            have n2 := cntM_succ k x j (by rw [HXZ.out]; exact hjl)
            have N1 := Lib.hid n1
            have N2 := Lib.hid n2
            clear n1 n2
            generalize z.getD j 0 = y1 at *
            generalize x.getD j 0 = y2 at *
            by_cases e1 : y1 = k <;> by_cases e2 : y2 = k
            all_goals
              first | (have f1 : (y1 == (k : Int)) = true := by simpa using e1) | (have f1 : (y1 == (k : Int)) = false := by simpa using e1)
              first | (have f2 : (y2 == (k : Int)) = true := by simpa using e2) | (have f2 : (y2 == (k : Int)) = false := by simpa using e2)
              have E1 := Lib.hid e1
              have E2 := Lib.hid e2
              clear e1 e2
              go_wp2
            all_goals
              have n1 := N1.out
              have n2 := N2.out
              have e1 := E1.out
              have e2 := E2.out
              simp only [e1, e2, if_true, if_false] at n1 n2
              refine ⟨⟨j + 1, by omega, by go_num, ?_⟩, by simp [intOf]; omega⟩
              rw [n1, n2]
              first | (congr 1; done) | (congr 1; omega)
          · have hjz : j = z.length := by omega
            subst hjz
            have hzero : cntM k x z.length - cntM k z z.length = 0 := by
              unfold cntM
              rw [List.take_of_length_le (by rw [HXZ.out]; exact Nat.le_refl _), List.take_of_length_le (Nat.le_refl _), HC'.out]
              omega
            rw [hzero]
            go_wp2
            exact ⟨⟨k + 1, by omega, by go_num⟩, by simp [intOf]; omega⟩
      · go_wp2_with fail
        refine (back_any _ x b2 sd _ s2d).mono ?_
        rintro e w5 ⟨v5, b5, rfl, s5, _, _, o5⟩
        rw [HB'.out] at s5
        go_wp2_with fail
        refine (wpInts_yes _ _ _ _ _ _ s5 (s1d.only0 o5)).mono ?_
        rintro e w6 ⟨rfl, o6⟩
        go_wp2
        go_ret
        exact ⟨rfl, (oC.trans o5).trans o6⟩
  · have hx0 : shR z sd = [] := hxl.resolve_left hxz
    clear hxl HB HC
    have hxz' : ((0 : Int) != z.length) = true := by
      rw [hx0] at hxz
      rw [bne_iff_ne]
      intro e
      exact hxz (by simp; omega)
    have hlen0 : (shR z sd).length = 0 := by rw [hx0]; rfl
    rw [hlen0] at s2d h5
    rw [hx0] at s2d
    have HX := Lib.hid hx0
    rw [hlen0]
    clear hx0 hxz hlen0
    go_wp2_with fail
    refine (spec_shuffle_any _ z b1 sd _ s1d).mono ?_
    rintro e w5 ⟨v5, b5, rfl, s5, _, _, o5⟩
    rw [HX.out] at s5
    go_wp2_with fail
    refine (wpInts_yes _ _ _ _ _ _ (s2d.only0 o5) s5).mono ?_
    rintro e w6 ⟨rfl, o6⟩
    go_wp2
    go_ret
    exact ⟨rfl, (oC.trans o5).trans o6⟩

set_option maxHeartbeats 1000000 in
theorem lawBack (v : Value) (l : List UInt8) (w : World) (h : RawSl w v l) : Calls Try.prog 12 #[v] w (BoolRet true w) := by
  obtain ⟨a, c, rfl, h1, h2⟩ := h.form
  by_cases hl : 1048576 < l.length
  · have hd : decide (1048576 < (l.length : Int)) = true := by simp; omega
    go_enter Try.func12, Try.ntmps12
    go_wp2
    go_ret
    exact ⟨rfl, Only.refl _ _⟩
  have hd : decide (1048576 < (l.length : Int)) = false := by simp; omega
  go_enter Try.func12, Try.ntmps12
  go_wp2_with fail
  refine (drawBack_any _ l _ h (by omega)).mono ?_
  rintro e w1 ⟨z, sd, v1, b1, hz, rfl, s1, hb1, o1⟩
  obtain ⟨a1, c1, rfl, h3, h4⟩ := s1.form
  have hxl := bkR_len z sd
  have HB := Lib.hid (bkR_shuf z sd)
  go_wp2_with fail
  refine (back_any _ z b1 sd _ s1).mono ?_
  rintro e w2 ⟨v2, b2, rfl, s2, hb2, _, o2⟩
  obtain ⟨a2, c2, rfl, h5, h6⟩ := s2.form
  have s1b := s1.only0 o2
  have oA := o1.trans o2
  clear s1 o1 o2
  go_wp2_with fail
  refine (spec_back_any _ z b1 sd _ s1b).mono ?_
  rintro e w3 ⟨v3, b3, rfl, s3, hb3, _, o3⟩
  have s1c := s1b.only0 o3
  have s2c := s2.only0 o3
  have oB := oA.trans o3
  clear s1b s2 oA o3
  go_wp2_with fail
  refine (wpInts_yes _ _ _ _ _ _ s2c s3).mono ?_
  rintro e w4 ⟨rfl, o4⟩
  have s1d := s1c.only0 o4
  have s2d := s2c.only0 o4
  have oC := oB.trans o4
  clear s1c s2c oB o4 s3
  by_cases hxz : (bkR z sd).length = z.length
  · have HB' := Lib.hid (HB.out hxz)
    rw [hxz] at s2d h5
    rw [hxz]
    clear HB hxz hxl
    generalize bkR z sd = x at *
    go_wp2_with fail
    refine (shuffle_any _ x b2 sd _ s2d).mono ?_
    rintro e w5 ⟨v5, b5, rfl, s5, _, _, o5⟩
    rw [HB'.out] at s5
    go_wp2_with fail
    refine (wpInts_yes _ _ _ _ _ _ s5 (s1d.only0 o5)).mono ?_
    rintro e w6 ⟨rfl, o6⟩
    go_wp2
    go_ret
    exact ⟨rfl, (oC.trans o5).trans o6⟩
  · have hx0 : bkR z sd = [] := hxl.resolve_left hxz
    clear hxl HB
    have hxz' : ((0 : Int) != z.length) = true := by
      rw [hx0] at hxz
      rw [bne_iff_ne]
      intro e
      exact hxz (by simp; omega)
    have hlen0 : (bkR z sd).length = 0 := by rw [hx0]; rfl
    rw [hlen0] at s2d h5
    rw [hx0] at s2d
    have HX := Lib.hid hx0
    rw [hlen0]
    clear hx0 hxz hlen0
    go_wp2_with fail
    refine (spec_back_any _ z b1 sd _ s1d).mono ?_
    rintro e w5 ⟨v5, b5, rfl, s5, _, _, o5⟩
    rw [HX.out] at s5
    go_wp2_with fail
    refine (wpInts_yes _ _ _ _ _ _ (s2d.only0 o5) s5).mono ?_
    rintro e w6 ⟨rfl, o6⟩
    go_wp2
    go_ret
    exact ⟨rfl, (oC.trans o5).trans o6⟩
end Go.Proofs.Ytekeefdlnfnccaa
