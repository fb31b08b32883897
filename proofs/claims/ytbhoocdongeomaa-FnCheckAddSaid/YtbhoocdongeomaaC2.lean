/- Contracts: the reference's look at sums. -/
import Derived.Test.YtbhoocdongeomaaC1
set_option linter.unusedVariables false
namespace Go.Proofs.Ytbhoocdongeomaa
open Go.ChangeShapes Go.WideShapes Go.ChangeAt Go.RowKit

theorem l15One_any (c : Check) (w : World) :
    Calls Try.prog 110 #[.agg #[.int .i64 c.frm, .int .i64 c.seq, .int .i64 c.sum]] w (BoolRet (oneB c) w) := by
  have hon : Only [] w (w.alloc (.cells #[.int .i64 c.frm, .int .i64 c.seq, .int .i64 c.sum] 34)) := (Only.refl _ _).alloc _
  cases e1 : inB c.frm 0 3
  · go_enter Try.func110, Try.ntmps110
    go_wp2_with (go_at_call 104; refine (l1In_any _ _ _ _).mono ?_; rintro e w' ⟨rfl, rfl⟩)
    go_ret
    exact ⟨ret_bool (by rw [oneB, e1]; rfl), hon⟩
  cases e2 : inB c.seq 0 5
  all_goals
    go_enter Try.func110, Try.ntmps110
    go_wp2_with (go_at_call 104; refine (l1In_any _ _ _ _).mono ?_; rintro e w' ⟨rfl, rfl⟩)
    go_ret
    exact ⟨ret_bool (by rw [oneB, e1, e2]; first | rfl | simp), hon⟩

set_option maxRecDepth 100000 in
set_option maxHeartbeats 2000000 in
theorem l15Ok_any (v : Value) (l : List Check) (bs : List Nat) (w : World) (h : Sl w v l bs) :
    Calls Try.prog 58 #[v] w (BoolRet (checkOkM l) w) := by
  obtain ⟨a, c, rfl, h1, h2⟩ := h.form
  have hm : maxLen = 9223372036854775807 := rfl
  go_enter Try.func58, Try.ntmps58
  go_wp2
  go_loopw [3] (fun i wr => ∃ (k : Nat), k ≤ l.length ∧ i = .int .i64 (k : Int) ∧ Only [] w wr ∧ okFrom (l.take k) (l.drop k) = okFrom [] l) (fun i _ => l.length - (intOf i).toNat)
  case atStart => exact ⟨0, Nat.zero_le _, rfl, Only.refl _ _, rfl⟩
  case round =>
    obtain ⟨k, hk, rfl, hon, hall⟩ := hrel
    by_cases hlt : k < l.length
    · obtain ⟨b, o, rfl, _⟩ := h.addr (by omega)
      obtain ⟨x, hx, _, _, c0, c1, c2⟩ := (h.only0 hon).check_cells hlt
      have HO := Lib.hid (hall.symm.trans (okFrom_at hx))
      have HX := Lib.hid hx
      clear hx hall
      cases e1 : oneB x
      · go_wp2_with fail
        refine (l15One_any x _).mono ?_
        rintro e w2 ⟨rfl, o2⟩
        go_wp2
        go_ret
        exact ⟨ret_bool (by rw [checkOkM, HO.out, e1]; rfl), hon.trans o2⟩
      · have HN := Lib.hid e1
        go_wp2_with fail
        refine (l15One_any x _).mono ?_
        rintro e w2 ⟨rfl, o2⟩
        have hon2 := hon.trans o2
        clear o2 hon c0 c1 c2
        obtain ⟨wo, hwo⟩ : ∃ wo : World, wo = wr := ⟨wr, rfl⟩
        go_wp2_with fail
        go_loopw [4] (fun j wr => ∃ (n : Nat), n ≤ k ∧ j = .int .i64 (n : Int) ∧ Only [] w wr ∧ ∀ y ∈ l.take n, keyB y x = false) (fun j _ => k - (intOf j).toNat)
        case atStart => exact ⟨0, Nat.zero_le _, rfl, hon2, by simp⟩
        case round =>
          rename_i wr2
          obtain ⟨n, hn, rfl, hon3, hno⟩ := hrel
          clear hon2 hwo
          obtain ⟨x2, hx2, _, _, c0, c1, c2⟩ := (h.only0 hon3).check_cells hlt
          obtain rfl : x2 = x := Option.some.inj (hx2.symm.trans HX.out)
          by_cases hlt2 : n < k
          · obtain ⟨y, hy, _, _, d0, d1, d2⟩ := (h.only0 hon3).check_cells (i := n) (by omega)
            have HY := Lib.hid hy
            have HNO := Lib.hid hno
            have hnl : n < l.length := by omega
            clear hx2 hy hno
            cases f1 : (y.frm == x2.frm)
            · have hkey : keyB y x2 = false := by rw [keyB, f1]; rfl
              have HK := Lib.hid (take_all (fun d => keyB d x2) l n y HY.out HNO.out hkey)
              clear hkey
              go_wp2_with fail
              go_quiet (fail)
              go_wp2
              exact ⟨⟨n + 1, by omega, by go_num, hon3.drewN _, HK.out⟩, by simp [intOf]; omega⟩
            cases f2 : (y.seq == x2.seq)
            · have hkey : keyB y x2 = false := by rw [keyB, f1, f2]; rfl
              have HK := Lib.hid (take_all (fun d => keyB d x2) l n y HY.out HNO.out hkey)
              clear hkey
              go_wp2_with fail
              go_quiet (fail)
              go_wp2
              exact ⟨⟨n + 1, by omega, by go_num, hon3.drewN _, HK.out⟩, by simp [intOf]; omega⟩
            · have hkey : keyB y x2 = true := by rw [keyB, f1, f2]; rfl
              have hany : ((l.take k).any fun d => keyB d x2) = true := List.any_eq_true.2 ⟨y, by
                rw [List.mem_take_iff_getElem]
                have := List.getElem?_eq_some_iff.1 HY.out
                exact ⟨n, by omega, this.2⟩, hkey⟩
              have HK := Lib.hid hany
              clear hkey hany
              go_wp2_with fail
              go_quiet (fail)
              go_wp2
              go_ret
              exact ⟨ret_bool (by rw [checkOkM, HO.out, HN.out, HK.out]; rfl), hon3.drewN _⟩
          · have hnk : n = k := by omega
            subst hnk
            have hany : ((l.take n).any fun d => keyB d x2) = false := by
              rw [List.any_eq_false]
              intro y hy
              rw [hno y hy]; simp
            have HK := Lib.hid hany
            clear hany hno hx2
            go_wp2
            exact ⟨⟨n + 1, by omega, by go_num, hon3, by rw [HO.out, HN.out, HK.out]; rfl⟩, by simp [intOf]; omega⟩
    · go_wp2
      go_ret
      have hk2 : k = l.length := by omega
      subst hk2
      rw [List.drop_length] at hall
      exact ⟨ret_bool (by simp [checkOkM, ← hall, okFrom]; omega), hon⟩
theorem specCheckOk_any (v : Value) (l : List Check) (bs : List Nat) (w : World) (h : Sl w v l bs) :
    Calls Try.prog 17 #[v] w (BoolRet (checkOkM l) w) := by
  go_enter Try.func17, Try.ntmps17
  go_wp2_with fail
  refine (l15Ok_any v l bs _ h).mono ?_
  rintro e w2 ⟨rfl, o2⟩
  go_wp2
  go_ret
  exact ⟨rfl, o2⟩
end Go.Proofs.Ytbhoocdongeomaa
