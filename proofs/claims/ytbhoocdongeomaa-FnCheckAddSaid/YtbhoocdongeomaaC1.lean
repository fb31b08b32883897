/- Contracts: sums that are ok. -/
import Derived.Test.YtbhoocdongeomaaVCheck
import Derived.Test.YtbhoocdongeomaaB1
set_option linter.unusedVariables false
namespace Go.Proofs.Ytbhoocdongeomaa
open Go.ChangeShapes Go.WideShapes Go.ChangeAt Go.RowKit

def oneB (c : Check) : Bool := inB c.frm 0 3 && inB c.seq 0 5 && inB c.sum 0 4294967295
def keyB (d c : Check) : Bool := d.frm == c.frm && d.seq == c.seq
def okFrom (done : List Check) : List Check → Bool
  | [] => true
  | c :: r => oneB c && !(done.any (fun d => keyB d c)) && okFrom (done ++ [c]) r
def checkOkM (l : List Check) : Bool := okFrom [] l && decide (l.length ≤ 24)
theorem okFrom_at {l : List Check} {k : Nat} {x : Check} (hx : l[k]? = some x) : okFrom (l.take k) (l.drop k) = (oneB x && !((l.take k).any (fun d => keyB d x)) && okFrom (l.take (k + 1)) (l.drop (k + 1))) := by
  have hk : k < l.length := (List.getElem?_eq_some_iff.1 hx).1
  have he := (List.getElem?_eq_some_iff.1 hx).2
  rw [List.drop_eq_getElem_cons hk, he, okFrom, List.take_succ_eq_append_getElem hk, he]

theorem checkOk1_any (d c : Check) (g : Nat) (w : World) (h0 : w.cell? ⟨g, 0, none⟩ = some (.int .i64 c.frm)) (h1 : w.cell? ⟨g, 1, none⟩ = some (.int .i64 c.seq)) :
    Calls Try.prog 62 #[.agg #[.int .i64 d.frm, .int .i64 d.seq, .int .i64 d.sum], .pointer (some ⟨g, 0, none⟩)] w (BoolRet (keyB d c) w) := by
  have h0' := ((Only.refl [] w).alloc (.cells #[.int .i64 d.frm, .int .i64 d.seq, .int .i64 d.sum] 34)).cell h0 (by simp)
  have h1' := ((Only.refl [] w).alloc (.cells #[.int .i64 d.frm, .int .i64 d.seq, .int .i64 d.sum] 34)).cell h1 (by simp)
  cases e1 : (d.frm == c.frm)
  · go_enter Try.func62, Try.ntmps62
    go_wp2
    go_ret
    exact ⟨ret_bool (by unfold keyB; rw [e1]; rfl), (Only.refl _ _).alloc _⟩
  · go_enter Try.func62, Try.ntmps62
    go_wp2
    go_ret
    exact ⟨ret_bool (by unfold keyB; rw [e1]; rfl), (Only.refl _ _).alloc _⟩

set_option maxRecDepth 100000 in
set_option maxHeartbeats 2000000 in
theorem checkOk_any (v : Value) (l : List Check) (bs : List Nat) (w : World) (h : Sl w v l bs) :
    Calls Try.prog 19 #[v] w (BoolRet (checkOkM l) w) := by
  obtain ⟨a, c, rfl, h1, h2⟩ := h.form
  have hm : maxLen = 9223372036854775807 := rfl
  go_enter Try.func19, Try.ntmps19
  go_wp2
  go_loopw [7] (fun i wr => ∃ (k : Nat), k ≤ l.length ∧ i = .int .i64 (k : Int) ∧ Only [] w wr ∧ okFrom (l.take k) (l.drop k) = okFrom [] l) (fun i _ => l.length - (intOf i).toNat)
  case atStart => exact ⟨0, Nat.zero_le _, rfl, Only.refl _ _, rfl⟩
  case round =>
    obtain ⟨k, hk, rfl, hon, hall⟩ := hrel
    by_cases hlt : k < l.length
    · obtain ⟨b, o, rfl, _⟩ := h.addr (by omega)
      obtain ⟨x, hx, _, _, c0, c1, c2⟩ := (h.only0 hon).check_cells hlt
      have HO := Lib.hid (hall.symm.trans (okFrom_at hx))
      obtain ⟨bs2, hpre, hsub⟩ := h.pre (j := k) (by omega)
      clear hx hall
      cases e1 : inB x.frm 0 3
      · go_wp2_with (first | (go_at_call 59; refine (isKeeper_any _ _).mono ?_; rintro e w' ⟨rfl, rfl⟩))
        go_ret
        exact ⟨ret_bool (by rw [checkOkM, HO.out, oneB, e1]; rfl), by repeat (first | assumption | apply Only.drew | apply Only.alloc)⟩
      cases e2 : inB x.seq 0 5
      · go_wp2_with (first | (go_at_call 59; refine (isKeeper_any _ _).mono ?_; rintro e w' ⟨rfl, rfl⟩) | (go_at_call 60; refine (in_any _ _ _ _).mono ?_; rintro e w' ⟨rfl, rfl⟩))
        go_ret
        exact ⟨ret_bool (by rw [checkOkM, HO.out, oneB, e1, e2]; rfl), by repeat (first | assumption | apply Only.drew | apply Only.alloc)⟩
      cases e3 : inB x.sum 0 4294967295
      · go_wp2_with (first | (go_at_call 59; refine (isKeeper_any _ _).mono ?_; rintro e w' ⟨rfl, rfl⟩) | (go_at_call 60; refine (in_any _ _ _ _).mono ?_; rintro e w' ⟨rfl, rfl⟩))
        go_ret
        exact ⟨ret_bool (by rw [checkOkM, HO.out, oneB, e1, e2, e3]; rfl), by repeat (first | assumption | apply Only.drew | apply Only.alloc)⟩
      have hone : oneB x = true := by rw [oneB, e1, e2, e3]; rfl
      have HN := Lib.hid hone
      clear hone
      go_wp2_with (first | (go_at_call 59; refine (isKeeper_any _ _).mono ?_; rintro e w' ⟨rfl, rfl⟩) | (go_at_call 60; refine (in_any _ _ _ _).mono ?_; rintro e w' ⟨rfl, rfl⟩))
      have hb := Blk.new wr 34 #[.int .i64 x.frm, .int .i64 x.seq, .int .i64 x.sum]
      have hon1 : Only [] w (wr.alloc (.cells #[.int .i64 x.frm, .int .i64 x.seq, .int .i64 x.sum] 34)) := hon.alloc _
      refine (containsFunc_check _ (l.take k) bs2 62 #[.pointer (some ⟨wr.heap.size, 0, none⟩)] (fun d => keyB d x) _ (hpre.only0 hon1) (fun args W => by go_simp) (fun d hd w1 ho1 => ?_)).mono ?_
      · have hb1 := hb.only ho1 (by simp)
        exact checkOk1_any d x _ w1 (hb1.cell 0) (hb1.cell 1)
      · rintro e w2 ⟨rfl, o2⟩
        have hon2 := hon1.trans o2
        clear hb hon1 o2
        cases e4 : ((l.take k).any fun d => keyB d x)
        · have HE := Lib.hid e4
          clear e4
          go_wp2
          exact ⟨⟨k + 1, by omega, by go_num, hon2, by rw [HO.out, HN.out, HE.out]; rfl⟩, by simp [intOf]; omega⟩
        · have HE := Lib.hid e4
          clear e4
          go_wp2
          go_ret
          exact ⟨ret_bool (by rw [checkOkM, HO.out, HN.out, HE.out]; rfl), hon2⟩
    · go_wp2
      go_ret
      have hk2 : k = l.length := by omega
      subst hk2
      rw [List.drop_length] at hall
      exact ⟨ret_bool (by simp [checkOkM, ← hall, okFrom]; omega), hon⟩
end Go.Proofs.Ytbhoocdongeomaa
