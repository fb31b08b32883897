/- Contracts: what is behind a place. -/
import Derived.Test.YtbhoocdongeomaaC8
set_option linter.unusedVariables false
namespace Go.Proofs.Ytbhoocdongeomaa
open Go.ChangeShapes Go.WideShapes Go.ChangeAt Go.RowKit

def pastB (s : Int) (c : Check) : Bool := decide (c.seq ≤ s)
def cutL (l : List Check) (s : Int) : List Check := if checkOkM l then l.filter (fun c => !pastB s c) else []

theorem checkCut1_any (d : Check) (s : Int) (g : Nat) (w : World) (h0 : w.cell? ⟨g, 0, none⟩ = some (.int .i64 s)) :
    Calls Try.prog 72 #[.agg #[.int .i64 d.frm, .int .i64 d.seq, .int .i64 d.sum], .pointer (some ⟨g, 0, none⟩)] w (BoolRet (pastB s d) w) := by
  have h0' := ((Only.refl [] w).alloc (.cells #[.int .i64 d.frm, .int .i64 d.seq, .int .i64 d.sum] 34)).cell h0 (by simp)
  go_enter Try.func72, Try.ntmps72
  go_wp2
  go_ret
  exact ⟨rfl, (Only.refl _ _).alloc _⟩

set_option maxRecDepth 100000 in
set_option maxHeartbeats 2000000 in
theorem checkCut_any (v : Value) (l : List Check) (bs : List Nat) (s : Int) (w : World) (h : Sl w v l bs) :
    Calls Try.prog 32 #[v, .int .i64 s] w (FreshRet (cutL l s) w) := by
  obtain ⟨a, c, rfl, h1, h2⟩ := h.form
  have hM : maxLen = 9223372036854775807 := rfl
  have hblk := Blk.new w 3 #[.int .i64 s]
  have hon0 : Only [] w (w.alloc (.cells #[.int .i64 s] 3)) := (Only.refl _ _).alloc _
  have h0 := h.only0 hon0
  go_enter Try.func32, Try.ntmps32
  go_wp2_with fail
  refine (checkOk_any _ l bs _ h0).mono ?_
  rintro e w1 ⟨rfl, o1⟩
  have s1 := h0.only0 o1
  have oA1 := hon0.trans o1
  have hb1 := hblk.only o1 (by simp)
  clear hblk hon0 h0 o1
  cases hok : checkOkM l
  · go_wp2
    go_ret
    exact ⟨.slice none 0 0, [], rfl, by rw [cutL, hok]; exact Sl.nil_ _, by simp, by simp, oA1⟩
  have hlen := (checkOkM_iff.1 hok).2.2
  have HOK := Lib.hid hok
  clear hok
  go_wp2_with fail
  refine (clone0_check _ l bs _ s1 (by omega)).mono ?_
  rintro e w2 ⟨v2, b2, rfl, s2, hbb2, hn2, o2⟩
  have hb2 := hb1.only o2 (by simp)
  have hni : w.heap.size ∉ b2 := fun hq => by have := hbb2 _ hq; have := hb1.lt; omega
  have oA2 := oA1.trans o2
  have hz2 : ∀ q ∈ b2, w.heap.size ≤ q := fun q hq => by have := hbb2 q hq; have := oA1.size; omega
  clear hb1 s1 o2 oA1
  go_wp2_with fail
  refine (deleteFunc_check _ l b2 72 #[.pointer (some ⟨w.heap.size, 0, none⟩)] (pastB s) _ s2 (fun args W => by go_simp) (fun d hd w1 ho1 => ?_)).mono ?_
  · exact checkCut1_any d s _ w1 ((hb2.only ho1 hni).cell 0)
  rintro e w3 ⟨v3, b3, rfl, s3, hsub, o3⟩
  have oA3 := oA2.trans_new o3 hz2
  obtain ⟨a3, c3, rfl, g1, g2⟩ := s3.form
  obtain ⟨b4, s4, hsub4⟩ := s3.clip
  clear hb2 o3 s2 oA2
  go_wp2_with fail
  refine (clip_check a3 _ c3 g1 g2 _).mono ?_
  rintro e w4 ⟨rfl, rfl⟩
  go_wp2
  go_ret
  exact ⟨_, b4, rfl, by rw [cutL, HOK.out]; exact s4, fun q hq => hz2 q (hsub.subset (hsub4.subset hq)), s4.flat_bs, oA3⟩

set_option maxRecDepth 100000 in
set_option maxHeartbeats 4000000 in
theorem specCheckCut_any (v : Value) (l : List Check) (bs : List Nat) (s : Int) (w : World) (h : Sl w v l bs) :
    Calls Try.prog 31 #[v, .int .i64 s] w (FreshRet (cutL l s) w) := by
  obtain ⟨a, c, rfl, h1, h2⟩ := h.form
  have hM : maxLen = 9223372036854775807 := rfl
  have hsl := Sl.nil_ (α := Check) (w := w.alloc (.cells #[] 34)) (some ⟨w.heap.size, 0, none⟩)
  have hon0 : Only [] w (w.alloc (.cells #[] 34)) := (Only.refl _ _).alloc _
  cases hok : checkOkM l
  · have hne : 0 < l.length := by
      cases l with
      | nil => cases hok
      | cons => simp
    have HOK := Lib.hid hok
    go_enter Try.func31, Try.ntmps31
    go_wp2
    go_loopw [5, 6] (fun t i wr => t = .slice (some ⟨w.heap.size, 0, none⟩) 0 0 ∧ i = .int .i64 0 ∧ Only [] w wr) (fun t i _ => 0)
    case atStart => exact ⟨rfl, rfl, hon0⟩
    case round =>
      obtain ⟨rfl, rfl, hon⟩ := hrel
      clear hsl hon0
      go_wp2_with fail
      refine (l15Ok_any _ l bs _ (h.only0 hon)).mono ?_
      rintro e w1 ⟨rfl, o1⟩
      go_wp2
      go_ret
      exact ⟨_, [], rfl, by rw [cutL, HOK.out]; exact Sl.nil_ _, by simp, by simp, hon.trans o1⟩
  have hlen := (checkOkM_iff.1 hok).2.2
  have HOK := Lib.hid hok
  go_enter Try.func31, Try.ntmps31
  go_wp2
  go_loopw [5, 6] (fun t i wr => ∃ (k : Nat) (bt : List Nat), k ≤ l.length ∧ i = .int .i64 (k : Int) ∧ Sl wr t ((l.take k).filter (fun c => !pastB s c)) bt ∧ (∀ q ∈ bt, w.heap.size ≤ q) ∧ Only [] w wr) (fun t i _ => l.length - (intOf i).toNat)
  case atStart => exact ⟨0, [], Nat.zero_le _, rfl, by simpa using hsl, by simp, hon0⟩
  case round =>
    obtain ⟨k, bt, hk, rfl, ht, hbt, hon⟩ := hrel
    clear hsl hon0
    obtain ⟨y, hy⟩ : ∃ y, y = (l.take k).filter (fun c => !pastB s c) := ⟨_, rfl⟩
    rw [← hy] at ht
    have hyl : y.length ≤ l.length := by rw [hy]; exact Nat.le_trans (List.length_filter_le _ _) (by rw [List.length_take]; omega)
    have HY := Lib.hid hy
    clear hy
    obtain ⟨at_, ct, rfl, g1, g2⟩ := ht.form
    by_cases hlt : k < l.length
    · obtain ⟨b, o, rfl, _⟩ := h.addr (by omega)
      go_wp2_with fail
      refine (l15Ok_any _ l bs _ (h.only0 hon)).mono ?_
      rintro e w1 ⟨rfl, o1⟩
      rw [hok]
      have hon1 := hon.trans o1
      have ht1 := ht.only0 o1
      obtain ⟨x, hx, _, _, c0, c1, c2⟩ := (h.only0 hon1).check_cells hlt
      have HT := Lib.hid (take_snocG hx)
      clear hx ht o1 hon hok
      by_cases hgt : s < x.seq
      · have hgb : decide (s < x.seq) = true := decide_eq_true hgt
        have hp : pastB s x = false := by simp [pastB]; omega
        have HP := Lib.hid hp
        have hw1 := hon1.size
        clear hp
        go_wp2_with (at_builtin; refine wpList_append_one rfl (.tmp 25) (.tmp 30) rfl tyChecks rfl ht1 x rfl (by omega) ?_; intro v' w4 bs' hs4 ho4 hb4)
        refine ⟨⟨k + 1, bs', by omega, by go_num, ?_, fun q hq => ?_, hon1.trans_new ho4 (fun q hq => hbt q (List.mem_of_mem_take hq))⟩, by simp [intOf]; omega⟩
        · rw [HT.out, List.filter_append, ← HY.out]
          have : [x].filter (fun c => !pastB s c) = [x] := by simp [HP.out]
          rw [this]; exact hs4
        · rcases hb4 q hq with h | h
          · exact hbt q h
          · omega
      · have hgb : decide (s < x.seq) = false := decide_eq_false hgt
        have hp : pastB s x = true := by simp [pastB]; omega
        have HP := Lib.hid hp
        clear hp
        go_wp2
        refine ⟨⟨k + 1, bt, by omega, by go_num, ?_, hbt, hon1⟩, by simp [intOf]; omega⟩
        rw [HT.out, List.filter_append, ← HY.out]
        have : [x].filter (fun c => !pastB s c) = [] := by simp [HP.out]
        rw [this, List.append_nil]; exact ht1
    · have hk2 : k = l.length := by omega
      go_wp2
      go_ret
      refine ⟨_, bt, rfl, ?_, hbt, ht.flat_bs, hon⟩
      have e : y = l.filter (fun c => !pastB s c) := by rw [HY.out, hk2, List.take_length]
      rw [cutL, HOK.out, if_pos rfl, ← e]
      exact ht
end Go.Proofs.Ytbhoocdongeomaa
