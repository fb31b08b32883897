/- Contracts: the reference's shuffle. -/
import Derived.Test.YtekeefdlnfnccaaD5
set_option linter.unusedVariables false
namespace Go.Proofs.Ytekeefdlnfnccaa
open Go.ChangeShapes Go.WideShapes Go.ChangeAt Go.RowKit

theorem l16Ok_yes (v : Value) (l : List Int) (bs : List Nat) (seed : Int) (w : World) (h : Sl w v l bs) (hn : l.length ≤ 20) (hs : seedB seed = true) :
    Calls Try.prog 40 #[v, .int .i64 seed] w fun e w' => e = .returned (.bool true) ∧ w = w' := by
  obtain ⟨a, c, rfl, h1, h2⟩ := h.form
  have hd : decide ((l.length : Int) ≤ 20) = true := by simp; omega
  have h3 : inB seed 0 2147483647 = true := hs
  go_enter Try.func40, Try.ntmps40
  go_wp2_with (go_at_call 33; refine (l1In_any _ _ _ _).mono ?_; rintro e w' ⟨rfl, rfl⟩)
  go_ret
  exact ⟨rfl, rfl⟩
theorem l16Ok_no (v : Value) (l : List Int) (bs : List Nat) (seed : Int) (w : World) (h : Sl w v l bs) (hn : 20 < l.length ∨ seedB seed = false) :
    Calls Try.prog 40 #[v, .int .i64 seed] w fun e w' => e = .returned (.bool false) ∧ w = w' := by
  obtain ⟨a, c, rfl, h1, h2⟩ := h.form
  by_cases hl : 20 < l.length
  · have hd : decide ((l.length : Int) ≤ 20) = false := by simp; omega
    go_enter Try.func40, Try.ntmps40
    go_wp2_with (go_at_call 33; refine (l1In_any _ _ _ _).mono ?_; rintro e w' ⟨rfl, rfl⟩)
    go_ret
    exact ⟨rfl, rfl⟩
  · have hd : decide ((l.length : Int) ≤ 20) = true := by simp; omega
    have h3 : inB seed 0 2147483647 = false := hn.resolve_left hl
    go_enter Try.func40, Try.ntmps40
    go_wp2_with (go_at_call 33; refine (l1In_any _ _ _ _).mono ?_; rintro e w' ⟨rfl, rfl⟩)
    go_ret
    exact ⟨rfl, rfl⟩
set_option maxHeartbeats 1000000 in
theorem spec_shuffle_yes (v : Value) (l : List Int) (bs : List Nat) (seed : Int) (w : World) (h : Sl w v l bs) (hn : l.length ≤ 20) (hs : seedB seed = true) :
    Calls Try.prog 28 #[v, .int .i64 seed] w (FreshRet (shufM (swapsM l.length seed) l.length l) w) := by
  obtain ⟨a, c, news, rfl, hread, hR⟩ := h.source_flat
  have ho0 : Only [] w (w.alloc (.cells #[] 3)) := (Only.refl [] w).alloc _
  have HB : Hid (bs = bs) := Lib.hid rfl
  go_enter Try.func28, Try.ntmps28
  go_wp2_with (first | (go_at_call 40; refine (l16Ok_yes _ l bs seed _ h hn hs).mono ?_; rintro e w' ⟨rfl, rfl⟩) | (at_builtin; refine wpList_append_sl (α := Int) (l := []) (l' := l) (bn := []) rfl (.tmp 13) (.tmp 14) rfl tyInts rfl (Sl.nil_ _) a l.length c rfl news rfl (read_alloc hread _) (hR _) (by simp) (by simp; omega) ?_; intro v1 w1 bs1 hs1 ho1' hb1' hn1; rw [List.nil_append] at hs1; obtain ⟨a1, c1, rfl, h3, h4⟩ := hs1.form))
  have hb1 : ∀ b ∈ bs1, w.heap.size ≤ b := fun q hq => by have := hb1' q hq; simp at this; omega
  have ho1 : Only [] w w1 := ho0.trans0 ho1'
  clear hread hR ho0 ho1' hb1'
  go_wp2_with fail
  refine (picks_any l.length hn seed hs _).mono ?_
  rintro e w2 ⟨v2, bs2, rfl, hs2, hb2, hn2, ho2⟩
  have hwl := swapsM_len l.length seed
  have hlow := swapsM_low l.length seed
  generalize swapsM l.length seed = ws at *
  obtain ⟨a2, c2, rfl, h5, h6⟩ := hs2.form
  have hs1' := hs1.only0 ho2
  have hd12 : ∀ q ∈ bs2, q ∉ bs1 := fun q hq hq' => by have := hs1.old q hq'; have := hb2 q hq; omega
  have ho : Only [] w w2 := ho1.trans0 ho2
  clear hs1 ho1 ho2 h3 h5
  go_wp2_with fail
  go_loopw [7] (fun i wr => ∃ (k : Nat) (o : List Int), k ≤ l.length ∧ i = .int .i64 ((k : Int) - 1) ∧ o.length = l.length ∧ shufM ws k o = shufM ws l.length l ∧
      Sl wr (.slice a1 l.length c1) o bs1 ∧ Sl wr (.slice a2 ws.length c2) ws bs2 ∧ Only [] w wr) (fun i _ => (intOf i + 1).toNat)
  case atStart => exact ⟨l.length, l, Nat.le_refl _, rfl, rfl, rfl, hs1', hs2, ho⟩
  case round =>
    obtain ⟨k, o, hk, rfl, hol, hf, hq1, hq2, hq3⟩ := hrel
    clear hs1' hs2 ho
    by_cases hk1 : 1 < k
    · obtain ⟨j, rfl⟩ : ∃ j, k = j + 2 := ⟨k - 2, by omega⟩
      obtain ⟨b1, o1, rfl, hm1⟩ := hq1.addr (by omega)
      obtain ⟨b2, o2, rfl, hm2⟩ := hq2.addr (by omega)
      obtain ⟨hc1, _, _, hz1⟩ := hq1.int_cell (i := j + 1) (by omega)
      obtain ⟨hc2, _, _, _⟩ := hq2.int_cell (i := j + 1) (by omega)
      have hl := hlow (j + 1) (ws.getD (j + 1) 0) (by rw [List.getD, List.getElem?_eq_getElem (by omega)]; rfl)
      obtain ⟨t, ht⟩ : ∃ t : Nat, ws.getD (j + 1) 0 = (t : Int) := ⟨(ws.getD (j + 1) 0).toNat, by omega⟩
      rw [ht] at hl hc2
      obtain ⟨hc3, _, _, _⟩ := hq1.int_cell (i := t) (by omega)
      have hz1' := hz1 (o1 + t)
      have hz1'' := hz1 (o1 + (j + 1))
      obtain ⟨x', hx'⟩ := cell?_setCell_some (w := wr) (p := ⟨b1, o1 + (j + 1), none⟩) (x := .int .i64 (o.getD t 0)) (q := ⟨b1, o1 + t, none⟩) (v := .int .i64 (o.getD t 0)) hc3
      have hj1 : t < j + 2 := by omega
      have hf2 : Hid (shufM ws (j + 1) (swapM o (j + 1) t) = shufM ws l.length l) := by
        rw [← hf]; show _ = shufM ws (j + 1) _; rw [ht]; rfl
      have hst1 := hq1.int_set (i := j + 1) (by omega) (o.getD t 0) rfl
      have hst2 := hst1.int_set (i := t) (by simp; omega) (o.getD (j + 1) 0) rfl
      clear hz1 ht hst1 hf
      have hsw : Hid (swapM o (j + 1) t = (o.set (j + 1) (o.getD t 0)).set t (o.getD (j + 1) 0)) := Lib.hid rfl
      have hq2' := hq2.only ((Only.refl bs1 wr).setCell (p := ⟨b1, o1 + (j + 1), none⟩) (.inl hm1) (.int .i64 (o.getD t 0)) |>.setCell (p := ⟨b1, o1 + t, none⟩) (.inl hm1) (.int .i64 (o.getD (j + 1) 0))) hd12
      have hq3' := hq3.setCell (p := ⟨b1, o1 + (j + 1), none⟩) (.inr (hb1 _ hm1)) (.int .i64 (o.getD t 0)) |>.setCell (p := ⟨b1, o1 + t, none⟩) (.inr (hb1 _ hm1)) (.int .i64 (o.getD (j + 1) 0))
      generalize o.getD t 0 = y1 at *
      generalize o.getD (j + 1) 0 = y2 at *
      have hne : ¬ b1 = b2 := fun e => hd12 b2 hm2 (e ▸ hm1)
      have hne' : ¬ b2 = b1 := fun e => hne e.symm
      go_wp2
      refine ⟨⟨j + 1, (o.set (j + 1) y1).set t y2, by omega, by go_num, by simpa using hol, ?_, hst2, hq2', hq3'⟩, by simp [intOf]; omega⟩
      rw [← hsw.out]
      exact hf2.out
    · go_wp2
      go_ret
      refine ⟨.slice a1 l.length c1, bs1, rfl, ?_, hb1, hn1, hq3⟩
      rw [← hf, shufM_le1 ws k o (by omega)]
      exact hq1
theorem spec_shuffle_no (v : Value) (l : List Int) (bs : List Nat) (seed : Int) (w : World) (h : Sl w v l bs) (hn : 20 < l.length ∨ seedB seed = false) :
    Calls Try.prog 28 #[v, .int .i64 seed] w fun e w' => e = .returned (.slice none 0 0) ∧ w = w' := by
  go_enter Try.func28, Try.ntmps28
  go_wp2_with (go_at_call 40; refine (l16Ok_no _ l bs seed _ h hn).mono ?_; rintro e w' ⟨rfl, rfl⟩)
  go_ret
  exact ⟨rfl, rfl⟩
set_option maxHeartbeats 1000000 in
theorem spec_back_yes (v : Value) (l : List Int) (bs : List Nat) (seed : Int) (w : World) (h : Sl w v l bs) (hn : l.length ≤ 20) (hs : seedB seed = true) :
    Calls Try.prog 24 #[v, .int .i64 seed] w (FreshRet (backM (swapsM l.length seed) (l.length - 1) 1 l) w) := by
  obtain ⟨a, c, news, rfl, hread, hR⟩ := h.source_flat
  have ho0 : Only [] w (w.alloc (.cells #[] 3)) := (Only.refl [] w).alloc _
  have HB : Hid (bs = bs) := Lib.hid rfl
  go_enter Try.func24, Try.ntmps24
  go_wp2_with (first | (go_at_call 40; refine (l16Ok_yes _ l bs seed _ h hn hs).mono ?_; rintro e w' ⟨rfl, rfl⟩) | (at_builtin; refine wpList_append_sl (α := Int) (l := []) (l' := l) (bn := []) rfl (.tmp 13) (.tmp 14) rfl tyInts rfl (Sl.nil_ _) a l.length c rfl news rfl (read_alloc hread _) (hR _) (by simp) (by simp; omega) ?_; intro v1 w1 bs1 hs1 ho1' hb1' hn1; rw [List.nil_append] at hs1; obtain ⟨a1, c1, rfl, h3, h4⟩ := hs1.form))
  have hb1 : ∀ b ∈ bs1, w.heap.size ≤ b := fun q hq => by have := hb1' q hq; simp at this; omega
  have ho1 : Only [] w w1 := ho0.trans0 ho1'
  clear hread hR ho0 ho1' hb1'
  go_wp2_with fail
  refine (picks_any l.length hn seed hs _).mono ?_
  rintro e w2 ⟨v2, bs2, rfl, hs2, hb2, hn2, ho2⟩
  have hwl := swapsM_len l.length seed
  have hlow := swapsM_low l.length seed
  generalize swapsM l.length seed = ws at *
  obtain ⟨a2, c2, rfl, h5, h6⟩ := hs2.form
  have hs1' := hs1.only0 ho2
  have hd12 : ∀ q ∈ bs2, q ∉ bs1 := fun q hq hq' => by have := hs1.old q hq'; have := hb2 q hq; omega
  have ho : Only [] w w2 := ho1.trans0 ho2
  clear hs1 ho1 ho2 h3 h5
  go_wp2_with fail
  go_loopw [7] (fun i wr => ∃ (k : Nat) (o : List Int), 1 ≤ k ∧ i = .int .i64 (k : Int) ∧ o.length = l.length ∧ backM ws (l.length - k) k o = backM ws (l.length - 1) 1 l ∧
      Sl wr (.slice a1 l.length c1) o bs1 ∧ Sl wr (.slice a2 ws.length c2) ws bs2 ∧ Only [] w wr) (fun i _ => l.length - (intOf i).toNat)
  case atStart => exact ⟨1, l, Nat.le_refl _, rfl, rfl, rfl, hs1', hs2, ho⟩
  case round =>
    obtain ⟨k, o, hk, rfl, hol, hf, hq1, hq2, hq3⟩ := hrel
    clear hs1' hs2 ho
    by_cases hk1 : k < l.length
    · obtain ⟨b1, o1, rfl, hm1⟩ := hq1.addr (by omega)
      obtain ⟨b2, o2, rfl, hm2⟩ := hq2.addr (by omega)
      obtain ⟨hc1, _, _, hz1⟩ := hq1.int_cell (i := k) (by omega)
      obtain ⟨hc2, _, _, _⟩ := hq2.int_cell (i := k) (by omega)
      have hl := hlow k (ws.getD k 0) (by rw [List.getD, List.getElem?_eq_getElem (by omega)]; rfl)
      obtain ⟨t, ht⟩ : ∃ t : Nat, ws.getD k 0 = (t : Int) := ⟨(ws.getD k 0).toNat, by omega⟩
      rw [ht] at hl hc2
      obtain ⟨hc3, _, _, _⟩ := hq1.int_cell (i := t) (by omega)
      have hz1' := hz1 (o1 + t)
      have hz1'' := hz1 (o1 + k)
      obtain ⟨x', hx'⟩ := cell?_setCell_some (w := wr) (p := ⟨b1, o1 + k, none⟩) (x := .int .i64 (o.getD t 0)) (q := ⟨b1, o1 + t, none⟩) (v := .int .i64 (o.getD t 0)) hc3
      have hj1 : t < l.length := by omega
      have hf2 : Hid (backM ws (l.length - (k + 1)) (k + 1) (swapM o k t) = backM ws (l.length - 1) 1 l) := by
        rw [← hf, show l.length - k = l.length - (k + 1) + 1 from by omega]; show _ = backM ws _ (k + 1) _; rw [ht]; rfl
      have hst1 := hq1.int_set (i := k) (by omega) (o.getD t 0) rfl
      have hst2 := hst1.int_set (i := t) (by simp; omega) (o.getD k 0) rfl
      have hsw : Hid (swapM o k t = (o.set k (o.getD t 0)).set t (o.getD k 0)) := Lib.hid rfl
      have hq2' := hq2.only ((Only.refl bs1 wr).setCell (p := ⟨b1, o1 + k, none⟩) (.inl hm1) (.int .i64 (o.getD t 0)) |>.setCell (p := ⟨b1, o1 + t, none⟩) (.inl hm1) (.int .i64 (o.getD k 0))) hd12
      have hq3' := hq3.setCell (p := ⟨b1, o1 + k, none⟩) (.inr (hb1 _ hm1)) (.int .i64 (o.getD t 0)) |>.setCell (p := ⟨b1, o1 + t, none⟩) (.inr (hb1 _ hm1)) (.int .i64 (o.getD k 0))
      clear hz1 ht hst1 hf
      generalize o.getD t 0 = y1 at *
      generalize o.getD k 0 = y2 at *
      have hne : ¬ b1 = b2 := fun e => hd12 b2 hm2 (e ▸ hm1)
      have hne' : ¬ b2 = b1 := fun e => hne e.symm
      go_wp2
      refine ⟨⟨k + 1, (o.set k y1).set t y2, by omega, by go_num, by simpa using hol, ?_, hst2, hq2', hq3'⟩, by simp [intOf]; omega⟩
      rw [← hsw.out]
      exact hf2.out
    · go_wp2
      go_ret
      refine ⟨.slice a1 l.length c1, bs1, rfl, ?_, hb1, hn1, hq3⟩
      rw [← hf, show l.length - k = 0 from by omega]
      exact hq1
theorem spec_back_no (v : Value) (l : List Int) (bs : List Nat) (seed : Int) (w : World) (h : Sl w v l bs) (hn : 20 < l.length ∨ seedB seed = false) :
    Calls Try.prog 24 #[v, .int .i64 seed] w fun e w' => e = .returned (.slice none 0 0) ∧ w = w' := by
  go_enter Try.func24, Try.ntmps24
  go_wp2_with (go_at_call 40; refine (l16Ok_no _ l bs seed _ h hn).mono ?_; rintro e w' ⟨rfl, rfl⟩)
  go_ret
  exact ⟨rfl, rfl⟩
end Go.Proofs.Ytekeefdlnfnccaa
