/- Contracts: shuffled, and back. -/
import Derived.Test.YtekeefdlnfnccaaD4
import Derived.BigRegion
set_option linter.unusedVariables false
namespace Go.Proofs.Ytekeefdlnfnccaa
open Go.ChangeShapes Go.WideShapes Go.ChangeAt Go.RowKit

def swapM (l : List Int) (i j : Nat) : List Int := (l.set i (l.getD j 0)).set j (l.getD i 0)
/-- places k-1 down to 1 change places -/
def shufM (ws : List Int) : Nat → List Int → List Int
  | 0, l => l
  | 1, l => l
  | k + 2, l => shufM ws (k + 1) (swapM l (k + 1) (ws.getD (k + 1) 0).toNat)
theorem shufM_le1 (ws : List Int) : ∀ (k : Nat) (l : List Int), k ≤ 1 → shufM ws k l = l
  | 0, _, _ => rfl
  | 1, _, _ => rfl
  | k + 2, _, h => by omega

/-- places from k on, n of them, change places -/
def backM (ws : List Int) : Nat → Nat → List Int → List Int
  | 0, _, l => l
  | n + 1, k, l => backM ws n (k + 1) (swapM l k (ws.getD k 0).toNat)

set_option maxHeartbeats 1000000 in
theorem shuffle_yes (v : Value) (l : List Int) (bs : List Nat) (seed : Int) (w : World) (h : Sl w v l bs) (hn : l.length ≤ 20) (hs : seedB seed = true) :
    Calls Try.prog 29 #[v, .int .i64 seed] w (FreshRet (shufM (swapsM l.length seed) l.length l) w) := by
  obtain ⟨a, c, rfl, h1, h2⟩ := h.form
  have hd : decide (20 < (l.length : Int)) = false := by simp; omega
  go_enter Try.func29, Try.ntmps29
  go_wp2_with (go_at_call 34; refine (isSeed_any _ _).mono ?_; rintro e w' ⟨rfl, rfl⟩)
  refine (cloneInt_any _ l bs _ h (by omega)).mono ?_
  rintro e w1 ⟨v1, bs1, rfl, hs1, hb1, hn1, ho1⟩
  obtain ⟨a1, c1, rfl, h3, h4⟩ := hs1.form
  go_wp2_with fail
  refine (swaps_any l.length hn seed hs _).mono ?_
  rintro e w2 ⟨v2, bs2, rfl, hs2, hb2, hn2, ho2⟩
  have hwl := swapsM_len l.length seed
  have hlow := swapsM_low l.length seed
  generalize swapsM l.length seed = ws at *
  obtain ⟨a2, c2, rfl, h5, h6⟩ := hs2.form
  have hs1' := hs1.only0 ho2
  have hd12 : ∀ q ∈ bs2, q ∉ bs1 := fun q hq hq' => by have := hs1.old q hq'; have := hb2 q hq; omega
  have ho : Only [] w w2 := ho1.trans0 ho2
  clear hs1 ho1 ho2 h3 h5
  go_wp2_with fail
  go_loopw [7] (fun i wr => ∃ (k : Nat) (o : List Int), k ≤ l.length ∧ i = .int .i64 ((k : Int) - 1) ∧ o.length = l.length ∧ shufM ws k o = shufM ws l.length l ∧
      Sl wr (.slice a1 l.length c1) o bs1 ∧ Sl wr (.slice a2 ws.length c2) ws bs2 ∧ Only [] w wr) (fun i _ => (intOf i + 1).toNat)
  case atStart => exact ⟨l.length, l, Nat.le_refl _, rfl, rfl, rfl, hs1', hs2, ho⟩
  case round =>
    obtain ⟨k, o, hk, rfl, hol, hf, hq1, hq2, hq3⟩ := hrel
    clear hs1' hs2 ho
    by_cases hk1 : 1 < k
    · obtain ⟨j, rfl⟩ : ∃ j, k = j + 2 := ⟨k - 2, by omega⟩
      obtain ⟨b1, o1, rfl, hm1⟩ := hq1.addr (by omega)
      obtain ⟨b2, o2, rfl, hm2⟩ := hq2.addr (by omega)
      obtain ⟨hc1, _, _, hz1⟩ := hq1.int_cell (i := j + 1) (by omega)
      obtain ⟨hc2, _, _, _⟩ := hq2.int_cell (i := j + 1) (by omega)
      have hl := hlow (j + 1) (ws.getD (j + 1) 0) (by rw [List.getD, List.getElem?_eq_getElem (by omega)]; rfl)
      obtain ⟨t, ht⟩ : ∃ t : Nat, ws.getD (j + 1) 0 = (t : Int) := ⟨(ws.getD (j + 1) 0).toNat, by omega⟩
      rw [ht] at hl hc2
      obtain ⟨hc3, _, _, _⟩ := hq1.int_cell (i := t) (by omega)
      have hz1' := hz1 (o1 + t)
      have hz1'' := hz1 (o1 + (j + 1))
      obtain ⟨x', hx'⟩ := cell?_setCell_some (w := wr) (p := ⟨b1, o1 + (j + 1), none⟩) (x := .int .i64 (o.getD t 0)) (q := ⟨b1, o1 + t, none⟩) (v := .int .i64 (o.getD t 0)) hc3
      have hj1 : t < j + 2 := by omega
      have hf2 : Hid (shufM ws (j + 1) (swapM o (j + 1) t) = shufM ws l.length l) := by
        rw [← hf]; show _ = shufM ws (j + 1) _; rw [ht]; rfl
      have hst1 := hq1.int_set (i := j + 1) (by omega) (o.getD t 0) rfl
      have hst2 := hst1.int_set (i := t) (by simp; omega) (o.getD (j + 1) 0) rfl
      clear hz1 ht hst1 hf
      have hsw : Hid (swapM o (j + 1) t = (o.set (j + 1) (o.getD t 0)).set t (o.getD (j + 1) 0)) := Lib.hid rfl
      have hq2' := hq2.only ((Only.refl bs1 wr).setCell (p := ⟨b1, o1 + (j + 1), none⟩) (.inl hm1) (.int .i64 (o.getD t 0)) |>.setCell (p := ⟨b1, o1 + t, none⟩) (.inl hm1) (.int .i64 (o.getD (j + 1) 0))) hd12
      have hq3' := hq3.setCell (p := ⟨b1, o1 + (j + 1), none⟩) (.inr (hb1 _ hm1)) (.int .i64 (o.getD t 0)) |>.setCell (p := ⟨b1, o1 + t, none⟩) (.inr (hb1 _ hm1)) (.int .i64 (o.getD (j + 1) 0))
      generalize o.getD t 0 = y1 at *
      generalize o.getD (j + 1) 0 = y2 at *
      go_wp2_with fail
      go_region
      clear hx' hc1 hc2 hc3 hz1' hz1''
      go_wp2
      refine ⟨⟨j + 1, (o.set (j + 1) y1).set t y2, by omega, by go_num, by simpa using hol, ?_, hst2.drew, hq2'.drew, hq3'.drew⟩, by simp [intOf]; omega⟩
      rw [← hsw.out]
      exact hf2.out
    · go_wp2
      go_ret
      refine ⟨.slice a1 l.length c1, bs1, rfl, ?_, hb1, hn1, hq3⟩
      rw [← hf, shufM_le1 ws k o (by omega)]
      exact hq1
theorem shuffle_no (v : Value) (l : List Int) (bs : List Nat) (seed : Int) (w : World) (h : Sl w v l bs) (hn : 20 < l.length ∨ seedB seed = false) :
    Calls Try.prog 29 #[v, .int .i64 seed] w fun e w' => e = .returned (.slice none 0 0) ∧ w = w' := by
  obtain ⟨a, c, rfl, h1, h2⟩ := h.form
  by_cases hl : 20 < l.length
  · have hd : decide (20 < (l.length : Int)) = true := by simp; omega
    go_enter Try.func29, Try.ntmps29
    go_wp2_with (go_at_call 34; refine (isSeed_any _ _).mono ?_; rintro e w' ⟨rfl, rfl⟩)
    go_ret
    exact ⟨rfl, rfl⟩
  · have hd : decide (20 < (l.length : Int)) = false := by simp; omega
    have hs := hn.resolve_left hl
    go_enter Try.func29, Try.ntmps29
    go_wp2_with (go_at_call 34; refine (isSeed_any _ _).mono ?_; rintro e w' ⟨rfl, rfl⟩)
    go_ret
    exact ⟨rfl, rfl⟩
set_option maxHeartbeats 1000000 in
theorem back_yes (v : Value) (l : List Int) (bs : List Nat) (seed : Int) (w : World) (h : Sl w v l bs) (hn : l.length ≤ 20) (hs : seedB seed = true) :
    Calls Try.prog 25 #[v, .int .i64 seed] w (FreshRet (backM (swapsM l.length seed) (l.length - 1) 1 l) w) := by
  obtain ⟨a, c, rfl, h1, h2⟩ := h.form
  have hd : decide (20 < (l.length : Int)) = false := by simp; omega
  go_enter Try.func25, Try.ntmps25
  go_wp2_with (go_at_call 34; refine (isSeed_any _ _).mono ?_; rintro e w' ⟨rfl, rfl⟩)
  refine (cloneInt_any _ l bs _ h (by omega)).mono ?_
  rintro e w1 ⟨v1, bs1, rfl, hs1, hb1, hn1, ho1⟩
  obtain ⟨a1, c1, rfl, h3, h4⟩ := hs1.form
  go_wp2_with fail
  refine (swaps_any l.length hn seed hs _).mono ?_
  rintro e w2 ⟨v2, bs2, rfl, hs2, hb2, hn2, ho2⟩
  have hwl := swapsM_len l.length seed
  have hlow := swapsM_low l.length seed
  generalize swapsM l.length seed = ws at *
  obtain ⟨a2, c2, rfl, h5, h6⟩ := hs2.form
  have hs1' := hs1.only0 ho2
  have hd12 : ∀ q ∈ bs2, q ∉ bs1 := fun q hq hq' => by have := hs1.old q hq'; have := hb2 q hq; omega
  have ho : Only [] w w2 := ho1.trans0 ho2
  clear hs1 ho1 ho2 h3 h5
  go_wp2_with fail
  go_loopw [7] (fun i wr => ∃ (k : Nat) (o : List Int), 1 ≤ k ∧ i = .int .i64 (k : Int) ∧ o.length = l.length ∧ backM ws (l.length - k) k o = backM ws (l.length - 1) 1 l ∧
      Sl wr (.slice a1 l.length c1) o bs1 ∧ Sl wr (.slice a2 ws.length c2) ws bs2 ∧ Only [] w wr) (fun i _ => l.length - (intOf i).toNat)
  case atStart => exact ⟨1, l, Nat.le_refl _, rfl, rfl, rfl, hs1', hs2, ho⟩
  case round =>
    obtain ⟨k, o, hk, rfl, hol, hf, hq1, hq2, hq3⟩ := hrel
    clear hs1' hs2 ho
    by_cases hk1 : k < l.length
    · obtain ⟨b1, o1, rfl, hm1⟩ := hq1.addr (by omega)
      obtain ⟨b2, o2, rfl, hm2⟩ := hq2.addr (by omega)
      obtain ⟨hc1, _, _, hz1⟩ := hq1.int_cell (i := k) (by omega)
      obtain ⟨hc2, _, _, _⟩ := hq2.int_cell (i := k) (by omega)
      have hl := hlow k (ws.getD k 0) (by rw [List.getD, List.getElem?_eq_getElem (by omega)]; rfl)
      obtain ⟨t, ht⟩ : ∃ t : Nat, ws.getD k 0 = (t : Int) := ⟨(ws.getD k 0).toNat, by omega⟩
      rw [ht] at hl hc2
      obtain ⟨hc3, _, _, _⟩ := hq1.int_cell (i := t) (by omega)
      have hz1' := hz1 (o1 + t)
      have hz1'' := hz1 (o1 + k)
      obtain ⟨x', hx'⟩ := cell?_setCell_some (w := wr) (p := ⟨b1, o1 + k, none⟩) (x := .int .i64 (o.getD t 0)) (q := ⟨b1, o1 + t, none⟩) (v := .int .i64 (o.getD t 0)) hc3
      have hj1 : t < l.length := by omega
      have hf2 : Hid (backM ws (l.length - (k + 1)) (k + 1) (swapM o k t) = backM ws (l.length - 1) 1 l) := by
        rw [← hf, show l.length - k = l.length - (k + 1) + 1 from by omega]; show _ = backM ws _ (k + 1) _; rw [ht]; rfl
      have hst1 := hq1.int_set (i := k) (by omega) (o.getD t 0) rfl
      have hst2 := hst1.int_set (i := t) (by simp; omega) (o.getD k 0) rfl
      have hsw : Hid (swapM o k t = (o.set k (o.getD t 0)).set t (o.getD k 0)) := Lib.hid rfl
      have hq2' := hq2.only ((Only.refl bs1 wr).setCell (p := ⟨b1, o1 + k, none⟩) (.inl hm1) (.int .i64 (o.getD t 0)) |>.setCell (p := ⟨b1, o1 + t, none⟩) (.inl hm1) (.int .i64 (o.getD k 0))) hd12
      have hq3' := hq3.setCell (p := ⟨b1, o1 + k, none⟩) (.inr (hb1 _ hm1)) (.int .i64 (o.getD t 0)) |>.setCell (p := ⟨b1, o1 + t, none⟩) (.inr (hb1 _ hm1)) (.int .i64 (o.getD k 0))
      clear hz1 ht hst1 hf
      generalize o.getD t 0 = y1 at *
      generalize o.getD k 0 = y2 at *
      go_wp2_with fail
      go_region
      clear hx' hc1 hc2 hc3 hz1' hz1''
      go_wp2
      refine ⟨⟨k + 1, (o.set k y1).set t y2, by omega, by go_num, by simpa using hol, ?_, hst2.drew, hq2'.drew, hq3'.drew⟩, by simp [intOf]; omega⟩
      rw [← hsw.out]
      exact hf2.out
    · go_wp2
      go_ret
      refine ⟨.slice a1 l.length c1, bs1, rfl, ?_, hb1, hn1, hq3⟩
      rw [← hf, show l.length - k = 0 from by omega]
      exact hq1
theorem back_no (v : Value) (l : List Int) (bs : List Nat) (seed : Int) (w : World) (h : Sl w v l bs) (hn : 20 < l.length ∨ seedB seed = false) :
    Calls Try.prog 25 #[v, .int .i64 seed] w fun e w' => e = .returned (.slice none 0 0) ∧ w = w' := by
  obtain ⟨a, c, rfl, h1, h2⟩ := h.form
  by_cases hl : 20 < l.length
  · have hd : decide (20 < (l.length : Int)) = true := by simp; omega
    go_enter Try.func25, Try.ntmps25
    go_wp2_with (go_at_call 34; refine (isSeed_any _ _).mono ?_; rintro e w' ⟨rfl, rfl⟩)
    go_ret
    exact ⟨rfl, rfl⟩
  · have hd : decide (20 < (l.length : Int)) = false := by simp; omega
    have hs := hn.resolve_left hl
    go_enter Try.func25, Try.ntmps25
    go_wp2_with (go_at_call 34; refine (isSeed_any _ _).mono ?_; rintro e w' ⟨rfl, rfl⟩)
    go_ret
    exact ⟨rfl, rfl⟩
end Go.Proofs.Ytekeefdlnfnccaa
