/- The dice's laws, walked: the greater ones. -/
import Derived.Test.YtekeefdlnfnccaaDW2
set_option linter.unusedVariables false
namespace Go.Proofs.Ytekeefdlnfnccaa
open Go.ChangeShapes Go.WideShapes Go.ChangeAt Go.RowKit

theorem lawRoll (v : Value) (l : List UInt8) (w : World) (h : RawSl w v l) : Calls Try.prog 8 #[v] w (BoolRet true w) := by
  obtain ⟨a, c, rfl, h1, h2⟩ := h.form
  by_cases hl : 1048576 < l.length
  · have hd : decide (1048576 < (l.length : Int)) = true := by simp; omega
    go_enter Try.func8, Try.ntmps8
    go_wp2
    go_ret
    exact ⟨rfl, Only.refl _ _⟩
  have hd : decide (1048576 < (l.length : Int)) = false := by simp; omega
  go_enter Try.func8, Try.ntmps8
  go_wp2_with fail
  refine (drawRoll_any _ l _ h (by omega)).mono ?_
  rintro e w1 ⟨x, y, rfl, o⟩
  cases hx : rollB x y
  · have HA := Lib.hid hx
    clear hx
    go_wp2_with (first | (go_at_call 15; refine (specDiceRoll_no _ _ _ HA.out).mono ?_; rintro e w' ⟨rfl, rfl⟩) | (go_at_call 16; refine (diceRoll_no _ _ _ HA.out).mono ?_; rintro e w' ⟨rfl, rfl⟩))
    go_ret
    exact ⟨rfl, o⟩
  · have HA := Lib.hid (rollB_yes hx)
    have hb := inB_iff.1 HA.out.2
    have hr := rollM_bd x y (by omega)
    have d1 : decide (rollM x y < 0) = false := by simp; omega
    have d2 : decide (rollM x y < y) = true := by simp; omega
    clear hx hb
    go_wp2_with (first | (go_at_call 15; refine (specDiceRoll_yes _ _ _ HA.out.1 HA.out.2).mono ?_; rintro e w' ⟨rfl, rfl⟩) | (go_at_call 16; refine (diceRoll_yes _ _ _ HA.out.1 HA.out.2).mono ?_; rintro e w' ⟨rfl, rfl⟩) | (go_at_call 14; refine (diceNext_yes _ _ HA.out.1).mono ?_; rintro e w' ⟨rfl, rfl⟩))
    go_ret
    exact ⟨rfl, o⟩

theorem xorI_assoc (a b c : Int) : xorI (xorI a b) c = xorI a (xorI b c) := by unfold xorI; simp [Nat.xor_assoc]
theorem xorI_comm (a b : Int) : xorI a b = xorI b a := by unfold xorI; rw [Nat.xor_comm]
theorem xorI_zero (a : Int) (h : 0 ≤ a) : xorI a 0 = a := by unfold xorI; simp [Int.toNat_of_nonneg h]
theorem xorI_self (a : Int) : xorI a a = 0 := by unfold xorI; simp
theorem xorI_nn (a b : Int) : 0 ≤ xorI a b := by unfold xorI; omega
theorem xorI_zero' (a b : Int) : xorI (xorI 0 a) b = xorI a b := by
  have e : (xorI 0 a).toNat = a.toNat := by unfold xorI; simp; omega
  unfold xorI at e ⊢; rw [e]
theorem mixF_foldl (l : List Int) : ∀ o : Int, 0 ≤ o → l.foldl xorI o = xorI o (mixF l) := by
  unfold mixF
  induction l with
  | nil => intro o ho; exact (xorI_zero o ho).symm
  | cons x l ih =>
    intro o ho
    rw [List.foldl_cons, ih _ (xorI_nn _ _), List.foldl_cons, ih _ (xorI_nn _ _), xorI_assoc, xorI_zero']
theorem mixF_app (a b : List Int) : mixF (a ++ b) = xorI (mixF a) (mixF b) := by
  have nn : ∀ (l : List Int) (o : Int), 0 ≤ o → 0 ≤ l.foldl xorI o := by
    intro l
    induction l with
    | nil => exact fun o h => h
    | cons x l ih => intro o ho; exact ih _ (xorI_nn _ _)
  have e : mixF (a ++ b) = b.foldl xorI (mixF a) := by unfold mixF; rw [List.foldl_append]
  rw [e]
  exact mixF_foldl b _ (nn a 0 (by omega))
theorem mixF_rev (l : List Int) : mixF l.reverse = mixF l := by
  induction l with
  | nil => rfl
  | cons x l ih =>
    rw [List.reverse_cons, mixF_app, ih, xorI_comm, show x :: l = [x] ++ l from rfl, mixF_app]
theorem mixM_rev (l : List Int) : mixM l.reverse = mixM l := by
  have h1 : l.reverse.all seedB = l.all seedB := by simp
  unfold mixM
  rw [h1, mixF_rev]
theorem mixM_pair (l : List Int) (h : l.all seedB = true) : mixM (l.reverse ++ l) = 0 := by
  have h1 : (l.reverse ++ l).all seedB = true := by simp [h]
  unfold mixM
  rw [if_pos h1, mixF_app, mixF_rev, xorI_self]
theorem mixM_self (l : List Int) (h : l.all seedB = true) : mixM [mixM l] = mixM l := by
  have hb : 0 ≤ mixF l ∧ mixF l ≤ 2147483647 := mixF_bd l 0 (by omega) (List.all_eq_true.1 h)
  have e : mixM l = mixF l := by unfold mixM; rw [if_pos h]
  have hs : seedB (mixF l) = true := seedB_iff.2 hb
  rw [e]
  unfold mixM
  rw [if_pos (by simp [hs])]
  show xorI 0 (mixF l) = mixF l
  rw [xorI_comm]
  exact xorI_zero _ hb.1
theorem rev_drop (l : List Int) (k : Nat) (h : k < l.length) : (l.drop (k + 1)).reverse ++ [l.getD k 0] = (l.drop k).reverse := by
  rw [List.drop_eq_getElem_cons h, List.reverse_cons]
  congr 2
  simp [List.getD, List.getElem?_eq_getElem h]
set_option maxHeartbeats 1000000 in
theorem lawMix (v : Value) (l : List UInt8) (w : World) (h : RawSl w v l) : Calls Try.prog 7 #[v] w (BoolRet true w) := by
  obtain ⟨a, c, rfl, h1, h2⟩ := h.form
  by_cases hl : 1048576 < l.length
  · have hd : decide (1048576 < (l.length : Int)) = true := by simp; omega
    go_enter Try.func7, Try.ntmps7
    go_wp2
    go_ret
    exact ⟨rfl, Only.refl _ _⟩
  have hd : decide (1048576 < (l.length : Int)) = false := by simp; omega
  go_enter Try.func7, Try.ntmps7
  go_wp2_with fail
  refine (drawMix_any _ l _ h (by omega)).mono ?_
  rintro e w1 ⟨z, hz, v1, bs, rfl, s1, hb1, _, o1⟩
  obtain ⟨a1, c1, rfl, h3, h4⟩ := s1.form
  go_wp2_with fail
  refine (mix_any _ z bs _ s1).mono ?_
  rintro e w' ⟨rfl, rfl⟩
  go_wp2_with fail
  refine (spec_mix_any _ z bs _ s1).mono ?_
  rintro e w' ⟨rfl, rfl⟩
  cases hall : z.all seedB
  · have e : mixM z = -1 := by unfold mixM; rw [hall]; rfl
    go_wp2_with (first | (go_at_call 17; refine (spec_mix_any _ z bs _ s1).mono ?_; rintro e w' ⟨rfl, rfl⟩))
    go_ret
    exact ⟨rfl, o1⟩
  · have HA := Lib.hid hall
    have hb := mixF_bd z 0 (by omega) (List.all_eq_true.1 hall)
    have hb2 : 0 ≤ mixM z ∧ mixM z ≤ 2147483647 := by unfold mixM; rw [if_pos hall]; exact hb
    have HM := Lib.hid (mixM_pair z hall)
    have HS := Lib.hid (mixM_self z hall)
    have HR := Lib.hid (mixM_rev z)
    clear hall hb
    generalize hm : mixM z = m at *
    clear hm
    have d1 : decide (m < 0) = false := by simp; omega
    have d2 : decide (m ≤ 2147483647) = true := by simp; omega
    have hsl := Sl.nil_ (α := Int) (w := w1.alloc (.cells #[] 3)) (some ⟨w1.heap.size, 0, none⟩)
    have o2 := (Only.refl [] w1).alloc (.cells #[] 3)
    have hold := s1.old
    go_wp2_with fail
    go_loopw [5, 6] (fun t i wr => ∃ (k : Nat) (bt : List Nat), k ≤ z.length ∧ i = .int .i64 ((k : Int) - 1) ∧ Sl wr t (z.drop k).reverse bt ∧ (∀ q ∈ bt, w1.heap.size ≤ q) ∧ Only [] w1 wr) (fun _ i _ => (intOf i + 1).toNat)
    case atStart => exact ⟨z.length, [], Nat.le_refl _, rfl, by simpa using hsl, by simp, o2⟩
    case round =>
      obtain ⟨k, bt, hk, rfl, st, hbt, o3⟩ := hrel
      clear hsl o2
      have s3 := s1.only0 o3
      by_cases hlt : 0 < k
      · obtain ⟨j, rfl⟩ : ∃ j, k = j + 1 := ⟨k - 1, by omega⟩
        obtain ⟨b, q, rfl, _⟩ := s3.addr (by omega)
        have hc := (s3.int_cell (i := j) (by omega)).1
        have hrd := Lib.hid (rev_drop z j (by omega))
        generalize z.getD j 0 = y at *
        have hsz : (z.drop (j + 1)).reverse.length + 1 ≤ 274877906944 := by simp; omega
        have hw1 := o3.size
        go_wp2_with (at_builtin; refine wpList_append_one rfl (.tmp 34) (.tmp 39) rfl tyInts rfl st y rfl hsz ?_; intro v' w4 bs' hs4 ho4 hb4)
        rw [hrd.out] at hs4
        have o4 : Only [] w1 w4 := o3.trans_new ho4 (fun q hq => hbt q (List.mem_of_mem_take hq))
        go_wp2
        refine ⟨⟨j, bs', by omega, rfl, hs4, fun q hq => ?_, o4⟩, by simp [intOf]⟩
        rcases hb4 q hq with h | h
        · exact hbt q h
        · omega
      · have hk0 : k = 0 := by omega
        subst hk0
        rw [List.drop_zero] at st
        obtain ⟨a2, c2, rfl, h5, h6⟩ := st.form
        obtain ⟨a3, c3, news, e3, hread, hR⟩ := s3.source_flat
        simp only [Value.slice.injEq] at e3
        obtain ⟨rfl, -, rfl⟩ := e3
        have st2 := st
        have hw1 := o3.size
        rw [List.length_reverse] at *
        go_wp2_with fail
        refine (mix_any _ z.reverse bt _ (by simpa using st)).mono ?_
        rintro e w' ⟨rfl, rfl⟩
        rw [HR.out]
        go_wp2_with (at_builtin; refine wpList_append_sl_g (α := Int) (l := z.reverse) (l' := z) (bn := []) rfl (.tmp 50) (.tmp 51) rfl tyInts rfl st2 a1 z.length c1 rfl news rfl hread (hR _) (by simpa using st2.flat_bs) (by simp; omega) ?_; intro v4 w4 bs4 s4 o4 hb4 hn4)
        have o5 : Only [] w1 w4 := o3.trans_new o4 (fun q hq => hbt q (List.mem_of_mem_take hq))
        refine (mix_any _ _ bs4 _ s4).mono ?_
        rintro e w' ⟨rfl, rfl⟩
        rw [HM.out]
        have s6 := sl_lit1 w4 m
        have o6 := o5.alloc (.cells #[.int .i64 m] 3)
        go_wp2_with fail
        refine (mix_any _ _ _ _ s6).mono ?_
        rintro e w' ⟨rfl, rfl⟩
        rw [HS.out]
        go_wp2
        go_ret
        exact ⟨rfl, o1.trans o6⟩

set_option maxHeartbeats 1000000 in
theorem exactShuffle (v : Value) (l : List Int) (seed : Int) (w : World) (h : RawSl w v l) : Calls Try.prog 10 #[v, .int .i64 seed] w (BoolRet true w) := by
  obtain ⟨a, c, rfl, h1, h2⟩ := h.form
  by_cases hl : 1048576 < l.length
  · have hd : decide (1048576 < (l.length : Int)) = true := by simp; omega
    go_enter Try.func10, Try.ntmps10
    go_wp2
    go_ret
    exact ⟨rfl, Only.refl _ _⟩
  have hd : decide (1048576 < (l.length : Int)) = false := by simp; omega
  have hrl : (shR l seed).length ≤ 1048576 := by rcases shR_len l seed with h | h <;> rw [h] <;> first | omega | simp
  go_enter Try.func10, Try.ntmps10
  go_wp2_with fail
  refine (toIntS_any _ l _ h (by omega)).mono ?_
  rintro e w1 ⟨v1, b1, rfl, s1, _, _, o1⟩
  go_wp2_with fail
  refine (spec_shuffle_any v1 l b1 seed _ s1).mono ?_
  rintro e w2 ⟨v2, b2, rfl, s2, hb2, _, o2⟩
  have hA := (h.only o1).only o2
  have oA := o1.trans o2
  clear s1 o1 o2
  go_wp2_with fail
  refine (toIntS_any _ l _ hA (by omega)).mono ?_
  rintro e w3 ⟨v3, b3, rfl, s3, hb3, n3, o3⟩
  have s2a := s2.only0 o3
  have hdis : ∀ q ∈ b2, q ∉ b3 := fun q hq hq' => by have := s2.old q hq; have := hb3 q hq'; omega
  go_wp2_with fail
  refine (shuffle_any v3 l b3 seed _ s3).mono ?_
  rintro e w4 ⟨v4, b4, rfl, s4, hb4, n4, o4⟩
  have s2b := s2a.only0 o4
  have s3b := s3.only0 o4
  have hd34 : ∀ q ∈ b4, q ∉ b3 := fun q hq hq' => by have := s3.old q hq'; have := hb4 q hq; omega
  have hd24 : ∀ q ∈ b4, q ∉ b2 := fun q hq hq' => by have := s2a.old q hq'; have := hb4 q hq; omega
  have hA4 := (hA.only o3).only o4
  have oA4 := (oA.trans o3).trans o4
  have hz3 : ∀ q ∈ b3, w.heap.size ≤ q := fun q hq => by have := hb3 q hq; have := oA.size; omega
  have hz4 : ∀ q ∈ b4, w.heap.size ≤ q := fun q hq => by have := hb4 q hq; have := (oA.trans o3).size; omega
  clear s2 s2a s3 o3 o4 hA oA
  obtain ⟨r, hr⟩ : ∃ r, shR l seed = r := ⟨_, rfl⟩
  rw [hr] at hrl s4 s2b
  have HR := Lib.hid hr
  clear hr
  go_wp2_with fail
  refine (eqIntS_yes v4 v2 r b4 b2 _ s4 s2b).mono ?_
  rintro e w5 ⟨rfl, o5⟩
  go_wp2_with fail
  refine (toIntS_any _ l _ (hA4.only o5) (by omega)).mono ?_
  rintro e w6 ⟨v6, b6, rfl, s6, _, _, o6⟩
  have o56 := o5.trans o6
  go_wp2_with fail
  refine (eqIntS_yes v3 v6 l b3 b6 _ (s3b.only0 o56) s6).mono ?_
  rintro e w7 ⟨rfl, o7⟩
  have o47 := o56.trans o7
  have s4c := s4.only0 o47
  have s2c := s2b.only0 o47
  have s3c := s3b.only0 o47
  have hA7 := hA4.only o47
  have oA7 := oA4.trans o47
  clear s4 s2b s3b o47 o56 o5 o6 o7 s6 hA4 oA4
  go_wp2_with fail
  refine (markIntS_any v3 l b3 1 _ s3c (by omega)).mono ?_
  rintro e w8 ⟨rfl, s8, o8⟩
  have s4d := s4c.only o8 hd34
  have s2d := s2c.only o8 hdis
  have oA8 := oA7.trans_new o8 hz3
  have hA8 : RawSl w8 (.slice a l.length c) l := h.only oA8
  have d1 : decide (1 + (l.length : Int) < 0) = false := by simp; omega
  clear s4c s2c s3c s8 o8 oA7 hA7
  go_wp2_with fail
  refine (eqIntS_yes v4 v2 r b4 b2 _ s4d s2d).mono ?_
  rintro e w9 ⟨rfl, o9⟩
  have s4e := s4d.only0 o9
  have s2e := s2d.only0 o9
  have oA9 := oA8.trans o9
  clear s4d s2d o9 oA8
  go_wp2_with fail
  refine (markIntS_any v4 r b4 1 _ s4e (by omega)).mono ?_
  rintro e w10 ⟨rfl, s10, o10⟩
  have s2f := s2e.only o10 (fun q hq hq' => hd24 q hq' hq)
  have oA10 := oA9.trans_new o10 hz4
  have hA10 : RawSl w10 (.slice a l.length c) l := h.only oA10
  clear s4e s2e o10 oA9
  go_wp2_with fail
  refine (heldIntS_any v4 r.length b4 1 _ s10 (by omega)).mono ?_
  rintro e w' ⟨rfl, rfl⟩
  have d2 : decide (1 + (r.length : Int) < 0) = false := by simp; omega
  go_wp2_with fail
  refine (toIntS_any _ l _ hA10 (by omega)).mono ?_
  rintro e w11 ⟨v11, b11, rfl, s11, _, _, o11⟩
  go_wp2_with fail
  refine (shuffle_any v11 l b11 seed _ s11).mono ?_
  rintro e w12 ⟨v12, b12, rfl, s12, _, _, o12⟩
  rw [HR.out] at s12
  have s10b := (s10.only0 o11).only0 o12
  have s2g := (s2f.only0 o11).only0 o12
  have oA12 := (oA10.trans o11).trans o12
  clear s10 s2f hA10 oA10 o11 o12
  go_wp2_with fail
  refine (eqIntS_yes v12 v2 r b12 b2 _ s12 s2g).mono ?_
  rintro e w13 ⟨rfl, o13⟩
  have s10c := s10b.only0 o13
  have oA13 := oA12.trans o13
  clear s10b s2g s12 o13 oA12
  go_wp2_with fail
  refine (heldIntS_any v4 r.length b4 1 _ s10c (by omega)).mono ?_
  rintro e w' ⟨rfl, rfl⟩
  go_wp2
  go_ret
  exact ⟨rfl, oA13⟩
set_option maxHeartbeats 1000000 in
theorem exactBack (v : Value) (l : List Int) (seed : Int) (w : World) (h : RawSl w v l) : Calls Try.prog 9 #[v, .int .i64 seed] w (BoolRet true w) := by
  obtain ⟨a, c, rfl, h1, h2⟩ := h.form
  by_cases hl : 1048576 < l.length
  · have hd : decide (1048576 < (l.length : Int)) = true := by simp; omega
    go_enter Try.func9, Try.ntmps9
    go_wp2
    go_ret
    exact ⟨rfl, Only.refl _ _⟩
  have hd : decide (1048576 < (l.length : Int)) = false := by simp; omega
  have hrl : (bkR l seed).length ≤ 1048576 := by rcases bkR_len l seed with h | h <;> rw [h] <;> first | omega | simp
  go_enter Try.func9, Try.ntmps9
  go_wp2_with fail
  refine (toIntS_any _ l _ h (by omega)).mono ?_
  rintro e w1 ⟨v1, b1, rfl, s1, _, _, o1⟩
  go_wp2_with fail
  refine (spec_back_any v1 l b1 seed _ s1).mono ?_
  rintro e w2 ⟨v2, b2, rfl, s2, hb2, _, o2⟩
  have hA := (h.only o1).only o2
  have oA := o1.trans o2
  clear s1 o1 o2
  go_wp2_with fail
  refine (toIntS_any _ l _ hA (by omega)).mono ?_
  rintro e w3 ⟨v3, b3, rfl, s3, hb3, n3, o3⟩
  have s2a := s2.only0 o3
  have hdis : ∀ q ∈ b2, q ∉ b3 := fun q hq hq' => by have := s2.old q hq; have := hb3 q hq'; omega
  go_wp2_with fail
  refine (back_any v3 l b3 seed _ s3).mono ?_
  rintro e w4 ⟨v4, b4, rfl, s4, hb4, n4, o4⟩
  have s2b := s2a.only0 o4
  have s3b := s3.only0 o4
  have hd34 : ∀ q ∈ b4, q ∉ b3 := fun q hq hq' => by have := s3.old q hq'; have := hb4 q hq; omega
  have hd24 : ∀ q ∈ b4, q ∉ b2 := fun q hq hq' => by have := s2a.old q hq'; have := hb4 q hq; omega
  have hA4 := (hA.only o3).only o4
  have oA4 := (oA.trans o3).trans o4
  have hz3 : ∀ q ∈ b3, w.heap.size ≤ q := fun q hq => by have := hb3 q hq; have := oA.size; omega
  have hz4 : ∀ q ∈ b4, w.heap.size ≤ q := fun q hq => by have := hb4 q hq; have := (oA.trans o3).size; omega
  clear s2 s2a s3 o3 o4 hA oA
  obtain ⟨r, hr⟩ : ∃ r, bkR l seed = r := ⟨_, rfl⟩
  rw [hr] at hrl s4 s2b
  have HR := Lib.hid hr
  clear hr
  go_wp2_with fail
  refine (eqIntS_yes v4 v2 r b4 b2 _ s4 s2b).mono ?_
  rintro e w5 ⟨rfl, o5⟩
  go_wp2_with fail
  refine (toIntS_any _ l _ (hA4.only o5) (by omega)).mono ?_
  rintro e w6 ⟨v6, b6, rfl, s6, _, _, o6⟩
  have o56 := o5.trans o6
  go_wp2_with fail
  refine (eqIntS_yes v3 v6 l b3 b6 _ (s3b.only0 o56) s6).mono ?_
  rintro e w7 ⟨rfl, o7⟩
  have o47 := o56.trans o7
  have s4c := s4.only0 o47
  have s2c := s2b.only0 o47
  have s3c := s3b.only0 o47
  have hA7 := hA4.only o47
  have oA7 := oA4.trans o47
  clear s4 s2b s3b o47 o56 o5 o6 o7 s6 hA4 oA4
  go_wp2_with fail
  refine (markIntS_any v3 l b3 1 _ s3c (by omega)).mono ?_
  rintro e w8 ⟨rfl, s8, o8⟩
  have s4d := s4c.only o8 hd34
  have s2d := s2c.only o8 hdis
  have oA8 := oA7.trans_new o8 hz3
  have hA8 : RawSl w8 (.slice a l.length c) l := h.only oA8
  have d1 : decide (1 + (l.length : Int) < 0) = false := by simp; omega
  clear s4c s2c s3c s8 o8 oA7 hA7
  go_wp2_with fail
  refine (eqIntS_yes v4 v2 r b4 b2 _ s4d s2d).mono ?_
  rintro e w9 ⟨rfl, o9⟩
  have s4e := s4d.only0 o9
  have s2e := s2d.only0 o9
  have oA9 := oA8.trans o9
  clear s4d s2d o9 oA8
  go_wp2_with fail
  refine (markIntS_any v4 r b4 1 _ s4e (by omega)).mono ?_
  rintro e w10 ⟨rfl, s10, o10⟩
  have s2f := s2e.only o10 (fun q hq hq' => hd24 q hq' hq)
  have oA10 := oA9.trans_new o10 hz4
  have hA10 : RawSl w10 (.slice a l.length c) l := h.only oA10
  clear s4e s2e o10 oA9
  go_wp2_with fail
  refine (heldIntS_any v4 r.length b4 1 _ s10 (by omega)).mono ?_
  rintro e w' ⟨rfl, rfl⟩
  have d2 : decide (1 + (r.length : Int) < 0) = false := by simp; omega
  go_wp2_with fail
  refine (toIntS_any _ l _ hA10 (by omega)).mono ?_
  rintro e w11 ⟨v11, b11, rfl, s11, _, _, o11⟩
  go_wp2_with fail
  refine (back_any v11 l b11 seed _ s11).mono ?_
  rintro e w12 ⟨v12, b12, rfl, s12, _, _, o12⟩
  rw [HR.out] at s12
  have s10b := (s10.only0 o11).only0 o12
  have s2g := (s2f.only0 o11).only0 o12
  have oA12 := (oA10.trans o11).trans o12
  clear s10 s2f hA10 oA10 o11 o12
  go_wp2_with fail
  refine (eqIntS_yes v12 v2 r b12 b2 _ s12 s2g).mono ?_
  rintro e w13 ⟨rfl, o13⟩
  have s10c := s10b.only0 o13
  have oA13 := oA12.trans o13
  clear s10b s2g s12 o13 oA12
  go_wp2_with fail
  refine (heldIntS_any v4 r.length b4 1 _ s10c (by omega)).mono ?_
  rintro e w' ⟨rfl, rfl⟩
  go_wp2
  go_ret
  exact ⟨rfl, oA13⟩

end Go.Proofs.Ytekeefdlnfnccaa
