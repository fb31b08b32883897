/- The laws on sums that say 'as the reference': what is behind a place. -/
import Derived.Test.YtbhoocdongeomaaC9
set_option linter.unusedVariables false
namespace Go.Proofs.Ytbhoocdongeomaa
open Go.ChangeShapes Go.WideShapes Go.ChangeAt Go.RowKit


theorem exactCheckCut_big (v : Value) (l : List Check) (s : Int) (w : World) (h : RawSl w v l) (hl : 1048576 < l.length) : Calls Try.prog 8 #[v, .int .i64 s] w (BoolRet true w) := by
  go_enter Try.func8, Try.ntmps8
  go_wp2_with fail
  refine (szCheckS_no v l 1048576 _ h hl (by omega)).mono ?_
  rintro e w1 ⟨rfl, rfl⟩
  go_wp2
  go_ret
  exact ⟨rfl, Only.refl _ _⟩

set_option maxRecDepth 100000 in
set_option maxHeartbeats 8000000 in
theorem exactCheckCut_small (v : Value) (l : List Check) (hl : l.length ≤ 1048576) (s : Int) (y : List Check) (hyl : y.length ≤ 1048577) (H1 : Hid (∀ v bs w, Sl w v l bs → Calls Try.prog 31 #[v, .int .i64 s] w (FreshRet y w))) (H2 : Hid (∀ v bs w, Sl w v l bs → Calls Try.prog 32 #[v, .int .i64 s] w (FreshRet y w))) (w : World) (h : RawSl w v l) : Calls Try.prog 8 #[v, .int .i64 s] w (BoolRet true w) := by
  have hdl : decide ((1048576 : Int) - l.length < 0) = false := by simp; omega
  go_enter Try.func8, Try.ntmps8
  go_wp2_with fail
  refine (szCheckS_ok v l 1048576 _ h hl (by omega)).mono ?_
  rintro e w1 ⟨rfl, rfl⟩
  go_wp2_with fail
  refine (toCheckS_any v l _ h hl).mono ?_
  rintro e w2 ⟨v2, b2, rfl, s2, hbb2, hn2, o2⟩
  have hz_a : ∀ q ∈ b2, w.heap.size ≤ q := fun q hq => by have := hbb2 q hq; omega
  go_wp2_with fail
  refine (H1.out _ b2 _ s2).mono ?_
  rintro e w3 ⟨v3, b3, rfl, s3, hbb3, hn3, o3⟩
  have hd_w0_a : ∀ q ∈ b3, q ∉ b2 := fun q hq hq' => by have := s2.old q hq'; have := hbb3 q hq; omega
  have hz_w0 : ∀ q ∈ b3, w.heap.size ≤ q := fun q hq => by have := hbb3 q hq; have := o2.size; omega
  have s_a_3 := s2.only0 o3
  have oA3 := o2.trans o3
  clear s2 o2 o3
  clear s_a_3
  clear H1
  go_wp2_with fail
  refine (toCheckS_any v l _ (h.only oA3) hl).mono ?_
  rintro e w4 ⟨v4, b4, rfl, s4, hbb4, hn4, o4⟩
  have hd_x_w0 : ∀ q ∈ b4, q ∉ b3 := fun q hq hq' => by have := s3.old q hq'; have := hbb4 q hq; omega
  have hz_x : ∀ q ∈ b4, w.heap.size ≤ q := fun q hq => by have := hbb4 q hq; have := oA3.size; omega
  have s_w0_4 := s3.only0 o4
  have oA4 := oA3.trans o4
  clear s3 oA3 o4
  go_wp2_with fail
  refine (H2.out _ b4 _ s4).mono ?_
  rintro e w5 ⟨v5, b5, rfl, s5, hbb5, hn5, o5⟩
  have hd_g_w0 : ∀ q ∈ b5, q ∉ b3 := fun q hq hq' => by have := s_w0_4.old q hq'; have := hbb5 q hq; omega
  have hd_g_x : ∀ q ∈ b5, q ∉ b4 := fun q hq hq' => by have := s4.old q hq'; have := hbb5 q hq; omega
  have hz_g : ∀ q ∈ b5, w.heap.size ≤ q := fun q hq => by have := hbb5 q hq; have := oA4.size; omega
  have s_w0_5 := s_w0_4.only0 o5
  have s_x_5 := s4.only0 o5
  have oA5 := oA4.trans o5
  clear s_w0_4 s4 oA4 o5
  go_wp2_with fail
  refine (eqCheckS_yes _ _ y _ _ _ s5 s_w0_5).mono ?_
  rintro e w6 ⟨rfl, o6⟩
  have s_w0_6 := s_w0_5.only0 o6
  have s_x_6 := s_x_5.only0 o6
  have s_g_6 := s5.only0 o6
  have oA6 := oA5.trans o6
  clear s_w0_5 s_x_5 s5 oA5 o6
  go_wp2_with fail
  refine (toCheckS_any v l _ (h.only oA6) hl).mono ?_
  rintro e w7 ⟨v7, b7, rfl, s7, hbb7, hn7, o7⟩
  have hd_z_w0 : ∀ q ∈ b7, q ∉ b3 := fun q hq hq' => by have := s_w0_6.old q hq'; have := hbb7 q hq; omega
  have hd_z_x : ∀ q ∈ b7, q ∉ b4 := fun q hq hq' => by have := s_x_6.old q hq'; have := hbb7 q hq; omega
  have hd_z_g : ∀ q ∈ b7, q ∉ b5 := fun q hq hq' => by have := s_g_6.old q hq'; have := hbb7 q hq; omega
  have hz_z : ∀ q ∈ b7, w.heap.size ≤ q := fun q hq => by have := hbb7 q hq; have := oA6.size; omega
  have s_w0_7 := s_w0_6.only0 o7
  have s_x_7 := s_x_6.only0 o7
  have s_g_7 := s_g_6.only0 o7
  have oA7 := oA6.trans o7
  clear s_w0_6 s_x_6 s_g_6 oA6 o7
  go_wp2_with fail
  refine (eqCheckS_yes _ _ l _ _ _ s_x_7 s7).mono ?_
  rintro e w8 ⟨rfl, o8⟩
  have s_w0_8 := s_w0_7.only0 o8
  have s_x_8 := s_x_7.only0 o8
  have s_g_8 := s_g_7.only0 o8
  have s_z_8 := s7.only0 o8
  have oA8 := oA7.trans o8
  clear s_w0_7 s_x_7 s_g_7 s7 oA7 o8
  clear s_z_8
  go_wp2_with fail
  refine (markCheckS_any _ l _ 1 _ s_x_8 (by omega)).mono ?_
  rintro e w9 ⟨rfl, s9, o9⟩
  have s_w0_9 := s_w0_8.only o9 (fun q hq hq' => hd_x_w0 q hq' hq)
  have s_g_9 := s_g_8.only o9 hd_g_x
  have oA9 := oA8.trans_new o9 hz_x
  clear s_w0_8 s_g_8 oA8 o9
  go_wp2_with fail
  refine (eqCheckS_yes _ _ y _ _ _ s_g_9 s_w0_9).mono ?_
  rintro e w10 ⟨rfl, o10⟩
  have s_w0_10 := s_w0_9.only0 o10
  have s_g_10 := s_g_9.only0 o10
  have oA10 := oA9.trans o10
  clear s_w0_9 s_g_9 oA9 o10
  go_wp2_with fail
  refine (markCheckS_any _ y _ 1 _ s_g_10 (by omega)).mono ?_
  rintro e w11 ⟨rfl, s11, o11⟩
  have s_w0_11 := s_w0_10.only o11 (fun q hq hq' => hd_g_w0 q hq' hq)
  have oA11 := oA10.trans_new o11 hz_g
  clear s_w0_10 oA10 o11
  go_wp2_with fail
  refine (heldCheckS_any _ y.length _ 1 _ s11 (by omega)).mono ?_
  rintro e w12 ⟨rfl, rfl⟩
  go_wp2_with fail
  refine (toCheckS_any v l _ (h.only oA11) hl).mono ?_
  rintro e w13 ⟨v13, b13, rfl, s13, hbb13, hn13, o13⟩
  have hd_c_w0 : ∀ q ∈ b13, q ∉ b3 := fun q hq hq' => by have := s_w0_11.old q hq'; have := hbb13 q hq; omega
  have hd_c_g : ∀ q ∈ b13, q ∉ b5 := fun q hq hq' => by have := s11.old q hq'; have := hbb13 q hq; omega
  have hz_c : ∀ q ∈ b13, w.heap.size ≤ q := fun q hq => by have := hbb13 q hq; have := oA11.size; omega
  have s_w0_13 := s_w0_11.only0 o13
  have s_g_13 := s11.only0 o13
  have oA13 := oA11.trans o13
  clear s_w0_11 s11 oA11 o13
  go_wp2_with fail
  refine (H2.out _ b13 _ s13).mono ?_
  rintro e w14 ⟨v14, b14, rfl, s14, hbb14, hn14, o14⟩
  have hd_y0_w0 : ∀ q ∈ b14, q ∉ b3 := fun q hq hq' => by have := s_w0_13.old q hq'; have := hbb14 q hq; omega
  have hd_y0_g : ∀ q ∈ b14, q ∉ b5 := fun q hq hq' => by have := s_g_13.old q hq'; have := hbb14 q hq; omega
  have hd_y0_c : ∀ q ∈ b14, q ∉ b13 := fun q hq hq' => by have := s13.old q hq'; have := hbb14 q hq; omega
  have hz_y0 : ∀ q ∈ b14, w.heap.size ≤ q := fun q hq => by have := hbb14 q hq; have := oA13.size; omega
  have s_w0_14 := s_w0_13.only0 o14
  have s_g_14 := s_g_13.only0 o14
  have s_c_14 := s13.only0 o14
  have oA14 := oA13.trans o14
  clear s_w0_13 s_g_13 s13 oA13 o14
  clear s_c_14
  go_wp2_with fail
  refine (eqCheckS_yes _ _ y _ _ _ s14 s_w0_14).mono ?_
  rintro e w15 ⟨rfl, o15⟩
  have s_w0_15 := s_w0_14.only0 o15
  have s_g_15 := s_g_14.only0 o15
  have s_y0_15 := s14.only0 o15
  have oA15 := oA14.trans o15
  clear s_w0_14 s_g_14 s14 oA14 o15
  go_wp2_with fail
  refine (heldCheckS_any _ y.length _ 1 _ s_g_15 (by omega)).mono ?_
  rintro e w16 ⟨rfl, rfl⟩
  go_wp2
  go_ret
  exact ⟨rfl, oA15⟩

theorem cutL_len (l : List Check) (s : Int) : (cutL l s).length ≤ l.length := by
  unfold cutL
  split
  · exact List.length_filter_le _ _
  · simp
theorem exactCheckCut (v : Value) (l : List Check) (s : Int) (w : World) (h : RawSl w v l) : Calls Try.prog 8 #[v, .int .i64 s] w (BoolRet true w) := by
  by_cases hl : 1048576 < l.length
  · exact exactCheckCut_big v l s w h hl
  · exact exactCheckCut_small v l (by omega) s (cutL l s) (by have := cutL_len l s; omega) (Lib.hid fun v bs w h => specCheckCut_any v l bs s w h) (Lib.hid fun v bs w h => checkCut_any v l bs s w h) w h

end Go.Proofs.Ytbhoocdongeomaa
