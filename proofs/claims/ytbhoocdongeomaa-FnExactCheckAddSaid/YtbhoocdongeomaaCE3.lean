/- The laws on sums that say 'as the reference': one sum more. -/
import Derived.Test.YtbhoocdongeomaaC7
set_option linter.unusedVariables false
namespace Go.Proofs.Ytbhoocdongeomaa
open Go.ChangeShapes Go.WideShapes Go.ChangeAt Go.RowKit

set_option maxRecDepth 100000 in
theorem read_check {H : Type} {enc : TypeId × Value → H} {W : World} {base : Nat} {spare : Nat → Bool} {held : Bool} {v : Value} {d : DataW H} {p : List MemPlace}
    (hv : Value.okWide Try.prog W .any base 36 v) (h : DataW.Trod enc Try.prog W 0 spare held 36 v d p) : ∃ x : Check, v = .agg #[.int .i64 x.frm, .int .i64 x.seq, .int .i64 x.sum] := by
  obtain ⟨cs, rfl, _⟩ := okWide_struct Try.underlying36 hv
  obtain ⟨fuel, hf⟩ := h
  obtain ⟨x, hx⟩ := raw_check hf
  refine ⟨x, ?_⟩
  have e : cs.toList = Flat.cells x := by simpa [Value.cells] using hx
  have e2 : cs = (Flat.cells x).toArray := by rw [← e]
  rw [e2]; rfl

set_option maxRecDepth 100000 in
theorem exactCheckAdd_big (v : Value) (l : List Check) (x : Check) (w : World) (h : RawSl w v l) (hl : 1048576 < l.length) : Calls Try.prog 6 #[v, .agg #[.int .i64 x.frm, .int .i64 x.seq, .int .i64 x.sum]] w (BoolRet true w) := by
  have hon0 : Only [] w (w.alloc (.cells #[.int .i64 x.frm, .int .i64 x.seq, .int .i64 x.sum] 36)) := (Only.refl _ _).alloc _
  go_enter Try.func6, Try.ntmps6
  go_wp2_with fail
  refine (szCheckS_no v l 1048576 _ (h.only hon0) hl (by omega)).mono ?_
  rintro e w1 ⟨rfl, rfl⟩
  go_wp2
  go_ret
  exact ⟨rfl, hon0⟩

set_option maxRecDepth 100000 in
set_option maxHeartbeats 8000000 in
theorem exactCheckAdd_small (v : Value) (l : List Check) (hl : l.length ≤ 1048576) (x : Check) (y : List Check) (f : Bool) (hyl : y.length ≤ 1048577) (H1 : Hid (∀ v bs w, Sl w v l bs → Calls Try.prog 24 #[v, .agg #[.int .i64 x.frm, .int .i64 x.seq, .int .i64 x.sum]] w (FreshB y f w))) (H2 : Hid (∀ v bs w, Sl w v l bs → Calls Try.prog 26 #[v, .agg #[.int .i64 x.frm, .int .i64 x.seq, .int .i64 x.sum]] w (FreshB y f w))) (w : World) (h : RawSl w v l) : Calls Try.prog 6 #[v, .agg #[.int .i64 x.frm, .int .i64 x.seq, .int .i64 x.sum]] w (BoolRet true w) := by
  have hdl : decide ((1048576 : Int) - l.length < 0) = false := by simp; omega
  have hon0 : Only [] w (w.alloc (.cells #[.int .i64 x.frm, .int .i64 x.seq, .int .i64 x.sum] 36)) := (Only.refl _ _).alloc _
  have hblk := Blk.new w 36 #[.int .i64 x.frm, .int .i64 x.seq, .int .i64 x.sum]
  have hR := h.only hon0
  go_enter Try.func6, Try.ntmps6
  go_wp2_with fail
  refine (szCheckS_ok v l 1048576 _ hR hl (by omega)).mono ?_
  rintro e w1 ⟨rfl, rfl⟩
  clear h
  generalize hwB : w.alloc (.cells #[.int .i64 x.frm, .int .i64 x.seq, .int .i64 x.sum] 36) = wB at *
  have hB0 : w.heap.size < wB.heap.size := hblk.lt
  have c0 : wB.cell? ⟨w.heap.size, 0, none⟩ = some (.int .i64 x.frm) := hblk.cell 0
  have c1 : wB.cell? ⟨w.heap.size, 1, none⟩ = some (.int .i64 x.seq) := hblk.cell 1
  have c2 : wB.cell? ⟨w.heap.size, 2, none⟩ = some (.int .i64 x.sum) := hblk.cell 2
  clear hblk hwB
  go_wp2_with fail
  go_region_held3 (fun W => W.cell? ⟨w.heap.size, 0, none⟩ = some (.int .i64 x.frm) ∧ W.cell? ⟨w.heap.size, 1, none⟩ = some (.int .i64 x.seq) ∧ W.cell? ⟨w.heap.size, 2, none⟩ = some (.int .i64 x.sum))
    (first
      | exact ⟨((Only.refl [] wB).drew).cell c0 (by simp), ((Only.refl [] wB).drew).cell c1 (by simp), ((Only.refl [] wB).drew).cell c2 (by simp)⟩
      | exact ⟨oA5.cell c0 (by simp), oA5.cell c1 (by simp), oA5.cell c2 (by simp)⟩
      | exact ⟨oB5.cell c0 (by simp), oB5.cell c1 (by simp), oB5.cell c2 (by simp)⟩
      | exact ⟨oC5.cell c0 (by simp), oC5.cell c1 (by simp), oC5.cell c2 (by simp)⟩)
    (first
      | (go_at_call 18
         refine (toCheckS_any v l _ (hR.only (by first | exact oB5 | exact (Only.refl [] wB).drew)) hl).mono ?_
         rintro e wA5 ⟨va5, ba5, rfl, sa5, hba5, hna5, oa5⟩
         have oA5 : Only [] wB wA5 := by first | exact oB5.trans oa5 | exact ((Only.refl [] wB).drew).trans oa5)
      | (go_at_call 25
         refine (toCheck_any x _).mono ?_
         rintro e wT5 ⟨rfl, ob5⟩
         have oB5 : Only [] wB wT5 := by first | exact oA5.trans ob5 | exact ((Only.refl [] wB).drew).trans ob5)
      | (go_at_call 24
         refine (H1.out _ ba5 _ (by first | exact sa5 | exact sa5.only0 ob5)).mono ?_
         rintro e wC5 ⟨vc5, bc5, rfl, sc5, hbc5, hnc5, oc5⟩
         have oC5 : Only [] wB wC5 := by first | exact oA5.trans oc5 | exact oB5.trans oc5
         have hzc5 : ∀ q ∈ bc5, wB.heap.size ≤ q := fun q hq => by have := hbc5 q hq; first | (have := oA5.size; omega) | (have := oB5.size; omega)))
  all_goals
    clear oA5 oB5 sa5 oa5 ob5 hba5 hna5 oc5 hbc5 H1
    go_wp2_with fail
    refine (toCheckS_any v l _ (hR.only oC5) hl).mono ?_
    rintro e w2 ⟨v2, b2, rfl, s2, hbb2, hn2, o2⟩
    have hd_x_w0 : ∀ q ∈ b2, q ∉ bc5 := fun q hq hq' => by have := sc5.old q hq'; have := hbb2 q hq; omega
    have hz_x : ∀ q ∈ b2, wB.heap.size ≤ q := fun q hq => by have := hbb2 q hq; have := oC5.size; omega
    have s_w0_2 := sc5.only0 o2
    have oA2 := oC5.trans o2
    clear sc5 oC5 o2
    have d0 := oA2.cell c0 (by simp)
    have d1 := oA2.cell c1 (by simp)
    have d2 := oA2.cell c2 (by simp)
    go_wp2_with fail
    refine (toCheck_any x _).mono ?_
    rintro e w3 ⟨rfl, o3⟩
    have s_w0_3 := s_w0_2.only0 o3
    have s_x_3 := s2.only0 o3
    have oA3 := oA2.trans o3
    clear s_w0_2 s2 oA2 o3
    clear d0 d1 d2
    have hy0 : 0 ≤ y.length := Nat.zero_le _
    go_wp2_with fail
    refine (H2.out _ b2 _ s_x_3).mono ?_
    rintro e w4 ⟨v4, b4, rfl, s4, hbb4, hn4, o4⟩
    have hd_g_w0 : ∀ q ∈ b4, q ∉ bc5 := fun q hq hq' => by have := s_w0_3.old q hq'; have := hbb4 q hq; omega
    have hd_g_x : ∀ q ∈ b4, q ∉ b2 := fun q hq hq' => by have := s_x_3.old q hq'; have := hbb4 q hq; omega
    have hz_g : ∀ q ∈ b4, wB.heap.size ≤ q := fun q hq => by have := hbb4 q hq; have := oA3.size; omega
    have s_w0_4 := s_w0_3.only0 o4
    have s_x_4 := s_x_3.only0 o4
    have oA4 := oA3.trans o4
    clear s_w0_3 s_x_3 oA3 o4
    have hff : (f != f) = false := by simp
    go_wp2_with fail
    refine (eqCheckS_yes _ _ y _ _ _ s4 s_w0_4).mono ?_
    rintro e w5 ⟨rfl, o5⟩
    have s_w0_5 := s_w0_4.only0 o5
    have s_x_5 := s_x_4.only0 o5
    have s_g_5 := s4.only0 o5
    have oA5 := oA4.trans o5
    clear s_w0_4 s_x_4 s4 oA4 o5
    go_wp2_with fail
    refine (toCheckS_any v l _ (hR.only oA5) hl).mono ?_
    rintro e w6 ⟨v6, b6, rfl, s6, hbb6, hn6, o6⟩
    have hd_z_w0 : ∀ q ∈ b6, q ∉ bc5 := fun q hq hq' => by have := s_w0_5.old q hq'; have := hbb6 q hq; omega
    have hd_z_x : ∀ q ∈ b6, q ∉ b2 := fun q hq hq' => by have := s_x_5.old q hq'; have := hbb6 q hq; omega
    have hd_z_g : ∀ q ∈ b6, q ∉ b4 := fun q hq hq' => by have := s_g_5.old q hq'; have := hbb6 q hq; omega
    have hz_z : ∀ q ∈ b6, wB.heap.size ≤ q := fun q hq => by have := hbb6 q hq; have := oA5.size; omega
    have s_w0_6 := s_w0_5.only0 o6
    have s_x_6 := s_x_5.only0 o6
    have s_g_6 := s_g_5.only0 o6
    have oA6 := oA5.trans o6
    clear s_w0_5 s_x_5 s_g_5 oA5 o6
    go_wp2_with fail
    refine (eqCheckS_yes _ _ l _ _ _ s_x_6 s6).mono ?_
    rintro e w7 ⟨rfl, o7⟩
    have s_w0_7 := s_w0_6.only0 o7
    have s_x_7 := s_x_6.only0 o7
    have s_g_7 := s_g_6.only0 o7
    have s_z_7 := s6.only0 o7
    have oA7 := oA6.trans o7
    clear s_w0_6 s_x_6 s_g_6 s6 oA6 o7
    clear s_z_7
    go_wp2_with fail
    refine (markCheckS_any _ l _ 1 _ s_x_7 (by omega)).mono ?_
    rintro e w8 ⟨rfl, s8, o8⟩
    have s_w0_8 := s_w0_7.only o8 (fun q hq hq' => hd_x_w0 q hq' hq)
    have s_g_8 := s_g_7.only o8 hd_g_x
    have oA8 := oA7.trans_new o8 hz_x
    clear s_w0_7 s_g_7 oA7 o8
    clear s_x_7
    go_wp2_with fail
    refine (eqCheckS_yes _ _ y _ _ _ s_g_8 s_w0_8).mono ?_
    rintro e w9 ⟨rfl, o9⟩
    have s_w0_9 := s_w0_8.only0 o9
    have s_g_9 := s_g_8.only0 o9
    have oA9 := oA8.trans o9
    clear s_w0_8 s_g_8 oA8 o9
    go_wp2_with fail
    refine (markCheckS_any _ y _ 1 _ s_g_9 (by omega)).mono ?_
    rintro e w10 ⟨rfl, s10, o10⟩
    have s_w0_10 := s_w0_9.only o10 (fun q hq hq' => hd_g_w0 q hq' hq)
    have oA10 := oA9.trans_new o10 hz_g
    clear s_w0_9 oA9 o10
    go_wp2_with fail
    refine (heldCheckS_any _ y.length _ 1 _ s10 (by omega)).mono ?_
    rintro e w11 ⟨rfl, rfl⟩
    go_wp2_with fail
    go_region_held3 (fun W => W.cell? ⟨w.heap.size, 0, none⟩ = some (.int .i64 x.frm) ∧ W.cell? ⟨w.heap.size, 1, none⟩ = some (.int .i64 x.seq) ∧ W.cell? ⟨w.heap.size, 2, none⟩ = some (.int .i64 x.sum))
      (first
        | exact ⟨(oA10.drew).cell c0 (by simp), (oA10.drew).cell c1 (by simp), (oA10.drew).cell c2 (by simp)⟩
        | exact ⟨oA24.cell c0 (by simp), oA24.cell c1 (by simp), oA24.cell c2 (by simp)⟩
        | exact ⟨oB24.cell c0 (by simp), oB24.cell c1 (by simp), oB24.cell c2 (by simp)⟩
        | exact ⟨oC24.cell c0 (by simp), oC24.cell c1 (by simp), oC24.cell c2 (by simp)⟩)
      (first
        | (go_at_call 18
           refine (toCheckS_any v l _ (hR.only (by first | exact oB24 | exact oA10.drew)) hl).mono ?_
           rintro e wA24 ⟨va24, ba24, rfl, sa24, hba24, hna24, oa24⟩
           have oA24 : Only [] wB wA24 := by first | exact oB24.trans oa24 | exact (oA10.drew).trans oa24)
        | (go_at_call 25
           refine (toCheck_any x _).mono ?_
           rintro e wT24 ⟨rfl, ob24⟩
           have oB24 : Only [] wB wT24 := by first | exact oA24.trans ob24 | exact (oA10.drew).trans ob24)
        | (go_at_call 26
           refine (H2.out _ ba24 _ (by first | exact sa24 | exact sa24.only0 ob24)).mono ?_
           rintro e wC24 ⟨vc24, bc24, rfl, sc24, hbc24, hnc24, oc24⟩
           have oC24 : Only [] wB wC24 := by first | exact oA24.trans oc24 | exact oB24.trans oc24
           have hzc24 : ∀ q ∈ bc24, wB.heap.size ≤ q := fun q hq => by have := hbc24 q hq; first | (have := oA24.size; omega) | (have := oB24.size; omega)))
    all_goals
      have hO24 : Only [] w10.drew wC24 := by first | exact (oa24.trans ob24).trans oc24 | exact (ob24.trans oa24).trans oc24
      have sg := s10.only0 (((Only.refl [] _).drew).trans hO24)
      have sw := s_w0_10.only0 (((Only.refl [] _).drew).trans hO24)
      clear hO24 oA24 oB24 sa24 oa24 ob24 hba24 hna24 oc24 hbc24 s10 s_w0_10 oA10
      go_wp2_with fail
      refine (eqCheckS_yes _ _ y _ _ _ sc24 sw).mono ?_
      rintro e w12 ⟨rfl, o12⟩
      have s_g_12 := sg.only0 o12
      have s_w0_12 := sw.only0 o12
      have s_y0_12 := sc24.only0 o12
      have oA12 := oC24.trans o12
      clear sg sw sc24 oC24 o12
      go_wp2_with fail
      refine (heldCheckS_any _ y.length _ 1 _ s_g_12 (by omega)).mono ?_
      rintro e w13 ⟨rfl, rfl⟩
      go_wp2
      go_ret
      exact ⟨rfl, hon0.trans oA12⟩

theorem addL_len (l : List Check) (x : Check) : (addL l x).length ≤ l.length + 1 := by
  unfold addL
  split
  · split <;> simp
  · simp
theorem exactCheckAdd (v : Value) (l : List Check) (x : Check) (w : World) (h : RawSl w v l) : Calls Try.prog 6 #[v, .agg #[.int .i64 x.frm, .int .i64 x.seq, .int .i64 x.sum]] w (BoolRet true w) := by
  by_cases hl : 1048576 < l.length
  · exact exactCheckAdd_big v l x w h hl
  · exact exactCheckAdd_small v l (by omega) x (addL l x) (addB l x) (by have := addL_len l x; omega) (Lib.hid fun v bs w h => specCheckAdd_any v l bs x w h) (Lib.hid fun v bs w h => checkAdd_any v l bs x w h) w h

end Go.Proofs.Ytbhoocdongeomaa
