/- Contracts: drawn sums. -/
import Derived.Test.YtbhoocdongeomaaC9
import Derived.Test.YtbhoocdongeomaaRD
set_option linter.unusedVariables false
namespace Go.Proofs.Ytbhoocdongeomaa
open Go.ChangeShapes Go.WideShapes Go.ChangeAt Go.RowKit

def CheckV (v : Value) (_ : World) : Prop := ∃ x : Check, v = .agg #[.int .i64 x.frm, .int .i64 x.seq, .int .i64 x.sum]
set_option maxRecDepth 100000 in
set_option maxHeartbeats 2000000 in
theorem l20Check_any (g p : Nat) (w : World) (h : Rd w g p) (hp : p ≤ 900000000000) :
    Calls Try.prog 68 #[.pointer (some ⟨g, 0, none⟩)] w (Drawn g p 5 CheckV w) := by
  have hg := h.lt
  have hblk := Blk.new w 34 #[.int .i64 0, .int .i64 0, .int .i64 0]
  have o0 : Only [g] w (w.alloc (.cells #[.int .i64 0, .int .i64 0, .int .i64 0] 34)) := (Only.refl _ w).alloc _
  have h0 := h.only0 ((Only.refl [] w).alloc (.cells #[.int .i64 0, .int .i64 0, .int .i64 0] 34))
  go_enter Try.func68, Try.ntmps68
  go_wp2_with fail
  refine (pick_pos g _ _ _ h0 (by omega) (by omega)).mono ?_
  rintro e w1 ⟨x1, rfl, _, _, h1, o1⟩
  have hb1 := hblk.only o1 (by simp; omega)
  have oA1 := o0.trans o1
  clear hblk o0 h0 o1
  go_wp2_with fail
  refine (pick_pos g _ _ _ h1 (by omega) (by omega)).mono ?_
  rintro e w2 ⟨x2, rfl, _, _, h2, o2⟩
  have hb2 := hb1.only o2 (by simp; omega)
  have oA2 := oA1.trans o2
  clear hb1 oA1 h1 o2
  have hs := sl_lit4 w2 7 7 7 9
  have on := (Only.refl [] w2).alloc (.cells #[.int .i64 7, .int .i64 7, .int .i64 7, .int .i64 9] 3)
  have hrd := h2.only0 on
  have hb3 := hb2.only on (by simp)
  have oA3 := oA2.trans0 on
  have hlt := h2.lt
  clear hb2 oA2 h2 on
  go_wp2_with fail
  refine (one_any g _ _ _ _ _ hrd (by omega) hs (by simp) (by simp; omega) (by simp)).mono ?_
  rintro e w3 ⟨x3, rfl, _, h3, o3⟩
  have hb4 := hb3.only o3 (by simp; omega)
  have oA4 := oA3.trans o3
  clear hb3 oA3 hrd o3 hs
  have hC := Blk.new w3 34 #[.int .i64 x1, .int .i64 x2, .int .i64 x3]
  have on := (Only.refl [] w3).alloc (.cells #[.int .i64 x1, .int .i64 x2, .int .i64 x3] 34)
  have h4 := h3.only0 on
  have hb5 := hb4.only on (by simp)
  have oA5 := oA4.trans0 on
  have hlt3 := h3.lt
  have hw3 : w.heap.size < w3.heap.size := hb4.lt
  clear hb4 oA4 h3 on
  go_wp2_with fail
  refine (pick_pos g _ _ _ h4 (by omega) (by omega)).mono ?_
  rintro e w5 ⟨x5, rfl, _, _, h5, o5⟩
  have hb6 := hb5.only o5 (by simp; omega)
  have hC6 := hC.only o5 (by simp; omega)
  have oA6 := oA5.trans o5
  clear hb5 oA5 h4 o5 hC
  by_cases hx : x5 = 0
  · subst hx
    have hs := sl_lit3 w5 (-1) 4294967296 4294967295
    have on := (Only.refl [] w5).alloc (.cells #[.int .i64 (-1), .int .i64 4294967296, .int .i64 4294967295] 3)
    have hrd := h5.only0 on
    have hb7 := hb6.only on (by simp)
    have hC7 := hC6.only on (by simp)
    have oA7 := oA6.trans0 on
    have hlt := h5.lt
    have hw5 : w3.heap.size < w5.heap.size := hC6.lt
    clear hb6 oA6 h5 on hC6
    go_wp2_with fail
    refine (one_any g _ _ _ _ _ hrd (by omega) hs (by simp) (by simp; omega) (by simp)).mono ?_
    rintro e w6 ⟨x6, rfl, _, h6, o6⟩
    have hb8 := hb7.only o6 (by simp; omega)
    have hC8 := hC7.only o6 (by simp; omega)
    have oA8 := oA7.trans o6
    clear hb7 oA7 hrd o6 hs hC7
    have c0 : w6.cell? ⟨w3.heap.size, 0, none⟩ = some (.int .i64 x1) := hC8.cell 0
    have c1 : w6.cell? ⟨w3.heap.size, 1, none⟩ = some (.int .i64 x2) := hC8.cell 1
    have c2 : w6.cell? ⟨w3.heap.size, 2, none⟩ = some (.int .i64 x3) := hC8.cell 2
    have f2 := hC8.frozen 2
    have d0 : w6.cell? ⟨w.heap.size, 0, none⟩ = some (.int .i64 0) := hb8.cell 0
    have d1 : w6.cell? ⟨w.heap.size, 1, none⟩ = some (.int .i64 0) := hb8.cell 1
    have d2 : w6.cell? ⟨w.heap.size, 2, none⟩ = some (.int .i64 0) := hb8.cell 2
    have e0 := hb8.frozen 0
    have e1 := hb8.frozen 1
    have e2 := hb8.frozen 2
    go_wp2
    have hb8 := hb8.far (p := ⟨w3.heap.size, 2, none⟩) (by simp; omega) (.int .i64 x6)
    have oA8 := oA8.setCell (p := ⟨w3.heap.size, 2, none⟩) (.inr (by simp; omega)) (.int .i64 x6)
    have h6 := h6.only (((Only.refl [w3.heap.size] _).setCell (p := ⟨w3.heap.size, 2, none⟩) (.inl (by simp)) (.int .i64 x6))) (by simp; omega)
    have hB := ((hb8.set_ 0 (.int .i64 x1)).set_ 1 (.int .i64 x2)).set_ 2 (.int .i64 x6)
    have q0 : ((((w6.setCell ⟨w3.heap.size, 2, none⟩ (.int .i64 x6)).setCell ⟨w.heap.size, 0, none⟩ (.int .i64 x1)).setCell ⟨w.heap.size, 1, none⟩ (.int .i64 x2)).setCell ⟨w.heap.size, 2, none⟩ (.int .i64 x6)).cell? ⟨w.heap.size, 0, none⟩ = some (.int .i64 x1) := hB.cell 0
    have q1 : ((((w6.setCell ⟨w3.heap.size, 2, none⟩ (.int .i64 x6)).setCell ⟨w.heap.size, 0, none⟩ (.int .i64 x1)).setCell ⟨w.heap.size, 1, none⟩ (.int .i64 x2)).setCell ⟨w.heap.size, 2, none⟩ (.int .i64 x6)).cell? ⟨w.heap.size, 1, none⟩ = some (.int .i64 x2) := hB.cell 1
    have q2 : ((((w6.setCell ⟨w3.heap.size, 2, none⟩ (.int .i64 x6)).setCell ⟨w.heap.size, 0, none⟩ (.int .i64 x1)).setCell ⟨w.heap.size, 1, none⟩ (.int .i64 x2)).setCell ⟨w.heap.size, 2, none⟩ (.int .i64 x6)).cell? ⟨w.heap.size, 2, none⟩ = some (.int .i64 x6) := hB.cell 2
    have hon : Only [g] w _ := ((oA8.setCell (p := ⟨w.heap.size, 0, none⟩) (.inr (Nat.le_refl _)) (.int .i64 x1)).setCell (p := ⟨w.heap.size, 1, none⟩) (.inr (Nat.le_refl _)) (.int .i64 x2)).setCell (p := ⟨w.heap.size, 2, none⟩) (.inr (Nat.le_refl _)) (.int .i64 x6)
    have hR := h6.only (((((Only.refl [w.heap.size] _).setCell (p := ⟨w.heap.size, 0, none⟩) (.inl (by simp)) (.int .i64 x1)).setCell (p := ⟨w.heap.size, 1, none⟩) (.inl (by simp)) (.int .i64 x2)).setCell (p := ⟨w.heap.size, 2, none⟩) (.inl (by simp)) (.int .i64 x6))) (by simpa using hg)
    refine bodyPost_ret (v := .agg #[.int .i64 x1, .int .i64 x2, .int .i64 x6]) (by simp [results, Try.results68, go_sem, q0, q1, q2]) rfl ⟨_, _, rfl, ⟨⟨x1, x2, x6⟩, rfl⟩, hR, by omega, hon⟩
  · have hx' : (x5 == 0) = false := by simpa using hx
    have c0 : w5.cell? ⟨w3.heap.size, 0, none⟩ = some (.int .i64 x1) := hC6.cell 0
    have c1 : w5.cell? ⟨w3.heap.size, 1, none⟩ = some (.int .i64 x2) := hC6.cell 1
    have c2 : w5.cell? ⟨w3.heap.size, 2, none⟩ = some (.int .i64 x3) := hC6.cell 2
    have d0 : w5.cell? ⟨w.heap.size, 0, none⟩ = some (.int .i64 0) := hb6.cell 0
    have d1 : w5.cell? ⟨w.heap.size, 1, none⟩ = some (.int .i64 0) := hb6.cell 1
    have d2 : w5.cell? ⟨w.heap.size, 2, none⟩ = some (.int .i64 0) := hb6.cell 2
    have e0 := hb6.frozen 0
    have e1 := hb6.frozen 1
    have e2 := hb6.frozen 2
    go_wp2
    have hB := ((hb6.set_ 0 (.int .i64 x1)).set_ 1 (.int .i64 x2)).set_ 2 (.int .i64 x3)
    have q0 : (((w5.setCell ⟨w.heap.size, 0, none⟩ (.int .i64 x1)).setCell ⟨w.heap.size, 1, none⟩ (.int .i64 x2)).setCell ⟨w.heap.size, 2, none⟩ (.int .i64 x3)).cell? ⟨w.heap.size, 0, none⟩ = some (.int .i64 x1) := hB.cell 0
    have q1 : (((w5.setCell ⟨w.heap.size, 0, none⟩ (.int .i64 x1)).setCell ⟨w.heap.size, 1, none⟩ (.int .i64 x2)).setCell ⟨w.heap.size, 2, none⟩ (.int .i64 x3)).cell? ⟨w.heap.size, 1, none⟩ = some (.int .i64 x2) := hB.cell 1
    have q2 : (((w5.setCell ⟨w.heap.size, 0, none⟩ (.int .i64 x1)).setCell ⟨w.heap.size, 1, none⟩ (.int .i64 x2)).setCell ⟨w.heap.size, 2, none⟩ (.int .i64 x3)).cell? ⟨w.heap.size, 2, none⟩ = some (.int .i64 x3) := hB.cell 2
    have hon : Only [g] w _ := ((oA6.setCell (p := ⟨w.heap.size, 0, none⟩) (.inr (Nat.le_refl _)) (.int .i64 x1)).setCell (p := ⟨w.heap.size, 1, none⟩) (.inr (Nat.le_refl _)) (.int .i64 x2)).setCell (p := ⟨w.heap.size, 2, none⟩) (.inr (Nat.le_refl _)) (.int .i64 x3)
    have hR := h5.only (((((Only.refl [w.heap.size] _).setCell (p := ⟨w.heap.size, 0, none⟩) (.inl (by simp)) (.int .i64 x1)).setCell (p := ⟨w.heap.size, 1, none⟩) (.inl (by simp)) (.int .i64 x2)).setCell (p := ⟨w.heap.size, 2, none⟩) (.inl (by simp)) (.int .i64 x3))) (by simpa using hg)
    refine bodyPost_ret (v := .agg #[.int .i64 x1, .int .i64 x2, .int .i64 x3]) (by simp [results, Try.results68, go_sem, q0, q1, q2]) rfl ⟨_, _, rfl, ⟨⟨x1, x2, x3⟩, rfl⟩, hR, by omega, hon⟩
theorem addL_24 {l : List Check} {x : Check} : (addL l x).length ≤ 24 := by
  unfold addL
  split
  · rename_i h
    split
    · rename_i h2; exact (checkOkM_iff.1 h2).2.2
    · exact (checkOkM_iff.1 h).2.2
  · simp
/-- drawn: a list of sums in its own memory -/
def ChecksV (w : World) (v : Value) (w' : World) : Prop := ∃ (l : List Check) (bs : List Nat), Sl w' v l bs ∧ l.length ≤ 25 ∧ ∀ q ∈ bs, w.heap.size ≤ q
set_option maxRecDepth 100000 in
set_option maxHeartbeats 4000000 in
theorem l20Checks_any (g p : Nat) (w : World) (h : Rd w g p) (hp : p ≤ 800000000000) :
    Calls Try.prog 65 #[.pointer (some ⟨g, 0, none⟩)] w (Drawn g p 202 (ChecksV w) w) := by
  have hg := h.lt
  have hs0 := Sl.nil_ (α := Check) (w := w.alloc (.cells #[] 34)) (some ⟨w.heap.size, 0, none⟩)
  have on0 : Only [] w (w.alloc (.cells #[] 34)) := (Only.refl _ w).alloc _
  obtain ⟨wa, hwa⟩ : ∃ wa, wa = w.alloc (.cells #[] 34) := ⟨_, rfl⟩
  have hsz : wa.heap.size = w.heap.size + 1 := by rw [hwa]; simp
  have hs := sl_lit4 wa 0 4 10 30
  have on1 := (Only.refl [] wa).alloc (.cells #[.int .i64 0, .int .i64 4, .int .i64 10, .int .i64 30] 3)
  rw [← hwa] at hs0 on0
  have hrd := (h.only0 on0).only0 on1
  have hs1 := hs0.only0 on1
  have oA := (on0.trans on1)
  rw [hsz] at hs
  have hgl : g ∉ [w.heap.size + 1] := by simp; omega
  clear on0 on1 hs0
  subst hwa
  go_enter Try.func65, Try.ntmps65
  go_wp2_with fail
  refine (one_any g _ _ _ _ _ hrd (by omega) hs (by simp) hgl (by simp)).mono ?_
  rintro e w1 ⟨x1, rfl, hx1, h1, o1⟩
  have hx1b : 0 ≤ x1 ∧ x1 ≤ 30 := by simp at hx1; omega
  obtain ⟨n, rfl⟩ := Int.eq_ofNat_of_zero_le hx1b.1
  have hs2 := hs1.only o1 (by simp)
  have oA1 : Only [g] w w1 := (oA.more (by simp)).trans o1
  clear hs1 oA o1 hrd hs hx1 hsz hgl
  go_wp2_with fail
  go_loopw [3, 4] (fun t i wr => ∃ (l : List Check) (bt : List Nat) (k q : Nat), i = .int .i64 (k : Int) ∧ k ≤ 30 ∧ Sl wr t l bt ∧ l.length ≤ 24 ∧ (∀ x ∈ bt, w.heap.size ≤ x) ∧ Rd wr g q ∧ q + 5 * k ≤ p + 200 ∧ Only [g] w wr) (fun t i _ => (intOf i).toNat)
  case atStart => exact ⟨[], [], n, p + 1, rfl, by omega, hs2, by simp, by simp, h1, by omega, oA1⟩
  case round =>
    obtain ⟨l, bt, k, q, rfl, hk, hs, hl, hbt, hr, hq, hon⟩ := hrel
    clear hs2 h1 oA1
    obtain ⟨at_, ct, rfl, g1, g2⟩ := hs.form
    have hgn : g ∉ bt := fun hh => by have := hbt g hh; omega
    by_cases hk0 : 0 < k
    · go_wp2_with fail
      refine (l20Check_any g q _ hr (by omega)).mono ?_
      rintro e w2 ⟨v2, q2, rfl, ⟨x, rfl⟩, hr2, hq2, o2⟩
      have hs2 := hs.only o2 (fun y hy hy' => hgn (by simp at hy'; exact hy' ▸ hy))
      have oA2 := hon.trans o2
      clear hs hr o2 hon
      go_wp2_with fail
      refine (specCheckAdd_any _ l bt x _ hs2).mono ?_
      rintro e w3 ⟨v3, b3, rfl, s3, hb3, hn3, o3⟩
      have hr3 := hr2.only0 o3
      have hs3 := hs2.only0 o3
      have hw2 := oA2.size
      have oA3 := oA2.trans0 o3
      have hlen : (addL l x).length ≤ 24 := addL_24
      clear hr2 o3 oA2 hs2
      cases hf : addB l x
      · go_wp2
        exact ⟨⟨l, bt, k - 1, q2, by go_num, by omega, hs3, hl, hbt, hr3, by omega, oA3⟩, by simp [intOf]; omega⟩
      · go_wp2
        exact ⟨⟨addL l x, b3, k - 1, q2, by go_num, by omega, s3, hlen, fun y hy => by have := hb3 y hy; omega, hr3, by omega, oA3⟩, by simp [intOf]; omega⟩
    · have hw2 := hon.size
      by_cases hl0 : 0 < l.length
      · have hlb : decide (0 < (l.length : Int)) = true := decide_eq_true (by omega)
        go_wp2_with fail
        refine (pick_pos g _ _ _ hr (by omega) (by omega)).mono ?_
        rintro e w2 ⟨x5, rfl, _, _, h5, o5⟩
        have hs2 := hs.only o5 (fun y hy hy' => hgn (by simp at hy'; exact hy' ▸ hy))
        have oA2 := hon.trans o5
        have hw3 := oA2.size
        clear hs hr o5 hon
        by_cases hx : x5 = 0
        · subst hx
          obtain ⟨b, o, rfl, _⟩ := hs2.addr (by omega)
          obtain ⟨y, hy, _, _, c0, c1, c2⟩ := hs2.check_cells hl0
          simp only [Nat.zero_mul, Nat.add_zero] at c0 c1 c2
          go_wp2_with (at_builtin; refine wpList_append_one rfl (.tmp 32) (.tmp 36) rfl tyChecks rfl hs2 y rfl (by omega) ?_; intro v' w4 bs' hs4 ho4 hb4)
          go_ret
          have hR := h5.only ho4 (fun z hz => by have := hbt z (List.mem_of_mem_take hz); omega)
          exact ⟨_, _, rfl, ⟨_, bs', hs4, by simp; omega, fun z hz => by rcases hb4 z hz with h | h; exact hbt z h; omega⟩, hR, by omega, oA2.trans_new ho4 (fun z hz => hbt z (List.mem_of_mem_take hz))⟩
        · have hx' : (x5 == 0) = false := by simpa using hx
          go_wp2_with (at_builtin; refine wpList_append_copy rfl (.tmp 38) (.tmp 39) rfl tyChecks _ rfl (hs2.alloc _) rfl (by omega) ?_; intro v' w4 bs' hs4 ho4 hb4 hn4)
          go_ret
          have ho5 := ((Only.refl [] w2).alloc _).trans ho4
          exact ⟨_, _, rfl, ⟨_, bs', hs4, by omega, fun z hz => by have := hb4 z hz; simp at this; omega⟩, h5.only0 ho5, by omega, oA2.trans0 ho5⟩
      · have hlb : decide (0 < (l.length : Int)) = false := decide_eq_false (by omega)
        go_wp2_with (at_builtin; refine wpList_append_copy rfl (.tmp 38) (.tmp 39) rfl tyChecks _ rfl (hs.alloc _) rfl (by omega) ?_; intro v' w4 bs' hs4 ho4 hb4 hn4)
        go_ret
        have ho5 := ((Only.refl [] wr).alloc _).trans ho4
        exact ⟨_, _, rfl, ⟨_, bs', hs4, by omega, fun z hz => by have := hb4 z hz; simp at this; omega⟩, hr.only0 ho5, by omega, hon.trans0 ho5⟩
end Go.Proofs.Ytbhoocdongeomaa
