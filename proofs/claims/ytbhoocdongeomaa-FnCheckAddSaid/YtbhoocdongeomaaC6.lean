/- Contracts: one sum more. -/
import Derived.Test.YtbhoocdongeomaaC5
import Derived.Test.YtbhoocdongeomaaL5
import Derived.Deep.RegionHeld3
set_option linter.unusedVariables false
namespace Go.Proofs.Ytbhoocdongeomaa
open Go.ChangeShapes Go.WideShapes Go.ChangeAt Go.RowKit

def addL (l : List Check) (x : Check) : List Check := if checkOkM l then (if checkOkM (l ++ [x]) then l ++ [x] else l) else []
def addB (l : List Check) (x : Check) : Bool := checkOkM l && checkOkM (l ++ [x])

set_option maxRecDepth 100000 in
set_option maxHeartbeats 2000000 in
theorem checkAdd_any (v : Value) (l : List Check) (bs : List Nat) (x : Check) (w : World) (h : Sl w v l bs) :
    Calls Try.prog 26 #[v, .agg #[.int .i64 x.frm, .int .i64 x.seq, .int .i64 x.sum]] w (FreshB (addL l x) (addB l x) w) := by
  obtain ⟨a, c, rfl, h1, h2⟩ := h.form
  have hM : maxLen = 9223372036854775807 := rfl
  have hblk := Blk.new w 34 #[.int .i64 x.frm, .int .i64 x.seq, .int .i64 x.sum]
  have hon0 : Only [] w (w.alloc (.cells #[.int .i64 x.frm, .int .i64 x.seq, .int .i64 x.sum] 34)) := (Only.refl _ _).alloc _
  have h0 := h.only0 hon0
  go_enter Try.func26, Try.ntmps26
  go_wp2_with fail
  refine (checkOk_any _ l bs _ h0).mono ?_
  rintro e w1 ⟨rfl, o1⟩
  have s1 := h0.only0 o1
  have oA1 := hon0.trans o1
  have hb1 := hblk.only o1 (by simp)
  have c0 : w1.cell? ⟨w.heap.size, 0, none⟩ = some (.int .i64 x.frm) := hb1.cell 0
  have c1 : w1.cell? ⟨w.heap.size, 1, none⟩ = some (.int .i64 x.seq) := hb1.cell 1
  have c2 : w1.cell? ⟨w.heap.size, 2, none⟩ = some (.int .i64 x.sum) := hb1.cell 2
  clear hblk hon0 h0 o1
  cases hok : checkOkM l
  · go_wp2
    go_ret2
    exact ⟨.slice none 0 0, [], by simp [addB, hok], by rw [addL, hok]; exact Sl.nil_ _, by simp, by simp, oA1⟩
  have hlen := (checkOkM_iff.1 hok).2.2
  have HOK := Lib.hid hok
  clear hok
  go_wp2_with fail
  go_region_held3 (fun W => W.cell? ⟨w.heap.size, 0, none⟩ = some (.int .i64 x.frm) ∧ W.cell? ⟨w.heap.size, 1, none⟩ = some (.int .i64 x.seq) ∧ W.cell? ⟨w.heap.size, 2, none⟩ = some (.int .i64 x.sum))
    (first
      | exact ⟨c0, c1, c2⟩
      | exact ⟨((Only.refl [] w1.drew).alloc _).cell c0 (by simp), ((Only.refl [] w1.drew).alloc _).cell c1 (by simp), ((Only.refl [] w1.drew).alloc _).cell c2 (by simp)⟩
      | exact ⟨d0, d1, d2⟩
      | exact ⟨((Only.refl [] w2).alloc _).cell d0 (by simp), ((Only.refl [] w2).alloc _).cell d1 (by simp), ((Only.refl [] w2).alloc _).cell d2 (by simp)⟩
      | exact ⟨e0, e1, e2⟩)
    (first
      | (go_at_call 67
         refine (clone_check _ l bs _ (by first | exact s1.drewN _ | exact (s1.drewN _).alloc _) (by omega)).mono ?_
         rintro e w2 ⟨v2, bs2, rfl, s2, hb2, hn2, o2⟩
         have oB2 : Only [] w1 w2 := (by first | exact (Only.refl [] w1).drew | exact ((Only.refl [] w1).drew).alloc _ : Only [] w1 _).trans o2
         have hb2' : ∀ q ∈ bs2, w1.heap.size ≤ q := fun q hq => by have := hb2 q hq; simp at this; omega
         try have hg2 : Blk w2 w1.heap.size 34 #[.int .i64 x.frm, .int .i64 x.seq, .int .i64 x.sum] := (Blk.new w1.drew _ _).only o2 (by simp)
         have d0 := oB2.cell c0 (by simp)
         have d1 := oB2.cell c1 (by simp)
         have d2 := oB2.cell c2 (by simp)
         clear o2)
      | (rw [if_pos (by rfl)]
         first
           | refine wp_append_blk _ _ (by rfl) tyChecks (by rfl) (s2.alloc _) x w2.heap.size (Blk.new w2 _ _) (by rfl) (by omega) ?_
           | refine wp_append_blk _ _ (by rfl) tyChecks (by rfl) s2 x w1.heap.size hg2 (by rfl) (by omega) ?_
         intro v3 w3 bs3 s3 o3 hb3
         have hni : w.heap.size ∉ bs2.take 1 := fun hq => by have := hb2' _ (List.mem_of_mem_take hq); have := hb1.lt; omega
         have o3' : Only (bs2.take 1) w2 w3 := by first | exact ((Only.refl _ w2).alloc _).trans o3 | exact o3
         have oB3 : Only [] w1 w3 := oB2.trans_new o3' (fun q hq => hb2' q (List.mem_of_mem_take hq))
         have hb3' : ∀ q ∈ bs3, w.heap.size ≤ q := fun q hq => by
           have := oA1.size; have := oB2.size
           rcases hb3 q hq with h | h
           · have := hb2' q h; omega
           · (try simp at h); omega
         have e0 := o3'.cell d0 hni
         have e1 := o3'.cell d1 hni
         have e2 := o3'.cell d2 hni
         clear o3 hb3))
  all_goals
    have s4 := s1.only0 oB3
    have oA3 := oA1.trans oB3
    clear oA1 oB3 o3' oB2 d0 d1 d2 e0 e1 e2 c0 c1 c2 hb1 s1 s2 hb2 hn2 hb2' hni
    go_wp2_with fail
    refine (checkOk_any _ _ _ _ s3).mono ?_
    rintro e w4 ⟨rfl, o4⟩
    have s34 := s3.only0 o4
    have s44 := s4.only0 o4
    have oA4 := oA3.trans o4
    clear s3 s4 oA3 o4
    cases hok : checkOkM (l ++ [x])
    · have HK := Lib.hid hok
      clear hok
      go_wp2_with fail
      refine (clone_check _ l bs _ s44 (by omega)).mono ?_
      rintro e w5 ⟨v5, bs5, rfl, s5, hb5, hn5, o5⟩
      go_wp2
      go_ret2
      exact ⟨v5, bs5, by simp [addB, HOK.out, HK.out], by rw [addL, HOK.out, HK.out]; exact s5, fun q hq => by have := hb5 q hq; have := oA4.size; omega, hn5, oA4.trans o5⟩
    · have HK := Lib.hid hok
      clear hok
      go_wp2_with fail
      refine (clone_check _ (l ++ [x]) bs3 _ s34 (by simp; omega)).mono ?_
      rintro e w5 ⟨v5, bs5, rfl, s5, hb5, hn5, o5⟩
      go_wp2
      go_ret2
      exact ⟨v5, bs5, by simp [addB, HOK.out, HK.out], by rw [addL, HOK.out, HK.out]; exact s5, fun q hq => by have := hb5 q hq; have := oA4.size; omega, hn5, oA4.trans o5⟩

end Go.Proofs.Ytbhoocdongeomaa
