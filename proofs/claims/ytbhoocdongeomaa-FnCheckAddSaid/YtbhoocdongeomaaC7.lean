/- Contracts: the reference's one sum more. -/
import Derived.Test.YtbhoocdongeomaaC6
set_option linter.unusedVariables false
namespace Go.Proofs.Ytbhoocdongeomaa
open Go.ChangeShapes Go.WideShapes Go.ChangeAt Go.RowKit

set_option maxRecDepth 100000 in
set_option maxHeartbeats 1000000 in
theorem specCheckAdd_any (v : Value) (l : List Check) (bs : List Nat) (x : Check) (w : World) (h : Sl w v l bs) :
    Calls Try.prog 24 #[v, .agg #[.int .i64 x.frm, .int .i64 x.seq, .int .i64 x.sum]] w (FreshB (addL l x) (addB l x) w) := by
  obtain ⟨a, c, rfl, h1, h2⟩ := h.form
  have hM : maxLen = 9223372036854775807 := rfl
  have hblk := Blk.new w 34 #[.int .i64 x.frm, .int .i64 x.seq, .int .i64 x.sum]
  have hon0 : Only [] w (w.alloc (.cells #[.int .i64 x.frm, .int .i64 x.seq, .int .i64 x.sum] 34)) := (Only.refl _ _).alloc _
  have h0 := h.only0 hon0
  go_enter Try.func24, Try.ntmps24
  go_wp2_with fail
  refine (l15Ok_any _ l bs _ h0).mono ?_
  rintro e w1 ⟨rfl, o1⟩
  have s1 := h0.only0 o1
  have oA1 := hon0.trans o1
  have hb1 := hblk.only o1 (by simp)
  have c0 : w1.cell? ⟨w.heap.size, 0, none⟩ = some (.int .i64 x.frm) := hb1.cell 0
  have c1 : w1.cell? ⟨w.heap.size, 1, none⟩ = some (.int .i64 x.seq) := hb1.cell 1
  have c2 : w1.cell? ⟨w.heap.size, 2, none⟩ = some (.int .i64 x.sum) := hb1.cell 2
  clear hblk hon0 h0 o1
  cases hok : checkOkM l
  · go_wp2
    go_ret2
    exact ⟨.slice none 0 0, [], by simp [addB, hok], by rw [addL, hok]; exact Sl.nil_ _, by simp, by simp, oA1⟩
  have hlen := (checkOkM_iff.1 hok).2.2
  have HOK := Lib.hid hok
  clear hok
  go_wp2_with fail
  go_region_held3 (fun W => W.cell? ⟨w.heap.size, 0, none⟩ = some (.int .i64 x.frm) ∧ W.cell? ⟨w.heap.size, 1, none⟩ = some (.int .i64 x.seq) ∧ W.cell? ⟨w.heap.size, 2, none⟩ = some (.int .i64 x.sum))
    (first
      | exact ⟨c0, c1, c2⟩
      | exact ⟨((Only.refl [] w1.drew).alloc _).cell c0 (by simp), ((Only.refl [] w1.drew).alloc _).cell c1 (by simp), ((Only.refl [] w1.drew).alloc _).cell c2 (by simp)⟩
      | exact ⟨(((Only.refl [] w1.drew).alloc _).alloc _).cell c0 (by simp), (((Only.refl [] w1.drew).alloc _).alloc _).cell c1 (by simp), (((Only.refl [] w1.drew).alloc _).alloc _).cell c2 (by simp)⟩
      | exact ⟨d0, d1, d2⟩
      | exact ⟨((Only.refl [] w2).alloc _).cell d0 (by simp), ((Only.refl [] w2).alloc _).cell d1 (by simp), ((Only.refl [] w2).alloc _).cell d2 (by simp)⟩
      | exact ⟨e0, e1, e2⟩)
    (first
      | (rw [if_pos (by rfl)]
         first
           | refine wp_append_blk _ _ (by rfl) tyChecks (by rfl) (s2.alloc _) x w2.heap.size (Blk.new w2 _ _) (by rfl) (by omega) ?_
           | refine wp_append_blk _ _ (by rfl) tyChecks (by rfl) s2 x w1.heap.size hg2 (by rfl) (by omega) ?_
           | refine wp_append_blk _ _ (by rfl) tyChecks (by rfl) s2 x (w1.heap.size + 1) hg3 (by rfl) (by omega) ?_
         intro v3 w3 bs3 s3 o3 hb3
         have hni : w.heap.size ∉ bs2.take 1 := fun hq => by have := hb2' _ (List.mem_of_mem_take hq); have := hb1.lt; omega
         have o3' : Only (bs2.take 1) w2 w3 := by first | exact ((Only.refl _ w2).alloc _).trans o3 | exact o3
         have oB3 : Only [] w1 w3 := oB2.trans_new o3' (fun q hq => hb2' q (List.mem_of_mem_take hq))
         have hb3' : ∀ q ∈ bs3, w.heap.size ≤ q := fun q hq => by
           have := oA1.size; have := oB2.size
           rcases hb3 q hq with h | h
           · have := hb2' q h; omega
           · (try simp at h); omega
         have e0 := o3'.cell d0 hni
         have e1 := o3'.cell d1 hni
         have e2 := o3'.cell d2 hni
         clear o3 hb3)
      | (rw [if_pos (by rfl)]
         refine wp_append_copy _ _ (by rfl) tyChecks _ (by rfl) (s1.only0 (by repeat (first | apply Only.alloc | apply Only.drew | exact Only.refl _ _))) (by rfl) (by omega) ?_
         intro v2 w2 bs2 s2 o2 hb2 hn2
         have oB2 : Only [] w1 w2 := ((by repeat (first | apply Only.alloc | apply Only.drew | exact Only.refl _ _)) : Only [] w1 _).trans o2
         have hb2' : ∀ q ∈ bs2, w1.heap.size ≤ q := fun q hq => by have := hb2 q hq; simp at this; omega
         try have hg2 : Blk w2 w1.heap.size 34 #[.int .i64 x.frm, .int .i64 x.seq, .int .i64 x.sum] := ((Blk.new w1.drew _ _).alloc _).only o2 (by simp)
         try have hg3 : Blk w2 (w1.heap.size + 1) 34 #[.int .i64 x.frm, .int .i64 x.seq, .int .i64 x.sum] := (by have hh := (Blk.new (w1.drew.alloc _) _ _).only o2 (by simp); simpa using hh)
         have d0 := oB2.cell c0 (by simp)
         have d1 := oB2.cell c1 (by simp)
         have d2 := oB2.cell c2 (by simp)
         clear o2))
  all_goals
    have s4 := s1.only0 oB3
    have oA3 := oA1.trans oB3
    clear oA1 oB3 o3' oB2 d0 d1 d2 e0 e1 e2 c0 c1 c2 hb1 s1 s2 hb2 hn2 hb2' hni
    obtain ⟨y, hy⟩ : ∃ y, y = l ++ [x] := ⟨_, rfl⟩
    rw [← hy] at s3
    have g3 : l.length ≤ y.length := by rw [hy]; simp
    have htk : y.take l.length = l := by rw [hy]; simp
    have HY := Lib.hid hy
    have HTK := Lib.hid htk
    clear hy htk
    obtain ⟨a3, k3, rfl, g1, g2⟩ := s3.form
    go_wp2_with fail
    refine (l15Ok_any _ _ _ _ s3).mono ?_
    rintro e w4 ⟨rfl, o4⟩
    have s34 := s3.only0 o4
    have oA4 := oA3.trans o4
    clear s3 s4 oA3 o4
    cases hok : checkOkM y
    · have HK := Lib.hid hok
      obtain ⟨bs5, s5, hsub⟩ := s34.pre (j := l.length) g3
      rw [HTK.out] at s5
      clear hok
      go_wp2
      go_ret2
      exact ⟨_, bs5, by rw [addB, HOK.out, ← HY.out, HK.out]; rfl, by rw [addL, HOK.out, ← HY.out, HK.out]; exact s5, fun q hq => hb3' q (hsub.subset hq), s5.flat_bs, oA4⟩
    · have HK := Lib.hid hok
      clear hok
      go_wp2
      go_ret2
      exact ⟨_, bs3, by rw [addB, HOK.out, ← HY.out, HK.out]; rfl, by rw [addL, HOK.out, ← HY.out, HK.out]; exact s34, hb3', s34.flat_bs, oA4⟩
end Go.Proofs.Ytbhoocdongeomaa
