/- Contracts: what the laws on sums draw. -/
import Derived.Test.YtbhoocdongeomaaCD
set_option linter.unusedVariables false
namespace Go.Proofs.Ytbhoocdongeomaa
open Go.ChangeShapes Go.WideShapes Go.ChangeAt Go.RowKit

set_option maxHeartbeats 1000000 in
theorem drawCheckStable_any (v : Value) (l : List UInt8) (w : World) (h : RawSl w v l) (hl : l.length ≤ 1048576) :
    Calls Try.prog 23 #[v] w fun e w' => ∃ v' y bs, e = .returned v' ∧ Sl w' v' (y : List Check) bs ∧ y.length ≤ 25 ∧ (∀ q ∈ bs, w.heap.size ≤ q) ∧ Only [] w w' := by
  go_enter Try.func23, Try.ntmps23
  go_wp2_with fail
  refine (open_any v l _ h hl).mono ?_
  rintro e w1 ⟨g, rfl, hg, hr, o1⟩
  go_wp2_with fail
  refine (l20Checks_any g 0 _ hr (by omega)).mono ?_
  rintro e w2 ⟨v2, p2, rfl, ⟨y, bs, hs, hy, hb⟩, hr2, hp2, o2⟩
  go_wp2
  go_ret
  have := o1.size
  exact ⟨_, y, bs, rfl, hs, hy, fun q hq => by have := hb q hq; omega, o1.trans_new o2 (by simpa using hg)⟩

set_option maxHeartbeats 1000000 in
theorem drawCheckCut_any (v : Value) (l : List UInt8) (w : World) (h : RawSl w v l) (hl : l.length ≤ 1048576) :
    Calls Try.prog 33 #[v] w fun e w' => ∃ v' y bs s, e = .returned (.tuple #[v', .int .i64 s]) ∧ Sl w' v' (y : List Check) bs ∧ y.length ≤ 25 ∧ (∀ q ∈ bs, w.heap.size ≤ q) ∧ (-1 ≤ s ∧ s ≤ 4) ∧ Only [] w w' := by
  go_enter Try.func33, Try.ntmps33
  go_wp2_with fail
  refine (open_any v l _ h hl).mono ?_
  rintro e w1 ⟨g, rfl, hg, hr, o1⟩
  go_wp2_with fail
  refine (l20Checks_any g 0 _ hr (by omega)).mono ?_
  rintro e w2 ⟨v2, p2, rfl, ⟨y, bs, hs, hy, hb⟩, hr2, hp2, o2⟩
  have hsz := o1.size
  have hgn : g ∉ bs := fun hh => by have := hb g hh; have := hr.lt; omega
  clear hr
  go_wp2_with fail
  refine (pick_pos g _ _ _ hr2 (by omega) (by omega)).mono ?_
  rintro e w3 ⟨x, rfl, hx0, hx1, h3, o3⟩
  have hs3 := hs.only o3 (fun z hz hz' => hgn (by simp at hz'; exact hz' ▸ hz))
  clear hs
  go_wp2
  go_ret2
  exact ⟨_, y, bs, _, rfl, hs3, hy, fun q hq => by have := hb q hq; omega, by omega, (o1.trans_new o2 (by simpa using hg)).trans_new o3 (by simpa using hg)⟩

set_option maxHeartbeats 1000000 in
theorem drawCheckAdd_any (v : Value) (l : List UInt8) (w : World) (h : RawSl w v l) (hl : l.length ≤ 1048576) :
    Calls Try.prog 29 #[v] w fun e w' => ∃ v' y bs, ∃ x : Check, e = .returned (.tuple #[v', .agg #[.int .i64 x.frm, .int .i64 x.seq, .int .i64 x.sum]]) ∧ Sl w' v' (y : List Check) bs ∧ y.length ≤ 25 ∧ (∀ q ∈ bs, w.heap.size ≤ q) ∧ Only [] w w' := by
  have hblk := Blk.new w 34 #[.int .i64 0, .int .i64 0, .int .i64 0]
  have o0 : Only [] w (w.alloc (.cells #[.int .i64 0, .int .i64 0, .int .i64 0] 34)) := (Only.refl _ w).alloc _
  have h0 := h.only o0
  obtain ⟨wa, hwa⟩ : ∃ wa, wa = w.alloc (.cells #[.int .i64 0, .int .i64 0, .int .i64 0] 34) := ⟨_, rfl⟩
  have hlt : w.heap.size < wa.heap.size := by rw [hwa]; exact hblk.lt
  rw [← hwa] at hblk o0 h0
  subst hwa
  go_enter Try.func29, Try.ntmps29
  go_wp2_with fail
  refine (open_any v l _ h0 hl).mono ?_
  rintro e w1 ⟨g, rfl, hg, hr, o1⟩
  have hb1 := hblk.only o1 (by simp)
  have oA1 := o0.trans o1
  have hgw : w.heap.size < g := Nat.lt_of_lt_of_le hlt hg
  have hsz := oA1.size
  clear hblk o0 h0 o1 hg hlt
  go_wp2_with fail
  refine (l20Checks_any g 0 _ hr (by omega)).mono ?_
  rintro e w2 ⟨v2, p2, rfl, ⟨y, bs, hs, hy, hb⟩, hr2, hp2, o2⟩
  have hgn : g ∉ bs := fun hh => by have := hb g hh; have := hr.lt; omega
  have hwn : w.heap.size ∉ bs := fun hh => by have := hb _ hh; have := hr.lt; omega
  have hb2 := hb1.only o2 (by simp; omega)
  have oA2 := oA1.trans_new o2 (by simp; omega)
  clear hb1 oA1 o2 hr
  go_wp2_with fail
  refine (l20Check_any g _ _ hr2 (by omega)).mono ?_
  rintro e w3 ⟨v3, p3, rfl, ⟨x, rfl⟩, hr3, hp3, o3⟩
  have hs3 := hs.only o3 (fun z hz hz' => hgn (by simp at hz'; exact hz' ▸ hz))
  have hb3 := hb2.only o3 (by simp; omega)
  have oA3 := oA2.trans_new o3 (by simp; omega)
  have d0 : w3.cell? ⟨w.heap.size, 0, none⟩ = some (.int .i64 0) := hb3.cell 0
  have d1 : w3.cell? ⟨w.heap.size, 1, none⟩ = some (.int .i64 0) := hb3.cell 1
  have d2 : w3.cell? ⟨w.heap.size, 2, none⟩ = some (.int .i64 0) := hb3.cell 2
  have e0 := hb3.frozen 0
  have e1 := hb3.frozen 1
  have e2 := hb3.frozen 2
  clear hs hb2 oA2 o3 hr2
  go_wp2
  have hB := ((hb3.set_ 0 (.int .i64 x.frm)).set_ 1 (.int .i64 x.seq)).set_ 2 (.int .i64 x.sum)
  have q0 : (((w3.setCell ⟨w.heap.size, 0, none⟩ (.int .i64 x.frm)).setCell ⟨w.heap.size, 1, none⟩ (.int .i64 x.seq)).setCell ⟨w.heap.size, 2, none⟩ (.int .i64 x.sum)).cell? ⟨w.heap.size, 0, none⟩ = some (.int .i64 x.frm) := hB.cell 0
  have q1 : (((w3.setCell ⟨w.heap.size, 0, none⟩ (.int .i64 x.frm)).setCell ⟨w.heap.size, 1, none⟩ (.int .i64 x.seq)).setCell ⟨w.heap.size, 2, none⟩ (.int .i64 x.sum)).cell? ⟨w.heap.size, 1, none⟩ = some (.int .i64 x.seq) := hB.cell 1
  have q2 : (((w3.setCell ⟨w.heap.size, 0, none⟩ (.int .i64 x.frm)).setCell ⟨w.heap.size, 1, none⟩ (.int .i64 x.seq)).setCell ⟨w.heap.size, 2, none⟩ (.int .i64 x.sum)).cell? ⟨w.heap.size, 2, none⟩ = some (.int .i64 x.sum) := hB.cell 2
  have hS := hs3.only (((((Only.refl [w.heap.size] w3).setCell (p := ⟨w.heap.size, 0, none⟩) (.inl (by simp)) (.int .i64 x.frm)).setCell (p := ⟨w.heap.size, 1, none⟩) (.inl (by simp)) (.int .i64 x.seq)).setCell (p := ⟨w.heap.size, 2, none⟩) (.inl (by simp)) (.int .i64 x.sum))) (fun z hz hz' => hwn (by simp at hz'; exact hz' ▸ hz))
  have hon := ((oA3.setCell (p := ⟨w.heap.size, 0, none⟩) (.inr (Nat.le_refl _)) (.int .i64 x.frm)).setCell (p := ⟨w.heap.size, 1, none⟩) (.inr (Nat.le_refl _)) (.int .i64 x.seq)).setCell (p := ⟨w.heap.size, 2, none⟩) (.inr (Nat.le_refl _)) (.int .i64 x.sum)
  obtain ⟨ay, cy, rfl, _, _⟩ := hS.form
  refine bodyPost_ret (v := .tuple #[.slice ay y.length cy, .agg #[.int .i64 x.frm, .int .i64 x.seq, .int .i64 x.sum]]) (by simp [results, Try.results29, go_sem, q0, q1, q2]) rfl ⟨_, y, bs, x, rfl, hS, hy, fun q hq => by have := hb q hq; omega, hon⟩
end Go.Proofs.Ytbhoocdongeomaa
