/- Contracts: the dice's draws. -/
import Derived.Test.YtekeefdlnfnccaaD8
set_option linter.unusedVariables false
namespace Go.Proofs.Ytekeefdlnfnccaa
open Go.ChangeShapes Go.WideShapes Go.ChangeAt Go.RowKit

theorem drawNext_any (v : Value) (l : List UInt8) (w : World) (h : RawSl w v l) (hl : l.length ≤ 1048576) :
    Calls Try.prog 21 #[v] w fun e w' => ∃ x : Int, e = .returned (.int .i64 x) ∧ Only [] w w' := by
  go_enter Try.func21, Try.ntmps21
  go_wp2_with fail
  refine (open_any v l w h hl).mono ?_
  rintro e w1 ⟨g, rfl, hg, hrd, ho⟩
  go_wp2_with fail
  refine (seed_any g 0 _ hrd (by omega)).mono ?_
  rintro e w2 ⟨_, p', rfl, ⟨x, rfl, hx1, hx2⟩, _, _, ho2⟩
  go_wp2
  go_ret
  exact ⟨x, rfl, ho.trans_new ho2 (by simpa using hg)⟩
theorem sl_lit6 (w : World) (x0 x1 x2 x3 x4 x5 : Int) : Sl (w.alloc (.cells #[.int .i64 x0, .int .i64 x1, .int .i64 x2, .int .i64 x3, .int .i64 x4, .int .i64 x5] 3)) (.slice (some ⟨w.heap.size, 0, none⟩) 6 6) [x0, x1, x2, x3, x4, x5] [w.heap.size] :=
  Sl.of_row (cur := #[.int .i64 x0, .int .i64 x1, .int .i64 x2, .int .i64 x3, .int .i64 x4, .int .i64 x5]) (vs := [.int .i64 x0, .int .i64 x1, .int .i64 x2, .int .i64 x3, .int .i64 x4, .int .i64 x5]) rfl (Nat.le_refl _) (by simp [maxLen]) (Blk.new w _ _) (by simp [Lies.size, Flat.n]) (by simp [Lies.size, Flat.n]) (RL.flat.2 ⟨rfl, rfl⟩)
theorem drawRoll_any (v : Value) (l : List UInt8) (w : World) (h : RawSl w v l) (hl : l.length ≤ 1048576) :
    Calls Try.prog 23 #[v] w fun e w' => ∃ x y : Int, e = .returned (.tuple #[.int .i64 x, .int .i64 y]) ∧ Only [] w w' := by
  go_enter Try.func23, Try.ntmps23
  go_wp2_with fail
  refine (open_any v l w h hl).mono ?_
  rintro e w1 ⟨g, rfl, hg, hrd, ho⟩
  go_wp2_with fail
  refine (seed_any g 0 _ hrd (by omega)).mono ?_
  rintro e w2 ⟨_, p', rfl, ⟨x, rfl, hx1, hx2⟩, hrd2, hp, ho2⟩
  have hs := sl_lit6 w2 1 2 6 20 0 21
  have hrd3 := hrd2.only0 ((Only.refl [] w2).alloc (.cells #[.int .i64 1, .int .i64 2, .int .i64 6, .int .i64 20, .int .i64 0, .int .i64 21] 3))
  have hlt := hrd2.lt
  go_wp2_with fail
  refine (one_any g p' _ _ _ _ hrd3 (by omega) hs (by simp) (by simp; omega) (by simp)).mono ?_
  rintro e w3 ⟨y, rfl, hy, h6, o6⟩
  go_wp2
  go_ret2
  exact ⟨x, y, rfl, ((ho.trans_new ho2 (by simpa using hg)).alloc _).trans_new o6 (by simpa using hg)⟩

set_option maxHeartbeats 1000000 in
theorem drawMix_any (v : Value) (l : List UInt8) (w : World) (h : RawSl w v l) (hl : l.length ≤ 1048576) :
    Calls Try.prog 22 #[v] w fun e w' => ∃ o : List Int, o.length ≤ 5 ∧ FreshRet o w e w' := by
  go_enter Try.func22, Try.ntmps22
  go_wp2_with fail
  refine (open_any v l w h hl).mono ?_
  rintro e w1 ⟨g, rfl, hg, hrd, ho⟩
  have hrd1 := hrd.only0 ((Only.refl [] w1).alloc (.cells #[] 3))
  have ho1 := ho.alloc (.cells #[] 3)
  go_wp2_with fail
  refine (pick_pos g 0 _ _ hrd1 (by omega) (by omega)).mono ?_
  rintro e w2 ⟨n, rfl, hn1, hn2, hrd2, ho2⟩
  obtain ⟨m, rfl⟩ := Int.eq_ofNat_of_zero_le hn1
  have hsl := Sl.nil_ (α := Int) (w := w2) (some ⟨w1.heap.size, 0, none⟩)
  have ho3 : Only [] w w2 := ho1.trans_new ho2 (by simpa using hg)
  clear ho ho1 ho2 hrd hrd1
  go_wp2_with fail
  go_loopw [4, 5] (fun out i wr => ∃ (k p : Nat) (o : List Int) (bs : List Nat), k ≤ m ∧ i = .int .i64 (k : Int) ∧ o.length + k = m ∧ p + 6 * k ≤ 100 ∧
      Sl wr out o bs ∧ (∀ q ∈ bs, g < q) ∧ Rd wr g p ∧ Only [] w wr) (fun _ i _ => (intOf i).toNat)
  case atStart => exact ⟨m, 1, [], [], Nat.le_refl _, rfl, by simp, by omega, hsl, by simp, hrd2, ho3⟩
  case round =>
    obtain ⟨k, p, o, bs, hk, rfl, hol, hp, hs, hb, hr, hon⟩ := hrel
    clear hsl ho3 hrd2
    by_cases hlt : 0 < k
    · go_wp2_with fail
      refine (seed_any g p _ hr (by omega)).mono ?_
      rintro e w3 ⟨_, p', rfl, ⟨x, rfl, hx1, hx2⟩, hr3, hp3, ho3⟩
      have hs3 := hs.only ho3 (fun q hq hq' => by have := hb q hq; have := List.mem_singleton.1 hq'; omega)
      have hon3 : Only [] w w3 := hon.trans_new ho3 (by simpa using hg)
      have hlt3 := hr3.lt
      clear hs hr ho3 hon
      go_wp2_with (at_builtin; refine wpList_append_one rfl (.tmp 15) (.tmp 18) rfl tyInts rfl hs3 x rfl (by omega) ?_; intro v' w4 bs' hs4 ho4 hb4)
      have hr4 := hr3.only ho4 (fun q hq => hb q (List.mem_of_mem_take hq))
      have hon4 : Only [] w w4 := hon3.trans_new ho4 (fun q hq => by have := hb q (List.mem_of_mem_take hq); omega)
      go_wp2
      refine ⟨⟨k - 1, p', _, bs', by omega, by congr 1; omega, ?_, by omega, hs4, ?_, hr4, hon4⟩, by simp [intOf]; omega⟩
      · simp; omega
      · intro q hq
        rcases hb4 q hq with h | h
        · exact hb q h
        · omega
    · go_wp2
      go_ret
      exact ⟨o, by omega, _, bs, rfl, hs, fun q hq => by have := hb q hq; omega, hs.flat_bs, hon⟩

set_option maxHeartbeats 1000000 in
theorem drawShuffle_any (v : Value) (l : List UInt8) (w : World) (h : RawSl w v l) (hl : l.length ≤ 1048576) :
    Calls Try.prog 30 #[v] w fun e w' => ∃ (o : List Int) (x : Int) (v : Value) (bs : List Nat), o.length ≤ 21 ∧ e = .returned (.tuple #[v, .int .i64 x]) ∧
      Sl w' v o bs ∧ (∀ b ∈ bs, w.heap.size ≤ b) ∧ Only [] w w' := by
  go_enter Try.func30, Try.ntmps30
  go_wp2_with fail
  refine (open_any v l w h hl).mono ?_
  rintro e w1 ⟨g, rfl, hg, hrd, ho⟩
  have hrd1 := hrd.only0 (((Only.refl [] w1).alloc (.cells #[] 3)).alloc (.cells #[.int .i64 0, .int .i64 1, .int .i64 2, .int .i64 5, .int .i64 20, .int .i64 21] 3))
  have ho1 := (ho.alloc (.cells #[] 3)).alloc (.cells #[.int .i64 0, .int .i64 1, .int .i64 2, .int .i64 5, .int .i64 20, .int .i64 21] 3)
  have hs6 := sl_lit6 (w1.alloc (.cells #[] 3)) 0 1 2 5 20 21
  have hlt := hrd.lt
  simp only [World.size_alloc] at hs6
  go_wp2_with fail
  refine (one_any g 0 _ _ _ _ hrd1 (by omega) hs6 (by simp) (by simp; omega) (by simp)).mono ?_
  rintro e w2 ⟨n, rfl, hn, hrd2, ho2⟩
  have hnb : 0 ≤ n ∧ n ≤ 21 := by simp at hn; omega
  obtain ⟨m, rfl⟩ := Int.eq_ofNat_of_zero_le hnb.1
  have hsl := Sl.nil_ (α := Int) (w := w2) (some ⟨w1.heap.size, 0, none⟩)
  have ho3 : Only [] w w2 := ho1.trans_new ho2 (by simpa using hg)
  clear ho ho1 ho2 hrd hrd1 hn hs6
  go_wp2_with fail
  go_loopw [5, 6] (fun out i wr => ∃ (k p : Nat) (o : List Int) (bs : List Nat), k ≤ m ∧ i = .int .i64 (k : Int) ∧ o.length + k = m ∧ p + 6 * k ≤ 500 ∧
      Sl wr out o bs ∧ (∀ q ∈ bs, g < q) ∧ Rd wr g p ∧ Only [] w wr) (fun _ i _ => (intOf i).toNat)
  case atStart => exact ⟨m, 1, [], [], Nat.le_refl _, rfl, by simp, by omega, hsl, by simp, hrd2, ho3⟩
  case round =>
    obtain ⟨k, p, o, bs, hk, rfl, hol, hp, hs, hb, hr, hon⟩ := hrel
    clear hsl ho3 hrd2
    by_cases hlt : 0 < k
    · go_wp2_with fail
      refine (pick_pos g p _ _ hr (by omega) (by omega)).mono ?_
      rintro e w3 ⟨x, rfl, hx1, hx2, hr3, ho3⟩
      have hs3 := hs.only ho3 (fun q hq hq' => by have := hb q hq; have := List.mem_singleton.1 hq'; omega)
      have hon3 : Only [] w w3 := hon.trans_new ho3 (by simpa using hg)
      have hlt3 := hr3.lt
      clear hs hr ho3 hon
      go_wp2_with (at_builtin; refine wpList_append_one rfl (.tmp 17) (.tmp 20) rfl tyInts rfl hs3 x rfl (by omega) ?_; intro v' w4 bs' hs4 ho4 hb4)
      have hr4 := hr3.only ho4 (fun q hq => hb q (List.mem_of_mem_take hq))
      have hon4 : Only [] w w4 := hon3.trans_new ho4 (fun q hq => by have := hb q (List.mem_of_mem_take hq); omega)
      go_wp2
      refine ⟨⟨k - 1, p + 1, _, bs', by omega, by congr 1; omega, ?_, by omega, hs4, ?_, hr4, hon4⟩, by simp [intOf]; omega⟩
      · simp; omega
      · intro q hq
        rcases hb4 q hq with h | h
        · exact hb q h
        · omega
    · go_wp2_with fail
      refine (seed_any g p _ hr (by omega)).mono ?_
      rintro e w3 ⟨_, p', rfl, ⟨x, rfl, hx1, hx2⟩, hr3, hp3, ho3⟩
      have hs3 := hs.only ho3 (fun q hq hq' => by have := hb q hq; have := List.mem_singleton.1 hq'; omega)
      have hon3 : Only [] w w3 := hon.trans_new ho3 (by simpa using hg)
      go_wp2
      go_ret2
      exact ⟨o, x, _, bs, by omega, rfl, hs3, fun q hq => by have := hb q hq; omega, hon3⟩
theorem drawBack_any (v : Value) (l : List UInt8) (w : World) (h : RawSl w v l) (hl : l.length ≤ 1048576) :
    Calls Try.prog 32 #[v] w fun e w' => ∃ (o : List Int) (x : Int) (v : Value) (bs : List Nat), o.length ≤ 21 ∧ e = .returned (.tuple #[v, .int .i64 x]) ∧
      Sl w' v o bs ∧ (∀ b ∈ bs, w.heap.size ≤ b) ∧ Only [] w w' := by
  go_enter Try.func32, Try.ntmps32
  go_wp2_with fail
  refine (drawShuffle_any v l w h hl).mono ?_
  rintro e w1 ⟨o, x, v', bs, ho, rfl, hs, hb, hon⟩
  go_wp2
  go_ret2
  exact ⟨o, x, v', bs, ho, rfl, hs, hb, hon⟩
end Go.Proofs.Ytekeefdlnfnccaa
