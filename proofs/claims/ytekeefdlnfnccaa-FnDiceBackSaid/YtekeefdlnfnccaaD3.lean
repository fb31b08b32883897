/- Contracts: the places that are swapped. -/
import Derived.Test.YtekeefdlnfnccaaD2
import Derived.Test.YtekeefdlnfnccaaI1
namespace Go.Proofs.Ytekeefdlnfnccaa
open Go.ChangeShapes Go.WideShapes Go.ChangeAt Go.RowKit

set_option maxHeartbeats 1000000 in
theorem swaps_any (n : Nat) (hn : n ≤ 20) (seed : Int) (hs : seedB seed = true) (w : World) :
    Calls Try.prog 43 #[.int .i64 n, .int .i64 seed] w (FreshRet (swapsM n seed) w) := by
  have hmk := mk_ints n (by omega)
  have hsl := Sl.made_int w n (by omega)
  have hon : Only [] w (w.alloc (.cells (madeCells #[Value.int .i64 0] n) 3)) := (Only.refl [] w).alloc _
  go_enter Try.func43, Try.ntmps43
  go_wp2
  clear hmk
  go_loopw [1, 6] (fun s i wr => ∃ (k : Nat) (sd : Int) (out : List Int), k ≤ n ∧ i = .int .i64 ((k : Int) - 1) ∧ s = .int .i64 sd ∧ seedB sd = true ∧ out.length = n ∧ fillM k sd out = swapsM n seed ∧
      Sl wr (.slice (some ⟨w.heap.size, 0, none⟩) n n) out [w.heap.size] ∧ Only [] w wr) (fun _ i _ => (intOf i + 1).toNat)
  case atStart => exact ⟨n, seed, List.replicate n 0, Nat.le_refl _, rfl, rfl, hs, by simp, rfl, hsl, hon⟩
  case round =>
    obtain ⟨k, sd, out, hk, rfl, rfl, hsd, hol, hf, hsl2, hon2⟩ := hrel
    clear hsl hon
    by_cases h1 : 1 < k
    · obtain ⟨j, rfl⟩ : ∃ j, k = j + 2 := ⟨k - 2, by omega⟩
      obtain ⟨b, o, c, hv, _, _, hc, hfz⟩ := hsl2.int_at (i := j + 1) (by omega)
      simp only [Value.slice.injEq, Option.some.injEq, Addr.mk.injEq, and_true] at hv
      obtain ⟨⟨rfl, rfl⟩, -, -⟩ := hv
      have hst := hsl2.int_set (i := j + 1) (by omega) (rollM sd (j + 2)) rfl
      simp only [Nat.zero_add] at hc hst
      have hon3 : Only [] w (wr.setCell ⟨w.heap.size, j + 1, none⟩ (.int .i64 (rollM sd (j + 2)))) := hon2.setCell (.inr (Nat.le_refl _)) _
      go_wp2_with (go_at_call 16; refine (diceRoll_yes _ _ _ hsd (inB_iff.2 (by omega))).mono ?_; rintro e w' ⟨rfl, rfl⟩)
      refine ⟨⟨j + 1, nextM sd, _, by omega, by go_num, rfl, nextM_seed _, ?_, hf, hst, hon3⟩, by simp [intOf]; omega⟩
      simpa using hol
    · go_wp2
      go_ret
      refine ⟨.slice (some ⟨w.heap.size, 0, none⟩) n n, [w.heap.size], rfl, ?_, by simp, by simp, hon2⟩
      rw [← hf, fillM_le1 k sd out (by omega)]
      exact hsl2
set_option maxHeartbeats 1000000 in
theorem picks_any (n : Nat) (hn : n ≤ 20) (seed : Int) (hs : seedB seed = true) (w : World) :
    Calls Try.prog 41 #[.int .i64 n, .int .i64 seed] w (FreshRet (swapsM n seed) w) := by
  have hmk := mk_ints n (by omega)
  have hsl := Sl.made_int w n (by omega)
  have hon : Only [] w (w.alloc (.cells (madeCells #[Value.int .i64 0] n) 3)) := (Only.refl [] w).alloc _
  go_enter Try.func41, Try.ntmps41
  go_wp2
  clear hmk
  go_loopw [1, 6] (fun s i wr => ∃ (k : Nat) (sd : Int) (out : List Int), k ≤ n ∧ i = .int .i64 ((k : Int) - 1) ∧ s = .int .i64 sd ∧ seedB sd = true ∧ out.length = n ∧ fillM k sd out = swapsM n seed ∧
      Sl wr (.slice (some ⟨w.heap.size, 0, none⟩) n n) out [w.heap.size] ∧ Only [] w wr) (fun _ i _ => (intOf i + 1).toNat)
  case atStart => exact ⟨n, seed, List.replicate n 0, Nat.le_refl _, rfl, rfl, hs, by simp, rfl, hsl, hon⟩
  case round =>
    obtain ⟨k, sd, out, hk, rfl, rfl, hsd, hol, hf, hsl2, hon2⟩ := hrel
    clear hsl hon
    by_cases h1 : 1 < k
    · obtain ⟨j, rfl⟩ : ∃ j, k = j + 2 := ⟨k - 2, by omega⟩
      obtain ⟨b, o, c, hv, _, _, hc, hfz⟩ := hsl2.int_at (i := j + 1) (by omega)
      simp only [Value.slice.injEq, Option.some.injEq, Addr.mk.injEq, and_true] at hv
      obtain ⟨⟨rfl, rfl⟩, -, -⟩ := hv
      have hst := hsl2.int_set (i := j + 1) (by omega) (rollM sd (j + 2)) rfl
      simp only [Nat.zero_add] at hc hst
      have hon3 : Only [] w (wr.setCell ⟨w.heap.size, j + 1, none⟩ (.int .i64 (rollM sd (j + 2)))) := hon2.setCell (.inr (Nat.le_refl _)) _
      go_wp2_with (go_at_call 15; refine (specDiceRoll_yes _ _ _ hsd (inB_iff.2 (by omega))).mono ?_; rintro e w' ⟨rfl, rfl⟩)
      refine ⟨⟨j + 1, nextM sd, _, by omega, by go_num, rfl, nextM_seed _, ?_, hf, hst, hon3⟩, by simp [intOf]; omega⟩
      simpa using hol
    · go_wp2
      go_ret
      refine ⟨.slice (some ⟨w.heap.size, 0, none⟩) n n, [w.heap.size], rfl, ?_, by simp, by simp, hon2⟩
      rw [← hf, fillM_le1 k sd out (by omega)]
      exact hsl2
end Go.Proofs.Ytekeefdlnfnccaa
