/- Contracts: what the draws draw. -/
import Derived.Test.YtekeefdlnfnccaaD7
import Derived.OpenShut
set_option linter.unusedVariables false
namespace Go.Proofs.Ytekeefdlnfnccaa
open Go.ChangeShapes Go.WideShapes Go.ChangeAt Go.RowKit

def OpenRet (w : World) (e : Ending) (w' : World) : Prop := ∃ g, e = .returned (.pointer (some ⟨g, 0, none⟩)) ∧ w.heap.size ≤ g ∧ Rd w' g 0 ∧ Only [] w w'
theorem open_any (v : Value) (l : List UInt8) (w : World) (h : RawSl w v l) (hl : l.length ≤ 1048576) :
    Calls Try.prog 37 #[v] w (OpenRet w) := by
  obtain ⟨a, c, rfl, h1, h2⟩ := h.form
  have hrd : ∀ (n c' : Nat), n ≤ l.length → n ≤ 2000 → Rd (w.alloc (.cells #[.slice a n c', .int .i64 0] 49)) w.heap.size 0 := by
    intro n c' hn hn2
    refine ⟨a, n, c', Blk.new w _ _, hn2, fun h0 => ?_⟩
    obtain ⟨b, o, rfl⟩ := h.addr (by omega)
    refine ⟨b, o, rfl, ?_, fun i hi => ?_⟩
    · obtain ⟨b', o', c', cs, e, hcl, rfl, hc⟩ := h.at_ (i := 0) (by omega)
      simp only [Value.slice.injEq, Option.some.injEq, Addr.mk.injEq, and_true] at e
      obtain ⟨⟨rfl, rfl⟩, -⟩ := e
      exact World.block_lt_of_cell? w _ (hc 0 _ rfl)
    · obtain ⟨b', o', c', cs, e, hcl, rfl, hc⟩ := h.at_ (i := i) (by omega)
      simp only [Value.slice.injEq, Option.some.injEq, Addr.mk.injEq, and_true] at e
      obtain ⟨⟨rfl, rfl⟩, -⟩ := e
      have := hc 0 _ rfl
      simp only [Raw.size, Nat.mul_one, Nat.add_zero] at this
      have hlt := l[i].toNat_lt
      exact ⟨_, by omega, ((Only.refl [] w).alloc _).cell this (by simp)⟩
  have ho : ∀ o, Only [] w (w.alloc o) := fun o => (Only.refl [] w).alloc o
  by_cases hn : 2000 < l.length
  · have hd : decide (2000 < (l.length : Int)) = true := by simp; omega
    go_enter Try.func37, Try.ntmps37
    go_wp2
    go_ret
    exact ⟨_, rfl, Nat.le_refl _, hrd 2000 c (by omega) (by omega), ho _⟩
  · have hd : decide (2000 < (l.length : Int)) = false := by simp; omega
    go_enter Try.func37, Try.ntmps37
    go_wp2
    go_ret
    exact ⟨_, rfl, Nat.le_refl _, hrd l.length c (Nat.le_refl _) (by omega), ho _⟩

/-- something was drawn: Q says what; so many bytes more were read -/
def Drawn (g p N : Nat) (Q : Value → World → Prop) (w : World) (e : Ending) (w' : World) : Prop :=
  ∃ v p', e = .returned v ∧ Q v w' ∧ Rd w' g p' ∧ p' ≤ p + N ∧ Only [g] w w'
theorem pick_pos (g p : Nat) (n : Int) (w : World) (h : Rd w g p) (hp : p ≤ 1000000000000) (hn : 1 ≤ n) :
    Calls Try.prog 38 #[.pointer (some ⟨g, 0, none⟩), .int .i64 n] w fun e w' => ∃ v : Int, e = .returned (.int .i64 v) ∧ 0 ≤ v ∧ v < n ∧ Rd w' g (p + 1) ∧ Only [g] w w' := by
  refine (pick_any g p n w h hp).mono ?_
  rintro e w' ⟨v, rfl, h1, h2, h3, h4⟩
  exact ⟨v, rfl, h1, h2 hn, h3, h4⟩
theorem one_any (g p : Nat) (v : Value) (l : List Int) (bs : List Nat) (w : World) (h : Rd w g p) (hp : p ≤ 1000000000000) (hs : Sl w v l bs) (hl : 0 < l.length) (hb : g ∉ bs) (hl2 : l.length ≤ 1000000) :
    Calls Try.prog 39 #[.pointer (some ⟨g, 0, none⟩), v] w fun e w' => ∃ x : Int, e = .returned (.int .i64 x) ∧ x ∈ l ∧ Rd w' g (p + 1) ∧ Only [g] w w' := by
  obtain ⟨a, c, rfl, h1, h2⟩ := hs.form
  obtain ⟨b, o, rfl, hm⟩ := hs.addr hl
  go_enter Try.func39, Try.ntmps39
  go_wp2_with fail
  refine (pick_pos g p _ _ h hp (by omega)).mono ?_
  rintro e w' ⟨i, rfl, hi1, hi2, hrd, ho⟩
  obtain ⟨k, rfl⟩ := Int.eq_ofNat_of_zero_le hi1
  have hc := ((hs.only ho (fun q hq hq' => hb (by simpa using (List.mem_singleton.1 hq') ▸ hq))).int_cell (i := k) (by omega)).1
  have hmem := Lib.hid (getD_mem l k (by omega))
  generalize l.getD k 0 = y at *
  go_wp2
  go_ret
  exact ⟨y, rfl, hmem.out, hrd, ho⟩
theorem sl_lit1 (w : World) (x0 : Int) : Sl (w.alloc (.cells #[.int .i64 x0] 3)) (.slice (some ⟨w.heap.size, 0, none⟩) 1 1) [x0] [w.heap.size] :=
  Sl.of_row (cur := #[.int .i64 x0]) (vs := [.int .i64 x0]) rfl (Nat.le_refl _) (by simp [maxLen]) (Blk.new w _ _) (by simp [Lies.size, Flat.n]) (by simp [Lies.size, Flat.n]) (RL.flat.2 ⟨rfl, rfl⟩)
theorem sl_lit4 (w : World) (x0 x1 x2 x3 : Int) : Sl (w.alloc (.cells #[.int .i64 x0, .int .i64 x1, .int .i64 x2, .int .i64 x3] 3)) (.slice (some ⟨w.heap.size, 0, none⟩) 4 4) [x0, x1, x2, x3] [w.heap.size] :=
  Sl.of_row (cur := #[.int .i64 x0, .int .i64 x1, .int .i64 x2, .int .i64 x3]) (vs := [.int .i64 x0, .int .i64 x1, .int .i64 x2, .int .i64 x3]) rfl (Nat.le_refl _) (by simp [maxLen]) (Blk.new w _ _) (by simp [Lies.size, Flat.n]) (by simp [Lies.size, Flat.n]) (RL.flat.2 ⟨rfl, rfl⟩)
/-- a number that may be a seed -/
def SeedV (v : Value) (_ : World) : Prop := ∃ x : Int, v = .int .i64 x ∧ -1 ≤ x ∧ x ≤ 2147483648
set_option maxHeartbeats 1000000 in
theorem seed_any (g p : Nat) (w : World) (h : Rd w g p) (hp : p ≤ 900000000000) :
    Calls Try.prog 36 #[.pointer (some ⟨g, 0, none⟩)] w (Drawn g p 6 SeedV w) := by
  go_enter Try.func36, Try.ntmps36
  go_wp2_with fail
  refine (pick_pos g _ _ _ h (by omega) (by omega)).mono ?_
  rintro e w1 ⟨x1, rfl, _, _, h1, o1⟩
  go_wp2_with fail
  refine (pick_pos g _ _ _ h1 (by omega) (by omega)).mono ?_
  rintro e w2 ⟨x2, rfl, _, _, h2, o2⟩
  go_wp2_with fail
  refine (pick_pos g _ _ _ h2 (by omega) (by omega)).mono ?_
  rintro e w3 ⟨x3, rfl, _, _, h3, o3⟩
  go_wp2_with fail
  refine (pick_pos g _ _ _ h3 (by omega) (by omega)).mono ?_
  rintro e w4 ⟨x4, rfl, _, _, h4, o4⟩
  go_wp2_with fail
  refine (pick_pos g _ _ _ h4 (by omega) (by omega)).mono ?_
  rintro e w5 ⟨x5, rfl, _, _, h5, o5⟩
  have o := (((o1.trans o2).trans o3).trans o4).trans o5
  clear o1 o2 o3 o4 o5 h1 h2 h3 h4
  by_cases hx : x5 = 0
  · subst hx
    have hs := sl_lit4 w5 (-1) 2147483648 0 2147483647
    have hrd := h5.only0 ((Only.refl [] w5).alloc (.cells #[.int .i64 (-1), .int .i64 2147483648, .int .i64 0, .int .i64 2147483647] 3))
    have hlt := h5.lt
    go_wp2_with fail
    refine (one_any g _ _ _ _ _ hrd (by omega) hs (by simp) (by simp; omega) (by simp)).mono ?_
    rintro e w6 ⟨x, rfl, hx, h6, o6⟩
    have hxb : -1 ≤ x ∧ x ≤ 2147483648 := by simp at hx; omega
    go_wp2
    go_ret
    exact ⟨_, _, rfl, ⟨x, rfl, hxb.1, hxb.2⟩, h6, by omega, (o.alloc _).trans o6⟩
  · have hx' : (x5 == 0) = false := by simpa using hx
    go_wp2
    go_ret
    exact ⟨_, _, rfl, ⟨_, rfl, by omega, by omega⟩, h5, by omega, o⟩
end Go.Proofs.Ytekeefdlnfnccaa
