/- Contracts of the reader that the draws use (any seat). -/
import Derived.Test.YtbhoocdongeomaaB1
import Derived.Test.YtbhoocdongeomaaR1
import Derived.OpenShut
import Derived.Laws.BitsAllLaws
import Derived.Laws.BitsLemmas
namespace Go.Proofs.Ytbhoocdongeomaa
open Go.ChangeShapes Go.WideShapes Go.ChangeAt Go.RowKit

theorem ofInt_i64 (a : Nat) (ha : a < 9223372036854775808) : (BitVec.ofInt 64 (a : Int)).toNat = a := by
  rw [BitVec.ofInt_natCast, BitVec.toNat_ofNat]; exact Nat.mod_eq_of_lt (by omega)
theorem i64_xor_nat (a b : Nat) (ha : a < 9223372036854775808) (hb : b < 9223372036854775808) : bits .xor .i64 (a : Int) (b : Int) = ((a ^^^ b : Nat) : Int) := by
  have hx : a ^^^ b < 2 ^ 63 := Nat.xor_lt_two_pow (by omega) (by omega)
  show IntKind.i64.wrap ((BitVec.ofInt 64 (a : Int) ^^^ BitVec.ofInt 64 (b : Int)).toNat : Int) = _
  rw [BitVec.toNat_xor, ofInt_i64 a ha, ofInt_i64 b hb, IntKind.wrap_i64]
  omega
theorem xor_pos {a b : Int} (ha : 0 ≤ a ∧ a ≤ 9223372036854775807) (hb : 0 ≤ b ∧ b ≤ 9223372036854775807) : 0 ≤ bits .xor .i64 a b := by
  obtain ⟨x, rfl⟩ := Int.eq_ofNat_of_zero_le ha.1
  obtain ⟨y, rfl⟩ := Int.eq_ofNat_of_zero_le hb.1
  rw [i64_xor_nat x y (by omega) (by omega)]
  omega

theorem pick_none (g : Nat) (n : Int) (p : Nat) (w : World) (hp : p ≤ 1000000000000) (hn : n < 1)
  (hc : w.cell? ⟨g, 1, none⟩ = some (.int .i64 p)) (hf : w.frozen? ⟨g, 1, none⟩ = false) :
    Calls Try.prog 73 #[.pointer (some ⟨g, 0, none⟩), .int .i64 n] w fun e w' => e = .returned (.int .i64 0) ∧ w' = w.setCell ⟨g, 1, none⟩ (.int .i64 (p + 1)) := by
  have hn' : decide (n < 1) = true := by simp; omega
  go_enter Try.func73, Try.ntmps73
  go_wp2
  go_ret
  exact ⟨rfl, rfl⟩
theorem pick_empty (g : Nat) (n : Int) (p : Nat) (w : World) (hp : p ≤ 1000000000000) (hn : 1 ≤ n) (a : Option Addr) (c : Nat)
  (hb : w.cell? ⟨g, 0, none⟩ = some (.slice a 0 c)) 
  (hc : w.cell? ⟨g, 1, none⟩ = some (.int .i64 p)) (hf : w.frozen? ⟨g, 1, none⟩ = false) :
    Calls Try.prog 73 #[.pointer (some ⟨g, 0, none⟩), .int .i64 n] w fun e w' => e = .returned (.int .i64 0) ∧ w' = w.setCell ⟨g, 1, none⟩ (.int .i64 (p + 1)) := by
  go_enter Try.func73, Try.ntmps73
  go_wp2
  go_ret
  exact ⟨rfl, rfl⟩
theorem pick_in (g : Nat) (n : Int) (p : Nat) (w : World) (hp : p ≤ 1000000000000) (hn : 1 ≤ n) (l c b o : Nat) (x : Int)
  (hl : p < l) (hx : 0 ≤ x ∧ x ≤ 255)
  (hb : w.cell? ⟨g, 0, none⟩ = some (.slice (some ⟨b, o, none⟩) l c)) (hby : w.cell? ⟨b, o + p, none⟩ = some (.int .u8 x)) (hbg : b ≠ g)
  (hc : w.cell? ⟨g, 1, none⟩ = some (.int .i64 p)) (hf : w.frozen? ⟨g, 1, none⟩ = false) :
    Calls Try.prog 73 #[.pointer (some ⟨g, 0, none⟩), .int .i64 n] w fun e w' => e = .returned (.int .i64 (x % n)) ∧ w' = w.setCell ⟨g, 1, none⟩ (.int .i64 (p + 1)) := by
  have hn' : decide (n < 1) = false := by simp; omega
  have hl' : ((l : Int) == 0) = false := by simp; omega
  go_enter Try.func73, Try.ntmps73
  go_wp2
  go_ret
  exact ⟨rfl, rfl⟩
theorem pick_out (g : Nat) (n : Int) (p : Nat) (w : World) (hp : p ≤ 1000000000000) (hn : 1 ≤ n) (l c b o : Nat) (x y : Int)
  (hl : l ≤ p) (hl0 : 1 ≤ l) (hl2 : l ≤ 2000) (hx : 0 ≤ x ∧ x ≤ 255) (hy : 0 ≤ y ∧ y ≤ 255)
  (hb : w.cell? ⟨g, 0, none⟩ = some (.slice (some ⟨b, o, none⟩) l c)) (hbx : w.cell? ⟨b, o + p % l, none⟩ = some (.int .u8 x)) (hby : w.cell? ⟨b, o + (p * 7 + 3) % l, none⟩ = some (.int .u8 y)) (hbg : b ≠ g)
  (hc : w.cell? ⟨g, 1, none⟩ = some (.int .i64 p)) (hf : w.frozen? ⟨g, 1, none⟩ = false) :
    Calls Try.prog 73 #[.pointer (some ⟨g, 0, none⟩), .int .i64 n] w fun e w' => (∃ v : Int, e = .returned (.int .i64 v) ∧ 0 ≤ v ∧ v < n) ∧ ∃ m, w' = (w.setCell ⟨g, 1, none⟩ (.int .i64 (p + 1))).drewN m := by
  have h1 : p % l < l := Nat.mod_lt _ (by omega)
  have h2 : (p * 7 + 3) % l < l := Nat.mod_lt _ (by omega)
  have hlz : ¬ l = 0 := by omega
  have hn' : decide (n < 1) = false := by simp; omega
  have hl' : ((l : Int) == 0) = false := by simp; omega
  have hdd := IntWalk.tdiv_le (p : Int) l (by omega) (by omega)
  have hd1 : 0 ≤ (p : Int) / l ∧ (p : Int) / l ≤ p := hdd
  clear hdd
  have e1 : ((p : Int)).tmod l = (p : Int) % l := rfl
  have i1 : 0 ≤ (p : Int) % l := by omega
  have i2 : (p : Int) % l < l := by omega
  have i3 : ((p : Int) % l).toNat = p % l := by omega
  have e2 : IntKind.i64.wrap ((p : Int) * 7) = (p : Int) * 7 := IntWalk.i64_in _ (by omega)
  have e3 : IntKind.i64.wrap ((p : Int) * 7 + 3) = (p : Int) * 7 + 3 := IntWalk.i64_in _ (by omega)
  have e4 : ((p : Int) * 7 + 3).tmod l = ((p : Int) * 7 + 3) % l := rfl
  have i4 : 0 ≤ ((p : Int) * 7 + 3) % l := Int.emod_nonneg _ (by omega)
  have i5 : ((p : Int) * 7 + 3) % l < l := Int.emod_lt_of_pos _ (by omega)
  have i6 : (((p : Int) * 7 + 3) % l).toNat = (p * 7 + 3) % l := rfl
  have e5 : IntKind.i64.wrap (x * 131) = x * 131 := IntWalk.i64_in _ (by omega)
  have e6 : IntKind.i64.wrap (y * 1117) = y * 1117 := IntWalk.i64_in _ (by omega)
  have e7 : IntKind.i64.wrap (x * 131 + y * 1117) = x * 131 + y * 1117 := IntWalk.i64_in _ (by omega)
  have e8 : IntKind.i64.wrap ((p : Int) * 29) = (p : Int) * 29 := IntWalk.i64_in _ (by omega)
  have e9 : IntKind.i64.wrap (x * 131 + y * 1117 + (p : Int) * 29) = x * 131 + y * 1117 + (p : Int) * 29 := IntWalk.i64_in _ (by omega)
  have e10 : IntKind.i64.wrap ((p : Int).tdiv l) = (p : Int) / l := IntWalk.i64_quo _ _ (by omega)
  have e11 : IntKind.i64.wrap ((p : Int) / l * 53) = (p : Int) / l * 53 := IntWalk.i64_in _ (by omega)
  have e12 : IntKind.i64.wrap (x * 131 + y * 1117 + (p : Int) * 29 + (p : Int) / l * 53) = x * 131 + y * 1117 + (p : Int) * 29 + (p : Int) / l * 53 := IntWalk.i64_in _ (by omega)
  go_enter Try.func73, Try.ntmps73
  go_wp2
  go_quiet (fail)
  clear i1 i2 i3 i4 i5 i6 e1 e2 e3 e4 e5 e6 e7 e8 e9 e10 e11 e12
  go_wp2
  go_ret
  have hX : 0 ≤ x * 131 + y * 1117 + (p : Int) * 29 + (p : Int) / l * 53 ∧ x * 131 + y * 1117 + (p : Int) * 29 + (p : Int) / l * 53 ≤ 9223372036854775807 := by omega
  have hY := xor_pos hX (b := (x * 131 + y * 1117 + (p : Int) * 29 + (p : Int) / l * 53) / 64) (by omega)
  exact ⟨⟨_, rfl, Int.tmod_nonneg _ hY, Int.tmod_lt_of_pos _ (by omega)⟩, nq, rfl⟩

/-- the reader in block g, at place p -/
def Rd (w : World) (g p : Nat) : Prop :=
  ∃ a l c, Blk w g 120 #[.slice a l c, .int .i64 (p : Int)] ∧ l ≤ 2000 ∧ (0 < l → ∃ b o, a = some ⟨b, o, none⟩ ∧ b < g ∧ ∀ i, i < l → ∃ x : Int, (0 ≤ x ∧ x ≤ 255) ∧ w.cell? ⟨b, o + i, none⟩ = some (.int .u8 x))
theorem Rd.lt {w : World} {g p : Nat} (h : Rd w g p) : g < w.heap.size := by
  obtain ⟨a, l, c, hb, _⟩ := h
  exact hb.lt
theorem Rd.only {S : List Nat} {w w' : World} {g p : Nat} (h : Rd w g p) (ho : Only S w w') (hS : ∀ b ∈ S, g < b) : Rd w' g p := by
  obtain ⟨a, l, c, hb, hl, hx⟩ := h
  refine ⟨a, l, c, hb.only ho (fun hg => by have := hS g hg; omega), hl, fun h0 => ?_⟩
  obtain ⟨b, o, rfl, hbg, hc⟩ := hx h0
  refine ⟨b, o, rfl, hbg, fun i hi => ?_⟩
  obtain ⟨x, hx, hcc⟩ := hc i hi
  exact ⟨x, hx, ho.cell hcc (fun hb' => by have := hS b hb'; omega)⟩
theorem Rd.only0 {w w' : World} {g p : Nat} (h : Rd w g p) (ho : Only [] w w') : Rd w' g p := h.only ho (fun _ h => by cases h)
theorem Rd.step {w : World} {g p : Nat} (h : Rd w g p) : Rd (w.setCell ⟨g, 1, none⟩ (.int .i64 ((p : Int) + 1))) g (p + 1) := by
  obtain ⟨a, l, c, hb, hl, hx⟩ := h
  refine ⟨a, l, c, ?_, hl, fun h0 => ?_⟩
  · have := hb.set_ 1 (.int .i64 ((p : Int) + 1))
    simpa using this
  · obtain ⟨b, o, rfl, hbg, hc⟩ := hx h0
    refine ⟨b, o, rfl, hbg, fun i hi => ?_⟩
    obtain ⟨x, hx, hcc⟩ := hc i hi
    exact ⟨x, hx, by rw [World.cell?_setCell_other w ⟨g, 1, none⟩ _ _ (fun e => by simp at e <;> omega)]; exact hcc⟩
/-- what was read: a number from 0 to n-1 -/
def Picked (g p : Nat) (n : Int) (w : World) (e : Ending) (w' : World) : Prop :=
  ∃ v : Int, e = .returned (.int .i64 v) ∧ 0 ≤ v ∧ (1 ≤ n → v < n) ∧ Rd w' g (p + 1) ∧ Only [g] w w'
theorem pick_any (g p : Nat) (n : Int) (w : World) (h : Rd w g p) (hp : p ≤ 1000000000000) :
    Calls Try.prog 73 #[.pointer (some ⟨g, 0, none⟩), .int .i64 n] w (Picked g p n w) := by
  have hstep := h.step
  obtain ⟨a, l, c, hb, hl, hx⟩ := h
  have hc0 : w.cell? ⟨g, 0, none⟩ = some (.slice a l c) := hb.cell 0
  have hc1 : w.cell? ⟨g, 1, none⟩ = some (.int .i64 p) := hb.cell 1
  have hf : w.frozen? ⟨g, 1, none⟩ = false := hb.frozen 1
  have ho : Only [g] w (w.setCell ⟨g, 1, none⟩ (.int .i64 (p + 1))) := (Only.refl _ _).setCell (.inl (by simp)) _
  by_cases hn : n < 1
  · refine (pick_none g n p w hp hn hc1 hf).mono ?_
    rintro e w' ⟨rfl, rfl⟩
    exact ⟨0, rfl, by omega, by omega, hstep, ho⟩
  rcases Nat.eq_zero_or_pos l with rfl | h0
  · refine (pick_empty g n p w hp (by omega) a c hc0 hc1 hf).mono ?_
    rintro e w' ⟨rfl, rfl⟩
    exact ⟨0, rfl, by omega, by omega, hstep, ho⟩
  obtain ⟨b, o, rfl, hbg, hcc⟩ := hx h0
  by_cases hpl : p < l
  · obtain ⟨x, hx, hcx⟩ := hcc p hpl
    refine (pick_in g n p w hp (by omega) l c b o x hpl hx hc0 hcx (by omega) hc1 hf).mono ?_
    rintro e w' ⟨rfl, rfl⟩
    exact ⟨x % n, rfl, Int.emod_nonneg _ (by omega), fun _ => Int.emod_lt_of_pos _ (by omega), hstep, ho⟩
  · obtain ⟨x, hx, hcx⟩ := hcc (p % l) (Nat.mod_lt _ h0)
    obtain ⟨y, hy, hcy⟩ := hcc ((p * 7 + 3) % l) (Nat.mod_lt _ h0)
    refine (pick_out g n p w hp (by omega) l c b o x y (by omega) h0 hl hx hy hc0 hcx hcy (by omega) hc1 hf).mono ?_
    rintro e w' ⟨⟨v, rfl, h1, h2⟩, m, rfl⟩
    exact ⟨v, rfl, h1, fun _ => h2, hstep, ho.drewN m⟩
theorem getD_mem (l : List Int) (k : Nat) (h : k < l.length) : l.getD k 0 ∈ l := by
  simp [List.getD, List.getElem?_eq_getElem h]
def OpenRet (w : World) (e : Ending) (w' : World) : Prop := ∃ g, e = .returned (.pointer (some ⟨g, 0, none⟩)) ∧ w.heap.size ≤ g ∧ Rd w' g 0 ∧ Only [] w w'
theorem open_any (v : Value) (l : List UInt8) (w : World) (h : RawSl w v l) (hl : l.length ≤ 1048576) :
    Calls Try.prog 66 #[v] w (OpenRet w) := by
  obtain ⟨a, c, rfl, h1, h2⟩ := h.form
  have hrd : ∀ (n c' : Nat), n ≤ l.length → n ≤ 2000 → Rd (w.alloc (.cells #[.slice a n c', .int .i64 0] 120)) w.heap.size 0 := by
    intro n c' hn hn2
    refine ⟨a, n, c', Blk.new w _ _, hn2, fun h0 => ?_⟩
    obtain ⟨b, o, rfl⟩ := h.addr (by omega)
    refine ⟨b, o, rfl, ?_, fun i hi => ?_⟩
    · obtain ⟨b', o', c', cs, e, hcl, rfl, hc⟩ := h.at_ (i := 0) (by omega)
      simp only [Value.slice.injEq, Option.some.injEq, Addr.mk.injEq, and_true] at e
      obtain ⟨⟨rfl, rfl⟩, -⟩ := e
      exact World.block_lt_of_cell? w _ (hc 0 _ rfl)
    · obtain ⟨b', o', c', cs, e, hcl, rfl, hc⟩ := h.at_ (i := i) (by omega)
      simp only [Value.slice.injEq, Option.some.injEq, Addr.mk.injEq, and_true] at e
      obtain ⟨⟨rfl, rfl⟩, -⟩ := e
      have := hc 0 _ rfl
      simp only [Raw.size, Nat.mul_one, Nat.add_zero] at this
      have hlt := l[i].toNat_lt
      exact ⟨_, by omega, ((Only.refl [] w).alloc _).cell this (by simp)⟩
  have ho : ∀ o, Only [] w (w.alloc o) := fun o => (Only.refl [] w).alloc o
  by_cases hn : 2000 < l.length
  · have hd : decide (2000 < (l.length : Int)) = true := by simp; omega
    go_enter Try.func66, Try.ntmps66
    go_wp2
    go_ret
    exact ⟨_, rfl, Nat.le_refl _, hrd 2000 c (by omega) (by omega), ho _⟩
  · have hd : decide (2000 < (l.length : Int)) = false := by simp; omega
    go_enter Try.func66, Try.ntmps66
    go_wp2
    go_ret
    exact ⟨_, rfl, Nat.le_refl _, hrd l.length c (Nat.le_refl _) (by omega), ho _⟩

/-- something was drawn: Q says what; so many bytes more were read -/
def Drawn (g p N : Nat) (Q : Value → World → Prop) (w : World) (e : Ending) (w' : World) : Prop :=
  ∃ v p', e = .returned v ∧ Q v w' ∧ Rd w' g p' ∧ p' ≤ p + N ∧ Only [g] w w'
theorem pick_pos (g p : Nat) (n : Int) (w : World) (h : Rd w g p) (hp : p ≤ 1000000000000) (hn : 1 ≤ n) :
    Calls Try.prog 73 #[.pointer (some ⟨g, 0, none⟩), .int .i64 n] w fun e w' => ∃ v : Int, e = .returned (.int .i64 v) ∧ 0 ≤ v ∧ v < n ∧ Rd w' g (p + 1) ∧ Only [g] w w' := by
  refine (pick_any g p n w h hp).mono ?_
  rintro e w' ⟨v, rfl, h1, h2, h3, h4⟩
  exact ⟨v, rfl, h1, h2 hn, h3, h4⟩
theorem one_any (g p : Nat) (v : Value) (l : List Int) (bs : List Nat) (w : World) (h : Rd w g p) (hp : p ≤ 1000000000000) (hs : Sl w v l bs) (hl : 0 < l.length) (hb : g ∉ bs) (hl2 : l.length ≤ 1000000) :
    Calls Try.prog 92 #[.pointer (some ⟨g, 0, none⟩), v] w fun e w' => ∃ x : Int, e = .returned (.int .i64 x) ∧ x ∈ l ∧ Rd w' g (p + 1) ∧ Only [g] w w' := by
  obtain ⟨a, c, rfl, h1, h2⟩ := hs.form
  obtain ⟨b, o, rfl, hm⟩ := hs.addr hl
  go_enter Try.func92, Try.ntmps92
  go_wp2_with fail
  refine (pick_pos g p _ _ h hp (by omega)).mono ?_
  rintro e w' ⟨i, rfl, hi1, hi2, hrd, ho⟩
  obtain ⟨k, rfl⟩ := Int.eq_ofNat_of_zero_le hi1
  have hc := ((hs.only ho (fun q hq hq' => hb (by simpa using (List.mem_singleton.1 hq') ▸ hq))).int_cell (i := k) (by omega)).1
  have hmem := Lib.hid (getD_mem l k (by omega))
  generalize l.getD k 0 = y at *
  go_wp2
  go_ret
  exact ⟨y, rfl, hmem.out, hrd, ho⟩
theorem sl_lit1 (w : World) (x0 : Int) : Sl (w.alloc (.cells #[.int .i64 x0] 3)) (.slice (some ⟨w.heap.size, 0, none⟩) 1 1) [x0] [w.heap.size] :=
  Sl.of_row (cur := #[.int .i64 x0]) (vs := [.int .i64 x0]) rfl (Nat.le_refl _) (by simp [maxLen]) (Blk.new w _ _) (by simp [Lies.size, Flat.n]) (by simp [Lies.size, Flat.n]) (RL.flat.2 ⟨rfl, rfl⟩)
theorem sl_lit3 (w : World) (x0 x1 x2 : Int) : Sl (w.alloc (.cells #[.int .i64 x0, .int .i64 x1, .int .i64 x2] 3)) (.slice (some ⟨w.heap.size, 0, none⟩) 3 3) [x0, x1, x2] [w.heap.size] :=
  Sl.of_row (cur := #[.int .i64 x0, .int .i64 x1, .int .i64 x2]) (vs := [.int .i64 x0, .int .i64 x1, .int .i64 x2]) rfl (Nat.le_refl _) (by simp [maxLen]) (Blk.new w _ _) (by simp [Lies.size, Flat.n]) (by simp [Lies.size, Flat.n]) (RL.flat.2 ⟨rfl, rfl⟩)
theorem sl_lit2 (w : World) (x0 x1 : Int) : Sl (w.alloc (.cells #[.int .i64 x0, .int .i64 x1] 3)) (.slice (some ⟨w.heap.size, 0, none⟩) 2 2) [x0, x1] [w.heap.size] :=
  Sl.of_row (cur := #[.int .i64 x0, .int .i64 x1]) (vs := [.int .i64 x0, .int .i64 x1]) rfl (Nat.le_refl _) (by simp [maxLen]) (Blk.new w _ _) (by simp [Lies.size, Flat.n]) (by simp [Lies.size, Flat.n]) (RL.flat.2 ⟨rfl, rfl⟩)
theorem sl_lit4 (w : World) (x0 x1 x2 x3 : Int) : Sl (w.alloc (.cells #[.int .i64 x0, .int .i64 x1, .int .i64 x2, .int .i64 x3] 3)) (.slice (some ⟨w.heap.size, 0, none⟩) 4 4) [x0, x1, x2, x3] [w.heap.size] :=
  Sl.of_row (cur := #[.int .i64 x0, .int .i64 x1, .int .i64 x2, .int .i64 x3]) (vs := [.int .i64 x0, .int .i64 x1, .int .i64 x2, .int .i64 x3]) rfl (Nat.le_refl _) (by simp [maxLen]) (Blk.new w _ _) (by simp [Lies.size, Flat.n]) (by simp [Lies.size, Flat.n]) (RL.flat.2 ⟨rfl, rfl⟩)
end Go.Proofs.Ytbhoocdongeomaa
