/- Contracts: numbers are mixed. -/
import Derived.Test.YtekeefdlnfnccaaD6
set_option linter.unusedVariables false
namespace Go.Proofs.Ytekeefdlnfnccaa
open Go.ChangeShapes Go.WideShapes Go.ChangeAt Go.RowKit

def xorI (a b : Int) : Int := ((a.toNat ^^^ b.toNat : Nat) : Int)
theorem bits_xorI {a b : Int} (ha : 0 ≤ a ∧ a ≤ 2147483647) (hb : 0 ≤ b ∧ b ≤ 2147483647) : bits .xor .i64 a b = xorI a b := by
  obtain ⟨x, rfl⟩ := Int.eq_ofNat_of_zero_le ha.1
  obtain ⟨y, rfl⟩ := Int.eq_ofNat_of_zero_le hb.1
  rw [i64_xor_nat x y (by omega) (by omega)]
  rfl
theorem xorI_bd {a b : Int} (ha : 0 ≤ a ∧ a ≤ 2147483647) (hb : 0 ≤ b ∧ b ≤ 2147483647) : 0 ≤ xorI a b ∧ xorI a b ≤ 2147483647 := by
  have := Nat.xor_lt_two_pow (n := 31) (x := a.toNat) (y := b.toNat) (by omega) (by omega)
  unfold xorI; omega
def mixF (l : List Int) : Int := l.foldl xorI 0
theorem mixF_snoc (l : List Int) (x : Int) : mixF (l ++ [x]) = xorI (mixF l) x := by simp [mixF]
theorem mixF_bd : ∀ (l : List Int) (o : Int), (0 ≤ o ∧ o ≤ 2147483647) → (∀ x ∈ l, seedB x = true) → 0 ≤ l.foldl xorI o ∧ l.foldl xorI o ≤ 2147483647
  | [], o, h, _ => h
  | x :: l, o, h, hl => by
    rw [List.foldl_cons]
    exact mixF_bd l _ (xorI_bd h (seedB_iff.1 (hl x (by simp)))) (fun y hy => hl y (by simp [hy]))
def mixM (l : List Int) : Int := if l.all seedB = true then mixF l else -1
theorem take_getD (l : List Int) (k : Nat) (h : k < l.length) : l.take (k + 1) = l.take k ++ [l.getD k 0] := by
  rw [List.take_succ_eq_append_getElem h]; simp [List.getD, List.getElem?_eq_getElem h]
theorem getD_mem (l : List Int) (k : Nat) (h : k < l.length) : l.getD k 0 ∈ l := by
  simp [List.getD, List.getElem?_eq_getElem h]

set_option maxHeartbeats 1000000 in
theorem mix_any (v : Value) (l : List Int) (bs : List Nat) (w : World) (h : Sl w v l bs) :
    Calls Try.prog 19 #[v] w fun e w' => e = .returned (.int .i64 (mixM l)) ∧ w = w' := by
  obtain ⟨a, c, rfl, h1, h2⟩ := h.form
  have hm : maxLen = 9223372036854775807 := rfl
  go_enter Try.func19, Try.ntmps19
  go_wp2
  go_loop [3, 8] (fun s i => ∃ (k : Nat) (o : Int), k ≤ l.length ∧ i = .int .i64 (k : Int) ∧ s = .int .i64 o ∧ o = mixF (l.take k) ∧ (∀ x ∈ l.take k, seedB x = true) ∧ 0 ≤ o ∧ o ≤ 2147483647) (fun _ i => l.length - (intOf i).toNat)
  case atStart => exact ⟨0, 0, Nat.zero_le _, rfl, rfl, rfl, by simp, by omega, by omega⟩
  case round =>
    obtain ⟨k, o, hk, rfl, rfl, ho, hall, ho1, ho2⟩ := hrel
    by_cases hlt : k < l.length
    · obtain ⟨b, q, rfl, _⟩ := h.addr (by omega)
      obtain ⟨hc, _, _, hz⟩ := h.int_cell hlt
      have ht := Lib.hid (take_getD l k hlt)
      have hmem := Lib.hid (getD_mem l k hlt)
      have HO := Lib.hid ho
      clear hz ho
      generalize l.getD k 0 = y at *
      cases hy : seedB y
      · have HY := Lib.hid hy
        skip
        go_wp2_with (go_at_call 34; refine (isSeed_any _ _).mono ?_; rintro e w' ⟨rfl, rfl⟩)
        go_ret
        have e : mixM l = -1 := by
          unfold mixM
          rw [if_neg]
          intro ha
          rw [List.all_eq_true] at ha
          rw [ha y hmem.out] at hy
          cases hy
        exact ⟨by rw [e]; rfl, rfl⟩
      · have hyb := seedB_iff.1 hy
        have hb := Lib.hid (bits_xorI (a := o) (b := y) ⟨ho1, ho2⟩ hyb)
        have hbd := xorI_bd (a := o) (b := y) ⟨ho1, ho2⟩ hyb
        skip
        go_wp2_with (go_at_call 34; refine (isSeed_any _ _).mono ?_; rintro e w' ⟨rfl, rfl⟩)
        go_round
        case rel =>
          rw [hb.out]
          exact ⟨k + 1, _, by omega, by go_num, rfl, by rw [ht.out, mixF_snoc, ← HO.out], by
            rw [ht.out]
            intro x hx
            rcases List.mem_append.1 hx with hx | hx
            · exact hall x hx
            · rw [List.mem_singleton.1 hx]; exact hy, hbd.1, hbd.2⟩
        case measure => simp [intOf]; omega
    · have HO := Lib.hid ho
      clear ho
      go_wp2
      go_ret
      have ho := HO.out
      have e : l.take k = l := List.take_of_length_le (by omega)
      rw [e] at ho hall
      have e2 : mixM l = o := by
        unfold mixM
        rw [if_pos (List.all_eq_true.2 hall), ho]
      exact ⟨by rw [e2]; rfl, rfl⟩

set_option maxHeartbeats 1000000 in
theorem spec_mix_any (v : Value) (l : List Int) (bs : List Nat) (w : World) (h : Sl w v l bs) :
    Calls Try.prog 17 #[v] w fun e w' => e = .returned (.int .i64 (mixM l)) ∧ w = w' := by
  obtain ⟨a, c, rfl, h1, h2⟩ := h.form
  have hm : maxLen = 9223372036854775807 := rfl
  go_enter Try.func17, Try.ntmps17
  go_wp2
  go_loop [3, 4] (fun s i => ∃ (k : Nat) (o : Int), k ≤ l.length ∧ i = .int .i64 (k : Int) ∧ s = .int .i64 o ∧ o = mixF (l.take k) ∧ (∀ x ∈ l.take k, seedB x = true) ∧ 0 ≤ o ∧ o ≤ 2147483647) (fun _ i => l.length - (intOf i).toNat)
  case atStart => exact ⟨0, 0, Nat.zero_le _, rfl, rfl, rfl, by simp, by omega, by omega⟩
  case round =>
    obtain ⟨k, o, hk, rfl, rfl, ho, hall, ho1, ho2⟩ := hrel
    by_cases hlt : k < l.length
    · obtain ⟨b, q, rfl, _⟩ := h.addr (by omega)
      obtain ⟨hc, _, _, hz⟩ := h.int_cell hlt
      have ht := Lib.hid (take_getD l k hlt)
      have hmem := Lib.hid (getD_mem l k hlt)
      have HO := Lib.hid ho
      clear hz ho
      generalize l.getD k 0 = y at *
      cases hy : seedB y
      · have HY := Lib.hid hy
        have hyi : inB y 0 2147483647 = seedB y := rfl
        rw [hy] at hyi
        go_wp2_with (go_at_call 33; refine (l1In_any _ _ _ _).mono ?_; rintro e w' ⟨rfl, rfl⟩)
        go_ret
        have e : mixM l = -1 := by
          unfold mixM
          rw [if_neg]
          intro ha
          rw [List.all_eq_true] at ha
          rw [ha y hmem.out] at hy
          cases hy
        exact ⟨by rw [e]; rfl, rfl⟩
      · have hyb := seedB_iff.1 hy
        have hb := Lib.hid (bits_xorI (a := o) (b := y) ⟨ho1, ho2⟩ hyb)
        have hbd := xorI_bd (a := o) (b := y) ⟨ho1, ho2⟩ hyb
        have hyi : inB y 0 2147483647 = seedB y := rfl
        rw [hy] at hyi
        go_wp2_with (go_at_call 33; refine (l1In_any _ _ _ _).mono ?_; rintro e w' ⟨rfl, rfl⟩)
        go_round
        case rel =>
          rw [hb.out]
          exact ⟨k + 1, _, by omega, by go_num, rfl, by rw [ht.out, mixF_snoc, ← HO.out], by
            rw [ht.out]
            intro x hx
            rcases List.mem_append.1 hx with hx | hx
            · exact hall x hx
            · rw [List.mem_singleton.1 hx]; exact hy, hbd.1, hbd.2⟩
        case measure => simp [intOf]; omega
    · have HO := Lib.hid ho
      clear ho
      go_wp2
      go_ret
      have ho := HO.out
      have e : l.take k = l := List.take_of_length_le (by omega)
      rw [e] at ho hall
      have e2 : mixM l = o := by
        unfold mixM
        rw [if_pos (List.all_eq_true.2 hall), ho]
      exact ⟨by rw [e2]; rfl, rfl⟩
end Go.Proofs.Ytekeefdlnfnccaa
