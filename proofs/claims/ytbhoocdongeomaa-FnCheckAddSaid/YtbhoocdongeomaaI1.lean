/- Contracts of the laws' helpers on lists of numbers. -/
import Derived.Test.YtbhoocdongeomaaR1
import Derived.Test.YtbhoocdongeomaaRows
import Derived.WalkSpells
import Derived.WalkLawsBesides
import Derived.Lib.Hide
import Derived.BigQuiet
import Derived.BigRegion
import Derived.ChangeAlike
import Derived.Outline
import Derived.Deep.QuietTactic
set_option linter.unusedVariables false
namespace Go.Proofs.Ytbhoocdongeomaa
open Go.ChangeShapes Go.WideShapes Go.ChangeAt Go.RowKit

def BoolRet (b : Bool) (w : World) (e : Ending) (w' : World) : Prop := e = .returned (.bool b) ∧ Only [] w w'

theorem tyInts : TyOk Try.prog 49 3 1 := tyOk_of (bytes := 8) (z := .int .i64 0) Try.underlying49 (by kernel_rfl) (by omega) rfl (by omega)
theorem mk_ints (n : Nat) (hn : n ≤ 274877906944) (W : World) : (Instr.makeSlice 49 (.int .i64 (n : Int)) (.int .i64 (n : Int))).run Try.prog W =
    .ok (.slice (some ⟨W.heap.size, 0, none⟩) n n) (W.alloc (.cells (madeCells (Value.int .i64 0).cells (n * 1)) 3)) :=  run_make_z Try.underlying49 (by kernel_rfl : _ = some (some (Value.int .i64 0), 1, 8)) (by omega) n hn W

theorem take_set_getD (l : List Int) (k : Nat) (out : List Int) (hk : k < l.length) (hol : out.length = l.length) (h : out.take k = l.take k) :
    (out.set k (l.getD k 0)).take (k + 1) = l.take (k + 1) := by
  rw [List.take_succ_eq_append_getElem (by simp; omega), List.take_succ_eq_append_getElem hk, List.take_set_of_le (by omega), h]
  simp [List.getD, List.getElem?_eq_getElem hk]

set_option maxHeartbeats 1000000 in
theorem toIntS_any (v : Value) (l : List Int) (w : World) (h : RawSl w v l) (hsz : l.length ≤ 1048576) :
    Calls Try.prog 78 #[v] w (FreshRet l w) := by
  obtain ⟨a, c, rfl, h1, h2⟩ := h.form
  have hmk := mk_ints l.length (by omega)
  have hsl := Sl.made_int w l.length (by omega)
  have hon : Only [] w (w.alloc (.cells (madeCells #[Value.int .i64 0] l.length) 3)) := (Only.refl [] w).alloc _
  go_enter Try.func78, Try.ntmps78
  go_wp2
  clear hmk
  go_loopw [4] (fun i wr => ∃ (k : Nat) (out : List Int), k ≤ l.length ∧ i = .int .i64 (k : Int) ∧ out.length = l.length ∧ out.take k = l.take k ∧
      Sl wr (.slice (some ⟨w.heap.size, 0, none⟩) l.length l.length) out [w.heap.size] ∧ Only [] w wr) (fun i _ => l.length - (intOf i).toNat)
  case atStart => exact ⟨0, List.replicate l.length 0, Nat.zero_le _, rfl, by simp, by simp, hsl, hon⟩
  case round =>
    obtain ⟨k, out, hk, rfl, hol, ht, hsl2, hon2⟩ := hrel
    clear hsl hon
    by_cases hlt : k < l.length
    · obtain ⟨b, o, rfl⟩ := h.addr (by omega)
      have hc1 := (h.only hon2).int_cell hlt
      obtain ⟨hc2, _, _, hz⟩ := hsl2.int_cell (i := k) (by omega)
      have hz' := hz (0 + k)
      have hst := hsl2.int_set (i := k) (by omega) (l.getD k 0) rfl
      have htk : Hid ((out.set k (l.getD k 0)).take (k + 1) = l.take (k + 1)) := take_set_getD l k out hlt hol ht
      have hon3 : Only [] w (wr.setCell ⟨w.heap.size, 0 + k, none⟩ (.int .i64 (l.getD k 0))) := hon2.setCell (.inr (Nat.le_refl _)) _
      simp only [Nat.zero_add] at hc2 hst hon3 hz'
      clear hz ht hsl2
      generalize l.getD k 0 = y at *
      go_wp2
      exact ⟨⟨k + 1, _, by omega, by go_num, by simpa using hol, htk.out, hst, hon3⟩, by simp [intOf]; omega⟩
    · go_wp2
      go_ret
      refine ⟨.slice (some ⟨w.heap.size, 0, none⟩) l.length l.length, [w.heap.size], rfl, ?_, by simp, by simp, hon2⟩
      have e : out = l := by
        have : k = l.length := by omega
        rw [this, List.take_length, ← hol, List.take_length] at ht
        exact ht
      rw [← e]
      simpa [hol] using hsl2
set_option maxHeartbeats 1000000 in
theorem eqIntS_yes (v v' : Value) (l : List Int) (bs bs' : List Nat) (w : World) (h : Sl w v l bs) (h' : Sl w v' l bs') :
    Calls Try.prog 80 #[v, v'] w (BoolRet true w) := by
  obtain ⟨a, c, rfl, h1, h2⟩ := h.form
  obtain ⟨a', c', rfl, h1', h2'⟩ := h'.form
  have hm : maxLen = 9223372036854775807 := rfl
  go_enter Try.func80, Try.ntmps80
  go_wp2
  go_loopw [5] (fun i wr => ∃ (k : Nat), k ≤ l.length ∧ i = .int .i64 (k : Int) ∧ Only [] w wr) (fun i _ => l.length - (intOf i).toNat)
  case atStart => exact ⟨0, Nat.zero_le _, rfl, Only.refl _ _⟩
  case round =>
    obtain ⟨k, hk, rfl, hon⟩ := hrel
    by_cases hlt : k < l.length
    · obtain ⟨b, o, rfl, _⟩ := h.addr (by omega)
      obtain ⟨b', o', rfl, _⟩ := h'.addr (by omega)
      have hc1 := ((h.only0 hon).int_cell hlt).1
      have hc2 := ((h'.only0 hon).int_cell hlt).1
      generalize l.getD k 0 = y at *
      go_wp2
      go_region
      go_wp2
      exact ⟨⟨k + 1, by omega, by go_num, hon.drew⟩, by simp [intOf]; omega⟩
    · go_wp2
      go_ret
      exact ⟨rfl, hon⟩
set_option maxHeartbeats 1000000 in
theorem wpInts_yes (v v' : Value) (l : List Int) (bs bs' : List Nat) (w : World) (h : Sl w v l bs) (h' : Sl w v' l bs') :
    Calls Try.prog 45 #[v, v'] w (BoolRet true w) := by
  obtain ⟨a, c, rfl, h1, h2⟩ := h.form
  obtain ⟨a', c', rfl, h1', h2'⟩ := h'.form
  have hm : maxLen = 9223372036854775807 := rfl
  go_enter Try.func45, Try.ntmps45
  go_wp2
  go_loopw [5] (fun i wr => ∃ (k : Nat), k ≤ l.length ∧ i = .int .i64 (k : Int) ∧ Only [] w wr) (fun i _ => l.length - (intOf i).toNat)
  case atStart => exact ⟨0, Nat.zero_le _, rfl, Only.refl _ _⟩
  case round =>
    obtain ⟨k, hk, rfl, hon⟩ := hrel
    by_cases hlt : k < l.length
    · obtain ⟨b, o, rfl, _⟩ := h.addr (by omega)
      obtain ⟨b', o', rfl, _⟩ := h'.addr (by omega)
      have hc1 := ((h.only0 hon).int_cell hlt).1
      have hc2 := ((h'.only0 hon).int_cell hlt).1
      generalize l.getD k 0 = y at *
      go_wp2
      go_region
      go_wp2
      exact ⟨⟨k + 1, by omega, by go_num, hon.drew⟩, by simp [intOf]; omega⟩
    · go_wp2
      go_ret
      exact ⟨rfl, hon⟩

def marksM (k n : Nat) : List Int := (List.range n).map fun i => ((k + i : Nat) : Int)
theorem marksM_len (k n : Nat) : (marksM k n).length = n := by simp [marksM]
theorem marksM_get (k n i : Nat) (h : i < n) : (marksM k n).getD i 0 = (k : Int) + i := by
  rw [List.getD, List.getElem?_eq_getElem (by simpa [marksM] using h)]
  simp [marksM]
theorem marksM_succ (k n : Nat) : marksM k (n + 1) = marksM k n ++ [(k : Int) + n] := by
  simp [marksM, List.range_succ]
theorem marks_step (l out : List Int) (k i : Nat) (hi : i < l.length) (hol : out.length = l.length) (h : out.take i = marksM k i) :
    (out.set i ((k : Int) + i)).take (i + 1) = marksM k (i + 1) := by
  rw [List.take_succ_eq_append_getElem (by simp; omega), List.take_set_of_le (by omega), h, marksM_succ]
  simp

/-- marked -/
def MarkRet (v : Value) (k : Nat) (l : List Int) (bs : List Nat) (w : World) (e : Ending) (w' : World) : Prop :=
  e = .returned (.int .i64 ((k : Int) + l.length)) ∧ Sl w' v (marksM k l.length) bs ∧ Only bs w w'
set_option maxHeartbeats 1000000 in
theorem markIntS_any (v : Value) (l : List Int) (bs : List Nat) (k : Nat) (w : World) (h : Sl w v l bs) (hk : k + l.length ≤ 1000000000000) :
    Calls Try.prog 88 #[v, .int .i64 k] w (MarkRet v k l bs w) := by
  obtain ⟨a, c, rfl, h1, h2⟩ := h.form
  go_enter Try.func88, Try.ntmps88
  go_wp2
  go_loopw [1, 5] (fun s i wr => ∃ (n : Nat) (out : List Int), n ≤ l.length ∧ i = .int .i64 (n : Int) ∧ s = .int .i64 ((k : Int) + n) ∧ out.length = l.length ∧ out.take n = marksM k n ∧
      Sl wr (.slice a l.length c) out bs ∧ Only bs w wr) (fun _ i _ => l.length - (intOf i).toNat)
  case atStart => exact ⟨0, l, Nat.zero_le _, rfl, by simp, rfl, by simp [marksM], h, Only.refl _ _⟩
  case round =>
    obtain ⟨n, out, hn, rfl, rfl, hol, ht, hsl2, hon2⟩ := hrel
    by_cases hlt : n < l.length
    · obtain ⟨b, o, rfl, hb⟩ := hsl2.addr (by omega)
      obtain ⟨hc2, _, _, hz⟩ := hsl2.int_cell (i := n) (by omega)
      have hz' := hz (o + n)
      have hst := hsl2.int_set (i := n) (by omega) ((k : Int) + n) rfl
      have htk := Lib.hid (marks_step l out k n hlt hol ht)
      have hon3 : Only bs w (wr.setCell ⟨b, o + n, none⟩ (.int .i64 ((k : Int) + n))) := hon2.setCell (.inl hb) _
      clear hz ht hsl2
      go_wp2
      exact ⟨⟨n + 1, _, by omega, by go_num, by go_num, by simpa using hol, htk.out, hst, hon3⟩, by simp [intOf]; omega⟩
    · go_wp2
      go_ret
      have hnl : n = l.length := by omega
      have e : out = marksM k l.length := by
        rw [hnl] at ht
        rw [← ht, ← hol, List.take_length]
      refine ⟨by rw [hnl]; rfl, ?_, hon2⟩
      rw [← e]
      exact hsl2
set_option maxHeartbeats 1000000 in
theorem heldIntS_any (v : Value) (m : Nat) (bs : List Nat) (k : Nat) (w : World) (h : Sl w v (marksM k m) bs) (hk : k + m ≤ 1000000000000) :
    Calls Try.prog 90 #[v, .int .i64 k] w fun e w' => e = .returned (.int .i64 ((k : Int) + m)) ∧ w = w' := by
  obtain ⟨a, c, rfl, h1, h2⟩ := h.form
  have hml := marksM_len k m
  rw [hml] at h1
  go_enter Try.func90, Try.ntmps90
  go_wp2
  go_loop [1, 5] (fun s i => ∃ (n : Nat), n ≤ m ∧ i = .int .i64 (n : Int) ∧ s = .int .i64 ((k : Int) + n)) (fun _ i => m - (intOf i).toNat)
  case atStart => exact ⟨0, Nat.zero_le _, rfl, by simp⟩
  case round =>
    obtain ⟨n, hn, rfl, rfl⟩ := hrel
    by_cases hlt : n < m
    · obtain ⟨b, o, rfl, hb⟩ := h.addr (by omega)
      obtain ⟨hc2, _, _, hz⟩ := h.int_cell (i := n) (by omega)
      rw [marksM_get k m n hlt] at hc2
      clear hz
      go_wp2
      go_round
      case rel => exact ⟨n + 1, by omega, by go_num, by go_num⟩
      case measure => simp [intOf]; omega
    · go_wp2
      go_ret
      have hnl : n = m := by omega
      exact ⟨by rw [hnl]; rfl, rfl⟩
end Go.Proofs.Ytbhoocdongeomaa
