/- Contracts: the reference's last place at which three agree. -/
import Derived.Test.YtbhoocdongeomaaC4
set_option linter.unusedVariables false
namespace Go.Proofs.Ytbhoocdongeomaa
open Go.ChangeShapes Go.WideShapes Go.ChangeAt Go.RowKit

theorem cnt_snoc (l : List Check) (x : Check) (s b : Int) : manyM (l ++ [x]) s b = manyM l s b + (if isAt s b x then 1 else 0) := by
  unfold manyM
  rw [List.countP_append, List.countP_singleton]

set_option maxRecDepth 100000 in
set_option maxHeartbeats 2000000 in
theorem l15Many_any (v : Value) (l : List Check) (bs : List Nat) (x : Check) (w : World) (h : Sl w v l bs) :
    Calls Try.prog 64 #[v, .agg #[.int .i64 x.frm, .int .i64 x.seq, .int .i64 x.sum]] w
      (fun e w' => e = .returned (.int .i64 (manyM l x.seq x.sum : Nat)) ∧ Only [] w w') := by
  obtain ⟨a, c, rfl, h1, h2⟩ := h.form
  have hm : maxLen = 9223372036854775807 := rfl
  have hblk := Blk.new w 34 #[.int .i64 x.frm, .int .i64 x.seq, .int .i64 x.sum]
  have hon0 : Only [] w (w.alloc (.cells #[.int .i64 x.frm, .int .i64 x.seq, .int .i64 x.sum] 34)) := (Only.refl _ _).alloc _
  go_enter Try.func64, Try.ntmps64
  go_wp2
  go_loopw [5, 6] (fun n i wr => ∃ (k : Nat), k ≤ l.length ∧ i = .int .i64 (k : Int) ∧ n = .int .i64 (manyM (l.take k) x.seq x.sum : Nat) ∧ Only [] w wr ∧ Blk wr w.heap.size 34 #[.int .i64 x.frm, .int .i64 x.seq, .int .i64 x.sum]) (fun n i _ => l.length - (intOf i).toNat)
  case atStart => exact ⟨0, Nat.zero_le _, rfl, rfl, hon0, hblk⟩
  case round =>
    obtain ⟨k, hk, rfl, rfl, hon, hb⟩ := hrel
    clear hon0 hblk
    by_cases hlt : k < l.length
    · obtain ⟨b, o, rfl, _⟩ := h.addr (by omega)
      obtain ⟨y, hy, _, _, c0, c1, c2⟩ := (h.only0 hon).check_cells hlt
      have d1 : wr.cell? ⟨w.heap.size, 1, none⟩ = some (.int .i64 x.seq) := hb.cell 1
      have d2 : wr.cell? ⟨w.heap.size, 2, none⟩ = some (.int .i64 x.sum) := hb.cell 2
      have hcl : manyM (l.take k) x.seq x.sum ≤ k := Nat.le_trans List.countP_le_length (by rw [List.length_take]; omega)
      have HT := Lib.hid (take_snocG hy)
      clear hy
      cases f1 : (y.seq == x.seq)
      · go_wp2_with fail
        go_quiet (fail)
        go_wp2
        refine ⟨⟨k + 1, by omega, by go_num, ?_, hon.drewN _, hb.drewN _⟩, by simp [intOf]; omega⟩
        rw [HT.out, cnt_snoc, isAt, f1]; simp
      cases f2 : (y.sum == x.sum)
      · go_wp2_with fail
        go_quiet (fail)
        go_wp2
        refine ⟨⟨k + 1, by omega, by go_num, ?_, hon.drewN _, hb.drewN _⟩, by simp [intOf]; omega⟩
        rw [HT.out, cnt_snoc, isAt, f1, f2]; simp
      · go_wp2_with fail
        go_quiet (fail)
        go_wp2
        refine ⟨⟨k + 1, by omega, by go_num, ?_, hon.drewN _, hb.drewN _⟩, by simp [intOf]; omega⟩
        rw [HT.out, cnt_snoc, isAt, f1, f2]; simp
    · go_wp2
      go_ret
      have hk2 : k = l.length := by omega
      subst hk2
      exact ⟨by simp [List.take_length], hon⟩

def InvSt (l : List Check) (k : Nat) (s b : Int) : Prop :=
  (s = -1 ∧ b = 0 ∧ ∀ c ∈ l.take k, manyM l c.seq c.sum < 3) ∨ (0 ≤ s ∧ s ≤ 5 ∧ 3 ≤ manyM l s b ∧ ∀ c ∈ l.take k, s < c.seq → manyM l c.seq c.sum < 3)
theorem InvSt.lo {l : List Check} {k : Nat} {s b : Int} (h : InvSt l k s b) : -1 ≤ s ∧ s ≤ 5 := by rcases h with ⟨h, _⟩ | ⟨h, h2, _⟩ <;> omega
theorem InvSt.skip {l : List Check} {k : Nat} {s b : Int} (h : InvSt l k s b) {x : Check} (ht : l.take (k + 1) = l.take k ++ [x]) (hx : 0 ≤ x.seq) (hno : ¬ (s < x.seq ∧ 3 ≤ manyM l x.seq x.sum)) : InvSt l (k + 1) s b := by
  unfold InvSt
  rw [ht]
  rcases h with ⟨h1, h2, h3⟩ | ⟨h1, h2, h3, h4⟩
  · refine .inl ⟨h1, h2, fun c hc => ?_⟩
    rcases List.mem_append.1 hc with hc | hc
    · exact h3 c hc
    · obtain rfl : c = x := by simpa using hc
      by_cases h5 : 3 ≤ manyM l c.seq c.sum
      · exact absurd ⟨by omega, h5⟩ hno
      · omega
  · refine .inr ⟨h1, h2, h3, fun c hc hlt => ?_⟩
    rcases List.mem_append.1 hc with hc | hc
    · exact h4 c hc hlt
    · obtain rfl : c = x := by simpa using hc
      by_cases h5 : 3 ≤ manyM l c.seq c.sum
      · exact absurd ⟨by omega, h5⟩ hno
      · omega
theorem InvSt.take {l : List Check} {k : Nat} {s b : Int} (h : InvSt l k s b) {x : Check} (ht : l.take (k + 1) = l.take k ++ [x]) (hx : 0 ≤ x.seq ∧ x.seq ≤ 5) (hgt : s < x.seq) (hm : 3 ≤ manyM l x.seq x.sum) : InvSt l (k + 1) x.seq x.sum := by
  unfold InvSt
  rw [ht]
  refine .inr ⟨hx.1, hx.2, hm, fun c hc hlt => ?_⟩
  rcases List.mem_append.1 hc with hc | hc
  · rcases h with ⟨h1, h2, h3⟩ | ⟨h1, h2, h3, h4⟩
    · exact h3 c hc
    · exact h4 c hc (by omega)
  · obtain rfl : c = x := by simpa using hc
    omega
theorem InvSt.ret {l : List Check} {s b : Int} (h : InvSt l l.length s b) : (s < 0 → StB l 0 0 false) ∧ (¬ s < 0 → StB l s b true) := by
  unfold InvSt at h
  rw [List.take_length] at h
  rcases h with ⟨rfl, rfl, h3⟩ | ⟨h1, h2, h3, h4⟩
  · exact ⟨fun _ => .inr ⟨rfl, rfl, rfl, h3⟩, fun h => absurd (by omega) h⟩
  · exact ⟨fun h => by omega, fun _ => .inl ⟨rfl, h3, h4⟩⟩

set_option maxRecDepth 100000 in
set_option maxHeartbeats 4000000 in
theorem specCheckStable_any (v : Value) (l : List Check) (bs : List Nat) (w : World) (h : Sl w v l bs) :
    Calls Try.prog 21 #[v] w (St3Ret l w) := by
  obtain ⟨a, c, rfl, h1, h2⟩ := h.form
  have hM : maxLen = 9223372036854775807 := rfl
  cases hok : checkOkM l
  · have hne : 0 < l.length := by
      cases l with
      | nil => cases hok
      | cons => simp
    go_enter Try.func21, Try.ntmps21
    go_wp2
    go_loopw [5, 6, 7] (fun s b i wr => s = .int .i64 (-1) ∧ b = .int .i64 0 ∧ i = .int .i64 0 ∧ Only [] w wr) (fun s b i _ => 0)
    case atStart => exact ⟨rfl, rfl, rfl, Only.refl _ _⟩
    case round =>
      obtain ⟨rfl, rfl, rfl, hon⟩ := hrel
      go_wp2_with fail
      refine (l15Ok_any _ l bs _ (h.only0 hon)).mono ?_
      rintro e w1 ⟨rfl, o1⟩
      go_wp2
      go_ret3
      exact ⟨0, 0, false, rfl, .inr ⟨hok, rfl, rfl, rfl⟩, hon.trans o1⟩
  have hck := checkOkM_iff.1 hok
  have HALL := Lib.hid hck.1
  have HOK := Lib.hid hok
  clear hck
  go_enter Try.func21, Try.ntmps21
  go_wp2
  go_loopw [5, 6, 7] (fun s b i wr => ∃ (s0 b0 : Int) (k : Nat), s = .int .i64 s0 ∧ b = .int .i64 b0 ∧ k ≤ l.length ∧ i = .int .i64 (k : Int) ∧ Only [] w wr ∧ InvSt l k s0 b0) (fun s b i _ => l.length - (intOf i).toNat)
  case atStart => exact ⟨-1, 0, 0, rfl, rfl, Nat.zero_le _, rfl, Only.refl _ _, .inl ⟨rfl, rfl, by simp⟩⟩
  case round =>
    obtain ⟨s, b0, k, rfl, rfl, hk, rfl, hon, hinv⟩ := hrel
    have hlo := hinv.lo
    have HI := Lib.hid hinv
    by_cases hlt : k < l.length
    · obtain ⟨b, o, rfl, _⟩ := h.addr (by omega)
      go_wp2_with fail
      refine (l15Ok_any _ l bs _ (h.only0 hon)).mono ?_
      rintro e w1 ⟨rfl, o1⟩
      rw [hok]
      have hon1 := hon.trans o1
      obtain ⟨y, hy, _, _, c0, c1, c2⟩ := (h.only0 hon1).check_cells hlt
      have HT := Lib.hid (take_snocG hy)
      have hbd := oneB_bd (HALL.out y (List.mem_of_getElem? hy))
      have HS := Lib.hid (h.only0 hon1)
      clear hy hinv o1 hon hok
      by_cases hgt : s < y.seq
      · have hgb : decide (s < y.seq) = true := decide_eq_true hgt
        cases h3 : decide ((3 : Int) ≤ (manyM l y.seq y.sum : Nat))
        · have HN := Lib.hid (of_decide_eq_false h3)
          go_wp2_with fail
          refine (l15Many_any _ l bs y _ HS.out).mono ?_
          rintro e w2 ⟨rfl, o2⟩
          go_wp2
          exact ⟨⟨s, b0, k + 1, rfl, rfl, by omega, by go_num, hon1.trans o2, HI.out.skip HT.out hbd.2.1.1 (fun hh => by have := HN.out; omega)⟩, by simp [intOf]; omega⟩
        · have HN := Lib.hid (of_decide_eq_true h3)
          go_wp2_with fail
          refine (l15Many_any _ l bs y _ HS.out).mono ?_
          rintro e w2 ⟨rfl, o2⟩
          have hon2 := hon1.trans o2
          have c1' := o2.cell c1 (by simp)
          have c2' := o2.cell c2 (by simp)
          clear c0 c1 c2 o2 hon1
          go_wp2
          exact ⟨⟨_, _, k + 1, rfl, rfl, by omega, by go_num, hon2, HI.out.take HT.out hbd.2.1 hgt (by have := HN.out; omega)⟩, by simp [intOf]; omega⟩
      · have hgb : decide (s < y.seq) = false := decide_eq_false hgt
        go_wp2
        exact ⟨⟨s, b0, k + 1, rfl, rfl, by omega, by go_num, hon1, HI.out.skip HT.out hbd.2.1.1 (fun hh => absurd hh.1 (by omega))⟩, by simp [intOf]; omega⟩
    · have hk2 : k = l.length := by omega
      subst hk2
      have hr := hinv.ret
      have HR := Lib.hid hr
      clear hr hinv
      by_cases hs : s < 0
      · go_wp2
        go_ret3
        exact ⟨0, 0, false, rfl, .inl ⟨HOK.out, HR.out.1 hs⟩, hon⟩
      · go_wp2
        go_ret3
        exact ⟨_, _, true, rfl, .inl ⟨HOK.out, HR.out.2 hs⟩, hon⟩
end Go.Proofs.Ytbhoocdongeomaa
