/- The laws on sums, walked: at one place as many as must cannot have two sums. -/
import Derived.Test.YtbhoocdongeomaaCD2
set_option linter.unusedVariables false
namespace Go.Proofs.Ytbhoocdongeomaa
open Go.ChangeShapes Go.WideShapes Go.ChangeAt Go.RowKit

theorem rev_dropG {α : Type} {l : List α} {k : Nat} {x : α} (h : l[k]? = some x) : (l.drop (k + 1)).reverse ++ [x] = (l.drop k).reverse := by
  rw [List.drop_eq_getElem_cons (List.getElem?_eq_some_iff.1 h).1, List.reverse_cons, (List.getElem?_eq_some_iff.1 h).2]
theorem many_drop {l : List Check} {k : Nat} {x : Check} (h : l[k]? = some x) (s b : Int) : manyM (l.drop k) s b = manyM (l.drop (k + 1)) s b + (if isAt s b x then 1 else 0) := by
  unfold manyM
  rw [List.drop_eq_getElem_cons (List.getElem?_eq_some_iff.1 h).1, (List.getElem?_eq_some_iff.1 h).2, List.countP_cons]
theorem StRet.three {l : List Check} {a b : Int} {f : Bool} (h : StRet l a b f) (hf : f = true) : 3 ≤ manyM l a b := by
  subst hf
  rcases h with ⟨_, ⟨_, h, _⟩ | ⟨h, _⟩⟩ | ⟨_, _, _, h⟩
  · exact h
  · cases h
  · cases h
set_option maxRecDepth 100000 in
set_option maxHeartbeats 4000000 in
theorem lawStable (v : Value) (l : List UInt8) (w : World) (h : RawSl w v l) : Calls Try.prog 5 #[v] w (BoolRet true w) := by
  obtain ⟨a, c, rfl, h1, h2⟩ := h.form
  by_cases hl : 1048576 < l.length
  · have hd : decide (1048576 < (l.length : Int)) = true := by simp; omega
    go_enter Try.func5, Try.ntmps5
    go_wp2
    go_ret
    exact ⟨rfl, Only.refl _ _⟩
  have hd : decide (1048576 < (l.length : Int)) = false := by simp; omega
  go_enter Try.func5, Try.ntmps5
  go_wp2_with fail
  refine (drawCheckStable_any _ l _ h (by omega)).mono ?_
  rintro e w1 ⟨v1, z, bs, rfl, s1, hz, hb1, o1⟩
  obtain ⟨a1, c1, rfl, h3, h4⟩ := s1.form
  clear h
  go_wp2_with fail
  refine (checkStable_any _ z bs _ s1).mono ?_
  rintro e w2 ⟨r1, r2, r3, rfl, hr1, o2⟩
  have HR := Lib.hid hr1
  have s2 := s1.only0 o2
  have oA2 := o1.trans o2
  clear hr1 s1 o1 o2
  go_wp2_with fail
  refine (specCheckStable_any _ z bs _ s2).mono ?_
  rintro e w3 ⟨q1, q2, q3, rfl, hr2, o3⟩
  obtain ⟨rfl, rfl, rfl⟩ := StRet.uniq HR.out hr2
  have s3 := s2.only0 o3
  have oA3 := oA2.trans o3
  clear hr2 s2 oA2 o3
  have hbe : (r3 == r3) = true := by simp
  go_wp2_with fail
  refine (checkOk_any _ z bs _ s3).mono ?_
  rintro e w4 ⟨rfl, o4⟩
  have s4 := s3.only0 o4
  have oA4 := oA3.trans o4
  clear s3 oA3 o4
  cases hok : checkOkM z
  · go_wp2
    go_ret
    exact ⟨rfl, oA4⟩
  have HOK := Lib.hid hok
  clear hok
  have hsl := Sl.nil_ (α := Check) (w := w4.alloc (.cells #[] 34)) (some ⟨w4.heap.size, 0, none⟩)
  have o5 := (Only.refl [] w4).alloc (.cells #[] 34)
  go_wp2_with fail
  go_loopw [10, 11, 12] (fun t n i wr => ∃ (k : Nat) (bt : List Nat), k ≤ z.length ∧ i = .int .i64 ((k : Int) - 1) ∧ n = .int .i64 (manyM (z.drop k) r1 r2 : Nat) ∧ Sl wr t (z.drop k).reverse bt ∧ (∀ q ∈ bt, w4.heap.size ≤ q) ∧ Only [] w4 wr) (fun _ _ i _ => (intOf i + 1).toNat)
  case atStart => exact ⟨z.length, [], Nat.le_refl _, rfl, by simp [manyM], by simpa using hsl, by simp, o5⟩
  case round =>
    obtain ⟨k, bt, hk, rfl, rfl, st, hbt, o6⟩ := hrel
    clear hsl o5
    have s6 := s4.only0 o6
    by_cases hlt : 0 < k
    · obtain ⟨j, rfl⟩ : ∃ j, k = j + 1 := ⟨k - 1, by omega⟩
      obtain ⟨b, q, rfl, _⟩ := s6.addr (by omega)
      obtain ⟨x, hx, _, _, c0, c1, c2⟩ := s6.check_cells (i := j) (by omega)
      have HRD := Lib.hid (rev_dropG hx)
      have HMD := Lib.hid (many_drop hx r1 r2)
      have hcl : manyM (z.drop (j + 1)) r1 r2 ≤ 25 := Nat.le_trans List.countP_le_length (by simp; omega)
      obtain ⟨y, hy⟩ : ∃ y, y = (z.drop (j + 1)).reverse := ⟨_, rfl⟩
      have hyl : y.length ≤ 25 := by rw [hy]; simp; omega
      rw [← hy] at st
      have HY := Lib.hid hy
      have hw1 := o6.size
      have HX := Lib.hid hx
      clear hy hx
      cases f1 : (x.seq == r1)
      all_goals cases f2 : (x.sum == r2)
      all_goals
        go_wp2_with (at_builtin; refine wpList_append_one rfl (.tmp 72) (.tmp 77) rfl tyChecks rfl st x rfl (by omega) ?_
                     intro v' w7 bs' hs7 ho7 hb7
                     have s7 := s6.only ho7 (fun z hz hz' => by have := s4.old z hz; have := hbt z (List.mem_of_mem_take hz'); omega)
                     obtain ⟨x', hx', _, _, c0, c1, c2⟩ := s7.check_cells (i := j) (by omega)
                     obtain rfl : x' = x := Option.some.inj (hx'.symm.trans HX.out)
                     clear hx')
        refine ⟨⟨j, bs', by omega, by go_num, ?_, ?_, ?_, o6.trans_new ho7 (fun q hq => hbt q (List.mem_of_mem_take hq))⟩, by simp [intOf]⟩
        · rw [HMD.out, isAt, f1, f2]; simp
        · rw [← HRD.out, ← HY.out]; exact hs7
        · intro z hz
          rcases hb7 z hz with h | h
          · exact hbt z h
          · omega
    · have hk0 : k = 0 := by omega
      subst hk0
      have hzr : (z.drop 0).reverse = z.reverse := by simp
      rw [hzr] at st
      have hmz : manyM (z.drop 0) r1 r2 = manyM z r1 r2 := by simp
      generalize manyM (z.drop 0) r1 r2 = m at *
      have HM := Lib.hid hmz
      obtain ⟨y, hy⟩ : ∃ y, y = z.reverse := ⟨_, rfl⟩
      rw [← hy] at st
      have hrv : StRet y r1 r2 r3 := by rw [hy]; exact HR.out.rev
      have HV := Lib.hid hrv
      clear hmz hzr hy hrv
      obtain ⟨a8, c8, rfl, h8, h9⟩ := st.form
      go_wp2_with fail
      refine (checkStable_any _ _ bt _ st).mono ?_
      rintro e w8 ⟨p1, p2, p3, rfl, hr3, o8⟩
      obtain ⟨rfl, rfl, rfl⟩ := StRet.uniq HV.out hr3
      have oE := (oA4.trans o6).trans o8
      clear hr3 oA4 o6 o8
      cases hf : r3
      · go_wp2
        go_ret
        exact ⟨rfl, oE⟩
      · have h3 := HR.out.three hf
        rw [← HM.out] at h3
        have hd3 : decide ((3 : Int) ≤ (m : Int)) = true := decide_eq_true (by omega)
        go_wp2
        go_ret
        exact ⟨rfl, oE⟩
end Go.Proofs.Ytbhoocdongeomaa
