/- Contracts: the last place at which three agree. -/
import Derived.Test.YtbhoocdongeomaaC3
import Derived.Test.YtbhoocdongeomaaLM
import Derived.Test.YtbhoocdongeomaaL4
set_option linter.unusedVariables false
namespace Go.Proofs.Ytbhoocdongeomaa
open Go.ChangeShapes Go.WideShapes Go.ChangeAt Go.RowKit

theorem zeroInt_Try (w : World) : (zeroValue 3).run Try.prog w = .ok (.int .i64 0) w := by kernel_rfl
/-- so many have the sum b at the place s, among the first -/
def cntB (s : Int) (l : List Check) (b : Int) : Int := (manyM l s b : Nat)
theorem cntB_snoc (s : Int) (l : List Check) (x : Check) (b : Int) : cntB s (l ++ [x]) b = if x.seq = s ∧ b = x.sum then cntB s l b + 1 else cntB s l b := by
  unfold cntB manyM
  rw [List.countP_append, List.countP_singleton]
  by_cases h : x.seq = s ∧ b = x.sum
  · rw [if_pos h, if_pos (isAt_iff.2 ⟨h.1, h.2.symm⟩)]; omega
  · rw [if_neg h, if_neg (fun hh => h ⟨(isAt_iff.1 hh).1, (isAt_iff.1 hh).2.symm⟩)]; omega
theorem many_pre (l : List Check) (k : Nat) (s b : Int) : manyM (l.take k) s b ≤ manyM l s b := List.Sublist.countP_le (List.take_sublist k l)
theorem take_snocG {α : Type} {l : List α} {k : Nat} {x : α} (h : l[k]? = some x) : l.take (k + 1) = l.take k ++ [x] := by
  rw [List.take_succ_eq_append_getElem (List.getElem?_eq_some_iff.1 h).1, (List.getElem?_eq_some_iff.1 h).2]
def St3Ret (l : List Check) (w : World) (e : Ending) (w' : World) : Prop :=
  ∃ (a b : Int) (f : Bool), e = .returned (.tuple #[.int .i64 a, .int .i64 b, .bool f]) ∧ StRet l a b f ∧ Only [] w w'

set_option maxRecDepth 100000 in
set_option maxHeartbeats 4000000 in
theorem checkStable_any (v : Value) (l : List Check) (bs : List Nat) (w : World) (h : Sl w v l bs) :
    Calls Try.prog 22 #[v] w (St3Ret l w) := by
  obtain ⟨a, c, rfl, h1, h2⟩ := h.form
  have hM : maxLen = 9223372036854775807 := rfl
  have hmm := @run_makeMap Try.prog
  have HCK := Lib.hid (checkOk_any _ l bs w h)
  cases hok : checkOkM l
  · go_enter Try.func22, Try.ntmps22
    go_wp2_with fail
    refine HCK.out.mono ?_
    rintro e w1 ⟨rfl, o1⟩
    go_wp2
    go_ret3
    exact ⟨0, 0, false, rfl, .inr ⟨hok, rfl, rfl, rfl⟩, o1⟩
  have hck := checkOkM_iff.1 hok
  have HOK := Lib.hid hok
  have hl24 := hck.2.2
  have HALL := Lib.hid hck.1
  clear hck
  go_enter Try.func22, Try.ntmps22
  go_wp2_with fail
  refine HCK.out.mono ?_
  rintro e w1 ⟨rfl, o1⟩
  clear HCK
  go_wp2_with fail
  go_loopw [5] (fun s wr => ∃ k : Nat, k ≤ 6 ∧ s = .int .i64 ((k : Int) - 1) ∧ Only [] w wr ∧ ∀ x ∈ l, (k : Int) ≤ x.seq → manyM l x.seq x.sum < 3) (fun s _ => (intOf s + 1).toNat)
  case atStart => exact ⟨6, Nat.le_refl _, rfl, o1, fun x hx hlt => by have := (oneB_bd (HALL.out x hx)).2.1; omega⟩
  case round =>
    obtain ⟨k, hk, rfl, hon, hno⟩ := hrel
    have HNO := Lib.hid hno
    clear hno o1
    by_cases hk0 : 0 < k
    · have hkd : decide ((1 : Int) ≤ (k : Int)) = true := decide_eq_true (by omega)
      obtain ⟨wo, rfl⟩ : ∃ wo : World, wo = wr := ⟨_, rfl⟩
      have hmade := CntMap.made wo Try.prog 3 3
      have hon1 : Only [] w (wo.alloc (.map #[] 0)) := hon.alloc _
      have hsz := hon.size
      go_wp2_with fail
      go_loopw [19] (fun i wr => ∃ j : Nat, j ≤ l.length ∧ i = .int .i64 (j : Int) ∧ Only [] w wr ∧ CntMap wr Try.prog 3 3 wo.heap.size j (cntB ((k : Int) - 1) (l.take j)) ∧ ∀ b, cntB ((k : Int) - 1) (l.take j) b < 3) (fun i _ => l.length - (intOf i).toNat)
      case atStart => exact ⟨0, Nat.zero_le _, rfl, hon1, hmade, fun b => by simp [cntB, manyM]⟩
      case round =>
        obtain ⟨j, hj, rfl, hon2, hmap, hlt3⟩ := hrel
        have HLT := Lib.hid hlt3
        clear hmade hon1 hlt3
        by_cases hjl : j < l.length
        · obtain ⟨b, o, rfl, _⟩ := h.addr (by omega)
          obtain ⟨x, hx, _, _, c0, c1, c2⟩ := (h.only0 hon2).check_cells hjl
          have hb := oneB_bd (HALL.out x (List.mem_of_getElem? hx))
          have HX := Lib.hid hx
          have HS := Lib.hid (take_snocG hx)
          have hmap2 := hmap.only ((Only.refl [] wr).alloc (.cells #[.int .i64 x.frm, .int .i64 x.seq, .int .i64 x.sum] 34)) (by simp)
          have hon3 : Only [] w (wr.alloc (.cells #[.int .i64 x.frm, .int .i64 x.seq, .int .i64 x.sum] 34)) := hon2.alloc _
          have hcb : 0 ≤ cntB ((k : Int) - 1) (l.take j) x.sum ∧ cntB ((k : Int) - 1) (l.take j) x.sum < 3 := ⟨by unfold cntB; omega, HLT.out _⟩
          have hblk := Blk.new wr 34 #[.int .i64 x.frm, .int .i64 x.seq, .int .i64 x.sum]
          have hltB := hmap.lt
          have hon2' := hon3
          have hB0 : w.heap.size ≤ wo.heap.size := hsz
          clear hx hon2
          by_cases hs : x.seq = (k : Int) - 1
          · have hsb : (x.seq == (k : Int) - 1) = true := by simpa using hs
            have HSS := Lib.hid hs
            clear hs
            have hcn : (CntMap wr Try.prog 3 3 wo.heap.size j (cntB ((k : Int) - 1) (l.take j))) := hmap
            clear hmap
            cases hthree : (cntB ((k : Int) - 1) (l.take j) x.sum + 1 == 3)
            all_goals
              go_wp2_with (first
                | (at_lookup; first
                    | refine wpList_cnt_lookup hmap2 rfl (.tmp 27) (.tmp 29) _ rfl Try.underlying3 Try.underlying89 Try.underlying3 zeroInt_Try rfl x.sum rfl (by omega) ?_
                    | refine wpList_cnt_lookup hmap4 rfl (.tmp 32) (.tmp 34) _ rfl Try.underlying3 Try.underlying89 Try.underlying3 zeroInt_Try rfl x.sum rfl (by omega) ?_)
                | (at_mapUpdate; refine wpList_cnt_update hmap2 rfl (.tmp 27) (.tmp 29) (.tmp 31) _ rfl Try.underlying3 Try.underlying89 Try.underlying3 rfl (by omega) x.sum (cntB ((k : Int) - 1) (l.take j) x.sum + 1) rfl rfl (by omega) (by omega) ?_
                   intro w4 hmap4 ho4
                   have hb4 := hblk.only ho4 (by simp; omega)
                   have hc4 : w4.cell? ⟨wr.heap.size, 2, none⟩ = some (.int .i64 x.sum) := hb4.cell 2))
            · refine ⟨⟨j + 1, by omega, by go_num, hon2'.trans_new ho4 (by simp; omega), ?_, ?_⟩, by simp [intOf]; omega⟩
              · have e : cntB ((k : Int) - 1) (l.take (j + 1)) = fun s => if s = x.sum then cntB ((k : Int) - 1) (l.take j) x.sum + 1 else cntB ((k : Int) - 1) (l.take j) s := by
                  funext b
                  rw [HS.out, cntB_snoc]
                  by_cases hbx : b = x.sum
                  · rw [if_pos ⟨HSS.out, hbx⟩, if_pos hbx, hbx]
                  · rw [if_neg (fun hh => hbx hh.2), if_neg hbx]
                rw [e]; exact hmap4
              · intro b
                rw [HS.out, cntB_snoc]
                split
                · rename_i hh
                  have h3 : ¬ (cntB ((k : Int) - 1) (l.take j) x.sum + 1 = 3) := by simpa using hthree
                  rw [hh.2]; omega
                · exact HLT.out b
            · go_region
              go_wp2
              go_ret3
              have h3 : cntB ((k : Int) - 1) (l.take j) x.sum + 1 = 3 := by simpa using hthree
              refine ⟨_, _, _, rfl, .inl ⟨hok, .inl ⟨rfl, ?_, fun c hc hlt => HNO.out c hc (by omega)⟩⟩, (hon2'.trans_new ho4 (by simp; omega)).drew⟩
              have e : cntB ((k : Int) - 1) (l.take (j + 1)) x.sum = 3 := by rw [HS.out, cntB_snoc, if_pos ⟨HSS.out, rfl⟩, h3]
              have := many_pre l (j + 1) ((k : Int) - 1) x.sum
              unfold cntB at e
              omega
          · have hsb : (x.seq == (k : Int) - 1) = false := by simpa using hs
            have hneq := hs
            have HSS := Lib.hid hs
            clear hs
            go_wp2
            refine ⟨⟨j + 1, by omega, by go_num, hon3, ?_, ?_⟩, by simp [intOf]; omega⟩
            · have e : cntB ((k : Int) - 1) (l.take (j + 1)) = cntB ((k : Int) - 1) (l.take j) := by
                funext b; rw [HS.out, cntB_snoc, if_neg (fun hh => hneq hh.1)]
              rw [e]
              exact hmap2.mono (by omega)
            · intro b
              rw [HS.out, cntB_snoc, if_neg (fun hh => hneq hh.1)]; exact HLT.out b
        · go_wp2
          refine ⟨⟨k - 1, by omega, by go_num, hon2, ?_⟩, by simp [intOf]; omega⟩
          intro x hx hle
          by_cases hxs : x.seq = (k : Int) - 1
          · have h4 := HLT.out x.sum
            rw [List.take_of_length_le (by omega : l.length ≤ j)] at h4
            unfold cntB at h4
            rw [hxs]; omega
          · exact HNO.out x hx (by omega)
    · go_wp2
      go_ret3
      exact ⟨0, 0, false, rfl, .inl ⟨hok, .inr ⟨rfl, rfl, rfl, fun c hc => HNO.out c hc (by have := (oneB_bd (HALL.out c hc)).2.1; omega)⟩⟩, hon⟩
end Go.Proofs.Ytbhoocdongeomaa
