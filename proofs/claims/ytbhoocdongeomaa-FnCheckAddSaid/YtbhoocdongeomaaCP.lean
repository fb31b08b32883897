/- Plain laws on sums: one more, and what is behind a place. -/
import Derived.Test.YtbhoocdongeomaaCD2
set_option linter.unusedVariables false
namespace Go.Proofs.Ytbhoocdongeomaa
open Go.ChangeShapes Go.WideShapes Go.ChangeAt Go.RowKit

theorem StRet.tri {l : List Check} {a b : Int} {f : Bool} (h : StRet l a b f) (hf : f = true) : 3 ≤ manyM l a b := by
  subst hf
  rcases h with ⟨_, ⟨_, h, _⟩ | ⟨h, _⟩⟩ | ⟨_, _, _, h⟩
  · exact h
  · cases h
  · cases h
theorem many_app (l r : List Check) (s b : Int) : manyM (l ++ r) s b = manyM l s b + manyM r s b := by unfold manyM; rw [List.countP_append]
theorem addB_again (l : List Check) (x : Check) : addB (l ++ [x]) x = false := by
  have h : checkOkM ((l ++ [x]) ++ [x]) = false := by
    cases h : checkOkM ((l ++ [x]) ++ [x])
    · rfl
    · have h2 := (checkOkM_iff.1 h).2.1
      rw [List.pairwise_append] at h2
      have := h2.2.2 x (by simp) x (by simp)
      simp [keyB] at this
  unfold addB
  rw [h, Bool.and_false]
/-- what stands goes on standing -/
def GoesOn (had : Bool) (was sum : Int) (has : Bool) (now next : Int) : Prop := had = true → has = true ∧ was ≤ now ∧ (was < now ∨ next = sum)
theorem StRet.add {l : List Check} {x : Check} {a b a' b' : Int} {f f' : Bool} (h : addB l x = true) (h1 : StRet l a b f) (h2 : StRet (l ++ [x]) a' b' f') : GoesOn f a b f' a' b' := by
  intro hf
  have hok : checkOkM l = true ∧ checkOkM (l ++ [x]) = true := by simpa [addB] using h
  have h3 := h1.tri hf
  have h4 : 3 ≤ manyM (l ++ [x]) a b := by rw [many_app]; omega
  obtain ⟨c, hc, e1, e2⟩ := many_mem (by omega : 0 < manyM (l ++ [x]) a b)
  rcases h2 with ⟨_, ⟨rfl, h5, h6⟩ | ⟨rfl, _, _, h6⟩⟩ | ⟨h7, _⟩
  · refine ⟨rfl, ?_, ?_⟩
    · by_cases hlt : a ≤ a'
      · exact hlt
      · have := h6 c hc (by omega)
        rw [e1, e2] at this; omega
    · by_cases hlt : a < a'
      · exact .inl hlt
      · have hle : ¬ a' < a := fun hh => by have := h6 c hc (by omega); rw [e1, e2] at this; omega
        have : a' = a := by omega
        subst this
        exact .inr (one_sum (checkOkM_iff.1 hok.2) h5 h4)
  · have := h6 c hc
    rw [e1, e2] at this; omega
  · rw [hok.2] at h7; cases h7
theorem okM_filter {l : List Check} (h : checkOkM l = true) (p : Check → Bool) : checkOkM (l.filter p) = true := by
  obtain ⟨h1, h2, h3⟩ := checkOkM_iff.1 h
  exact checkOkM_iff.2 ⟨fun c hc => h1 c (List.mem_filter.1 hc).1, h2.filter p, Nat.le_trans (List.length_filter_le _ _) h3⟩
theorem cutL_again {l : List Check} (h : checkOkM l = true) (s : Int) : cutL (cutL l s) s = cutL l s := by
  have e : cutL l s = l.filter (fun c => !pastB s c) := by rw [cutL, h]; rfl
  rw [e, cutL, okM_filter h]
  simp [List.filter_filter]
theorem cutL_past {l : List Check} (s : Int) : ∀ c ∈ cutL l s, s < c.seq := by
  intro c hc
  unfold cutL at hc
  split at hc
  · have := (List.mem_filter.1 hc).2
    simp [pastB] at this
    exact this
  · cases hc
theorem many_cut {l : List Check} (s : Int) {a b : Int} (ha : s < a) : manyM (l.filter (fun c => !pastB s c)) a b = manyM l a b := by
  unfold manyM
  rw [List.countP_filter]
  congr 1
  funext c
  unfold isAt pastB
  by_cases h : c.seq = a
  · have : ¬ c.seq ≤ s := by omega
    simp [this]
  · simp [h]
theorem StRet.cut {l : List Check} {s a b a' b' : Int} {f f' : Bool} (h : checkOkM l = true) (h1 : StRet l a b f) (h2 : StRet (cutL l s) a' b' f') (hf : f = true) (ha : s < a) : f' = true ∧ a' = a ∧ b' = b := by
  have e : cutL l s = l.filter (fun c => !pastB s c) := by rw [cutL, h]; rfl
  have hok := okM_filter h (fun c => !pastB s c)
  rw [e] at h2
  rcases h1 with ⟨_, ⟨rfl, h3, h4⟩ | ⟨rfl, _⟩⟩ | ⟨h7, _⟩
  · have h5 : StRet (l.filter (fun c => !pastB s c)) a b true := by
      refine .inl ⟨hok, .inl ⟨rfl, by rw [many_cut s ha]; exact h3, fun c hc hlt => ?_⟩⟩
      rw [many_cut s (by omega)]
      exact h4 c (List.mem_filter.1 hc).1 hlt
    obtain ⟨rfl, rfl, rfl⟩ := StRet.uniq h5 h2
    exact ⟨rfl, rfl, rfl⟩
  · cases hf
  · rw [h] at h7; cases h7
end Go.Proofs.Ytbhoocdongeomaa
