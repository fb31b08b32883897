/- Sums that stand: plain facts on lists. -/
import Derived.Test.YtbhoocdongeomaaC2
set_option linter.unusedVariables false
namespace Go.Proofs.Ytbhoocdongeomaa

theorem keyB_iff {d c : Check} : keyB d c = true ↔ d.frm = c.frm ∧ d.seq = c.seq := by simp [keyB]
theorem keyB_no {d c : Check} : keyB d c = false ↔ ¬ (d.frm = c.frm ∧ d.seq = c.seq) := by rw [← keyB_iff]; simp
theorem okFrom_iff : ∀ (l done : List Check), okFrom done l = true ↔ (∀ c ∈ l, oneB c = true) ∧ (∀ c ∈ l, ∀ d ∈ done, keyB d c = false) ∧ l.Pairwise (fun a b => keyB a b = false)
  | [], done => by simp [okFrom]
  | c :: r, done => by
    rw [okFrom, Bool.and_eq_true, Bool.and_eq_true, okFrom_iff r (done ++ [c])]
    simp only [Bool.not_eq_true', List.any_eq_false, Bool.not_eq_true, List.mem_append, List.mem_cons, List.not_mem_nil, or_false, List.pairwise_cons]
    constructor
    · rintro ⟨⟨h1, h2⟩, h3, h4, h5⟩
      refine ⟨?_, ?_, ?_, h5⟩
      · rintro x (rfl | hx)
        · exact h1
        · exact h3 x hx
      · rintro x (rfl | hx) d hd
        · exact h2 d hd
        · exact h4 x hx d (.inl hd)
      · intro x hx
        exact h4 x hx c (.inr rfl)
    · rintro ⟨h1, h2, h3, h5⟩
      refine ⟨⟨h1 c (.inl rfl), fun d hd => h2 c (.inl rfl) d hd⟩, fun x hx => h1 x (.inr hx), ?_, h5⟩
      rintro x hx d (hd | rfl)
      · exact h2 x (.inr hx) d hd
      · exact h3 x hx
def ChkOk (l : List Check) : Prop := (∀ c ∈ l, oneB c = true) ∧ l.Pairwise (fun a b => keyB a b = false) ∧ l.length ≤ 24
theorem checkOkM_iff {l : List Check} : checkOkM l = true ↔ ChkOk l := by
  unfold checkOkM ChkOk
  rw [Bool.and_eq_true, okFrom_iff]
  simp [and_assoc]
theorem oneB_bd {c : Check} (h : oneB c = true) : (0 ≤ c.frm ∧ c.frm ≤ 3) ∧ (0 ≤ c.seq ∧ c.seq ≤ 5) ∧ (0 ≤ c.sum ∧ c.sum ≤ 4294967295) := by
  simp only [oneB, Bool.and_eq_true, inB_iff] at h
  exact ⟨h.1.1, h.1.2, h.2⟩
theorem keyB_comm (a b : Check) : keyB a b = keyB b a := by
  unfold keyB; rw [Bool.beq_comm (a := a.frm), Bool.beq_comm (a := a.seq)]
theorem ChkOk.rev {l : List Check} (h : ChkOk l) : ChkOk l.reverse := by
  refine ⟨fun c hc => h.1 c (List.mem_reverse.1 hc), ?_, by simpa using h.2.2⟩
  rw [List.pairwise_reverse]
  exact h.2.1.imp (fun {a b} hab => by rw [keyB_comm]; exact hab)
theorem checkOkM_rev (l : List Check) : checkOkM l.reverse = checkOkM l := by
  rw [Bool.eq_iff_iff, checkOkM_iff, checkOkM_iff]
  exact ⟨fun h => by simpa using h.rev, ChkOk.rev⟩
def isAt (s b : Int) (c : Check) : Bool := c.seq == s && c.sum == b
def manyM (l : List Check) (s b : Int) : Nat := l.countP (isAt s b)
theorem isAt_iff {s b : Int} {c : Check} : isAt s b c = true ↔ c.seq = s ∧ c.sum = b := by simp [isAt]
theorem manyM_rev (l : List Check) (s b : Int) : manyM l.reverse s b = manyM l s b := by simp [manyM, List.countP_reverse]
/-- a keeper has one sum at a place -/
theorem frm_one : ∀ (l : List Check), l.Pairwise (fun a b => keyB a b = false) → ∀ f s : Int, l.countP (fun c => c.frm == f && c.seq == s) ≤ 1
  | [], _, _, _ => by simp
  | c :: r, h, f, s => by
    obtain ⟨h1, h2⟩ := List.pairwise_cons.1 h
    have ih := frm_one r h2 f s
    rw [List.countP_cons]
    split
    · rename_i hc
      simp only [Bool.and_eq_true, beq_iff_eq] at hc
      have : r.countP (fun c => c.frm == f && c.seq == s) = 0 := by
        rw [List.countP_eq_zero]
        intro d hd hd2
        simp only [Bool.and_eq_true, beq_iff_eq] at hd2
        have := keyB_no.1 (h1 d hd)
        exact this ⟨hc.1.trans hd2.1.symm, hc.2.trans hd2.2.symm⟩
      omega
    · omega
theorem seq_four (l : List Check) (h : ChkOk l) (s : Int) : l.countP (fun c => c.seq == s) ≤ 4 := by
  have key : ∀ l : List Check, (∀ c ∈ l, oneB c = true) → l.countP (fun c => c.seq == s) = l.countP (fun c => c.frm == 0 && c.seq == s) + l.countP (fun c => c.frm == 1 && c.seq == s) +
      l.countP (fun c => c.frm == 2 && c.seq == s) + l.countP (fun c => c.frm == 3 && c.seq == s) := by
    intro l
    induction l with
    | nil => intro _; simp
    | cons c r ih =>
      intro hl
      have hb := (oneB_bd (hl c (by simp))).1
      have ih := ih (fun d hd => hl d (by simp [hd]))
      simp only [List.countP_cons, ih]
      have hf : c.frm = 0 ∨ c.frm = 1 ∨ c.frm = 2 ∨ c.frm = 3 := by omega
      by_cases hs : c.seq = s
      · rcases hf with e | e | e | e <;> simp [e, hs] <;> omega
      · simp [hs]
  rw [key l h.1]
  have := frm_one l h.2.1 0 s
  have := frm_one l h.2.1 1 s
  have := frm_one l h.2.1 2 s
  have := frm_one l h.2.1 3 s
  omega
theorem many_two (l : List Check) (s b b' : Int) (hb : b ≠ b') : manyM l s b + manyM l s b' ≤ l.countP (fun c => c.seq == s) := by
  unfold manyM
  induction l with
  | nil => simp
  | cons c r ih =>
    simp only [List.countP_cons, isAt]
    by_cases hs : c.seq = s
    · by_cases h1 : c.sum = b
      · have h2 : ¬ c.sum = b' := fun e => hb (h1.symm.trans e)
        simp [hs, h1, hb]; omega
      · by_cases h2 : c.sum = b'
        · simp [hs, h2, Ne.symm hb]; omega
        · simp [hs, h1, h2]; omega
    · simp [hs]; exact ih
theorem one_sum {l : List Check} (h : ChkOk l) {s b b' : Int} (h1 : 3 ≤ manyM l s b) (h2 : 3 ≤ manyM l s b') : b = b' := by
  rcases Int.lt_trichotomy b b' with hlt | rfl | hlt
  · have := many_two l s b b' (by omega); have := seq_four l h s; omega
  · rfl
  · have := many_two l s b b' (by omega); have := seq_four l h s; omega
/-- (a, b, f): the last place at which three have one sum, and that sum -/
def StB (l : List Check) (a b : Int) (f : Bool) : Prop :=
  (f = true ∧ 3 ≤ manyM l a b ∧ ∀ c ∈ l, a < c.seq → manyM l c.seq c.sum < 3) ∨ (f = false ∧ a = 0 ∧ b = 0 ∧ ∀ c ∈ l, manyM l c.seq c.sum < 3)
theorem many_mem {l : List Check} {s b : Int} (h : 0 < manyM l s b) : ∃ c ∈ l, c.seq = s ∧ c.sum = b := by
  obtain ⟨c, hc, hp⟩ := List.countP_pos_iff.1 h
  exact ⟨c, hc, isAt_iff.1 hp⟩
theorem StB.uniq {l : List Check} (h : ChkOk l) {a b a' b' : Int} {f f' : Bool} (h1 : StB l a b f) (h2 : StB l a' b' f') : a = a' ∧ b = b' ∧ f = f' := by
  rcases h1 with ⟨rfl, h3, h4⟩ | ⟨rfl, rfl, rfl, h3⟩ <;> rcases h2 with ⟨rfl, h5, h6⟩ | ⟨rfl, rfl, rfl, h5⟩
  · obtain ⟨c, hc, e1, e2⟩ := many_mem (by omega : 0 < manyM l a b)
    obtain ⟨d, hd, e3, e4⟩ := many_mem (by omega : 0 < manyM l a' b')
    have g1 : ¬ a' < a := fun hlt => by have := h6 c hc (by omega); rw [e1, e2] at this; omega
    have g2 : ¬ a < a' := fun hlt => by have := h4 d hd (by omega); rw [e3, e4] at this; omega
    have : a = a' := by omega
    subst this
    exact ⟨rfl, one_sum h h3 h5, rfl⟩
  · obtain ⟨c, hc, e1, e2⟩ := many_mem (by omega : 0 < manyM l a b)
    have := h5 c hc; rw [e1, e2] at this; omega
  · obtain ⟨c, hc, e1, e2⟩ := many_mem (by omega : 0 < manyM l a' b')
    have := h3 c hc; rw [e1, e2] at this; omega
  · exact ⟨rfl, rfl, rfl⟩
theorem StB.rev {l : List Check} {a b : Int} {f : Bool} (h : StB l a b f) : StB l.reverse a b f := by
  rcases h with ⟨rfl, h3, h4⟩ | ⟨rfl, rfl, rfl, h3⟩
  · exact .inl ⟨rfl, by rw [manyM_rev]; exact h3, fun c hc hlt => by rw [manyM_rev]; exact h4 c (List.mem_reverse.1 hc) hlt⟩
  · exact .inr ⟨rfl, rfl, rfl, fun c hc => by rw [manyM_rev]; exact h3 c (List.mem_reverse.1 hc)⟩
/-- what the call answers -/
def StRet (l : List Check) (a b : Int) (f : Bool) : Prop := (checkOkM l = true ∧ StB l a b f) ∨ (checkOkM l = false ∧ a = 0 ∧ b = 0 ∧ f = false)
theorem StRet.uniq {l : List Check} {a b a' b' : Int} {f f' : Bool} (h1 : StRet l a b f) (h2 : StRet l a' b' f') : a = a' ∧ b = b' ∧ f = f' := by
  rcases h1 with ⟨h, h1⟩ | ⟨h, rfl, rfl, rfl⟩ <;> rcases h2 with ⟨h', h2⟩ | ⟨h', rfl, rfl, rfl⟩
  · exact h1.uniq (checkOkM_iff.1 h) h2
  · rw [h] at h'; cases h'
  · rw [h] at h'; cases h'
  · exact ⟨rfl, rfl, rfl⟩
theorem StRet.rev {l : List Check} {a b : Int} {f : Bool} (h : StRet l a b f) : StRet l.reverse a b f := by
  rcases h with ⟨h, h1⟩ | ⟨h, rfl, rfl, rfl⟩
  · exact .inl ⟨by rw [checkOkM_rev]; exact h, h1.rev⟩
  · exact .inr ⟨by rw [checkOkM_rev]; exact h, rfl, rfl, rfl⟩
end Go.Proofs.Ytbhoocdongeomaa
