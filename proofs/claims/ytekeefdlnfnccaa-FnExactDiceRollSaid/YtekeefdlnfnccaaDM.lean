/- The dice, in plain text. -/
import Derived.Test.YtekeefdlnfnccaaL3
namespace Go.Proofs.Ytekeefdlnfnccaa
def inB (n lo hi : Int) : Bool := decide (lo ≤ n) && decide (n ≤ hi)
theorem inB_iff {n lo hi : Int} : inB n lo hi = true ↔ lo ≤ n ∧ n ≤ hi := by simp [inB]
theorem inB_no {n lo hi : Int} : inB n lo hi = false ↔ ¬ (lo ≤ n ∧ n ≤ hi) := by rw [← inB_iff]; simp
def seedB (n : Int) : Bool := inB n 0 2147483647
theorem seedB_iff {n : Int} : seedB n = true ↔ 0 ≤ n ∧ n ≤ 2147483647 := inB_iff
def nextM (n : Int) : Int := (n * 1103515245 + 12345) % 2147483648
theorem nextM_seed (n : Int) : seedB (nextM n) = true := by
  rw [seedB_iff]; unfold nextM; omega
def rollM (seed sides : Int) : Int := nextM seed / 65536 % sides
theorem rollM_bd (seed sides : Int) (h : 1 ≤ sides) : 0 ≤ rollM seed sides ∧ rollM seed sides < sides :=
  ⟨Int.emod_nonneg _ (by omega), Int.emod_lt_of_pos _ (by omega)⟩
/-- places k-1 down to 1 are filled -/
def fillM : Nat → Int → List Int → List Int
  | 0, _, out => out
  | 1, _, out => out
  | k + 2, seed, out => fillM (k + 1) (nextM seed) (out.set (k + 1) (rollM seed (k + 2)))
def swapsM (n : Nat) (seed : Int) : List Int := fillM n seed (List.replicate n 0)
theorem fillM_le1 : ∀ (k : Nat) (seed : Int) (out : List Int), k ≤ 1 → fillM k seed out = out
  | 0, _, _, _ => rfl
  | 1, _, _, _ => rfl
  | k + 2, _, _, h => by omega
theorem fillM_len : ∀ (k : Nat) (seed : Int) (out : List Int), (fillM k seed out).length = out.length
  | 0, _, _ => rfl
  | 1, _, _ => rfl
  | k + 2, seed, out => by rw [fillM, fillM_len (k + 1)]; simp
theorem swapsM_len (n : Nat) (seed : Int) : (swapsM n seed).length = n := by rw [swapsM, fillM_len]; simp
/-- each place holds a number from 0 up to itself -/
def LowM (l : List Int) : Prop := ∀ (i : Nat) (x : Int), l[i]? = some x → 0 ≤ x ∧ x ≤ i
theorem fillM_low : ∀ (k : Nat) (seed : Int) (out : List Int), LowM out → LowM (fillM k seed out)
  | 0, _, _, h => h
  | 1, _, _, h => h
  | k + 2, seed, out, h => by
    rw [fillM]
    refine fillM_low (k + 1) _ _ ?_
    intro i x hx
    by_cases e : k + 1 = i
    · subst e
      rw [List.getElem?_set] at hx
      simp at hx
      have := rollM_bd seed (k + 2) (by omega)
      omega
    · rw [List.getElem?_set_ne e] at hx
      exact h i x hx
theorem swapsM_low (n : Nat) (seed : Int) : LowM (swapsM n seed) := by
  refine fillM_low n seed _ ?_
  intro i x hx
  rw [List.getElem?_replicate] at hx
  split at hx
  · injection hx with hx; subst hx; omega
  · cases hx
end Go.Proofs.Ytekeefdlnfnccaa
