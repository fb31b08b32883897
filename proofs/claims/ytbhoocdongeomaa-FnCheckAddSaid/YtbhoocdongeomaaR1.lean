/- Arguments as they come in: slices and structs of whatever memory, read as lists and numbers. -/
import Derived.Test.YtbhoocdongeomaaL3
import Derived.Deep.Slices
import Derived.Deep.Fields
import Derived.ChangeSame
import Derived.OpenShut
set_option linter.unusedVariables false
namespace Go.Proofs.Ytbhoocdongeomaa
open Go.RowKit Go.ChangeShapes Go.WideShapes Go.Deep

/-- a type of arguments: T: its number; the cells cs read as x -/
class Raw (α : Type) where
  T : TypeId
  size : Nat
  RR : World → List Value → α → Prop
  frame : ∀ {w w' cs x}, RR w cs x → Only [] w w' → RR w' cs x

section
variable {α : Type} [Raw α]
open Raw (T size RR)
/-- a slice of whatever memory that reads as a list -/
def RawSl (w : World) (v : Value) (l : List α) : Prop :=
  ∃ a c, v = .slice a l.length c ∧ l.length ≤ c ∧ c ≤ maxLen ∧ ∀ (i : Nat) (x : α), l[i]? = some x →
    ∃ b o cs, a = some ⟨b, o, none⟩ ∧ cs.length = size α ∧ RR w cs x ∧ ∀ (j : Nat) (u : Value), cs[j]? = some u → w.cell? ⟨b, o + i * size α + j, none⟩ = some u
variable {w w' : World} {v : Value} {l : List α}
theorem RawSl.only (h : RawSl w v l) (ho : Only [] w w') : RawSl w' v l := by
  obtain ⟨a, c, e, h1, h2, h3⟩ := h
  refine ⟨a, c, e, h1, h2, fun i x hx => ?_⟩
  obtain ⟨b, o, cs, e2, hl, hr, hc⟩ := h3 i x hx
  exact ⟨b, o, cs, e2, hl, Raw.frame hr ho, fun j u hu => ho.cell (hc j u hu) (by simp)⟩
theorem RawSl.form (h : RawSl w v l) : ∃ a c, v = .slice a l.length c ∧ l.length ≤ c ∧ c ≤ maxLen := by
  obtain ⟨a, c, e, h1, h2, h3⟩ := h
  exact ⟨a, c, e, h1, h2⟩
theorem RawSl.at_ (h : RawSl w v l) {i : Nat} (hi : i < l.length) : ∃ b o c cs, v = .slice (some ⟨b, o, none⟩) l.length c ∧ cs.length = size α ∧ RR w cs l[i] ∧
    ∀ (j : Nat) (u : Value), cs[j]? = some u → w.cell? ⟨b, o + i * size α + j, none⟩ = some u := by
  obtain ⟨a, c, e, h1, h2, h3⟩ := h
  obtain ⟨b, o, cs, rfl, hl, hr, hc⟩ := h3 i l[i] (List.getElem?_eq_getElem hi)
  exact ⟨b, o, c, cs, e, hl, hr, hc⟩

theorem cell_addr {w : World} {a : Addr} {v : Value} (h : w.cell? a = some v) : a.spot = none := by
  unfold World.cell? at h
  split at h
  · split at h
    · cases h
    · rename_i hs; simpa using hs
  · cases h

variable {H : Type} {enc : TypeId × Value → H} {P : Program} {base : Nat} {spare : Nat → Bool} {held : Bool}
theorem raw_slice {t : TypeId} {fuel : Nat} {cs : List Value} {x : DataW H × List MemPlace} (ht : P.underlying t = some (.slice (T α))) (hs : P.cellsOf (T α) = size α) (hpos : 0 < size α)
    (hop : ∀ n cs y, DataW.trod enc P w base spare held n (T α) cs = some y → ∃ m : α, RR w cs m)
    (h : DataW.trod enc P w base spare held fuel t cs = some x) : ∃ v, ∃ l : List α, cs = [v] ∧ RawSl w v l := by
  rcases open_slice ht h with ⟨rfl, _⟩ | ⟨a, len, cap, m, n, D, Pl, rfl, hb, hl, hm, hmm, hx, hi⟩
  · exact ⟨_, [], rfl, none, 0, rfl, Nat.le_refl _, by simp [maxLen], by simp⟩
  · refine ⟨.slice (some a) len cap, ?_⟩
    have hlm : len ≤ m := by rw [hmm]; split <;> omega
    have each : ∀ i, i < len → ∃ (cs' : List Value) (m : α), cs'.length = size α ∧ RR w cs' m ∧ ∀ (j : Nat) (u : Value), cs'[j]? = some u → w.cell? ((a.add (i * size α)).add j) = some u := by
      intro i hil
      obtain ⟨cs', hc, ht'⟩ := hi i (by omega)
      rw [hs] at hc
      obtain ⟨_, hcl, hat⟩ := World.cells?_some hc
      obtain ⟨m, hm⟩ := hop n cs' _ ht'
      refine ⟨cs', m, hcl, hm, fun j u hu => ?_⟩
      have hj : j < cs'.length := by
        rcases Nat.lt_or_ge j cs'.length with h | h
        · exact h
        · rw [List.getElem?_eq_none h] at hu; cases hu
      rw [hat j (by omega)]
      exact hu
    have lst : ∀ k, k ≤ len → ∃ l : List α, l.length = k ∧ ∀ (i : Nat) (x : α), l[i]? = some x → ∃ cs' : List Value, cs'.length = size α ∧ RR w cs' x ∧ ∀ (j : Nat) (u : Value), cs'[j]? = some u → w.cell? ((a.add (i * size α)).add j) = some u := by
      intro k
      induction k with
      | zero => exact fun _ => ⟨[], rfl, by simp⟩
      | succ k ih =>
        intro hk
        obtain ⟨l, hll, hl2⟩ := ih (by omega)
        obtain ⟨cs', m, h1, h2, h3⟩ := each k (by omega)
        refine ⟨l ++ [m], by simp [hll], fun i x hx => ?_⟩
        by_cases hik : i < l.length
        · rw [List.getElem?_append_left hik] at hx
          exact hl2 i x hx
        · rw [List.getElem?_append_right (by omega)] at hx
          have hi0 : i - l.length = 0 := by
            rcases Nat.eq_zero_or_pos (i - l.length) with h | h
            · exact h
            · rw [List.getElem?_eq_none (by simp; omega)] at hx; cases hx
          rw [hi0] at hx
          simp at hx
          subst hx
          have : i = k := by omega
          subst this
          exact ⟨cs', h1, h2, h3⟩
    obtain ⟨l, hll, hl2⟩ := lst len (Nat.le_refl _)
    refine ⟨l, rfl, some a, cap, by rw [hll], by omega, hm, fun i x hx => ?_⟩
    obtain ⟨cs', h1, h2, h3⟩ := hl2 i x hx
    have hsp : a.spot = none := by
      have hl0 : 0 < l.length := by
        have : i < l.length := by
          rcases Nat.lt_or_ge i l.length with h | h
          · exact h
          · rw [List.getElem?_eq_none h] at hx; cases hx
        omega
      obtain ⟨cs0, g1, g2, g3⟩ := hl2 0 l[0] (List.getElem?_eq_getElem hl0)
      have := g3 0 cs0[0] (List.getElem?_eq_getElem (by omega))
      rw [Nat.zero_mul, Addr.add_zero', Addr.add_zero'] at this
      exact cell_addr this
    obtain ⟨b, o, sp⟩ := a
    simp only at hsp
    subst hsp
    refine ⟨b, o, cs', rfl, h1, h2, fun j u hu => ?_⟩
    have := h3 j u hu
    rwa [Addr.add_lit, Addr.add_lit] at this
end

instance rawInt : Raw Int where
  T := 3
  size := 1
  RR := fun _ cs x => cs = [.int .i64 x]
  frame := fun h _ => h
section
variable {w : World} {v : Value} {l : List Int}
theorem RawSl.int_cell {b o n c : Nat} (h : RawSl w (.slice (some ⟨b, o, none⟩) n c) l) {i : Nat} (hi : i < l.length) :
    w.cell? ⟨b, o + i, none⟩ = some (.int .i64 (l.getD i 0)) := by
  obtain ⟨b', o', c', cs, e, hl, rfl, hc⟩ := h.at_ hi
  simp only [Value.slice.injEq, Option.some.injEq, Addr.mk.injEq, and_true] at e
  obtain ⟨⟨rfl, rfl⟩, -, -⟩ := e
  have := hc 0 _ rfl
  simp only [Raw.size, Nat.mul_one, Nat.add_zero] at this
  rw [this]; simp [List.getD, List.getElem?_eq_getElem hi]
theorem RawSl.addr {α : Type} [Raw α] {l : List α} {a : Option Addr} {n c : Nat} (h : RawSl w (.slice a n c) l) (hl : 0 < l.length) : ∃ b o, a = some ⟨b, o, none⟩ := by
  obtain ⟨b, o, c', cs, e, _⟩ := h.at_ hl
  simp only [Value.slice.injEq] at e
  exact ⟨b, o, e.1⟩
end
theorem raw_int {H : Type} {enc : TypeId × Value → H} {P : Program} {w : World} {base : Nat} {spare : Nat → Bool} {held : Bool} {n : Nat} {cs : List Value} {y : DataW H × List MemPlace} {t : TypeId}
    (ht : P.underlying t = some (.int .i64)) (h : DataW.trod enc P w base spare held n t cs = some y) : ∃ m : Int, cs = [.int .i64 m] := by
  obtain ⟨m, e, _⟩ := DataW.trod_int ht h
  exact ⟨m, e⟩
instance rawByte : Raw UInt8 where
  T := 5
  size := 1
  RR := fun _ cs x => cs = [.int .u8 x.toNat]
  frame := fun h _ => h
theorem raw_byte {H : Type} {enc : TypeId × Value → H} {P : Program} {w : World} {base : Nat} {spare : Nat → Bool} {held : Bool} {n : Nat} {cs : List Value} {y : DataW H × List MemPlace} {t : TypeId}
    (ht : P.underlying t = some (.int .u8)) (h : DataW.trod enc P w base spare held n t cs = some y) : ∃ m : UInt8, cs = [.int .u8 m.toNat] := by
  obtain ⟨m, e, _, hw⟩ := DataW.trod_int ht h
  subst e
  have hb := bounds_u8 hw
  refine ⟨UInt8.ofNat m.toNat, ?_⟩
  congr 2
  simp
  omega

end Go.Proofs.Ytbhoocdongeomaa
