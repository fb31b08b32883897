/- A map of the call's own from numbers to numbers, over any program. -/
import Derived.Test.YtbhoocdongeomaaL3
import Derived.Maps.Own
import Derived.Maps.OwnOps
import Derived.Maps.Views
import Derived.WalkArith
set_option linter.unusedVariables false
namespace Go.Proofs.Ytbhoocdongeomaa
open Go.RowKit Go.Maps

/-- block B is a map of n entries at most; at key s stands f s -/
def CntMap (w : World) (P : Program) (k e : TypeId) (B n : Nat) (f : Int → Int) : Prop :=
  ∃ D : DataW Unit, w.ownsMap P k (plainElem P e) B n D ∧ IsMap D ∧ ∀ s : Int, D.atKey (.int .i64 s) (.lit (.int .i64 0)) = .lit (.int .i64 (f s))
section
variable {P : Program} {w w' : World} {k e : TypeId} {B n : Nat} {f : Int → Int} {S : List Nat}
theorem CntMap.made (w : World) (P : Program) (k e : TypeId) : CntMap (w.alloc (.map #[] 0)) P k e w.heap.size 0 (fun _ => 0) :=
  ⟨.map [], World.ownsMap_made _ _ _ _, isMap_empty, fun s => rfl⟩
theorem CntMap.lt (h : CntMap w P k e B n f) : B < w.heap.size := by
  obtain ⟨D, h1, _⟩ := h
  exact h1.lt
theorem CntMap.only (h : CntMap w P k e B n f) (ho : Only S w w') (hB : B ∉ S) : CntMap w' P k e B n f := by
  obtain ⟨D, ⟨es, clock, hb, F, hs, hD⟩, h2, h3⟩ := h
  have hlt : B < w.heap.size := (Array.getElem?_eq_some_iff.1 hb).1
  exact ⟨D, ⟨es, clock, (ho.block B hlt hB).trans hb, F, hs, hD⟩, h2, h3⟩
theorem CntMap.mono (h : CntMap w P k e B n f) {m : Nat} (hm : n ≤ m) : CntMap w P k e B m f := by
  obtain ⟨D, h1, h2, h3⟩ := h
  exact ⟨D, h1.mono hm, h2, h3⟩
theorem wf_int {x : Int} (h : -9223372036854775808 ≤ x ∧ x ≤ 9223372036854775807) : (Lit.int .i64 x).wf = true := by
  simp [Lit.wf, IntKind.min, IntKind.max, IntKind.signed, IntKind.bits]
  omega
theorem wpList_cnt_lookup {ops : Array Oper} {rest : List Oper} {o : Oper} {a : Act} {Q : Exit → Act → World → Prop} (h : CntMap w P k e B n f)
    (hg : o.guard = none) (m x : Operand) (t : TypeId) (hop : o.op = Op.lookup t m x false) (hk0 : P.underlying k = some (.int .i64)) (ht : P.underlying t = some (.map k e)) (he : P.underlying e = some (.int .i64))
    (hz : ∀ W : World, (zeroValue e).run P W = .ok (.int .i64 0) W) (hm : a.eval m = .map (some B)) (key : Int) (hx : a.eval x = .int .i64 key) (hr : -9223372036854775808 ≤ key ∧ key ≤ 9223372036854775807)
    (hK : wpList P ops Q rest (a.put o.dst (.int .i64 (f key))) w) : wpList P ops Q (o :: rest) a w := by
  obtain ⟨D, h1, h2, h3⟩ := h
  refine wpList_lookup_own_int w hg m x t hop k e .i64 (int_keyed hk0) ht he (hz w) B n D hm h1 _ (.int .i64 key) hx (keyOf_int_mk hk0 (wf_int hr)) ?_
  intro c hat _
  rw [h3 key] at hat
  simp only [DataW.lit.injEq, Lit.int.injEq, true_and] at hat
  rw [← hat]
  exact hK
theorem wpList_cnt_update {ops : Array Oper} {rest : List Oper} {o : Oper} {a : Act} {Q : Exit → Act → World → Prop} (h : CntMap w P k e B n f)
    (hg : o.guard = none) (m x v : Operand) (t : TypeId) (hop : o.op = Op.mapUpdate t m x v) (hk0 : P.underlying k = some (.int .i64)) (ht : P.underlying t = some (.map k e)) (he : P.underlying e = some (.int .i64))
    (hm : a.eval m = .map (some B)) (hn : n < 1000000000000) (key val : Int) (hx : a.eval x = .int .i64 key) (hv : a.eval v = .int .i64 val) (hr : -9223372036854775808 ≤ key ∧ key ≤ 9223372036854775807)
    (hr2 : -9223372036854775808 ≤ val ∧ val ≤ 9223372036854775807)
    (hK : ∀ w', CntMap w' P k e B (n + 1) (fun s => if s = key then val else f s) → Only [B] w w' → wpList P ops Q rest (a.put o.dst undef) w') : wpList P ops Q (o :: rest) a w := by
  obtain ⟨D, h1, h2, h3⟩ := h
  have hM : maxLen = 9223372036854775807 := rfl
  refine wpList_mapUpdate_own w hg m x v t hop k e (int_keyed hk0) ht _ B n D hm h1 (by omega) _ _ (.int .i64 key) hx hv (keyOf_int_mk hk0 (wf_int hr)) _ [] (plainElem_int he (wf_int hr2)) ?_
  intro w' g1 g2
  refine hK w' ⟨_, g1, h2.put _ _, fun s => ?_⟩ (Only.of_grown g2 (fun k hk => by injection hk with hk; subst hk; exact .inl (by simp)))
  show _ = DataW.lit (.int .i64 (if s = key then val else f s))
  by_cases hs : s = key
  · subst hs
    rw [if_pos rfl, atKey_put_same (k := .int .i64 s) h2 trivial]
  · rw [if_neg hs, atKey_put_other (fun e => hs (by simpa using e)), h3 s]
end
end Go.Proofs.Ytbhoocdongeomaa
