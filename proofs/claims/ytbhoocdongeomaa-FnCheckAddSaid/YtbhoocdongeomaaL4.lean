/- The built-in clear, over any program. -/
import Derived.Test.YtbhoocdongeomaaL3
set_option linter.unusedVariables false
namespace Go.Proofs.Ytbhoocdongeomaa
open Go.RowKit
section
open Lies (size elem)
variable {P : Program} {w : World}
theorem run_clear_row {t e ty : TypeId} {sz bytes : Nat} {z : Value} (ht : P.underlying t = some (.slice e)) (hi : (P.info? e).map (fun i => (i.zero, i.size, i.bytes)) = some (some z, sz, bytes))
    (hzs : z.cells.size = sz) (hz1 : ∀ u ∈ z.cells.toList, u.oneCell' = true) {b o n c : Nat} {cur : Array Value} (hb : Blk w b e cur) (hn : 0 < n) (hfit : o + n * sz ≤ cur.size) :
    ∃ w', (Builtin.clear_ #[t] ty #[.slice (some ⟨b, o, none⟩) n c]).run P w = .ok (.tuple #[]) w' ∧ Only [b] w w' ∧ ∃ cur', Blk w' b e cur' ∧ cur'.size = cur.size ∧ cur'.toList.take o = cur.toList.take o := by
  cases h : P.info? e with
  | none => rw [h] at hi; cases hi
  | some i =>
    rw [h] at hi
    simp only [Option.map_some, Option.some.injEq, Prod.mk.injEq] at hi
    obtain ⟨hz, hsize, hby⟩ := hi
    have hzl : (Builtin.zeroCells z.cells n).toList.length = n * sz := by rw [Array.length_toList, size_zeroCells, hzs]
    have hst := run_storeCells_at P b o e (Builtin.zeroCells z.cells n).toList 0 cur w hb (by rw [hzl]; omega) (by
      intro u hu
      simp only [Builtin.zeroCells, Array.toList_map, Array.toList_range, List.mem_map, List.mem_range] at hu
      obtain ⟨k, hk, rfl⟩ := hu
      have hpos : 0 < z.cells.size := by
        rcases Nat.eq_zero_or_pos z.cells.size with h0 | h0
        · rw [h0] at hk; simp at hk
        · exact h0
      rw [getElem!_pos z.cells _ (Nat.mod_lt _ hpos)]
      exact hz1 _ (by simp))
    simp only [Nat.add_zero] at hst
    have hcl : o + n * sz ≤ cur.toList.length := by simpa using hfit
    refine ⟨w.setRow b (cur.toList.take o ++ (Builtin.zeroCells z.cells n).toList ++ cur.toList.drop (o + (Builtin.zeroCells z.cells n).toList.length)).toArray, ?_,
      ⟨rfl, rfl, rfl, by simp, fun k _ hk => setRow_other w b k _ (fun e => hk (by simp [e]))⟩, _, setRow_heap w b cur _ _ (0, 0) hb, ?_, ?_⟩
    rotate_left
    · simp only [List.size_toArray, List.length_append, List.length_take, List.length_drop, hzl]
      rw [Nat.min_eq_left (by omega)]
      have : cur.toList.length = cur.size := by simp
      omega
    · rw [List.append_assoc, List.take_append_of_le_length (by rw [List.length_take]; omega)]
      rw [List.take_take, Nat.min_self]
    · cases n with
      | zero => omega
      | succ n => simp [Builtin.clear_, run_underlying ht, zeroValue, typeInfo, h, hz, hst]
variable {α : Type} [Lies α] {l : List α} {bs : List Nat}
theorem Sl.cleared {b o n c i : Nat} {w' : World} (h : Sl w (.slice (some ⟨b, o, none⟩) n c) l bs) (hnd : bs.Nodup) (hi : i ≤ l.length) (hon : Only [b] w w')
    (hc : ∀ cur, Blk w b (elem α) cur → ∃ cur', Blk w' b (elem α) cur' ∧ cur'.size = cur.size ∧ cur'.toList.take (o + i * size α) = cur.toList.take (o + i * size α)) :
    ∃ bs', Sl w' (.slice (some ⟨b, o, none⟩) i c) (l.take i) bs' ∧ bs'.Sublist bs := by
  rcases h with ⟨a', e, rfl, rfl⟩ | ⟨b', o', c', cur, vs, bs', e, h1, h2, h3, h4, h5, h6, rfl⟩
  · have hi0 : i = 0 := by simpa using hi
    simp only [Value.slice.injEq] at e
    obtain ⟨-, -, rfl⟩ := e
    subst hi0
    exact ⟨[], Sl.nil_ _, List.Sublist.refl _⟩
  · simp only [Value.slice.injEq, Option.some.injEq, Addr.mk.injEq, and_true] at e
    obtain ⟨⟨rfl, rfl⟩, rfl, rfl⟩ := e
    obtain ⟨cur', g1, g2, g3⟩ := hc cur h3
    have e : l = l.take i ++ l.drop i := (List.take_append_drop i l).symm
    have h6' := h6
    rw [e] at h6'
    obtain ⟨v1, v2, b1, b2, rfl, rfl, r1, r2⟩ := RL.split h6'
    have hl1 : (l.take i).length = i := by simp; omega
    have hv1 : v1.length = i * size α := by rw [r1.len, hl1]
    refine ⟨b :: b1, Sl.of_row (cur := cur') (vs := v1) hl1.symm (by omega) h2 g1 (by rw [g2]; exact h4) ?_ (r1.frame fun q hq => hon.block q (r1.old q hq) (fun hq' => ?_)), List.Sublist.cons_cons _ (List.sublist_append_left b1 b2)⟩
    · have h7 : ((cur.toList.drop o).take (l.length * size α)).take (i * size α) = v1 := by rw [h5, ← hv1]; simp
      rw [List.take_take, Nat.min_eq_left (Nat.mul_le_mul_right _ hi)] at h7
      rw [hl1, ← h7]
      have e1 : (cur'.toList.drop o).take (i * size α) = (cur'.toList.take (o + i * size α)).drop o := by rw [List.drop_take, Nat.add_sub_cancel_left]
      have e2 : (cur.toList.drop o).take (i * size α) = (cur.toList.take (o + i * size α)).drop o := by rw [List.drop_take, Nat.add_sub_cancel_left]
      rw [e1, e2, g3]
    · have := (List.nodup_cons.1 hnd).1
      rw [List.mem_singleton.1 hq'] at hq
      exact this (List.mem_append_left _ hq)
theorem wpList_clear {ops : Array Oper} {rest : List Oper} {o : Oper} {a : Act} {Q : Exit → Act → World → Prop} (hgd : o.guard = none) (x : Operand) {t e : TypeId}
    (ho : o.op = .call { callee := .builtin .clear, args := #[x], argTypes := #[t] }) {sz bytes : Nat} {z : Value} (ht : P.underlying t = some (.slice e)) (hi : (P.info? e).map (fun i => (i.zero, i.size, i.bytes)) = some (some z, sz, bytes))
    (hzs : z.cells.size = sz) (hz1 : ∀ u ∈ z.cells.toList, u.oneCell' = true) {b off n c : Nat} {cur : Array Value} (hx : a.eval x = .slice (some ⟨b, off, none⟩) n c) (hb : Blk w b e cur) (hn : 0 < n) (hfit : off + n * sz ≤ cur.size)
    (hk : ∀ w' cur', Only [b] w w' → Blk w' b e cur' → cur'.size = cur.size → cur'.toList.take off = cur.toList.take off → wpList P ops Q rest (a.put o.dst (.tuple #[])) w') : wpList P ops Q (o :: rest) a w := by
  refine wpList_plain hgd fun _ hK => ?_
  obtain ⟨w', hr, h1, cur', h2, h3, h4⟩ := run_clear_row (P := P) (ty := o.type) (c := c) ht hi hzs hz1 hb hn hfit
  unfold Oper.wp execOp
  simp only [ho, resolve, invoke, builtin, Sem.run_bind, Sem.run_pure, Result.andThen_ok, List.map_toArray, List.map_cons, List.map_nil, hx, hr]
  exact hK _ _ (hk w' cur' h1 h2 h3 h4)
end
end Go.Proofs.Ytbhoocdongeomaa
