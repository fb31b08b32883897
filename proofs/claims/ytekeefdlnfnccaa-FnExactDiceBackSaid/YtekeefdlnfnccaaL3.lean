/- Elements without memory of their own (numbers, small structs); a store into an element. -/
import Derived.Test.YtekeefdlnfnccaaL2
namespace Go.Proofs.Ytekeefdlnfnccaa
open Go.RowKit
open Lies (R size elem)

class Flat (α : Type) where
  n : Nat
  e : TypeId
  cells : α → List Value
  hlen : ∀ x, (cells x).length = n
  hone : ∀ x, ∀ u ∈ cells x, u.oneCell' = true

instance flatLies {α : Type} [Flat α] : Lies α where
  size := Flat.n α
  elem := Flat.e α
  R := fun _ cs x bs => cs = Flat.cells x ∧ bs = []
  len := fun h => by rw [h.1]; exact Flat.hlen _
  old := fun h => by simp [h.2]
  frame := fun h _ => h
  one := fun h => by rw [h.1]; exact Flat.hone _

instance flatInt : Flat Int where
  n := 1
  e := 3
  cells := fun x => [.int .i64 x]
  hlen := fun _ => rfl
  hone := fun x u hu => by rw [List.mem_singleton.1 hu]; rfl

section
variable {α : Type} [Flat α] {w w' : World} {v : Value} {l : List α} {bs : List Nat}
theorem RL.flat : ∀ {l : List α} {vs : List Value} {bs : List Nat}, RL w vs l bs ↔ vs = l.flatMap Flat.cells ∧ bs = []
  | [], vs, bs => by simp [RL]
  | x :: l, vs, bs => by
    simp only [RL, RL.flat (l := l), List.flatMap_cons]
    constructor
    · rintro ⟨cs, v2, b1, b2, rfl, rfl, ⟨rfl, rfl⟩, rfl, rfl⟩; exact ⟨rfl, rfl⟩
    · rintro ⟨rfl, rfl⟩; exact ⟨_, _, [], [], rfl, rfl, ⟨rfl, rfl⟩, rfl, rfl⟩
theorem Sl.flat_bs (h : Sl w v l bs) : bs.Nodup := by
  rcases h with ⟨a, rfl, rfl, rfl⟩ | ⟨b, o, c, cur, vs, bs', rfl, h1, h2, h3, h4, h5, h6, rfl⟩
  · exact List.nodup_nil
  · rw [(RL.flat.1 h6).2]; simp
theorem Sl.at_flat (h : Sl w v l bs) {i : Nat} (hi : i < l.length) : ∃ b o c, v = .slice (some ⟨b, o, none⟩) l.length c ∧ b ∈ bs ∧ b < w.heap.size ∧
    (∀ j u, (Flat.cells l[i])[j]? = some u → w.cell? ⟨b, o + i * Flat.n α + j, none⟩ = some u) ∧ (∀ j, w.frozen? ⟨b, j, none⟩ = false) := by
  obtain ⟨b, o, c, cs, b2, h1, h2, _, _, ⟨rfl, rfl⟩, h4, h5, h6⟩ := h.at_ hi
  exact ⟨b, o, c, h1, h2, h4, h5, h6⟩
end

section
variable {α : Type} [Lies α] {P : Program} {w w' : World} {v : Value} {l : List α} {bs : List Nat}
theorem RL.set_ {vs : List Value} (h : RL w vs l bs) {i : Nat} (hi : i < l.length) {j : Nat} (hj : j < size α) (u : Value) {x' : α} (hx : ∀ cs b2, R w cs l[i] b2 → R w (cs.set j u) x' b2) :
    RL w (vs.set (i * size α + j) u) (l.set i x') bs := by
  obtain ⟨v1, cs, v2, b1, b2, b3, rfl, rfl, hl, hr, r1, r2⟩ := h.get hi
  have e : l.set i x' = l.take i ++ (x' :: l.drop (i + 1)) := List.set_eq_take_append_cons_drop .. ▸ by simp [hi]
  have hcl := Lies.len hr
  rw [e, List.set_append_right _ _ (by omega), hl, Nat.add_sub_cancel_left, List.set_append_left _ _ (by omega)]
  exact r1.append ⟨_, _, _, _, rfl, rfl, hx _ _ hr, r2⟩

/-- a store into cell j of element i -/
theorem Sl.store (h : Sl w v l bs) (hnd : bs.Nodup) {i : Nat} (hi : i < l.length) {j : Nat} (hj : j < size α) (u : Value) {x' : α} (hx : ∀ cs b2, R w cs l[i] b2 → R w (cs.set j u) x' b2)
    {b o c n : Nat} (hv : v = .slice (some ⟨b, o, none⟩) n c) : Sl (w.setCell ⟨b, o + i * size α + j, none⟩ u) v (l.set i x') bs := by
  rcases h with ⟨a, rfl, rfl, rfl⟩ | ⟨b', o', c', cur, vs, bs', rfl, h1, h2, h3, h4, h5, h6, rfl⟩
  · simp at hi
  · simp only [Value.slice.injEq, Option.some.injEq, Addr.mk.injEq, and_true] at hv
    obtain ⟨⟨rfl, rfl⟩, rfl, rfl⟩ := hv
    have hlt : i * size α + j < l.length * size α := by
      have : (i + 1) * size α ≤ l.length * size α := Nat.mul_le_mul_right _ hi
      rw [Nat.add_mul, Nat.one_mul] at this
      omega
    refine .inr ⟨b', o', c', cur.setIfInBounds (o' + i * size α + j) u, vs.set (i * size α + j) u, bs', by simp, by simpa using h1, h2, h3.set_ _ _, by simpa using h4, ?_, ?_, rfl⟩
    rotate_left
    · exact (RL.set_ h6 hi hj u hx).frame fun q hq => Below.heap_setCell w _ u q (fun e => by
        have := (List.nodup_cons.1 hnd).1
        exact this (by rw [← show q = b' from e]; exact hq))
    · rw [List.length_set, ← h5]
      rw [Array.toList_setIfInBounds, Nat.add_assoc, List.drop_set, if_neg (by omega), Nat.add_sub_cancel_left, List.take_set]
end

section
variable {w w' : World} {v : Value} {l : List Int} {bs : List Nat}
theorem Sl.int_at (h : Sl w v l bs) {i : Nat} (hi : i < l.length) : ∃ b o c, v = .slice (some ⟨b, o, none⟩) l.length c ∧ b ∈ bs ∧ b < w.heap.size ∧
    w.cell? ⟨b, o + i, none⟩ = some (.int .i64 l[i]) ∧ (∀ j, w.frozen? ⟨b, j, none⟩ = false) := by
  obtain ⟨b, o, c, h1, h2, h3, h4, h5⟩ := h.at_flat hi
  refine ⟨b, o, c, h1, h2, h3, ?_, h5⟩
  have := h4 0 (.int .i64 l[i]) rfl
  simpa [Flat.n] using this
/-- the cell of a known slice -/
theorem Sl.int_cell {b o n c : Nat} (h : Sl w (.slice (some ⟨b, o, none⟩) n c) l bs) {i : Nat} (hi : i < l.length) :
    w.cell? ⟨b, o + i, none⟩ = some (.int .i64 (l.getD i 0)) ∧ b ∈ bs ∧ b < w.heap.size ∧ ∀ j, w.frozen? ⟨b, j, none⟩ = false := by
  obtain ⟨b', o', c', e, h1, h2, h3, h4⟩ := h.int_at hi
  simp only [Value.slice.injEq, Option.some.injEq, Addr.mk.injEq, and_true] at e
  obtain ⟨⟨rfl, rfl⟩, -, -⟩ := e
  refine ⟨?_, h1, h2, h4⟩
  rw [h3]; simp [List.getD, List.getElem?_eq_getElem hi]
/-- a list that is not empty lies somewhere -/
theorem Sl.addr {α : Type} [Lies α] {l : List α} {a : Option Addr} {n c : Nat} (h : Sl w (.slice a n c) l bs) (hl : 0 < l.length) : ∃ b o, a = some ⟨b, o, none⟩ ∧ b ∈ bs := by
  obtain ⟨b, o, c', cs, b2, e, hb, _⟩ := h.at_ hl
  simp only [Value.slice.injEq] at e
  exact ⟨b, o, e.1, hb⟩
theorem Sl.int_set (h : Sl w v l bs) {i : Nat} (hi : i < l.length) (x : Int) {b o c n : Nat} (hv : v = .slice (some ⟨b, o, none⟩) n c) :
    Sl (w.setCell ⟨b, o + i, none⟩ (.int .i64 x)) v (l.set i x) bs := by
  have := h.store h.flat_bs hi (j := 0) (by simp [size, Flat.n]) (.int .i64 x) (x' := x) (by
    rintro cs b2 ⟨rfl, rfl⟩
    exact ⟨rfl, rfl⟩) hv
  simpa [size, Flat.n] using this
/-- a cell of another slice -/
theorem cell_set_other {p q : Addr} {u x : Value} (hc : w.cell? p = some x) (h : p ≠ q) : (w.setCell q u).cell? p = some x := by
  rw [World.cell?_setCell_other w q p u (fun e => h e.symm)]; exact hc
end

section
variable {P : Program} {w : World}
theorem Sl.make_int (w : World) (n : Nat) (hn : n ≤ 274877906944) :
    Sl (w.alloc (.cells (madeCells (Value.int .i64 0).cells (n * 1)) 3)) (.slice (some ⟨w.heap.size, 0, none⟩) n n) (List.replicate n (0 : Int)) [w.heap.size] := by
  have hM : maxLen = 9223372036854775807 := rfl
  refine Sl.of_row (cur := madeCells (Value.int .i64 0).cells (n * 1)) (vs := List.replicate n (.int .i64 0)) (by simp) (by simp) (by omega) (heap_alloc_new w _) (by simp [size_madeCells, size, Flat.n]) ?_ ?_
  · simp only [size, Flat.n, Nat.mul_one, List.length_replicate, List.drop_zero]
    show (madeCells #[Value.int .i64 0] n).toList.take n = _
    rw [toList_madeCells_one, List.take_of_length_le (by simp)]
  · rw [RL.flat]
    refine ⟨?_, rfl⟩
    induction n with
    | zero => rfl
    | succ n ih => rw [List.replicate_succ, List.replicate_succ, List.flatMap_cons, ← ih (by omega)]; rfl
theorem run_make_sl {t e : TypeId} {sz : Nat} (ok : TyOk P t e sz) (n : Nat) (hn : n ≤ 274877906944) : ∃ z : Value, z.cells.size = sz ∧ (P.info? e).bind (·.zero) = some z ∧ ∀ W : World, (Instr.makeSlice t (.int .i64 (n : Int)) (.int .i64 (n : Int))).run P W =
    .ok (.slice (some ⟨W.heap.size, 0, none⟩) n n) (W.alloc (.cells (madeCells z.cells (n * sz)) e)) := by
  obtain ⟨ht, i, z, hi, hz, hsize, hby, hzs, hpos⟩ := ok
  refine ⟨z, hzs, by rw [hi]; exact hz, fun W => ?_⟩
  have hb : (i.bytes : Int) * (n : Int) ≤ 281474976710656 := by
    have h : i.bytes * n ≤ 256 * 274877906944 := Nat.mul_le_mul hby hn
    have h : ((i.bytes * n : Nat) : Int) ≤ 281474976710656 := by omega
    rwa [Int.natCast_mul] at h
  have hr := run_make (P := P) W t e i z ht hi hz .i64 .i64 n n (by omega) (by omega) hb (by omega)
  simp only [Int.toNat_natCast, hsize] at hr
  exact hr
/-- in the walk's own spelling -/
theorem Sl.made_int (w : World) (n : Nat) (hn : n ≤ 274877906944) :
    Sl (w.alloc (.cells (madeCells #[Value.int .i64 0] n) 3)) (.slice (some ⟨w.heap.size, 0, none⟩) n n) (List.replicate n (0 : Int)) [w.heap.size] := by
  have := Sl.make_int w n hn
  rw [Nat.mul_one] at this
  exact this
end
end Go.Proofs.Ytekeefdlnfnccaa
namespace Go.Proofs.Ytekeefdlnfnccaa
open Go.RowKit
section
variable {α : Type} [Lies α] {w w' : World} {v : Value} {l : List α} {bs : List Nat}
/-- a fresh list is returned; of what was there nothing is changed -/
def FreshRet (l : List α) (w : World) (e : Ending) (w' : World) : Prop :=
  ∃ v bs, e = .returned v ∧ Sl w' v l bs ∧ (∀ b ∈ bs, w.heap.size ≤ b) ∧ bs.Nodup ∧ Only [] w w'
/-- a list is returned that lies in the blocks bs; nothing is changed -/
def SameRet (l : List α) (bs : List Nat) (w : World) (e : Ending) (w' : World) : Prop :=
  ∃ v bs', e = .returned v ∧ Sl w v l bs' ∧ bs'.Sublist bs ∧ w = w'
theorem Sl.clip {a : Option Addr} {n c : Nat} (h : Sl w (.slice a n c) l bs) : ∃ bs', Sl w (.slice a n n) l bs' ∧ bs'.Sublist bs := by
  rcases h with ⟨a', e, rfl, rfl⟩ | ⟨b, o, c', cur, vs, bs', e, h1, h2, h3, h4, h5, h6, rfl⟩
  · simp only [Value.slice.injEq] at e
    obtain ⟨rfl, rfl, rfl⟩ := e
    exact ⟨[], Sl.nil_ _, List.Sublist.refl _⟩
  · simp only [Value.slice.injEq] at e
    obtain ⟨rfl, rfl, rfl⟩ := e
    refine ⟨b :: bs', Sl.of_row rfl (Nat.le_refl _) (by omega) h3 ?_ h5 h6, List.Sublist.refl _⟩
    have : l.length * Lies.size α ≤ c * Lies.size α := Nat.mul_le_mul_right _ h1
    omega
theorem Sl.nil_len {n c : Nat} (h : Sl w (.slice none n c) l bs) : l = [] ∧ n = 0 := by
  rcases h with ⟨a', e, rfl, rfl⟩ | ⟨b, o, c', cur, vs, bs', e, _⟩
  · simp only [Value.slice.injEq] at e
    exact ⟨rfl, e.2.1⟩
  · simp at e
end
section
variable {α : Type} [Flat α] {w w' : World} {v : Value} {l : List α} {bs : List Nat}
/-- a source without memory of its own: the same in every world -/
theorem Sl.source_flat (h : Sl w v l bs) : ∃ a c news, v = .slice a l.length c ∧ (∀ j u, news[j]? = some u → ∃ ad, a = some ad ∧ w.cell? (ad.add j) = some u) ∧ ∀ W : World, RL W news l [] := by
  obtain ⟨a, c, news, bn, rfl, hread, hR, hsub⟩ := h.source
  exact ⟨a, c, news, rfl, hread, fun W => RL.flat.2 ⟨(RL.flat.1 hR).1, rfl⟩⟩
theorem read_alloc {a : Option Addr} {news : List Value} (h : ∀ (j : Nat) (u : Value), news[j]? = some u → ∃ ad, a = some ad ∧ w.cell? (ad.add j) = some u) (o : Obj) :
    ∀ (j : Nat) (u : Value), news[j]? = some u → ∃ ad, a = some ad ∧ (w.alloc o).cell? (ad.add j) = some u := by
  intro j u hu
  obtain ⟨ad, e, hc⟩ := h j u hu
  exact ⟨ad, e, ((Only.refl [] w).alloc o).cell hc (by simp)⟩
end
section
open Lies (size elem)
variable {w : World}
theorem read_new (w : World) (cs : List Value) (E : TypeId) : ∀ (j : Nat) (u : Value), cs[j]? = some u → ∃ ad, some (⟨w.heap.size, 0, none⟩ : Addr) = some ad ∧ (w.alloc (.cells cs.toArray E)).cell? (ad.add j) = some u := by
  intro j u hu
  refine ⟨_, rfl, ?_⟩
  rw [Addr.add_lit, (Blk.new w E cs.toArray).cell]
  simpa using hu
variable {α : Type} [Flat α] {P : Program} {v : Value} {l : List α} {bs : List Nat} {t ty : TypeId}
/-- one element is laid behind a list -/
theorem wpList_append_one {ops : Array Oper} {rest : List Oper} {o : Oper} {a : Act} {Q : Exit → Act → World → Prop} (hgd : o.guard = none) (s y : Operand)
    (ho : o.op = .call { callee := .builtin .append, args := #[s, y], argTypes := #[t, t] })
    (ok : TyOk P t (elem α) (size α)) (hs : a.eval s = v) (h : Sl w v l bs) (x : α) (hx : a.eval y = .slice (some ⟨w.heap.size, 0, none⟩) 1 1) (hsz : l.length + 1 ≤ 274877906944)
    (hk : ∀ v' w' bs', Sl w' v' (l ++ [x]) bs' → Only (bs.take 1) w w' → (∀ q ∈ bs', q ∈ bs ∨ w.heap.size ≤ q) → wpList P ops Q rest (a.put o.dst v') w') :
    wpList P ops Q (o :: rest) a (w.alloc (.cells (Flat.cells x).toArray (elem α))) := by
  have ho0 : Only [] w (w.alloc (.cells (Flat.cells x).toArray (elem α))) := (Only.refl [] w).alloc _
  refine wpList_append_sl hgd s y ho ok hs (h.alloc _) (l' := [x]) (bn := []) _ 1 1 hx (Flat.cells x) rfl (read_new w _ _) (RL.one ⟨rfl, rfl⟩) (by simpa using h.flat_bs) (by simpa using hsz) ?_
  intro v' w' bs' h1 h2 h3 h4
  refine hk v' w' bs' h1 (ho0.trans_ h2 (by simp) (fun b hb => .inl hb)) fun q hq => ?_
  rcases h3 q hq with h | h | h
  · exact .inl h
  · cases h
  · exact .inr (Nat.le_trans ho0.size h)
end
end Go.Proofs.Ytekeefdlnfnccaa
