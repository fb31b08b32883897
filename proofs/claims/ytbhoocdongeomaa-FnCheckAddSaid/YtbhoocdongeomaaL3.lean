/- Elements without memory of their own (numbers, small structs); a store into an element. -/
import Derived.Test.YtbhoocdongeomaaL2
set_option linter.unusedVariables false
namespace Go.Proofs.Ytbhoocdongeomaa
open Go.RowKit
open Lies (R size elem)

class Flat (α : Type) where
  n : Nat
  e : TypeId
  cells : α → List Value
  hlen : ∀ x, (cells x).length = n
  hone : ∀ x, ∀ u ∈ cells x, u.oneCell' = true

instance flatLies {α : Type} [Flat α] : Lies α where
  size := Flat.n α
  elem := Flat.e α
  R := fun _ cs x bs => cs = Flat.cells x ∧ bs = []
  len := fun h => by rw [h.1]; exact Flat.hlen _
  old := fun h => by simp [h.2]
  frame := fun h _ => h
  one := fun h => by rw [h.1]; exact Flat.hone _

instance flatInt : Flat Int where
  n := 1
  e := 3
  cells := fun x => [.int .i64 x]
  hlen := fun _ => rfl
  hone := fun x u hu => by rw [List.mem_singleton.1 hu]; rfl

section
variable {α : Type} [Flat α] {w w' : World} {v : Value} {l : List α} {bs : List Nat}
theorem RL.flat : ∀ {l : List α} {vs : List Value} {bs : List Nat}, RL w vs l bs ↔ vs = l.flatMap Flat.cells ∧ bs = []
  | [], vs, bs => by simp [RL]
  | x :: l, vs, bs => by
    simp only [RL, RL.flat (l := l), List.flatMap_cons]
    constructor
    · rintro ⟨cs, v2, b1, b2, rfl, rfl, ⟨rfl, rfl⟩, rfl, rfl⟩; exact ⟨rfl, rfl⟩
    · rintro ⟨rfl, rfl⟩; exact ⟨_, _, [], [], rfl, rfl, ⟨rfl, rfl⟩, rfl, rfl⟩
theorem Sl.flat_bs (h : Sl w v l bs) : bs.Nodup := by
  rcases h with ⟨a, rfl, rfl, rfl⟩ | ⟨b, o, c, cur, vs, bs', rfl, h1, h2, h3, h4, h5, h6, rfl⟩
  · exact List.nodup_nil
  · rw [(RL.flat.1 h6).2]; simp
theorem Sl.at_flat (h : Sl w v l bs) {i : Nat} (hi : i < l.length) : ∃ b o c, v = .slice (some ⟨b, o, none⟩) l.length c ∧ b ∈ bs ∧ b < w.heap.size ∧
    (∀ j u, (Flat.cells l[i])[j]? = some u → w.cell? ⟨b, o + i * Flat.n α + j, none⟩ = some u) ∧ (∀ j, w.frozen? ⟨b, j, none⟩ = false) := by
  obtain ⟨b, o, c, cs, b2, h1, h2, _, _, ⟨rfl, rfl⟩, h4, h5, h6⟩ := h.at_ hi
  exact ⟨b, o, c, h1, h2, h4, h5, h6⟩
end

section
variable {α : Type} [Lies α] {P : Program} {w w' : World} {v : Value} {l : List α} {bs : List Nat}
theorem RL.set_ {vs : List Value} (h : RL w vs l bs) {i : Nat} (hi : i < l.length) {j : Nat} (hj : j < size α) (u : Value) {x' : α} (hx : ∀ cs b2, R w cs l[i] b2 → R w (cs.set j u) x' b2) :
    RL w (vs.set (i * size α + j) u) (l.set i x') bs := by
  obtain ⟨v1, cs, v2, b1, b2, b3, rfl, rfl, hl, hr, r1, r2⟩ := h.get hi
  have e : l.set i x' = l.take i ++ (x' :: l.drop (i + 1)) := List.set_eq_take_append_cons_drop .. ▸ by simp [hi]
  have hcl := Lies.len hr
  rw [e, List.set_append_right _ _ (by omega), hl, Nat.add_sub_cancel_left, List.set_append_left _ _ (by omega)]
  exact r1.append ⟨_, _, _, _, rfl, rfl, hx _ _ hr, r2⟩

/-- a store into cell j of element i -/
theorem Sl.store (h : Sl w v l bs) (hnd : bs.Nodup) {i : Nat} (hi : i < l.length) {j : Nat} (hj : j < size α) (u : Value) {x' : α} (hx : ∀ cs b2, R w cs l[i] b2 → R w (cs.set j u) x' b2)
    {b o c n : Nat} (hv : v = .slice (some ⟨b, o, none⟩) n c) : Sl (w.setCell ⟨b, o + i * size α + j, none⟩ u) v (l.set i x') bs := by
  rcases h with ⟨a, rfl, rfl, rfl⟩ | ⟨b', o', c', cur, vs, bs', rfl, h1, h2, h3, h4, h5, h6, rfl⟩
  · simp at hi
  · simp only [Value.slice.injEq, Option.some.injEq, Addr.mk.injEq, and_true] at hv
    obtain ⟨⟨rfl, rfl⟩, rfl, rfl⟩ := hv
    have hlt : i * size α + j < l.length * size α := by
      have : (i + 1) * size α ≤ l.length * size α := Nat.mul_le_mul_right _ hi
      rw [Nat.add_mul, Nat.one_mul] at this
      omega
    refine .inr ⟨b', o', c', cur.setIfInBounds (o' + i * size α + j) u, vs.set (i * size α + j) u, bs', by simp, by simpa using h1, h2, h3.set_ _ _, by simpa using h4, ?_, ?_, rfl⟩
    rotate_left
    · exact (RL.set_ h6 hi hj u hx).frame fun q hq => Below.heap_setCell w _ u q (fun e => by
        have := (List.nodup_cons.1 hnd).1
        exact this (by rw [← show q = b' from e]; exact hq))
    · rw [List.length_set, ← h5]
      rw [Array.toList_setIfInBounds, Nat.add_assoc, List.drop_set, if_neg (by omega), Nat.add_sub_cancel_left, List.take_set]
end

section
variable {w w' : World} {v : Value} {l : List Int} {bs : List Nat}
theorem Sl.int_at (h : Sl w v l bs) {i : Nat} (hi : i < l.length) : ∃ b o c, v = .slice (some ⟨b, o, none⟩) l.length c ∧ b ∈ bs ∧ b < w.heap.size ∧
    w.cell? ⟨b, o + i, none⟩ = some (.int .i64 l[i]) ∧ (∀ j, w.frozen? ⟨b, j, none⟩ = false) := by
  obtain ⟨b, o, c, h1, h2, h3, h4, h5⟩ := h.at_flat hi
  refine ⟨b, o, c, h1, h2, h3, ?_, h5⟩
  have := h4 0 (.int .i64 l[i]) rfl
  simpa [Flat.n] using this
/-- the cell of a known slice -/
theorem Sl.int_cell {b o n c : Nat} (h : Sl w (.slice (some ⟨b, o, none⟩) n c) l bs) {i : Nat} (hi : i < l.length) :
    w.cell? ⟨b, o + i, none⟩ = some (.int .i64 (l.getD i 0)) ∧ b ∈ bs ∧ b < w.heap.size ∧ ∀ j, w.frozen? ⟨b, j, none⟩ = false := by
  obtain ⟨b', o', c', e, h1, h2, h3, h4⟩ := h.int_at hi
  simp only [Value.slice.injEq, Option.some.injEq, Addr.mk.injEq, and_true] at e
  obtain ⟨⟨rfl, rfl⟩, -, -⟩ := e
  refine ⟨?_, h1, h2, h4⟩
  rw [h3]; simp [List.getD, List.getElem?_eq_getElem hi]
/-- a list that is not empty lies somewhere -/
theorem Sl.addr {α : Type} [Lies α] {l : List α} {a : Option Addr} {n c : Nat} (h : Sl w (.slice a n c) l bs) (hl : 0 < l.length) : ∃ b o, a = some ⟨b, o, none⟩ ∧ b ∈ bs := by
  obtain ⟨b, o, c', cs, b2, e, hb, _⟩ := h.at_ hl
  simp only [Value.slice.injEq] at e
  exact ⟨b, o, e.1, hb⟩
theorem Sl.int_set (h : Sl w v l bs) {i : Nat} (hi : i < l.length) (x : Int) {b o c n : Nat} (hv : v = .slice (some ⟨b, o, none⟩) n c) :
    Sl (w.setCell ⟨b, o + i, none⟩ (.int .i64 x)) v (l.set i x) bs := by
  have := h.store h.flat_bs hi (j := 0) (by simp [size, Flat.n]) (.int .i64 x) (x' := x) (by
    rintro cs b2 ⟨rfl, rfl⟩
    exact ⟨rfl, rfl⟩) hv
  simpa [size, Flat.n] using this
/-- a cell of another slice -/
theorem cell_set_other {p q : Addr} {u x : Value} (hc : w.cell? p = some x) (h : p ≠ q) : (w.setCell q u).cell? p = some x := by
  rw [World.cell?_setCell_other w q p u (fun e => h e.symm)]; exact hc
end

section
variable {P : Program} {w : World}
theorem Sl.make_int (w : World) (n : Nat) (hn : n ≤ 274877906944) :
    Sl (w.alloc (.cells (madeCells (Value.int .i64 0).cells (n * 1)) 3)) (.slice (some ⟨w.heap.size, 0, none⟩) n n) (List.replicate n (0 : Int)) [w.heap.size] := by
  have hM : maxLen = 9223372036854775807 := rfl
  refine Sl.of_row (cur := madeCells (Value.int .i64 0).cells (n * 1)) (vs := List.replicate n (.int .i64 0)) (by simp) (by simp) (by omega) (heap_alloc_new w _) (by simp [size_madeCells, size, Flat.n]) ?_ ?_
  · simp only [size, Flat.n, Nat.mul_one, List.length_replicate, List.drop_zero]
    show (madeCells #[Value.int .i64 0] n).toList.take n = _
    rw [toList_madeCells_one, List.take_of_length_le (by simp)]
  · rw [RL.flat]
    refine ⟨?_, rfl⟩
    induction n with
    | zero => rfl
    | succ n ih => rw [List.replicate_succ, List.replicate_succ, List.flatMap_cons, ← ih (by omega)]; rfl
theorem run_make_sl {t e : TypeId} {sz : Nat} (ok : TyOk P t e sz) (n : Nat) (hn : n ≤ 274877906944) : ∃ z : Value, z.cells.size = sz ∧ (P.info? e).bind (·.zero) = some z ∧ ∀ W : World, (Instr.makeSlice t (.int .i64 (n : Int)) (.int .i64 (n : Int))).run P W =
    .ok (.slice (some ⟨W.heap.size, 0, none⟩) n n) (W.alloc (.cells (madeCells z.cells (n * sz)) e)) := by
  obtain ⟨ht, i, z, hi, hz, hsize, hby, hzs, hpos⟩ := ok
  refine ⟨z, hzs, by rw [hi]; exact hz, fun W => ?_⟩
  have hb : (i.bytes : Int) * (n : Int) ≤ 281474976710656 := by
    have h : i.bytes * n ≤ 256 * 274877906944 := Nat.mul_le_mul hby hn
    have h : ((i.bytes * n : Nat) : Int) ≤ 281474976710656 := by omega
    rwa [Int.natCast_mul] at h
  have hr := run_make (P := P) W t e i z ht hi hz .i64 .i64 n n (by omega) (by omega) hb (by omega)
  simp only [Int.toNat_natCast, hsize] at hr
  exact hr
theorem run_make_z {t e : TypeId} {sz bytes : Nat} {z : Value} (ht : P.underlying t = some (.slice e)) (hi : (P.info? e).map (fun i => (i.zero, i.size, i.bytes)) = some (some z, sz, bytes)) (hby : bytes ≤ 256)
    (n : Nat) (hn : n ≤ 274877906944) (W : World) : (Instr.makeSlice t (.int .i64 (n : Int)) (.int .i64 (n : Int))).run P W =
    .ok (.slice (some ⟨W.heap.size, 0, none⟩) n n) (W.alloc (.cells (madeCells z.cells (n * sz)) e)) := by
  cases h : P.info? e with
  | none => rw [h] at hi; cases hi
  | some i =>
    rw [h] at hi
    simp only [Option.map_some, Option.some.injEq, Prod.mk.injEq] at hi
    obtain ⟨hz, hsize, hb⟩ := hi
    subst hb
    have hb : (i.bytes : Int) * (n : Int) ≤ 281474976710656 := by
      have h : i.bytes * n ≤ 256 * 274877906944 := Nat.mul_le_mul hby hn
      have h : ((i.bytes * n : Nat) : Int) ≤ 281474976710656 := by omega
      rwa [Int.natCast_mul] at h
    have hr := run_make (P := P) W t e i z ht h hz .i64 .i64 n n (by omega) (by omega) hb (by omega)
    simp only [Int.toNat_natCast, hsize] at hr
    exact hr
/-- in the walk's own spelling -/
theorem Sl.made_int (w : World) (n : Nat) (hn : n ≤ 274877906944) :
    Sl (w.alloc (.cells (madeCells #[Value.int .i64 0] n) 3)) (.slice (some ⟨w.heap.size, 0, none⟩) n n) (List.replicate n (0 : Int)) [w.heap.size] := by
  have := Sl.make_int w n hn
  rw [Nat.mul_one] at this
  exact this
end
end Go.Proofs.Ytbhoocdongeomaa
namespace Go.Proofs.Ytbhoocdongeomaa
open Go.RowKit
section
variable {α : Type} [Lies α] {w w' : World} {v : Value} {l : List α} {bs : List Nat}
/-- a fresh list is returned; of what was there nothing is changed -/
def FreshRet (l : List α) (w : World) (e : Ending) (w' : World) : Prop :=
  ∃ v bs, e = .returned v ∧ Sl w' v l bs ∧ (∀ b ∈ bs, w.heap.size ≤ b) ∧ bs.Nodup ∧ Only [] w w'
/-- a list is returned that lies in the blocks bs; nothing is changed -/
def SameRet (l : List α) (bs : List Nat) (w : World) (e : Ending) (w' : World) : Prop :=
  ∃ v bs', e = .returned v ∧ Sl w v l bs' ∧ bs'.Sublist bs ∧ w = w'
theorem Sl.clip {a : Option Addr} {n c : Nat} (h : Sl w (.slice a n c) l bs) : ∃ bs', Sl w (.slice a n n) l bs' ∧ bs'.Sublist bs := by
  rcases h with ⟨a', e, rfl, rfl⟩ | ⟨b, o, c', cur, vs, bs', e, h1, h2, h3, h4, h5, h6, rfl⟩
  · simp only [Value.slice.injEq] at e
    obtain ⟨rfl, rfl, rfl⟩ := e
    exact ⟨[], Sl.nil_ _, List.Sublist.refl _⟩
  · simp only [Value.slice.injEq] at e
    obtain ⟨rfl, rfl, rfl⟩ := e
    refine ⟨b :: bs', Sl.of_row rfl (Nat.le_refl _) (by omega) h3 ?_ h5 h6, List.Sublist.refl _⟩
    have : l.length * Lies.size α ≤ c * Lies.size α := Nat.mul_le_mul_right _ h1
    omega
theorem Sl.nil_len {n c : Nat} (h : Sl w (.slice none n c) l bs) : l = [] ∧ n = 0 := by
  rcases h with ⟨a', e, rfl, rfl⟩ | ⟨b, o, c', cur, vs, bs', e, _⟩
  · simp only [Value.slice.injEq] at e
    exact ⟨rfl, e.2.1⟩
  · simp at e
end
section
variable {α : Type} [Flat α] {w w' : World} {v : Value} {l : List α} {bs : List Nat}
/-- a source without memory of its own: the same in every world -/
theorem Sl.source_flat (h : Sl w v l bs) : ∃ a c news, v = .slice a l.length c ∧ (∀ j u, news[j]? = some u → ∃ ad, a = some ad ∧ w.cell? (ad.add j) = some u) ∧ ∀ W : World, RL W news l [] := by
  obtain ⟨a, c, news, bn, rfl, hread, hR, hsub⟩ := h.source
  exact ⟨a, c, news, rfl, hread, fun W => RL.flat.2 ⟨(RL.flat.1 hR).1, rfl⟩⟩
theorem read_alloc {a : Option Addr} {news : List Value} (h : ∀ (j : Nat) (u : Value), news[j]? = some u → ∃ ad, a = some ad ∧ w.cell? (ad.add j) = some u) (o : Obj) :
    ∀ (j : Nat) (u : Value), news[j]? = some u → ∃ ad, a = some ad ∧ (w.alloc o).cell? (ad.add j) = some u := by
  intro j u hu
  obtain ⟨ad, e, hc⟩ := h j u hu
  exact ⟨ad, e, ((Only.refl [] w).alloc o).cell hc (by simp)⟩
end
section
open Lies (size elem)
variable {w : World}
theorem read_new (w : World) (cs : List Value) (E : TypeId) : ∀ (j : Nat) (u : Value), cs[j]? = some u → ∃ ad, some (⟨w.heap.size, 0, none⟩ : Addr) = some ad ∧ (w.alloc (.cells cs.toArray E)).cell? (ad.add j) = some u := by
  intro j u hu
  refine ⟨_, rfl, ?_⟩
  rw [Addr.add_lit, (Blk.new w E cs.toArray).cell]
  simpa using hu
variable {α : Type} [Flat α] {P : Program} {v : Value} {l : List α} {bs : List Nat} {t ty : TypeId}
/-- one element is laid behind a list -/
theorem wpList_append_one {ops : Array Oper} {rest : List Oper} {o : Oper} {a : Act} {Q : Exit → Act → World → Prop} (hgd : o.guard = none) (s y : Operand)
    (ho : o.op = .call { callee := .builtin .append, args := #[s, y], argTypes := #[t, t] })
    (ok : TyOk P t (elem α) (size α)) (hs : a.eval s = v) (h : Sl w v l bs) (x : α) (hx : a.eval y = .slice (some ⟨w.heap.size, 0, none⟩) 1 1) (hsz : l.length + 1 ≤ 274877906944)
    (hk : ∀ v' w' bs', Sl w' v' (l ++ [x]) bs' → Only (bs.take 1) w w' → (∀ q ∈ bs', q ∈ bs ∨ w.heap.size ≤ q) → wpList P ops Q rest (a.put o.dst v') w') :
    wpList P ops Q (o :: rest) a (w.alloc (.cells (Flat.cells x).toArray (elem α))) := by
  have ho0 : Only [] w (w.alloc (.cells (Flat.cells x).toArray (elem α))) := (Only.refl [] w).alloc _
  refine wpList_append_sl hgd s y ho ok hs (h.alloc _) (l' := [x]) (bn := []) _ 1 1 hx (Flat.cells x) rfl (read_new w _ _) (RL.one ⟨rfl, rfl⟩) (by simpa using h.flat_bs) (by simpa using hsz) ?_
  intro v' w' bs' h1 h2 h3 h4
  refine hk v' w' bs' h1 (ho0.trans_ h2 (by simp) (fun b hb => .inl hb)) fun q hq => ?_
  rcases h3 q hq with h | h | h
  · exact .inl h
  · cases h
  · exact .inr (Nat.le_trans ho0.size h)
end
end Go.Proofs.Ytbhoocdongeomaa
namespace Go.Proofs.Ytbhoocdongeomaa
open Go.RowKit
/-- cells stored one behind the other -/
def setCells (w : World) (b p : Nat) : List Value → World
  | [] => w
  | u :: us => setCells (w.setCell ⟨b, p, none⟩ u) b (p + 1) us
theorem setCells_blk {E : TypeId} (b : Nat) : ∀ (us : List Value) (p : Nat) (w : World) (cur : Array Value), Blk w b E cur → p + us.length ≤ cur.size →
    ∃ cur', Blk (setCells w b p us) b E cur' ∧ cur'.size = cur.size ∧ ∀ k, cur'.toList[k]? = if p ≤ k ∧ k < p + us.length then us[k - p]? else cur.toList[k]?
  | [], p, w, cur, h, _ => ⟨cur, h, rfl, fun k => by rw [if_neg (by simp only [List.length_nil]; omega)]⟩
  | u :: us, p, w, cur, h, hl => by
    simp only [List.length_cons] at hl
    obtain ⟨cur', h1, h2, h3⟩ := setCells_blk b us (p + 1) _ _ (h.set_ p u) (by simp; omega)
    refine ⟨cur', h1, by simpa using h2, fun k => ?_⟩
    rw [h3 k]
    simp only [Array.toList_setIfInBounds, List.length_cons]
    by_cases e : k = p
    · subst e
      rw [if_neg (by omega), if_pos (by omega), List.getElem?_set_self (by simp; omega)]
      simp
    · by_cases e2 : p + 1 ≤ k ∧ k < p + 1 + us.length
      · rw [if_pos e2, if_pos (by omega)]
        rw [show k - p = (k - (p + 1)) + 1 from by omega, List.getElem?_cons_succ]
      · rw [if_neg e2, if_neg (by omega), List.getElem?_set_ne (Ne.symm e)]
theorem Only.setCells {S : List Nat} {w : World} (b : Nat) : ∀ (us : List Value) (p : Nat) (w1 : World), Only S w w1 → (b ∈ S ∨ w.heap.size ≤ b) → Only S w (setCells w1 b p us)
  | [], _, _, h, _ => h
  | u :: us, p, w1, h, hb => Only.setCells b us (p + 1) _ (h.setCell (p := ⟨b, p, none⟩) hb u) hb
section
variable {α : Type} [Flat α] {w : World} {v : Value} {l : List α} {bs : List Nat}
theorem Sl.setFlat {b o n c : Nat} (h : Sl w (.slice (some ⟨b, o, none⟩) n c) l bs) {i : Nat} (hi : i < l.length) (x : α) :
    Sl (setCells w b (o + i * Flat.n α) (Flat.cells x)) (.slice (some ⟨b, o, none⟩) n c) (l.set i x) bs := by
  rcases h with ⟨a, e, rfl, rfl⟩ | ⟨b', o', c', cur, vs, bs', e, h1, h2, h3, h4, h5, h6, rfl⟩
  · simp at hi
  · simp only [Value.slice.injEq, Option.some.injEq, Addr.mk.injEq, and_true] at e
    obtain ⟨⟨rfl, rfl⟩, rfl, rfl⟩ := e
    obtain ⟨v1, cs, v2, b1, b2, b3, rfl, rfl, hl, ⟨rfl, rfl⟩, r1, r2⟩ := h6.get hi
    have hb1 := (RL.flat.1 r1).2
    have hb3 := (RL.flat.1 r2).2
    subst hb1 hb3
    have hxl : (Flat.cells x).length = Flat.n α := Flat.hlen x
    have hcl : (Flat.cells l[i]).length = Flat.n α := Flat.hlen _
    have h4 : o + c * Flat.n α ≤ cur.size := h4
    have h5 : List.take (l.length * Flat.n α) (List.drop o cur.toList) = v1 ++ (Flat.cells l[i] ++ v2) := h5
    have hl : v1.length = i * Flat.n α := hl
    have hmul : (i + 1) * Flat.n α ≤ l.length * Flat.n α := Nat.mul_le_mul_right _ hi
    have hmul2 : l.length * Flat.n α ≤ c * Flat.n α := Nat.mul_le_mul_right _ h1
    rw [Nat.add_mul, Nat.one_mul] at hmul
    obtain ⟨cur', g1, g2, g3⟩ := setCells_blk b (Flat.cells x) (o + i * Flat.n α) w cur h3 (by omega)
    refine .inr ⟨b, o, c, cur', v1 ++ (Flat.cells x ++ v2), [], by simp, by simpa using h1, h2, g1, by rw [g2]; exact h4, ?_, ?_, by simp⟩
    · show (cur'.toList.drop o).take ((l.set i x).length * Flat.n α) = _
      rw [List.length_set]
      apply List.ext_getElem?
      intro k
      have hcur := congrArg (fun L => L[k]?) h5
      simp only [List.getElem?_take, List.getElem?_drop] at hcur ⊢
      have hvl : (v1 ++ (Flat.cells l[i] ++ v2)).length = l.length * Flat.n α := h6.len
      simp only [List.length_append] at hvl
      by_cases hk : k < l.length * Flat.n α
      · rw [if_pos hk] at hcur ⊢
        rw [g3]
        by_cases hin : i * Flat.n α ≤ k ∧ k < i * Flat.n α + Flat.n α
        · rw [if_pos (by omega), List.getElem?_append_right (by omega), List.getElem?_append_left (by omega)]
          congr 1
          omega
        · rw [if_neg (by omega), hcur]
          by_cases hlo : k < i * Flat.n α
          · rw [List.getElem?_append_left (by omega), List.getElem?_append_left (by omega)]
          · rw [List.getElem?_append_right (by omega), List.getElem?_append_right (by omega), List.getElem?_append_right (by omega), List.getElem?_append_right (by omega), hxl, hcl]
      · rw [if_neg hk, List.getElem?_eq_none]
        simp only [List.length_append]
        omega
    · have e : l.set i x = l.take i ++ (x :: l.drop (i + 1)) := List.set_eq_take_append_cons_drop .. ▸ by simp [hi]
      rw [e]
      have q1 : RL (setCells w b (o + i * Flat.n α) (Flat.cells x)) v1 (l.take i) [] := RL.flat.2 (RL.flat.1 r1)
      have q2 : RL (setCells w b (o + i * Flat.n α) (Flat.cells x)) v2 (l.drop (i + 1)) [] := RL.flat.2 (RL.flat.1 r2)
      exact q1.append ⟨_, _, [], [], rfl, rfl, ⟨rfl, rfl⟩, q2⟩
/-- a made list -/
theorem Sl.madeFlat (w : World) (n : Nat) (hn : n ≤ 274877906944) (z : Value) (x0 : α) (hz : z.cells.toList = Flat.cells x0) :
    Sl (w.alloc (.cells (madeCells z.cells (n * Flat.n α)) (Flat.e α))) (.slice (some ⟨w.heap.size, 0, none⟩) n n) (List.replicate n x0) [w.heap.size] := by
  have hM : maxLen = 9223372036854775807 := rfl
  have hzs : z.cells.size = Flat.n α := by rw [← Array.length_toList, hz]; exact Flat.hlen _
  refine Sl.of_row (cur := madeCells z.cells (n * Flat.n α)) (vs := (List.replicate n x0).flatMap Flat.cells) (by simp) (by simp) (by omega) (heap_alloc_new w _) (by simp [size_madeCells, Lies.size]) ?_ (RL.flat.2 ⟨rfl, rfl⟩)
  simp only [List.length_replicate, List.drop_zero]
  show (madeCells z.cells (n * Flat.n α)).toList.take (n * Flat.n α) = _
  rw [List.take_of_length_le (by simp [size_madeCells])]
  unfold madeCells
  rw [hzs]
  induction n with
  | zero => simp
  | succ n ih =>
    have ih := ih (by omega)
    rw [List.replicate_succ', List.flatMap_append, ← ih]
    simp only [Array.toList_map, Array.toList_range, List.flatMap_cons, List.flatMap_nil, List.append_nil]
    rw [Nat.add_mul, Nat.one_mul, List.range_add, List.map_append]
    congr 1
    rw [← hz]
    apply List.ext_getElem
    · simp [hzs]
    · intro k h1 h2
      simp only [List.length_map, List.length_range] at h1
      simp only [List.getElem_map, List.getElem_range, Nat.mul_add_mod_self_right, Array.getElem_toList]
      rw [Nat.mod_eq_of_lt (by simpa using h1)]
      rw [getElem!_pos z.cells k (by omega)]
end
end Go.Proofs.Ytbhoocdongeomaa
namespace Go.Proofs.Ytbhoocdongeomaa
open Go.RowKit
section
variable {α : Type} [Lies α] {w : World} {l : List α} {bs : List Nat}
/-- the first so many -/
theorem Sl.pre {a : Option Addr} {n c : Nat} (h : Sl w (.slice a n c) l bs) {j : Nat} (hj : j ≤ l.length) : ∃ bs', Sl w (.slice a j c) (l.take j) bs' ∧ bs'.Sublist bs := by
  rcases h with ⟨a', e, rfl, rfl⟩ | ⟨b, o, c', cur, vs, bs', e, h1, h2, h3, h4, h5, h6, rfl⟩
  · simp only [Value.slice.injEq] at e
    obtain ⟨rfl, rfl, rfl⟩ := e
    have : j = 0 := by simpa using hj
    subst this
    exact ⟨[], Sl.nil_ _, List.Sublist.refl _⟩
  · simp only [Value.slice.injEq] at e
    obtain ⟨rfl, rfl, rfl⟩ := e
    have e : l = l.take j ++ l.drop j := (List.take_append_drop j l).symm
    have h6' := h6
    rw [e] at h6'
    obtain ⟨v1, v2, b1, b2, rfl, rfl, r1, r2⟩ := RL.split h6'
    have hl1 : (l.take j).length = j := by simp; omega
    refine ⟨b :: b1, Sl.of_row (vs := v1) hl1.symm (by omega) h2 h3 h4 ?_ r1, List.Sublist.cons_cons _ (List.sublist_append_left b1 b2)⟩
    have hv1 : v1.length = j * Lies.size α := by rw [r1.len, hl1]
    have h7 : ((cur.toList.drop o).take (l.length * Lies.size α)).take (j * Lies.size α) = v1 := by rw [h5, ← hv1]; simp
    rw [List.take_take, Nat.min_eq_left (Nat.mul_le_mul_right _ hj)] at h7
    rw [hl1]
    exact h7
end
end Go.Proofs.Ytbhoocdongeomaa
