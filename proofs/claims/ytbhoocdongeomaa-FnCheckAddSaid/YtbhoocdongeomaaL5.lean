/- Laws at one operation: an element is laid behind a list (in a region that draws its order). -/
import Derived.Test.YtbhoocdongeomaaL4
set_option linter.unusedVariables false
namespace Go.Proofs.Ytbhoocdongeomaa
open Go.ChangeShapes Go.WideShapes Go.ChangeAt Lies

section
variable {α : Type} [Flat α] {P : Program} {v : Value} {l l' : List α} {bs bn : List Nat} {t : TypeId} {w : World}
theorem wp_append_one {o : Oper} {a : Act} {K : Act → World → Prop} {Q : Exit → Act → World → Prop} (s y : Operand)
    (ho : o.op = .call { callee := .builtin .append, args := #[s, y], argTypes := #[t, t] })
    (ok : TyOk P t (elem α) (size α)) (hs : a.eval s = v) (h : Sl w v l bs) (x : α) (hx : a.eval y = .slice (some ⟨w.heap.size, 0, none⟩) 1 1) (hsz : l.length + 1 ≤ 274877906944)
    (hk : ∀ v' w' bs', Sl w' v' (l ++ [x]) bs' → Only (bs.take 1) w w' → (∀ q ∈ bs', q ∈ bs ∨ w.heap.size ≤ q) → K (a.put o.dst v') w') :
    o.wp P a (w.alloc (.cells (Flat.cells x).toArray (elem α))) K Q := by
  have ho0 : Only [] w (w.alloc (.cells (Flat.cells x).toArray (elem α))) := (Only.refl [] w).alloc _
  refine wp_append_sl s y ho ok hs (h.alloc _) (l' := [x]) (bn := []) _ 1 1 hx (Flat.cells x) rfl (read_new w _ _) (RL.one ⟨rfl, rfl⟩) (by simpa using h.flat_bs) (by simpa using hsz) ?_
  intro v' w' bs' h1 h2 h3 h4
  refine hk v' w' bs' h1 (ho0.trans_ h2 (by simp) (fun b hb => .inl hb)) fun q hq => ?_
  rcases h3 q hq with h | h | h
  · exact .inl h
  · cases h
  · exact .inr (Nat.le_trans ho0.size h)
/-- the same, the element in a block of its own -/
theorem wp_append_blk {o : Oper} {a : Act} {K : Act → World → Prop} {Q : Exit → Act → World → Prop} (s y : Operand)
    (ho : o.op = .call { callee := .builtin .append, args := #[s, y], argTypes := #[t, t] })
    (ok : TyOk P t (elem α) (size α)) (hs : a.eval s = v) (h : Sl w v l bs) (x : α) (g : Nat) (hg : Blk w g (elem α) (Flat.cells x).toArray) (hx : a.eval y = .slice (some ⟨g, 0, none⟩) 1 1) (hsz : l.length + 1 ≤ 274877906944)
    (hk : ∀ v' w' bs', Sl w' v' (l ++ [x]) bs' → Only (bs.take 1) w w' → (∀ q ∈ bs', q ∈ bs ∨ w.heap.size ≤ q) → K (a.put o.dst v') w') : o.wp P a w K Q := by
  refine wp_append_sl s y ho ok hs h (l' := [x]) (bn := []) (some ⟨g, 0, none⟩) 1 1 hx (Flat.cells x) rfl ?_ (RL.one ⟨rfl, rfl⟩) (by simpa using h.flat_bs) (by simpa using hsz) ?_
  · intro j u hu
    refine ⟨_, rfl, ?_⟩
    rw [Addr.add_lit, Nat.zero_add, hg.cell]
    simpa using hu
  intro v' w' bs' h1 h2 h3 h4
  refine hk v' w' bs' h1 h2 fun q hq => ?_
  rcases h3 q hq with h | h | h
  · exact .inl h
  · cases h
  · exact .inr h
/-- a copy of a list: all of it is laid behind an empty one -/
theorem wp_append_copy {o : Oper} {a : Act} {K : Act → World → Prop} {Q : Exit → Act → World → Prop} (s y : Operand)
    (ho : o.op = .call { callee := .builtin .append, args := #[s, y], argTypes := #[t, t] })
    (ok : TyOk P t (elem α) (size α)) (a0 : Option Addr) (hs : a.eval s = .slice a0 0 0) (h : Sl w v l bs) (hx : a.eval y = v) (hsz : l.length ≤ 274877906944)
    (hk : ∀ v' w' bs', Sl w' v' l bs' → Only [] w w' → (∀ q ∈ bs', w.heap.size ≤ q) → bs'.Nodup → K (a.put o.dst v') w') : o.wp P a w K Q := by
  obtain ⟨ad, c, news, rfl, hread, hR⟩ := h.source_flat
  refine wp_append_sl (l := []) (bs := []) (l' := l) (bn := []) s y ho ok hs (Sl.nil_ _) ad l.length c hx news rfl hread (hR w) (by simp) (by simpa using hsz) ?_
  intro v' w' bs' h1 h2 h3 h4
  exact hk v' w' bs' (by simpa using h1) (by simpa using h2) (fun q hq => by have := h3 q hq; simpa using this) h4
theorem wpList_append_copy {ops : Array Oper} {rest : List Oper} {o : Oper} {a : Act} {Q : Exit → Act → World → Prop} (hgd : o.guard = none) (s y : Operand)
    (ho : o.op = .call { callee := .builtin .append, args := #[s, y], argTypes := #[t, t] })
    (ok : TyOk P t (elem α) (size α)) (a0 : Option Addr) (hs : a.eval s = .slice a0 0 0) (h : Sl w v l bs) (hx : a.eval y = v) (hsz : l.length ≤ 274877906944)
    (hk : ∀ v' w' bs', Sl w' v' l bs' → Only [] w w' → (∀ q ∈ bs', w.heap.size ≤ q) → bs'.Nodup → wpList P ops Q rest (a.put o.dst v') w') : wpList P ops Q (o :: rest) a w :=
  wpList_plain hgd fun _ hK => wp_append_copy s y ho ok a0 hs h hx hsz fun v' w' bs' h1 h2 h3 h4 => hK _ _ (hk v' w' bs' h1 h2 h3 h4)
/-- a list is returned that lies in blocks of its own, and a word -/
def FreshB (l : List α) (f : Bool) (w : World) (e : Ending) (w' : World) : Prop :=
  ∃ v bs, e = .returned (.tuple #[v, .bool f]) ∧ Sl w' v l bs ∧ (∀ b ∈ bs, w.heap.size ≤ b) ∧ bs.Nodup ∧ Only [] w w'
end
section
variable {α : Type} [Lies α] {l : List α} {bs : List Nat} {w : World}
theorem Sl.row {b o n c : Nat} (h : Sl w (.slice (some ⟨b, o, none⟩) n c) l bs) (hl : 0 < l.length) : ∃ cur, Blk w b (elem α) cur ∧ o + c * size α ≤ cur.size ∧ b ∈ bs := by
  rcases h with ⟨a', e, rfl, rfl⟩ | ⟨b', o', c', cur, vs, bs', e, h1, h2, h3, h4, h5, h6, rfl⟩
  · simp at hl
  · simp only [Value.slice.injEq, Option.some.injEq, Addr.mk.injEq, and_true] at e
    obtain ⟨⟨rfl, rfl⟩, rfl, rfl⟩ := e
    exact ⟨cur, h3, h4, by simp⟩
/-- a part of a list is returned, in its own memory; nothing but that memory is changed -/
def PartRet (l : List α) (bs : List Nat) (w : World) (e : Ending) (w' : World) : Prop :=
  ∃ v bs', e = .returned v ∧ Sl w' v l bs' ∧ bs'.Sublist bs ∧ Only bs w w'
end
end Go.Proofs.Ytbhoocdongeomaa
