/- Words for memory: what a call may change, and slices that read as lists. No program in sight. -/
import Derived.WalkKit
import Derived.ProofKit
import Derived.Below
import Derived.Laws.OwnMore
import Derived.Deep.Draws
namespace Go.Proofs.Ytbhoocdongeomaa
open Go.RowKit

/-- w' is w, but for the blocks in S and for new blocks -/
structure Only (S : List Nat) (w w' : World) : Prop where
  os : w'.os = w.os
  tape : w'.tape = w.tape
  output : w'.output = w.output
  size : w.heap.size ≤ w'.heap.size
  block : ∀ k, k < w.heap.size → k ∉ S → w'.heap[k]? = w.heap[k]?

section
variable {S T U : List Nat} {w w' w1 w2 : World}
theorem Only.refl (S : List Nat) (w : World) : Only S w w := ⟨rfl, rfl, rfl, Nat.le_refl _, fun _ _ _ => rfl⟩
theorem Only.trans_ (h : Only S w w1) (k : Only T w1 w2) (hS : ∀ b ∈ S, b ∈ U ∨ w.heap.size ≤ b) (hT : ∀ b ∈ T, b ∈ U ∨ w.heap.size ≤ b) : Only U w w2 :=
  ⟨k.os.trans h.os, k.tape.trans h.tape, k.output.trans h.output, Nat.le_trans h.size k.size, fun i hi hn =>
    (k.block i (Nat.lt_of_lt_of_le hi h.size) (fun hb => (hT i hb).elim hn (fun h' => by omega))).trans
      (h.block i hi (fun hb => (hS i hb).elim hn (fun h' => by omega)))⟩
theorem Only.trans (h : Only S w w1) (k : Only S w1 w2) : Only S w w2 := h.trans_ k (fun _ h => .inl h) (fun _ h => .inl h)
/-- a step that changes nothing of what was there when the first world was -/
theorem Only.trans_new (h : Only S w w1) (k : Only T w1 w2) (hT : ∀ b ∈ T, w.heap.size ≤ b) : Only S w w2 :=
  h.trans_ k (fun _ h => .inl h) (fun b hb => .inr (hT b hb))
theorem Only.trans0 (h : Only S w w1) (k : Only [] w1 w2) : Only S w w2 := h.trans_new k (fun _ h => by cases h)
theorem Only.more (h : Only S w w1) (hS : ∀ b ∈ S, b ∈ U ∨ w.heap.size ≤ b) : Only U w w1 := h.trans_ (Only.refl [] w1) hS (fun _ h => by cases h)
theorem Only.drew (h : Only S w w1) : Only S w w1.drew := ⟨h.os, h.tape, h.output, h.size, h.block⟩
theorem Only.drewN (h : Only S w w1) (n : Nat) : Only S w (w1.drewN n) := ⟨h.os, h.tape, h.output, h.size, h.block⟩
theorem Only.alloc (h : Only S w w1) (o : Obj) : Only S w (w1.alloc o) :=
  ⟨h.os, h.tape, h.output, Nat.le_trans h.size (by simp), fun i hi hn => (Below.heap_alloc w1 o i (Nat.lt_of_lt_of_le hi h.size)).trans (h.block i hi hn)⟩
theorem Only.setCell (h : Only S w w1) {p : Addr} (hp : p.block ∈ S ∨ w.heap.size ≤ p.block) (u : Value) : Only S w (w1.setCell p u) :=
  ⟨h.os, h.tape, h.output, by simpa [World.setCell] using h.size, fun i hi hn => (Below.heap_setCell w1 p u i (by
    rintro rfl
    rcases hp with hp | hp
    · exact hn hp
    · omega)).trans (h.block i hi hn)⟩
theorem Only.of_grown {row : Option Nat} (h : w.grownBy w1 row) (hr : ∀ k, row = some k → k ∈ S ∨ w.heap.size ≤ k) : Only S w w1 :=
  ⟨h.os, h.tape, h.output, h.size, fun k hk hn => h.block k hk (fun e => by rcases hr k e.symm with h | h; exact hn h; omega)⟩
theorem Only.of_below (h : Below w.heap.size w w1) : Only S w w1 := ⟨h.os, h.tape, h.output, h.size, fun k hk _ => h.block k hk⟩
theorem Only.below (h : Only [] w w1) : Below w.heap.size w w1 := ⟨h.os, h.tape, h.output, h.size, fun k hk => h.block k hk (by simp)⟩
theorem Only.below_of (h : Only S w w1) (hS : ∀ b ∈ S, w.heap.size ≤ b) : Below w.heap.size w w1 :=
  ⟨h.os, h.tape, h.output, h.size, fun k hk => h.block k hk (fun hb => by have := hS k hb; omega)⟩
theorem Only.cell (h : Only S w w1) {p : Addr} {v : Value} (hc : w.cell? p = some v) (hn : p.block ∉ S) : w1.cell? p = some v :=
  (World.cell?_of_block (h.block p.block (World.block_lt_of_cell? w p hc) hn)).trans hc
theorem Only.frozen (h : Only S w w1) {p : Addr} (hp : p.block < w.heap.size) (hn : p.block ∉ S) : w1.frozen? p = w.frozen? p :=
  World.frozen?_of_block (h.block p.block hp hn)
end

/-- block g is just these cells -/
def Blk (w : World) (g : Nat) (t : TypeId) (cs : Array Value) : Prop := w.heap[g]? = some (.cells cs t (0, 0))
section
variable {S : List Nat} {w w' : World} {g : Nat} {t : TypeId} {cs : Array Value}
theorem Blk.lt (h : Blk w g t cs) : g < w.heap.size := by
  rcases Nat.lt_or_ge g w.heap.size with hlt | hge
  · exact hlt
  · unfold Blk at h; rw [Array.getElem?_eq_none hge] at h; cases h
theorem Blk.cell (h : Blk w g t cs) (i : Nat) : w.cell? ⟨g, i, none⟩ = cs[i]? := cell_of_row w g i cs t (0, 0) h
theorem Blk.frozen (h : Blk w g t cs) (i : Nat) : w.frozen? ⟨g, i, none⟩ = false := by
  unfold Blk at h
  simp [World.frozen?, h]
theorem Blk.new (w : World) (t : TypeId) (cs : Array Value) : Blk (w.alloc (.cells cs t)) w.heap.size t cs := heap_alloc_new w _
theorem Blk.drew (h : Blk w g t cs) : Blk w.drew g t cs := h
theorem Blk.drewN (h : Blk w g t cs) (n : Nat) : Blk (w.drewN n) g t cs := h
theorem Blk.alloc (h : Blk w g t cs) (o : Obj) : Blk (w.alloc o) g t cs := (Below.heap_alloc w o g h.lt).trans h
theorem Blk.set_ (h : Blk w g t cs) (i : Nat) (u : Value) : Blk (w.setCell ⟨g, i, none⟩ u) g t (cs.setIfInBounds i u) := by
  unfold Blk at h ⊢
  simp [World.setCell, Array.getElem?_modify, h]
theorem Blk.far (h : Blk w g t cs) {p : Addr} (hp : g ≠ p.block) (u : Value) : Blk (w.setCell p u) g t cs := (Below.heap_setCell w p u g hp).trans h
theorem Blk.only (h : Blk w g t cs) (hb : Only S w w') (hg : g ∉ S) : Blk w' g t cs := (hb.block g h.lt hg).trans h
theorem Blk.inj {t' : TypeId} {cs' : Array Value} (h : Blk w g t cs) (h' : Blk w g t' cs') : cs = cs' ∧ t = t' := by
  unfold Blk at h h'
  rw [h] at h'
  injection h' with h'
  injection h' with h1 h2
  exact ⟨h1, h2⟩
end

/-- how a type's values lie in memory: so many cells; 'R w cs x bs': the cells cs read as x, by way of the blocks bs -/
class Lies (α : Type) where
  size : Nat
  elem : TypeId
  R : World → List Value → α → List Nat → Prop
  len : ∀ {w cs x bs}, R w cs x bs → cs.length = size
  old : ∀ {w cs x bs}, R w cs x bs → ∀ b ∈ bs, b < w.heap.size
  frame : ∀ {w w' cs x bs}, R w cs x bs → (∀ b ∈ bs, w'.heap[b]? = w.heap[b]?) → R w' cs x bs
  one : ∀ {w cs x bs}, R w cs x bs → ∀ u ∈ cs, u.oneCell' = true

section
variable {α : Type} [Lies α]
open Lies (R size elem)

/-- cells that read as a list -/
def RL (w : World) : List Value → List α → List Nat → Prop
  | vs, [], bs => vs = [] ∧ bs = []
  | vs, x :: l, bs => ∃ cs vs' b1 b2, vs = cs ++ vs' ∧ bs = b1 ++ b2 ∧ R w cs x b1 ∧ RL w vs' l b2

variable {w w' : World} {vs vs' : List Value} {l l' : List α} {bs bs' : List Nat} {x : α} {S : List Nat}

theorem RL.len : ∀ {vs : List Value} {l : List α} {bs : List Nat}, RL w vs l bs → vs.length = l.length * size α
  | _, [], _, h => by simp [h.1]
  | _, x :: l, _, ⟨cs, vs', b1, b2, e, _, h1, h2⟩ => by
    have a := Lies.len h1
    have b := RL.len h2
    rw [e, List.length_append, a, b, List.length_cons, Nat.add_mul, Nat.one_mul, Nat.add_comm]
theorem RL.old : ∀ {vs : List Value} {l : List α} {bs : List Nat}, RL w vs l bs → ∀ b ∈ bs, b < w.heap.size
  | _, [], _, h => by simp [h.2]
  | _, x :: l, _, ⟨cs, vs', b1, b2, _, e, h1, h2⟩ => by
    intro b hb
    rw [e, List.mem_append] at hb
    rcases hb with hb | hb
    · exact Lies.old h1 b hb
    · exact RL.old h2 b hb
theorem RL.frame : ∀ {vs : List Value} {l : List α} {bs : List Nat}, RL w vs l bs → (∀ b ∈ bs, w'.heap[b]? = w.heap[b]?) → RL w' vs l bs
  | _, [], _, h, _ => h
  | _, x :: l, _, ⟨cs, vs', b1, b2, e, e2, h1, h2⟩, hf =>
    ⟨cs, vs', b1, b2, e, e2, Lies.frame h1 (fun b hb => hf b (by rw [e2]; exact List.mem_append_left _ hb)), RL.frame h2 (fun b hb => hf b (by rw [e2]; exact List.mem_append_right _ hb))⟩
theorem RL.one_ : ∀ {vs : List Value} {l : List α} {bs : List Nat}, RL w vs l bs → ∀ u ∈ vs, u.oneCell' = true
  | _, [], _, h => by simp [h.1]
  | _, x :: l, _, ⟨cs, vs', b1, b2, e, _, h1, h2⟩ => by
    intro u hu
    rw [e, List.mem_append] at hu
    rcases hu with hu | hu
    · exact Lies.one h1 u hu
    · exact RL.one_ h2 u hu
theorem RL.append : ∀ {vs vs' : List Value} {l l' : List α} {bs bs' : List Nat}, RL w vs l bs → RL w vs' l' bs' → RL w (vs ++ vs') (l ++ l') (bs ++ bs')
  | _, _, [], _, _, _, h, h' => by rw [h.1, h.2]; exact h'
  | _, _, x :: l, _, _, _, ⟨cs, v2, b1, b2, e, e2, h1, h2⟩, h' =>
    ⟨cs, _, b1, _, by rw [e, List.append_assoc], by rw [e2, List.append_assoc], h1, RL.append h2 h'⟩
theorem RL.split : ∀ {l : List α} {vs : List Value} {bs : List Nat} {l' : List α}, RL w vs (l ++ l') bs → ∃ v1 v2 b1 b2, vs = v1 ++ v2 ∧ bs = b1 ++ b2 ∧ RL w v1 l b1 ∧ RL w v2 l' b2
  | [], vs, bs, _, h => ⟨[], vs, [], bs, rfl, rfl, ⟨rfl, rfl⟩, h⟩
  | x :: l, _, _, _, ⟨cs, v2, b1, b2, e, e2, h1, h2⟩ => by
    obtain ⟨p, q, c, d, f, f2, g1, g2⟩ := RL.split (l := l) h2
    exact ⟨cs ++ p, q, b1 ++ c, d, by rw [e, f, List.append_assoc], by rw [e2, f2, List.append_assoc], ⟨cs, p, b1, c, rfl, rfl, h1, g1⟩, g2⟩
theorem RL.one {cs : List Value} (h : R w cs x bs) : RL w cs [x] bs := ⟨cs, [], bs, [], by simp, by simp, h, rfl, rfl⟩
theorem RL.get (h : RL w vs l bs) {i : Nat} (hi : i < l.length) : ∃ v1 cs v2 b1 b2 b3, vs = v1 ++ (cs ++ v2) ∧ bs = b1 ++ (b2 ++ b3) ∧ v1.length = i * size α ∧ R w cs l[i] b2 ∧
    RL w v1 (l.take i) b1 ∧ RL w v2 (l.drop (i + 1)) b3 := by
  have e : l = l.take i ++ (l[i] :: l.drop (i + 1)) := by
    rw [← List.drop_eq_getElem_cons hi, List.take_append_drop]
  rw [e] at h
  obtain ⟨v1, v2, b1, b2, rfl, rfl, h1, cs, v3, b3, b4, rfl, rfl, h2, h3⟩ := RL.split h
  exact ⟨v1, cs, v3, b1, b3, b4, rfl, rfl, by rw [h1.len, List.length_take]; congr 1; omega, h2, h1, h3⟩

/-- a slice value that reads as a list, by way of the blocks bs -/
def Sl (w : World) (v : Value) (l : List α) (bs : List Nat) : Prop :=
  (∃ a, v = .slice a 0 0 ∧ l = [] ∧ bs = []) ∨
  ∃ b o c cur vs bs', v = .slice (some ⟨b, o, none⟩) l.length c ∧ l.length ≤ c ∧ c ≤ maxLen ∧ Blk w b (elem α) cur ∧ o + c * size α ≤ cur.size ∧
    (cur.toList.drop o).take (l.length * size α) = vs ∧ RL w vs l bs' ∧ bs = b :: bs'

variable {v : Value}
theorem Sl.nil_ (a : Option Addr) : Sl (α := α) w (.slice a 0 0) [] [] := .inl ⟨a, rfl, rfl, rfl⟩
theorem Sl.form (h : Sl w v l bs) : ∃ a c, v = .slice a l.length c ∧ l.length ≤ c ∧ c ≤ maxLen := by
  rcases h with ⟨a, rfl, rfl, rfl⟩ | ⟨b, o, c, cur, vs, bs', rfl, h1, h2, _⟩
  · exact ⟨a, 0, rfl, Nat.le_refl _, by simp [maxLen]⟩
  · exact ⟨_, c, rfl, h1, h2⟩
theorem Sl.len (h : Sl w v l bs) : l.length ≤ maxLen := by
  obtain ⟨a, c, _, h1, h2⟩ := h.form
  omega
theorem Sl.old (h : Sl w v l bs) : ∀ b ∈ bs, b < w.heap.size := by
  rcases h with ⟨a, rfl, rfl, rfl⟩ | ⟨b, o, c, cur, vs, bs', rfl, h1, h2, h3, _, _, h4, rfl⟩
  · simp
  · intro b hb
    rcases List.mem_cons.1 hb with rfl | hb
    · exact h3.lt
    · exact h4.old b hb
theorem Sl.frame (h : Sl w v l bs) (hf : ∀ b ∈ bs, w'.heap[b]? = w.heap[b]?) : Sl w' v l bs := by
  rcases h with h | ⟨b, o, c, cur, vs, bs', e, h1, h2, h3, h4, h5, h6, rfl⟩
  · exact .inl h
  · exact .inr ⟨b, o, c, cur, vs, bs', e, h1, h2, (hf b (by simp)).trans h3, h4, h5, h6.frame (fun b hb => hf b (by simp [hb])), rfl⟩
theorem Sl.only (h : Sl w v l bs) (ho : Only S w w') (hd : ∀ b ∈ bs, b ∉ S) : Sl w' v l bs :=
  h.frame fun b hb => ho.block b (h.old b hb) (hd b hb)
theorem Sl.only0 (h : Sl w v l bs) (ho : Only [] w w') : Sl w' v l bs := h.only ho (fun _ _ => by simp)
theorem Sl.drew (h : Sl w v l bs) : Sl w.drew v l bs := h.frame fun _ _ => rfl
theorem Sl.drewN (h : Sl w v l bs) (n : Nat) : Sl (w.drewN n) v l bs := h.frame fun _ _ => rfl
theorem Sl.alloc (h : Sl w v l bs) (o : Obj) : Sl (w.alloc o) v l bs := h.only0 ((Only.refl [] w).alloc o)
theorem R_only {cs : List Value} (h : R w cs x bs) (ho : Only S w w') (hd : ∀ b ∈ bs, b ∉ S) : R w' cs x bs :=
  Lies.frame h fun b hb => ho.block b (Lies.old h b hb) (hd b hb)

/-- the cells of an element -/
theorem Sl.at_ (h : Sl w v l bs) {i : Nat} (hi : i < l.length) : ∃ b o c cs b2, v = .slice (some ⟨b, o, none⟩) l.length c ∧ b ∈ bs ∧ (∀ q ∈ b2, q ∈ bs) ∧ (bs.Nodup → b ∉ b2) ∧ R w cs l[i] b2 ∧ b < w.heap.size ∧
    (∀ j u, cs[j]? = some u → w.cell? ⟨b, o + i * size α + j, none⟩ = some u) ∧ (∀ j, w.frozen? ⟨b, j, none⟩ = false) := by
  rcases h with ⟨a, rfl, rfl, rfl⟩ | ⟨b, o, c, cur, vs, bs', rfl, h1, h2, h3, h4, h5, h6, rfl⟩
  · simp at hi
  · obtain ⟨v1, cs, v2, b1, b2, b3, e, e2, hl, hr, _, _⟩ := h6.get hi
    refine ⟨b, o, c, cs, b2, rfl, by simp, fun q hq => by simp [e2, hq], fun hn hb => ?_, hr, h3.lt, fun j u hu => ?_, fun j => h3.frozen j⟩
    · rw [e2] at hn
      simp [hb] at hn
    · rw [h3.cell]
      have hj : vs[v1.length + j]? = some u := by
        have hjl : j < cs.length := by
          rcases Nat.lt_or_ge j cs.length with h | h
          · exact h
          · rw [List.getElem?_eq_none h] at hu; cases hu
        rw [e, List.getElem?_append_right (by omega), List.getElem?_append_left (by omega)]
        rwa [Nat.add_sub_cancel_left]
      rw [← h5, List.getElem?_take] at hj
      split at hj
      · rw [List.getElem?_drop, hl] at hj
        rw [← Nat.add_assoc] at hj
        simpa using hj
      · cases hj
end
end Go.Proofs.Ytbhoocdongeomaa
