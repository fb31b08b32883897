/- The operations on slices, over any program: append, make, cut, store. -/
import Derived.Test.YtbhoocdongeomaaL1
import Derived.Maps.AppendAt
import Derived.Deep.AppendLies
import Derived.RegionTactic
import Derived.OwnWalk
namespace Go.Proofs.Ytbhoocdongeomaa
open Go.RowKit
open Lies (R size elem)

/-- what the tables of a program say of a slice type and its elements -/
def TyOk (P : Program) (t e : TypeId) (size : Nat) : Prop :=
  P.underlying t = some (.slice e) ∧ ∃ i z, P.info? e = some i ∧ i.zero = some z ∧ i.size = size ∧ i.bytes ≤ 256 ∧ z.cells.size = size ∧ 0 < size
theorem tyOk_of {P : Program} {t e : TypeId} {size bytes : Nat} {z : Value} (ht : P.underlying t = some (.slice e))
    (hi : (P.info? e).map (fun i => (i.zero, i.size, i.bytes)) = some (some z, size, bytes)) (h1 : bytes ≤ 256) (h2 : z.cells.size = size) (h3 : 0 < size) : TyOk P t e size := by
  refine ⟨ht, ?_⟩
  cases h : P.info? e with
  | none => rw [h] at hi; cases hi
  | some i =>
    rw [h] at hi
    simp only [Option.map_some, Option.some.injEq, Prod.mk.injEq] at hi
    exact ⟨i, z, rfl, hi.1, hi.2.1, by omega, h2, h3⟩

section
variable {α : Type} [Lies α] {P : Program} {w w' : World} {v : Value} {l l' : List α} {bs bn : List Nat} {t ty : TypeId}

theorem Sl.of_row {b o c : Nat} {cur : Array Value} {vs : List Value} {n : Nat} (hn : n = l.length) (h1 : l.length ≤ c) (h2 : c ≤ maxLen) (h3 : Blk w b (elem α) cur) (h4 : o + c * size α ≤ cur.size)
    (h5 : (cur.toList.drop o).take (l.length * size α) = vs) (h6 : RL w vs l bn) : Sl w (.slice (some ⟨b, o, none⟩) n c) l (b :: bn) :=
  .inr ⟨b, o, c, cur, vs, bn, by rw [hn], h1, h2, h3, h4, h5, h6, rfl⟩

/-- append: what is laid behind a slice -/
theorem run_append_sl (ok : TyOk P t (elem α) (size α)) (h : Sl w v l bs) (a : Option Addr) (m c : Nat) (news : List Value) (hm : m = l'.length)
    (hread : ∀ j u, news[j]? = some u → ∃ ad, a = some ad ∧ w.cell? (ad.add j) = some u) (hR : RL w news l' bn) (hnd : (bs ++ bn).Nodup) (hsz : l.length + l'.length ≤ 274877906944) :
    ∃ v' w' bs', (Builtin.append_ #[t, t] ty #[v, .slice a m c]).run P w = .ok v' w' ∧ Sl w' v' (l ++ l') bs' ∧ Only (bs.take 1) w w' ∧
      (∀ q ∈ bs', q ∈ bs ∨ q ∈ bn ∨ w.heap.size ≤ q) ∧ bs'.Nodup := by
  obtain ⟨ht, i, z, hi, hz, hsize, hby, hzs, hpos⟩ := ok
  subst hm
  have hnl : news.length = l'.length * size α := hR.len
  have hM : maxLen = 9223372036854775807 := rfl
  rcases Nat.eq_zero_or_pos l'.length with h0 | h0
  · -- nothing is laid
    have hl0 : l' = [] := List.eq_nil_of_length_eq_zero h0
    subst hl0
    obtain ⟨hv0, hb0⟩ := hR
    subst hv0 hb0
    have hfirst : ∀ w : World, (Builtin.firstCells (size α) 0 (.slice a 0 c)).run P w = .ok #[] w := by
      intro w
      cases a <;> simp [Builtin.firstCells, loadCells, loadCellsFrom]
    refine ⟨v, w, bs, ?_, by simpa using h, Only.refl _ _, fun q hq => .inl hq, by simpa using hnd⟩
    rcases h with ⟨a', rfl, rfl, rfl⟩ | ⟨b, o, c', cur, vs, bs', rfl, h1, h2, h3, h4, h5, h6, rfl⟩
    · cases a' <;> simp [Builtin.append_, run_underlying ht, sizeOf, typeInfo, hi, hsize, Builtin.lenOf, hfirst, storeCells]
    · simp [Builtin.append_, run_underlying ht, sizeOf, typeInfo, hi, hsize, Builtin.lenOf, hfirst, h1, storeCells]
  · have hnpos : 0 < news.length := by rw [hnl]; exact Nat.mul_pos h0 hpos
    obtain ⟨ad, rfl⟩ : ∃ ad, a = some ad := by
      obtain ⟨ad, e, _⟩ := hread 0 _ (List.getElem?_eq_getElem hnpos)
      exact ⟨ad, e⟩
    have hcells : ∀ j u, news[j]? = some u → w.cell? (ad.add j) = some u := by
      intro j u hu
      obtain ⟨ad', e, hc⟩ := hread j u hu
      injection e with e
      subst e
      exact hc
    have hbytes : (l.length + l'.length) * i.bytes ≤ 140737488355328 := Nat.le_trans (Nat.mul_le_mul_left _ hby) (by omega)
    have hone := hR.one_
    -- the array that grows
    have grow : ∀ (olds : List Value) (bo : List Nat) (old : Nat), RL w olds l bo → (∀ q ∈ bo, q ∈ bs) → (bo ++ bn).Nodup → old < l.length + l'.length →
        ∃ bs', Sl (w.drew.alloc (.cells (olds.toArray ++ news.toArray ++ Builtin.zeroCells z.cells (grownCap w (l.length + l'.length) old (elem α) - (l.length + l'.length))) (elem α)))
          (.slice (some ⟨w.heap.size, 0, none⟩) (l.length + l'.length) (grownCap w (l.length + l'.length) old (elem α))) (l ++ l') bs' ∧
          (∀ q ∈ bs', q ∈ bs ∨ q ∈ bn ∨ w.heap.size ≤ q) ∧ bs'.Nodup := by
      intro olds bo old hO hsub hno hlt
      have hge := grownCap_ge w (l.length + l'.length) old (elem α)
      have hcm : grownCap w (l.length + l'.length) old (elem α) ≤ maxLen := grownCap_le_maxLen w _ old _ (by omega)
      refine ⟨w.heap.size :: (bo ++ bn), Sl.of_row (cur := (olds.toArray ++ news.toArray ++ Builtin.zeroCells z.cells (grownCap w (l.length + l'.length) old (elem α) - (l.length + l'.length)))) (vs := olds ++ news) (by simp) (by simpa using hge) hcm ?_ ?_ ?_ ?_, ?_, ?_⟩
      · exact heap_alloc_new w.drew _
      · simp only [Array.size_append, List.size_toArray, size_zeroCells, hzs, hO.len, hnl, ← Nat.add_mul, Nat.zero_add]
        apply Nat.le_of_eq
        congr 1
        omega
      · simp only [Array.toList_append, List.drop_zero, List.length_append]
        rw [List.take_append_of_le_length (by simp [hO.len, hnl, Nat.add_mul])]
        exact List.take_of_length_le (by simp [hO.len, hnl, Nat.add_mul])
      · refine (hO.append hR).frame fun b hb => ?_
        have hlt : b < w.heap.size := (hO.append hR).old b hb
        exact Below.heap_alloc w.drew _ b hlt
      · intro q hq
        rcases List.mem_cons.1 hq with rfl | hq
        · exact .inr (.inr (Nat.le_refl _))
        · rcases List.mem_append.1 hq with hq | hq
          · exact .inl (hsub q hq)
          · exact .inr (.inl hq)
      · refine List.nodup_cons.2 ⟨fun hb => ?_, hno⟩
        have hlt := (hO.append hR).old _ hb
        omega
    have hon : ∀ (S : List Nat) (o : Obj), Only S w (w.drew.alloc o) := fun S o => (Only.refl S w).drew.alloc o
    rcases h with ⟨a', rfl, rfl, rfl⟩ | ⟨b, o, c', cur, vs, bs', rfl, h1, h2, h3, h4, h5, h6, rfl⟩
    · obtain ⟨bs', g1, g2, g3⟩ := grow [] [] 0 ⟨rfl, rfl⟩ (by simp) (by simpa using hnd) (by simpa using h0)
      have hr : (Builtin.append_ #[t, t] ty #[.slice a' 0 0, .slice (some ad) l'.length c]).run P w =
          .ok (.slice (some ⟨w.heap.size, 0, none⟩) l'.length (grownCap w l'.length 0 (elem α))) (w.drew.alloc (.cells (news.toArray ++ Builtin.zeroCells z.cells (grownCap w l'.length 0 (elem α) - l'.length)) (elem α))) := by
        cases a' with
        | none => exact run_append_nil w t ty _ i z ht hi hz ad l'.length c news (by rw [hnl, hsize]) hcells h0 (by simp at hsz; omega) (by simp at hbytes; omega)
        | some a' =>
          have hr := run_append_grow (P := P) w t ty _ i z ht hi hz a' 0 0 [] (by simp) (by simp) ad l'.length c news (by rw [hnl, hsize]) hcells (by omega) (by simp at hsz; omega) (growslice_fits (by omega) (by simpa using hbytes))
          simpa using hr
      exact ⟨_, _, bs', hr, by simpa using g1, by simpa using hon _ _, by simpa using g2, g3⟩
    · by_cases hroom : l.length + l'.length ≤ c'
      · -- there is room
        have hfit : o + l.length * size α + 0 + news.length ≤ cur.size := by
          rw [hnl, Nat.add_zero, Nat.add_assoc, ← Nat.add_mul]
          exact Nat.le_trans (Nat.add_le_add_left (Nat.mul_le_mul_right _ hroom) o) h4
        have hst := run_storeCells_at P b (o + l.length * size α) (elem α) news 0 cur w h3 hfit hone
        have hf := run_firstCells_some (P := P) w (size α) l'.length ad l'.length c news hnl hcells
        have hf2 : (Builtin.firstCells (size α) l'.length (.slice (some ad) l'.length c)).run P w = .ok news.toArray w := hf
        simp only [Nat.add_zero] at hst
        have hbn : b ∉ bs' ++ bn := by
          have := (List.nodup_cons.1 (by simpa using hnd : (b :: (bs' ++ bn)).Nodup)).1
          exact this
        have hrow : Blk (w.setRow b (cur.toList.take (o + l.length * size α) ++ news ++ cur.toList.drop (o + l.length * size α + news.length)).toArray) b (elem α)
            (cur.toList.take (o + l.length * size α) ++ news ++ cur.toList.drop (o + l.length * size α + news.length)).toArray := setRow_heap w b cur _ _ (0, 0) h3
        have hcs : o + l.length * size α + news.length ≤ cur.toList.length := by simpa using hfit
        refine ⟨.slice (some ⟨b, o, none⟩) (l.length + l'.length) c', _, b :: (bs' ++ bn), ?_, Sl.of_row (vs := vs ++ news) (by simp) (by simpa using hroom) h2 hrow ?_ ?_ ?_, ?_, ?_, by simpa using hnd⟩
        · simp [Builtin.append_, run_underlying ht, sizeOf, typeInfo, hi, hsize, Builtin.lenOf, hroom, hf2, Addr.add_lit, hst]
        · simp only [List.size_toArray, List.length_append, List.length_take, List.length_drop]
          rw [Nat.min_eq_left (by omega)]
          have : cur.toList.length = cur.size := by simp
          omega
        · have hvl : vs.length = l.length * size α := h6.len
          simp only [List.length_append, Nat.add_mul, ← hnl]
          rw [← hvl] at h5 ⊢
          rw [List.append_assoc, List.drop_append_of_le_length (by rw [List.length_take]; omega), List.drop_take, Nat.add_sub_cancel_left, h5, ← List.append_assoc,
            List.take_append_of_le_length (by simp)]
          exact List.take_of_length_le (by simp)
        · refine (h6.append hR).frame fun q hq => setRow_other w b q _ (fun e => hbn (e ▸ hq))
        · exact ⟨rfl, rfl, rfl, by simp, fun k _ hk => setRow_other w b k _ (fun e => hk (by simp [e]))⟩
        · intro q hq
          rcases List.mem_cons.1 hq with rfl | hq
          · exact .inl (by simp)
          · rcases List.mem_append.1 hq with hq | hq
            · exact .inl (by simp [hq])
            · exact .inr (.inl hq)
      · have hvl : vs.length = l.length * size α := h6.len
        have holds : ∀ j u, vs[j]? = some u → w.cell? ((⟨b, o, none⟩ : Addr).add j) = some u := by
          intro j u hu
          rw [Addr.add_lit, h3.cell]
          rw [← h5, List.getElem?_take] at hu
          split at hu
          · rw [List.getElem?_drop] at hu; simpa using hu
          · cases hu
        have hnd' : (bs' ++ bn).Nodup := (List.nodup_cons.1 (by simpa using hnd : (b :: (bs' ++ bn)).Nodup)).2
        obtain ⟨bs2, g1, g2, g3⟩ := grow vs bs' c' h6 (by simp +contextual) hnd' (by omega)
        have hr := run_append_grow (P := P) w t ty _ i z ht hi hz ⟨b, o, none⟩ l.length c' vs (by rw [hvl, hsize]) holds ad l'.length c news (by rw [hnl, hsize]) hcells (by omega) (by omega) (growslice_fits (by omega) hbytes)
        exact ⟨_, _, bs2, hr, g1, hon _ _, g2, g3⟩

theorem wp_append_sl {o : Oper} {a : Act} {K : Act → World → Prop} {Q : Exit → Act → World → Prop} (s x : Operand)
    (ho : o.op = .call { callee := .builtin .append, args := #[s, x], argTypes := #[t, t] })
    (ok : TyOk P t (elem α) (size α)) (hs : a.eval s = v) (h : Sl w v l bs) (ad : Option Addr) (m c : Nat) (hx : a.eval x = .slice ad m c) (news : List Value) (hm : m = l'.length)
    (hread : ∀ j u, news[j]? = some u → ∃ q, ad = some q ∧ w.cell? (q.add j) = some u) (hR : RL w news l' bn) (hnd : (bs ++ bn).Nodup) (hsz : l.length + l'.length ≤ 274877906944)
    (hk : ∀ v' w' bs', Sl w' v' (l ++ l') bs' → Only (bs.take 1) w w' → (∀ q ∈ bs', q ∈ bs ∨ q ∈ bn ∨ w.heap.size ≤ q) → bs'.Nodup → K (a.put o.dst v') w') : o.wp P a w K Q := by
  obtain ⟨v', w', bs', hr, h2, h3, h4, h5⟩ := run_append_sl (P := P) (ty := o.type) ok h ad m c news hm hread hR hnd hsz
  unfold Oper.wp execOp
  simp only [ho, resolve, invoke, builtin, Sem.run_bind, Sem.run_pure, Result.andThen_ok, List.map_toArray, List.map_cons, List.map_nil, hs, hx, hr]
  exact hk v' w' bs' h2 h3 h4 h5

theorem wpList_append_sl {ops : Array Oper} {rest : List Oper} {o : Oper} {a : Act} {Q : Exit → Act → World → Prop} (hgd : o.guard = none) (s x : Operand)
    (ho : o.op = .call { callee := .builtin .append, args := #[s, x], argTypes := #[t, t] })
    (ok : TyOk P t (elem α) (size α)) (hs : a.eval s = v) (h : Sl w v l bs) (ad : Option Addr) (m c : Nat) (hx : a.eval x = .slice ad m c) (news : List Value) (hm : m = l'.length)
    (hread : ∀ j u, news[j]? = some u → ∃ q, ad = some q ∧ w.cell? (q.add j) = some u) (hR : RL w news l' bn) (hnd : (bs ++ bn).Nodup) (hsz : l.length + l'.length ≤ 274877906944)
    (hk : ∀ v' w' bs', Sl w' v' (l ++ l') bs' → Only (bs.take 1) w w' → (∀ q ∈ bs', q ∈ bs ∨ q ∈ bn ∨ w.heap.size ≤ q) → bs'.Nodup → wpList P ops Q rest (a.put o.dst v') w') : wpList P ops Q (o :: rest) a w :=
  wpList_plain hgd fun _ hK => wp_append_sl s x ho ok hs h ad m c hx news hm hread hR hnd hsz fun v' w' bs' h2 h3 h4 h5 => hK _ _ (hk v' w' bs' h2 h3 h4 h5)

theorem wpList_wanted {ops : Array Oper} {rest : List Oper} {o : Oper} {a : Act} {Q : Exit → Act → World → Prop} (hw : Region.wanted o (yielded ops a.tmps) = true)
    (h : ∀ K : Act → World → Prop, (∀ a w, wpList P ops Q rest a w → K a w) → o.wp P a w K Q) : wpList P ops Q (o :: rest) a w :=
  wpList_step fun K hK => by rw [if_pos hw]; exact h K hK
/-- the same where the operation is guarded, and wanted -/
theorem wpList_append_sl_g {ops : Array Oper} {rest : List Oper} {o : Oper} {a : Act} {Q : Exit → Act → World → Prop} (hgd : Region.wanted o (yielded ops a.tmps) = true) (s x : Operand)
    (ho : o.op = .call { callee := .builtin .append, args := #[s, x], argTypes := #[t, t] })
    (ok : TyOk P t (elem α) (size α)) (hs : a.eval s = v) (h : Sl w v l bs) (ad : Option Addr) (m c : Nat) (hx : a.eval x = .slice ad m c) (news : List Value) (hm : m = l'.length)
    (hread : ∀ j u, news[j]? = some u → ∃ q, ad = some q ∧ w.cell? (q.add j) = some u) (hR : RL w news l' bn) (hnd : (bs ++ bn).Nodup) (hsz : l.length + l'.length ≤ 274877906944)
    (hk : ∀ v' w' bs', Sl w' v' (l ++ l') bs' → Only (bs.take 1) w w' → (∀ q ∈ bs', q ∈ bs ∨ q ∈ bn ∨ w.heap.size ≤ q) → bs'.Nodup → wpList P ops Q rest (a.put o.dst v') w') : wpList P ops Q (o :: rest) a w :=
  wpList_wanted hgd fun _ hK => wp_append_sl s x ho ok hs h ad m c hx news hm hread hR hnd hsz fun v' w' bs' h2 h3 h4 h5 => hK _ _ (hk v' w' bs' h2 h3 h4 h5)

/-- a slice as a source: its cells -/
theorem Sl.source (h : Sl w v l bs) : ∃ a c news bn, v = .slice a l.length c ∧ (∀ j u, news[j]? = some u → ∃ ad, a = some ad ∧ w.cell? (ad.add j) = some u) ∧ RL w news l bn ∧ bn.Sublist bs := by
  rcases h with ⟨a, rfl, rfl, rfl⟩ | ⟨b, o, c, cur, vs, bs', rfl, h1, h2, h3, h4, h5, h6, rfl⟩
  · exact ⟨a, 0, [], [], rfl, by simp, ⟨rfl, rfl⟩, List.Sublist.refl _⟩
  · refine ⟨_, c, vs, bs', rfl, fun j u hu => ⟨_, rfl, ?_⟩, h6, List.sublist_cons_self _ _⟩
    rw [Addr.add_lit, h3.cell]
    rw [← h5, List.getElem?_take] at hu
    split at hu
    · rw [List.getElem?_drop] at hu; simpa using hu
    · cases hu

/-- a cut of a slice: from k on, up to j, with room up to m -/
theorem Sl.cut (h : Sl w v l bs) {k j : Nat} (hk : k ≤ j) (hj : j ≤ l.length) :
    ∃ a c, v = .slice a l.length c ∧ ∀ mx, j ≤ mx → mx ≤ c → ∃ bs', bs'.Sublist bs ∧ Sl w (.slice (if mx = k then a else a.map (·.add (k * size α))) (j - k) (mx - k)) ((l.take j).drop k) bs' := by
  have hlen : ((l.take j).drop k).length = j - k := by simp; omega
  rcases h with ⟨a, rfl, rfl, rfl⟩ | ⟨b, o, c, cur, vs, bs', rfl, h1, h2, h3, h4, h5, h6, rfl⟩
  · refine ⟨a, 0, rfl, fun mx h1 h2 => ⟨[], List.Sublist.refl _, .inl ?_⟩⟩
    simp at hj
    have : mx = 0 := by omega
    have : j = 0 := by omega
    have : k = 0 := by omega
    subst_vars
    exact ⟨a, by simp, by simp, rfl⟩
  · refine ⟨_, c, rfl, fun mx hm1 hm2 => ?_⟩
    have e : l = l.take k ++ ((l.take j).drop k ++ l.drop j) := by
      rw [← List.append_assoc]
      have : l.take k = (l.take j).take k := by rw [List.take_take, Nat.min_eq_left hk]
      rw [this, List.take_append_drop, List.take_append_drop]
    have h6' := h6
    rw [e] at h6'
    obtain ⟨v1, v23, b1, b23, rfl, rfl, r1, r23⟩ := RL.split h6'
    obtain ⟨v2, v3, b2, b3, rfl, rfl, r2, r3⟩ := RL.split r23
    have l1 : v1.length = k * size α := by rw [r1.len, List.length_take, Nat.min_eq_left (by omega)]
    have l2 : v2.length = (j - k) * size α := by rw [r2.len, hlen]
    have hd : (cur.toList.drop (o + k * size α)).take ((j - k) * size α) = v2 := by
      have h7 : ((cur.toList.drop o).take (l.length * size α)).drop (k * size α) = v2 ++ v3 := by
        rw [h5, ← l1]; simp
      rw [List.drop_take, List.drop_drop] at h7
      have h8 : (v2 ++ v3).take ((j - k) * size α) = v2 := by rw [← l2]; simp
      rw [← h7, List.take_take, Nat.min_eq_left] at h8
      · exact h8
      · rw [← Nat.sub_mul]; exact Nat.mul_le_mul_right _ (by omega)
    by_cases hmk : mx = k
    · rw [if_pos hmk]
      have : j = k := by omega
      subst this
      have hnil : (l.take j).drop j = [] := List.eq_nil_of_length_eq_zero (by rw [hlen]; omega)
      rw [hnil, Nat.sub_self, hmk, Nat.sub_self]
      exact ⟨[], List.nil_sublist _, Sl.nil_ _⟩
    · rw [if_neg hmk]
      refine ⟨b :: b2, List.Sublist.cons_cons _ (List.Sublist.trans (List.sublist_append_left b2 b3) (List.sublist_append_right b1 _)), ?_⟩
      have hso := Sl.of_row (α := α) (w := w) (l := (l.take j).drop k) (b := b) (o := o + k * size α) (c := mx - k) (cur := cur) (vs := v2) (n := j - k) (bn := b2) hlen.symm (by rw [hlen]; omega) (by omega) h3 (by
        have : k * size α + (mx - k) * size α = mx * size α := by rw [← Nat.add_mul]; congr 1; omega
        have h9 : mx * size α ≤ c * size α := Nat.mul_le_mul_right _ hm2
        omega) (by rw [hlen]; exact hd) r2
      simpa [Addr.add_lit] using hso
end
end Go.Proofs.Ytbhoocdongeomaa
