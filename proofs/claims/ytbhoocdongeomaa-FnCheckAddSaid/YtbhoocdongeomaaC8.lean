/- Contracts: slices.DeleteFunc at Check. -/
import Derived.Test.YtbhoocdongeomaaC7
set_option linter.unusedVariables false
namespace Go.Proofs.Ytbhoocdongeomaa
open Go.ChangeShapes Go.WideShapes Go.ChangeAt Go.RowKit
open Lies (size elem)

theorem filter_keep {α : Type} (p : α → Bool) (l : List α) (h : ∀ y ∈ l, p y = false) : l.filter (fun x => !p x) = l := by
  rw [List.filter_eq_self]; intro x hx; rw [h x hx]; rfl
theorem filter_snoc_no {α : Type} (p : α → Bool) {l r : List α} {x : α} (hp : p x = true) (e : r = l ++ [x]) : r.filter (fun x => !p x) = l.filter (fun x => !p x) := by
  rw [e, List.filter_append]; simp [hp]
theorem filter_snoc_yes {α : Type} (p : α → Bool) {l r : List α} {x : α} (hp : p x = false) (e : r = l ++ [x]) : r.filter (fun x => !p x) = l.filter (fun x => !p x) ++ [x] := by
  rw [e, List.filter_append]; simp [hp]

set_option maxRecDepth 100000 in
set_option maxHeartbeats 4000000 in
theorem deleteFunc_check (v : Value) (l : List Check) (bs : List Nat) (F : Nat) (caps : Array Value) (p : Check → Bool) (w : World) (h : Sl w v l bs)
    (hcf : ∀ (args : Array Value) (W : World), (callFunc F args).run Try.prog W = .ok (.enter F args) W)
    (hf : ∀ x ∈ l, ∀ w1, Only bs w w1 → Calls Try.prog F (#[(.agg #[.int .i64 x.frm, .int .i64 x.seq, .int .i64 x.sum])] ++ caps) w1 (BoolRet (p x) w1)) :
    Calls Try.prog 70 #[v, .func (.func F) #[] caps] w (PartRet (l.filter (fun x => !p x)) bs w) := by
  obtain ⟨a, c, rfl, h1, h2⟩ := h.form
  have hm : maxLen = 9223372036854775807 := rfl
  have HI := Lib.hid (indexFunc_check _ l bs F caps p w h hcf (fun x hx w1 ho => hf x hx w1 (ho.more (by simp))))
  have HF := Lib.hid hf
  clear hf
  go_enter Try.func70, Try.ntmps70
  go_wp2_with fail
  refine HI.out.mono ?_
  rintro e w1 ⟨r, rfl, o1, hi⟩
  clear HI
  have s1 := h.only0 o1
  rcases hi with ⟨k0, x0, rfl, hx0, hp0, hall⟩ | ⟨rfl, hn⟩
  rotate_left
  · go_wp2
    go_ret
    exact ⟨_, bs, rfl, by rw [filter_keep p l hn]; exact s1, List.Sublist.refl _, o1.more (by simp)⟩
  have hk0 : k0 < l.length := (List.getElem?_eq_some_iff.1 hx0).1
  have hst : (l.take (k0 + 1)).filter (fun x => !p x) = l.take k0 := by
    rw [filter_snoc_no p hp0 (take_snocG hx0)]; exact filter_keep p _ hall
  have HST := Lib.hid hst
  have oB1 : Only bs w w1 := o1.more (by simp)
  have ho1 := oB1.size
  obtain ⟨b, o, rfl, _⟩ := h.addr (by omega)
  clear hx0 hp0 hall hst h o1
  have hkd : ((k0 : Int) == -1) = false := by simp
  go_wp2_with fail
  go_loopw [5, 6] (fun i j wr => ∃ (m n : Nat) (out : List Check), m < n ∧ n ≤ l.length ∧ i = .int .i64 (m : Int) ∧ j = .int .i64 (n : Int) ∧ out.length = l.length ∧ Sl wr (.slice (some ⟨b, o, none⟩) l.length c) out bs ∧
      Only bs w wr ∧ out.take m = (l.take n).filter (fun x => !p x) ∧ out.drop n = l.drop n) (fun i j _ => l.length - (intOf j).toNat)
  case atStart => exact ⟨k0, k0 + 1, l, by omega, by omega, rfl, by go_num, rfl, s1, oB1, HST.out.symm, rfl⟩
  case round =>
    obtain ⟨m, n, out, hmn, hn, rfl, rfl, hol, hs, hon, hpre, hsuf⟩ := hrel
    clear s1 oB1
    have HP := Lib.hid hpre
    have HS := Lib.hid hsuf
    by_cases hlt : n < l.length
    · obtain ⟨x, hx, hbm, hfz, c0, c1, c2⟩ := hs.check_cells (i := n) (by omega)
      have hx' : l[n]? = some x := by
        have e1 : (out.drop n)[0]? = some x := by rw [List.getElem?_drop]; simpa using hx
        rw [hsuf, List.getElem?_drop] at e1; simpa using e1
      have HX := Lib.hid hx'
      have HT := Lib.hid (take_snocG hx')
      have hmem : x ∈ l := List.mem_of_getElem? hx'
      have hblk := Blk.new wr 34 #[.int .i64 x.frm, .int .i64 x.seq, .int .i64 x.sum]
      have hon1 : Only bs w (wr.alloc (.cells #[.int .i64 x.frm, .int .i64 x.seq, .int .i64 x.sum] 34)) := hon.alloc _
      have hs1 := hs.alloc (.cells #[.int .i64 x.frm, .int .i64 x.seq, .int .i64 x.sum] 34)
      have hbl := hs.old b hbm
      have hwr := hon.size
      clear hx hx' hpre hsuf hon hs
      go_wp2_with fail
      refine (HF.out x hmem _ hon1).mono ?_
      rintro e w2 ⟨rfl, o2⟩
      have hb2 := hblk.only o2 (by simp)
      have d0 : w2.cell? ⟨wr.heap.size, 0, none⟩ = some (.int .i64 x.frm) := hb2.cell 0
      have d1 : w2.cell? ⟨wr.heap.size, 1, none⟩ = some (.int .i64 x.seq) := hb2.cell 1
      have d2 : w2.cell? ⟨wr.heap.size, 2, none⟩ = some (.int .i64 x.sum) := hb2.cell 2
      have hs2 := hs1.only0 o2
      have hon2 := hon1.trans0 o2
      have hcm := hs2.check_set (i := m) (by omega) x
      obtain ⟨_, _, _, hfz2, _, _, _⟩ := hs2.check_cells (i := m) (by omega)
      clear hblk hb2 hs1 hon1 o2 c0 c1 c2 hfz
      cases hp : p x
      · have HPX := Lib.hid hp
        clear hp
        go_wp2
        refine ⟨⟨m + 1, n + 1, out.set m x, by omega, by omega, by go_num, by go_num, by simpa using hol, hcm, ?_, ?_, ?_⟩, by simp [intOf]; omega⟩
        · exact ((hon2.setCell (p := ⟨b, o + m * 3, none⟩) (.inl hbm) _).setCell (p := ⟨b, o + m * 3 + 1, none⟩) (.inl hbm) _).setCell (p := ⟨b, o + m * 3 + 2, none⟩) (.inl hbm) _
        · rw [filter_snoc_yes p HPX.out HT.out, ← HP.out, List.take_succ_eq_append_getElem (by simp; omega), List.take_set_of_le (by omega)]
          simp
        · rw [List.drop_set_of_lt (by omega), ← List.drop_drop, HS.out, List.drop_drop]
      · have HPX := Lib.hid hp
        clear hp
        go_wp2
        refine ⟨⟨m, n + 1, out, by omega, by omega, rfl, by go_num, hol, hs2, hon2, ?_, ?_⟩, by simp [intOf]; omega⟩
        · rw [filter_snoc_no p HPX.out HT.out, HP.out]
        · rw [← List.drop_drop, HS.out, List.drop_drop]
    · have hnl : n = l.length := by omega
      obtain ⟨cur, hcur, hfit, hbm⟩ := hs.row (by omega)
      clear hpre hsuf
      have hz1 : ∀ u ∈ (Value.agg #[.int .i64 0, .int .i64 0, .int .i64 0]).cells.toList, u.oneCell' = true := by
        intro u hu
        simp [Value.cells] at hu
        rw [hu]; rfl
      have hi3 : (Try.prog.info? 34).map (fun i => (i.zero, i.size, i.bytes)) = some (some (.agg #[.int .i64 0, .int .i64 0, .int .i64 0]), 3, 24) := by kernel_rfl
      have hcur' : Blk wr b 34 cur := hcur
      have hfit' : o + m * 3 + (l.length - m) * 3 ≤ cur.size := by
        have : o + c * 3 ≤ cur.size := hfit
        omega
      obtain ⟨w3, hcl, ho3, cur', hb3, hz3, ht3⟩ := run_clear_row (P := Try.prog) (t := 25) (ty := 0) (c := c - m) Try.underlying25 hi3 rfl hz1 hcur' (by omega) hfit'
      clear hi3 hz1
      go_wp2
      go_ret
      have hnd : bs.Nodup := hs.flat_bs
      obtain ⟨bs', hs', hsub⟩ := hs.cleared hnd (i := m) (by omega) ho3 (fun cc hcc => by
        obtain ⟨rfl, _⟩ := hcc.inj hcur
        exact ⟨cur', hb3, hz3, ht3⟩)
      have e : out.take m = l.filter (fun x => !p x) := by
        rw [HP.out, hnl, List.take_length]
      rw [e] at hs'
      exact ⟨_, bs', rfl, hs', hsub, hon.trans (ho3.more (by simpa using Or.inl hbm))⟩
end Go.Proofs.Ytbhoocdongeomaa
