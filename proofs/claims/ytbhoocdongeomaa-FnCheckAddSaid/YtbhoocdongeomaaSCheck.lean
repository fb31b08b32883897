/- The type Check: how it lies in memory, and the contracts of the laws' helpers on it. -/
import Derived.Test.YtbhoocdongeomaaI1
import Derived.Deep.RegionWith
set_option linter.unusedVariables false
namespace Go.Proofs.Ytbhoocdongeomaa
open Go.ChangeShapes Go.WideShapes Go.ChangeAt Go.RowKit Go.Deep

structure Check where
  frm : Int
  seq : Int
  sum : Int
  deriving DecidableEq, Inhabited

instance flatCheck : Flat Check where
  n := 3
  e := 34
  cells := fun x => [.int .i64 x.frm, .int .i64 x.seq, .int .i64 x.sum]
  hlen := fun _ => rfl
  hone := fun x u hu => by
    simp only [List.mem_cons, List.not_mem_nil, or_false] at hu
    rcases hu with rfl | rfl | rfl <;> rfl

theorem tyChecks : TyOk Try.prog 25 34 3 := tyOk_of (bytes := 24) (z := .agg #[.int .i64 0, .int .i64 0, .int .i64 0]) Try.underlying25 (by kernel_rfl) (by omega) rfl (by omega)
theorem mk_checks (n : Nat) (hn : n ≤ 274877906944) (W : World) : (Instr.makeSlice 25 (.int .i64 (n : Int)) (.int .i64 (n : Int))).run Try.prog W =
    .ok (.slice (some ⟨W.heap.size, 0, none⟩) n n) (W.alloc (.cells (madeCells #[.int .i64 0, .int .i64 0, .int .i64 0] (n * 3)) 34)) :=
  run_make_z Try.underlying25 (by kernel_rfl : _ = some (some (Value.agg #[.int .i64 0, .int .i64 0, .int .i64 0]), 3, 24)) (by omega) n hn W

section
variable {w : World} {l : List Check} {bs : List Nat} {b o n c i : Nat}
theorem Sl.check_cells (h : Sl w (.slice (some ⟨b, o, none⟩) n c) l bs) (hi : i < l.length) : ∃ x, l[i]? = some x ∧ b ∈ bs ∧ (∀ j, w.frozen? ⟨b, j, none⟩ = false) ∧ w.cell? ⟨b, o + i * 3, none⟩ = some (.int .i64 x.frm) ∧ w.cell? ⟨b, o + i * 3 + 1, none⟩ = some (.int .i64 x.seq) ∧ w.cell? ⟨b, o + i * 3 + 2, none⟩ = some (.int .i64 x.sum) := by
  obtain ⟨b', o', c', e, h1, h2, h4, h5⟩ := h.at_flat hi
  simp only [Value.slice.injEq, Option.some.injEq, Addr.mk.injEq, and_true] at e
  obtain ⟨⟨rfl, rfl⟩, -, -⟩ := e
  exact ⟨l[i], List.getElem?_eq_getElem hi, h1, h5, by simpa [Flat.n] using h4 0 _ rfl, by simpa [Flat.n] using h4 1 _ rfl, by simpa [Flat.n] using h4 2 _ rfl⟩
theorem Sl.check_set (h : Sl w (.slice (some ⟨b, o, none⟩) n c) l bs) (hi : i < l.length) (x : Check) :
    Sl (((w.setCell ⟨b, o + i * 3, none⟩ (.int .i64 x.frm)).setCell ⟨b, o + i * 3 + 1, none⟩ (.int .i64 x.seq)).setCell ⟨b, o + i * 3 + 2, none⟩ (.int .i64 x.sum)) (.slice (some ⟨b, o, none⟩) n c) (l.set i x) bs := h.setFlat hi x
set_option maxRecDepth 100000 in
theorem Sl.made_check (w : World) (n : Nat) (hn : n ≤ 274877906944) :
    Sl (w.alloc (.cells (madeCells #[.int .i64 0, .int .i64 0, .int .i64 0] (n * 3)) 34)) (.slice (some ⟨w.heap.size, 0, none⟩) n n) (List.replicate n (default : Check)) [w.heap.size] :=
  Sl.madeFlat w n hn (.agg #[.int .i64 0, .int .i64 0, .int .i64 0]) default rfl
end

instance rawCheck : Raw Check where
  T := 36
  size := 3
  RR := fun _ cs x => cs = Flat.cells x
  frame := fun h _ => h
set_option maxRecDepth 100000 in
theorem raw_check {H : Type} {enc : TypeId × Value → H} {w : World} {base : Nat} {spare : Nat → Bool} {held : Bool} {n : Nat} {cs : List Value} {y : DataW H × List MemPlace}
    (h : DataW.trod enc Try.prog w base spare held n 36 cs = some y) : ∃ m : Check, cs = Flat.cells m := by
  obtain ⟨xs, n', _, _, hlen, hxl, hf⟩ := DataW.trod_struct Try.underlying36 h
  have hc : cs.length = 3 := hlen.trans (by kernel_rfl)
  have cInt : Try.prog.cellsOf 3 = 1 := by kernel_rfl
  match cs, hc with
  | [c0, c1, c2], _ =>
    obtain ⟨x0, q0⟩ : ∃ x, xs[0]? = some x := ⟨_, List.getElem?_eq_getElem (by rw [hxl]; decide)⟩
    have g0 : DataW.trod enc Try.prog w base spare held n' 3 (([c0, c1, c2].drop 0).take (Try.prog.cellsOf 3)) = xs[0]? := hf 0 _ rfl
    rw [q0, cInt] at g0
    obtain ⟨m0, e0⟩ := raw_int Try.underlying3 g0
    have E0 : c0 = .int .i64 m0 := by simpa using e0
    obtain ⟨x1, q1⟩ : ∃ x, xs[1]? = some x := ⟨_, List.getElem?_eq_getElem (by rw [hxl]; decide)⟩
    have g1 : DataW.trod enc Try.prog w base spare held n' 3 (([c0, c1, c2].drop 1).take (Try.prog.cellsOf 3)) = xs[1]? := hf 1 _ rfl
    rw [q1, cInt] at g1
    obtain ⟨m1, e1⟩ := raw_int Try.underlying3 g1
    have E1 : c1 = .int .i64 m1 := by simpa using e1
    obtain ⟨x2, q2⟩ : ∃ x, xs[2]? = some x := ⟨_, List.getElem?_eq_getElem (by rw [hxl]; decide)⟩
    have g2 : DataW.trod enc Try.prog w base spare held n' 3 (([c0, c1, c2].drop 2).take (Try.prog.cellsOf 3)) = xs[2]? := hf 2 _ rfl
    rw [q2, cInt] at g2
    obtain ⟨m2, e2⟩ := raw_int Try.underlying3 g2
    have E2 : c2 = .int .i64 m2 := by simpa using e2
    exact ⟨⟨m0, m1, m2⟩, by rw [E0, E1, E2]; rfl⟩
theorem RawSl.check_cells {w : World} {l : List Check} {b o n c i : Nat} (h : RawSl w (.slice (some ⟨b, o, none⟩) n c) l) (hi : i < l.length) : ∃ x, l[i]? = some x ∧ w.cell? ⟨b, o + i * 3, none⟩ = some (.int .i64 x.frm) ∧ w.cell? ⟨b, o + i * 3 + 1, none⟩ = some (.int .i64 x.seq) ∧ w.cell? ⟨b, o + i * 3 + 2, none⟩ = some (.int .i64 x.sum) := by
  obtain ⟨b', o', c', cs, e, hl, rfl, h4⟩ := h.at_ hi
  simp only [Value.slice.injEq, Option.some.injEq, Addr.mk.injEq, and_true] at e
  obtain ⟨⟨rfl, rfl⟩, -, -⟩ := e
  exact ⟨l[i], List.getElem?_eq_getElem hi, by simpa [Raw.size] using h4 0 _ rfl, by simpa [Raw.size] using h4 1 _ rfl, by simpa [Raw.size] using h4 2 _ rfl⟩
set_option maxRecDepth 100000 in
theorem read_checks {H : Type} {enc : TypeId × Value → H} {W : World} {base : Nat} {spare : Nat → Bool} {held : Bool} {v : Value} {d : DataW H} {p : List MemPlace}
    (hv : Value.okWide Try.prog W .any base 22 v) (h : DataW.Trod enc Try.prog W 0 spare held 22 v d p) : ∃ l : List Check, RawSl W v l := by
  obtain ⟨a0, len, cap, rfl⟩ := okWide_slice Try.underlying22 hv
  obtain ⟨fuel, hf⟩ := h
  obtain ⟨v', l, e, hl⟩ := raw_slice (α := Check) Try.underlying22 (by kernel_rfl) (by decide) (fun n cs y hy => raw_check hy) hf
  have e2 : v' = .slice a0 len cap := by simpa [Value.cells] using e.symm
  rw [e2] at hl
  exact ⟨l, hl⟩

set_option maxHeartbeats 400000 in
theorem toCheck_any (x : Check) (w : World) :
    Calls Try.prog 25 #[.agg #[.int .i64 x.frm, .int .i64 x.seq, .int .i64 x.sum]] w fun e w' => e = .returned (.agg #[.int .i64 x.frm, .int .i64 x.seq, .int .i64 x.sum]) ∧ Only [] w w' := by
  go_enter Try.func25, Try.ntmps25
  go_wp2
  exact bodyPost_ret (v := .agg #[.int .i64 x.frm, .int .i64 x.seq, .int .i64 x.sum]) (by simp [results, Try.results25, go_sem]) rfl ⟨rfl, by repeat (first | exact Only.refl _ _ | assumption | apply Only.drew | apply Only.alloc | (refine Only.setCell ?_ (by simp) _))⟩

set_option maxHeartbeats 400000 in
theorem eqCheck_yes (x : Check) (w : World) :
    Calls Try.prog 63 #[.agg #[.int .i64 x.frm, .int .i64 x.seq, .int .i64 x.sum], .agg #[.int .i64 x.frm, .int .i64 x.seq, .int .i64 x.sum]] w (BoolRet true w) := by
  go_enter Try.func63, Try.ntmps63
  go_wp2
  go_ret
  exact ⟨rfl, by repeat (first | exact Only.refl _ _ | assumption | apply Only.drew | apply Only.alloc | (refine Only.setCell ?_ (by simp) _))⟩

theorem take_set_check (l out : List Check) (k : Nat) (x : Check) (hx : l[k]? = some x) (hol : out.length = l.length) (h : out.take k = l.take k) : (out.set k x).take (k + 1) = l.take (k + 1) := by
  have hk : k < l.length := (List.getElem?_eq_some_iff.1 hx).1
  rw [List.take_succ_eq_append_getElem (by simp; omega), List.take_succ_eq_append_getElem hk, List.take_set_of_le (by omega), h]
  simp [(List.getElem?_eq_some_iff.1 hx).2]
set_option maxHeartbeats 1000000 in
theorem toCheckS_any (v : Value) (l : List Check) (w : World) (h : RawSl w v l) (hsz : l.length ≤ 1048576) :
    Calls Try.prog 18 #[v] w (FreshRet l w) := by
  obtain ⟨a, c, rfl, h1, h2⟩ := h.form
  have hmk := mk_checks l.length (by omega)
  have hsl := Sl.made_check w l.length (by omega)
  have hon : Only [] w (w.alloc (.cells (madeCells #[.int .i64 0, .int .i64 0, .int .i64 0] (l.length * 3)) 34)) := (Only.refl [] w).alloc _
  go_enter Try.func18, Try.ntmps18
  go_wp2
  clear hmk
  go_loopw [4] (fun i wr => ∃ (k : Nat) (out : List Check), k ≤ l.length ∧ i = .int .i64 (k : Int) ∧ out.length = l.length ∧ out.take k = l.take k ∧
      Sl wr (.slice (some ⟨w.heap.size, 0, none⟩) l.length l.length) out [w.heap.size] ∧ Only [] w wr) (fun i _ => l.length - (intOf i).toNat)
  case atStart => exact ⟨0, List.replicate l.length default, Nat.zero_le _, rfl, by simp, by simp, hsl, hon⟩
  case round =>
    obtain ⟨k, out, hk, rfl, hol, ht, hsl2, hon2⟩ := hrel
    clear hsl hon
    by_cases hlt : k < l.length
    · obtain ⟨b, o, rfl⟩ := h.addr (by omega)
      obtain ⟨x, hx, c0, c1, c2⟩ := (h.only hon2).check_cells hlt
      have htk := Lib.hid (take_set_check l out k x hx hol ht)
      clear hx
      go_wp2_with fail
      refine (toCheck_any x _).mono ?_
      rintro e w3 ⟨rfl, o3⟩
      have hsl3 := hsl2.only0 o3
      obtain ⟨y, _, _, hz, d0, d1, d2⟩ := hsl3.check_cells (i := k) (by omega)
      have hst := hsl3.check_set (i := k) (by omega) x
      have hon3 := hon2.trans o3
      have hon4 : Only [] w (setCells w3 w.heap.size (0 + k * 3) (Flat.cells x)) := Only.setCells _ _ _ _ hon3 (.inr (Nat.le_refl _))
      have hon5 : Only [] w (((w3.setCell ⟨w.heap.size, k * 3, none⟩ (.int .i64 x.frm)).setCell ⟨w.heap.size, k * 3 + 1, none⟩ (.int .i64 x.seq)).setCell ⟨w.heap.size, k * 3 + 2, none⟩ (.int .i64 x.sum)) := by simpa only [setCells, Flat.cells, Nat.zero_add] using hon4
      simp only [Nat.zero_add] at d0 d1 d2 hst
      clear ht hsl2 hsl3 o3 hon4 hon2 hon3 c0 c1 c2
      go_wp2
      exact ⟨⟨k + 1, _, by omega, by go_num, by simpa using hol, htk.out, hst, hon5⟩, by simp [intOf]; omega⟩
    · go_wp2
      go_ret
      refine ⟨.slice (some ⟨w.heap.size, 0, none⟩) l.length l.length, [w.heap.size], rfl, ?_, by simp, by simp, hon2⟩
      have e : out = l := by
        have : k = l.length := by omega
        rw [this, List.take_length, ← hol, List.take_length] at ht
        exact ht
      rw [← e]
      simpa [hol] using hsl2

set_option maxHeartbeats 1000000 in
theorem eqCheckS_yes (v v' : Value) (l : List Check) (bs bs' : List Nat) (w : World) (h : Sl w v l bs) (h' : Sl w v' l bs') :
    Calls Try.prog 20 #[v, v'] w (BoolRet true w) := by
  obtain ⟨a, c, rfl, h1, h2⟩ := h.form
  obtain ⟨a', c', rfl, h1', h2'⟩ := h'.form
  have hm : maxLen = 9223372036854775807 := rfl
  go_enter Try.func20, Try.ntmps20
  go_wp2
  go_loopw [5] (fun i wr => ∃ (k : Nat), k ≤ l.length ∧ i = .int .i64 (k : Int) ∧ Only [] w wr) (fun i _ => l.length - (intOf i).toNat)
  case atStart => exact ⟨0, Nat.zero_le _, rfl, Only.refl _ _⟩
  case round =>
    obtain ⟨k, hk, rfl, hon⟩ := hrel
    by_cases hlt : k < l.length
    · obtain ⟨b, o, rfl, _⟩ := h.addr (by omega)
      obtain ⟨b', o', rfl, _⟩ := h'.addr (by omega)
      obtain ⟨x, hx, _, _, c0, c1, c2⟩ := (h.only0 hon).check_cells hlt
      obtain ⟨x', hx', _, _, e0, e1, e2⟩ := (h'.only0 hon).check_cells hlt
      have e : x' = x := Option.some.inj (hx'.symm.trans hx)
      subst e
      clear hx hx'
      go_wp2_with fail
      go_region_with (go_at_call 63; refine (eqCheck_yes x' _).mono ?_; rintro e w3 ⟨rfl, o3⟩)
      all_goals
        have hon3 : Only [] w w3 := Only.trans (by repeat (first | assumption | apply Only.drew)) o3
        clear o3
        go_wp2
        exact ⟨⟨k + 1, by omega, by go_num, by repeat (first | assumption | apply Only.drew)⟩, by simp [intOf]; omega⟩
    · go_wp2
      go_ret
      exact ⟨rfl, hon⟩

set_option maxHeartbeats 1000000 in
theorem wpChecks_yes (v v' : Value) (l : List Check) (bs bs' : List Nat) (w : World) (h : Sl w v l bs) (h' : Sl w v' l bs') :
    Calls Try.prog 30 #[v, v'] w (BoolRet true w) := by
  obtain ⟨a, c, rfl, h1, h2⟩ := h.form
  obtain ⟨a', c', rfl, h1', h2'⟩ := h'.form
  have hm : maxLen = 9223372036854775807 := rfl
  go_enter Try.func30, Try.ntmps30
  go_wp2
  go_loopw [5] (fun i wr => ∃ (k : Nat), k ≤ l.length ∧ i = .int .i64 (k : Int) ∧ Only [] w wr) (fun i _ => l.length - (intOf i).toNat)
  case atStart => exact ⟨0, Nat.zero_le _, rfl, Only.refl _ _⟩
  case round =>
    obtain ⟨k, hk, rfl, hon⟩ := hrel
    by_cases hlt : k < l.length
    · obtain ⟨b, o, rfl, _⟩ := h.addr (by omega)
      obtain ⟨b', o', rfl, _⟩ := h'.addr (by omega)
      obtain ⟨x, hx, _, _, c0, c1, c2⟩ := (h.only0 hon).check_cells hlt
      obtain ⟨x', hx', _, _, e0, e1, e2⟩ := (h'.only0 hon).check_cells hlt
      have e : x' = x := Option.some.inj (hx'.symm.trans hx)
      subst e
      clear hx hx'
      go_wp2_with fail
      go_region
      go_wp2
      exact ⟨⟨k + 1, by omega, by go_num, hon.drew⟩, by simp [intOf]; omega⟩
    · go_wp2
      go_ret
      exact ⟨rfl, hon⟩

theorem szCheckS_ok (v : Value) (l : List Check) (left : Nat) (w : World) (h : RawSl w v l) (hl : l.length ≤ left) (h2 : left ≤ 1048576) :
    Calls Try.prog 16 #[v, .int .i64 left] w fun e w' => e = .returned (.int .i64 ((left : Int) - l.length)) ∧ w = w' := by
  obtain ⟨a, c, rfl, h1, h2⟩ := h.form
  go_enter Try.func16, Try.ntmps16
  go_wp2
  go_ret
  exact ⟨rfl, rfl⟩
theorem szCheckS_no (v : Value) (l : List Check) (left : Nat) (w : World) (h : RawSl w v l) (hl : left < l.length) (h2 : left ≤ 1048576) :
    Calls Try.prog 16 #[v, .int .i64 left] w fun e w' => e = .returned (.int .i64 (-1)) ∧ w = w' := by
  obtain ⟨a, c, rfl, h1, h2⟩ := h.form
  have hm : maxLen = 9223372036854775807 := rfl
  go_enter Try.func16, Try.ntmps16
  go_wp2
  go_ret
  exact ⟨rfl, rfl⟩

def marksCheck (k : Nat) (i : Nat) : Check := ⟨(k : Int) + 3 * (i : Int), (k : Int) + 3 * (i : Int) + 1, (k : Int) + 3 * (i : Int) + 2⟩
def marksCheckL (k n : Nat) : List Check := (List.range n).map (marksCheck k)

theorem marksCheckL_len (k n : Nat) : (marksCheckL k n).length = n := by simp [marksCheckL]
theorem marksCheckL_get (k n i : Nat) (h : i < n) : (marksCheckL k n)[i]? = some (marksCheck k i) := by
  rw [List.getElem?_eq_getElem (by simpa [marksCheckL] using h)]
  simp [marksCheckL]
theorem marksCheckL_step (l out : List Check) (k i : Nat) (hi : i < l.length) (hol : out.length = l.length) (h : out.take i = marksCheckL k i) :
    (out.set i (marksCheck k i)).take (i + 1) = marksCheckL k (i + 1) := by
  rw [List.take_succ_eq_append_getElem (by simp; omega), List.take_set_of_le (by omega), h]
  simp [marksCheckL, List.range_succ]

def MarkCheckRet (v : Value) (k : Nat) (l : List Check) (bs : List Nat) (w : World) (e : Ending) (w' : World) : Prop :=
  e = .returned (.int .i64 ((k : Int) + 3 * (l.length : Int))) ∧ Sl w' v (marksCheckL k l.length) bs ∧ Only bs w w'
set_option maxHeartbeats 1000000 in
theorem markCheckS_any (v : Value) (l : List Check) (bs : List Nat) (k : Nat) (w : World) (h : Sl w v l bs) (hk : k + 3 * l.length ≤ 1000000000000) :
    Calls Try.prog 27 #[v, .int .i64 k] w (MarkCheckRet v k l bs w) := by
  obtain ⟨a, c, rfl, h1, h2⟩ := h.form
  go_enter Try.func27, Try.ntmps27
  go_wp2
  go_loopw [1, 5] (fun s i wr => ∃ (n : Nat) (out : List Check), n ≤ l.length ∧ i = .int .i64 (n : Int) ∧ s = .int .i64 ((k : Int) + 3 * (n : Int)) ∧ out.length = l.length ∧ out.take n = marksCheckL k n ∧
      Sl wr (.slice a l.length c) out bs ∧ Only bs w wr) (fun _ i _ => l.length - (intOf i).toNat)
  case atStart => exact ⟨0, l, Nat.zero_le _, rfl, by simp, rfl, by simp [marksCheckL], h, Only.refl _ _⟩
  case round =>
    obtain ⟨n, out, hn, rfl, rfl, hol, ht, hsl2, hon2⟩ := hrel
    by_cases hlt : n < l.length
    · obtain ⟨b, o, rfl, hb⟩ := hsl2.addr (by omega)
      obtain ⟨y, _, _, hz, d0, d1, d2⟩ := hsl2.check_cells (i := n) (by omega)
      have hst := hsl2.check_set (i := n) (by omega) (marksCheck k n)
      have htk := Lib.hid (marksCheckL_step l out k n hlt hol ht)
      have hon4 : Only bs w (setCells wr b (o + n * 3) (Flat.cells (marksCheck k n))) := Only.setCells _ _ _ _ hon2 (.inl hb)
      have hon5 : Only bs w (((wr.setCell ⟨b, o + n * 3, none⟩ (.int .i64 ((k : Int) + 3 * (n : Int)))).setCell ⟨b, o + n * 3 + 1, none⟩ (.int .i64 ((k : Int) + 3 * (n : Int) + 1))).setCell ⟨b, o + n * 3 + 2, none⟩ (.int .i64 ((k : Int) + 3 * (n : Int) + 2))) := hon4
      clear ht hsl2 hon4 hon2
      go_wp2
      exact ⟨⟨n + 1, _, by omega, by go_num, by first | (congr 1; done) | (congr 1; omega), by simpa using hol, htk.out, hst, hon5⟩, by simp [intOf]; omega⟩
    · go_wp2
      go_ret
      have hnl : n = l.length := by omega
      have e : out = marksCheckL k l.length := by
        rw [hnl] at ht
        rw [← ht, ← hol, List.take_length]
      refine ⟨by rw [hnl]; rfl, ?_, hon2⟩
      rw [← e]
      exact hsl2

set_option maxHeartbeats 1000000 in
theorem heldCheckS_any (v : Value) (m : Nat) (bs : List Nat) (k : Nat) (w : World) (h : Sl w v (marksCheckL k m) bs) (hk : k + 3 * m ≤ 1000000000000) :
    Calls Try.prog 28 #[v, .int .i64 k] w fun e w' => e = .returned (.int .i64 ((k : Int) + 3 * (m : Int))) ∧ w = w' := by
  obtain ⟨a, c, rfl, h1, h2⟩ := h.form
  have hml := marksCheckL_len k m
  rw [hml] at h1
  go_enter Try.func28, Try.ntmps28
  go_wp2
  go_loop [1, 5] (fun s i => ∃ (n : Nat), n ≤ m ∧ i = .int .i64 (n : Int) ∧ s = .int .i64 ((k : Int) + 3 * (n : Int))) (fun _ i => m - (intOf i).toNat)
  case atStart => exact ⟨0, Nat.zero_le _, rfl, by simp⟩
  case round =>
    obtain ⟨n, hn, rfl, rfl⟩ := hrel
    by_cases hlt : n < m
    · obtain ⟨b, o, rfl, hb⟩ := h.addr (by omega)
      obtain ⟨y, hy, _, _, d0, d1, d2⟩ := h.check_cells (i := n) (by omega)
      rw [marksCheckL_get k m n hlt] at hy
      have e : y = marksCheck k n := (Option.some.inj hy).symm
      subst e
      clear hy
      simp only [marksCheck] at d0 d1 d2
      go_wp2
      go_round
      case rel => exact ⟨n + 1, by omega, by go_num, by first | (congr 1; done) | (congr 1; omega)⟩
      case measure => simp [intOf]; omega
    · go_wp2
      go_ret
      have hnl : n = m := by omega
      exact ⟨by rw [hnl]; rfl, rfl⟩

end Go.Proofs.Ytbhoocdongeomaa
