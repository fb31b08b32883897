/- The library's functions on lists, at Check. -/
import Derived.Test.YtbhoocdongeomaaSCheck
import Derived.Test.YtbhoocdongeomaaV0
set_option linter.unusedVariables false
namespace Go.Proofs.Ytbhoocdongeomaa
open Go.ChangeShapes Go.WideShapes Go.ChangeAt Go.RowKit

set_option maxRecDepth 100000 in
set_option maxHeartbeats 1000000 in
theorem indexFunc_check (v : Value) (l : List Check) (bs : List Nat) (F : Nat) (caps : Array Value) (p : Check → Bool) (w : World) (h : Sl w v l bs)
    (hcf : ∀ (args : Array Value) (W : World), (callFunc F args).run Try.prog W = .ok (.enter F args) W)
    (hf : ∀ x ∈ l, ∀ w1, Only [] w w1 → Calls Try.prog F (#[(.agg #[.int .i64 x.frm, .int .i64 x.seq, .int .i64 x.sum])] ++ caps) w1 (BoolRet (p x) w1)) :
    Calls Try.prog 111 #[v, .func (.func F) #[] caps] w (IdxRet p l w) := by
  obtain ⟨a, c, rfl, h1, h2⟩ := h.form
  have hm : maxLen = 9223372036854775807 := rfl
  go_enter Try.func111, Try.ntmps111
  go_wp2
  have HF := Lib.hid hf
  clear hf
  go_loopw [8] (fun i wr => ∃ (k : Nat), k ≤ l.length ∧ i = .int .i64 (k : Int) ∧ Only [] w wr ∧ ∀ y ∈ l.take k, p y = false) (fun i _ => l.length - (intOf i).toNat)
  case atStart => exact ⟨0, Nat.zero_le _, rfl, Only.refl _ _, by simp⟩
  case round =>
    obtain ⟨k, hk, rfl, hon, hall⟩ := hrel
    by_cases hlt : k < l.length
    · obtain ⟨b, o, rfl, _⟩ := h.addr (by omega)
      obtain ⟨x, hx, _, _, c0, c1, c2⟩ := (h.only0 hon).check_cells hlt
      have HX := Lib.hid hx
      have HA := Lib.hid hall
      have hmem : x ∈ l := List.mem_of_getElem? hx
      clear hx hall
      go_wp2_with fail
      refine (HF.out x hmem _ hon).mono ?_
      rintro e w2 ⟨rfl, o2⟩
      have hon2 := hon.trans o2
      cases hp : p x
      · have HP := Lib.hid hp
        clear hp
        go_wp2
        exact ⟨⟨k + 1, by omega, by go_num, hon2, take_all p l k x HX.out HA.out HP.out⟩, by simp [intOf]; omega⟩
      · have HP := Lib.hid hp
        clear hp
        go_wp2
        go_ret
        exact ⟨k, rfl, hon2, .inl ⟨k, x, rfl, HX.out, HP.out, HA.out⟩⟩
    · have HA := Lib.hid hall
      clear hall
      go_wp2
      go_ret
      have hk2 : l.take k = l := List.take_of_length_le (by omega)
      exact ⟨-1, rfl, hon, .inr ⟨rfl, by rw [← hk2]; exact HA.out⟩⟩

theorem containsFunc_check (v : Value) (l : List Check) (bs : List Nat) (F : Nat) (caps : Array Value) (p : Check → Bool) (w : World) (h : Sl w v l bs)
    (hcf : ∀ (args : Array Value) (W : World), (callFunc F args).run Try.prog W = .ok (.enter F args) W)
    (hf : ∀ x ∈ l, ∀ w1, Only [] w w1 → Calls Try.prog F (#[(.agg #[.int .i64 x.frm, .int .i64 x.seq, .int .i64 x.sum])] ++ caps) w1 (BoolRet (p x) w1)) :
    Calls Try.prog 61 #[v, .func (.func F) #[] caps] w (BoolRet (l.any p) w) := by
  have H := Lib.hid (indexFunc_check v l bs F caps p w h hcf hf)
  clear hf hcf
  go_enter Try.func61, Try.ntmps61
  go_wp2_with fail
  refine H.out.mono ?_
  rintro e w1 ⟨r, rfl, ho, hi⟩
  have hr := Lib.hid (idx_any hi)
  cases ha : l.any p
  · rw [ha] at hr
    have hr2 := hr.out
    have hd : decide (0 ≤ r) = false := by simpa using hr2
    clear hr2
    go_wp2
    go_ret
    exact ⟨by rw [ha]; rfl, ho⟩
  · rw [ha] at hr
    have hr2 := hr.out
    have hd : decide (0 ≤ r) = true := by simpa using hr2
    clear hr2
    go_wp2
    go_ret
    exact ⟨by rw [ha]; rfl, ho⟩

set_option maxRecDepth 100000 in
set_option maxHeartbeats 400000 in
theorem clone0_check (v : Value) (l : List Check) (bs : List Nat) (w : World) (h : Sl w v l bs) (hsz : l.length ≤ 274877906944) :
    Calls Try.prog 71 #[v] w (FreshRet l w) := by
  obtain ⟨a, c, news, rfl, hread, hR⟩ := h.source_flat
  have heq := fun (W : World) => Lib.run_eql_slice_nil (P := Try.prog) W 25 34 a l.length c 0 0 Try.underlying25
  cases a with
  | none =>
    obtain ⟨rfl, hn⟩ := h.nil_len
    clear heq
    have heq := fun (W : World) => Lib.run_eql_slice_nil (P := Try.prog) W 25 34 none 0 c 0 0 Try.underlying25
    go_enter Try.func71, Try.ntmps71
    go_wp2
    go_ret
    exact ⟨.slice none 0 0, [], rfl, Sl.nil_ _, by simp, by simp, Only.refl _ _⟩
  | some ad =>
    have ho : Only [] w (w.alloc (.cells #[] 34)) := (Only.refl [] w).alloc _
    go_enter Try.func71, Try.ntmps71
    go_wp2_with (at_builtin; refine wpList_append_sl (α := Check) (l := []) (l' := l) (bn := []) rfl (.tmp 5) (.tmp 6) rfl tyChecks rfl (Sl.nil_ _) (some ad) l.length c rfl news rfl (read_alloc hread _) (hR _) (by simp) (by simpa using hsz) ?_; intro v' w' bs' hs hon hb hnd)
    go_ret
    exact ⟨v', bs', rfl, hs, fun q hq => by have := hb q hq; simp at this; omega, hnd, ho.trans0 hon⟩

set_option maxHeartbeats 400000 in
theorem clip_check (a : Option Addr) (n c : Nat) (hnc : n ≤ c) (hc : c ≤ maxLen) (w : World) :
    Calls Try.prog 69 #[.slice a n c] w fun e w' => e = .returned (.slice a n n) ∧ w = w' := by
  unfold maxLen at hc
  go_enter Try.func69, Try.ntmps69
  go_wp2
  go_ret
  exact ⟨rfl, rfl⟩

theorem clone_check (v : Value) (l : List Check) (bs : List Nat) (w : World) (h : Sl w v l bs) (hsz : l.length ≤ 274877906944) :
    Calls Try.prog 67 #[v] w (FreshRet l w) := by
  have hc := clone0_check v l bs w h hsz
  have H := Lib.hid hc
  clear hc
  go_enter Try.func67, Try.ntmps67
  go_wp2_with fail
  refine H.out.mono ?_
  rintro e w' ⟨v', bs', rfl, hs, hb, hnd, ho⟩
  obtain ⟨a, c, rfl, h1, h2⟩ := hs.form
  obtain ⟨bs2, hs2, hsub⟩ := hs.clip
  go_wp2_with fail
  refine (clip_check a l.length c h1 h2 _).mono ?_
  rintro e w2 ⟨rfl, rfl⟩
  go_wp2
  go_ret
  exact ⟨_, bs2, rfl, hs2, fun q hq => hb q (hsub.subset hq), hsub.nodup hnd, ho⟩

end Go.Proofs.Ytbhoocdongeomaa
