/- Contracts: a list of numbers is copied. -/
import Derived.Test.YtekeefdlnfnccaaD3
import Derived.WalkSpells
import Derived.Lib.Hide
set_option linter.unusedVariables false
namespace Go.Proofs.Ytekeefdlnfnccaa
open Go.ChangeShapes Go.WideShapes Go.ChangeAt Go.RowKit

set_option maxHeartbeats 400000 in
theorem clipInt_any (a : Option Addr) (n c : Nat) (hnc : n ≤ c) (hc : c ≤ maxLen) (w : World) :
    Calls Try.prog 44 #[.slice a n c] w fun e w' => e = .returned (.slice a n n) ∧ w = w' := by
  unfold maxLen at hc
  go_enter Try.func44, Try.ntmps44
  go_wp2
  go_ret
  exact ⟨rfl, rfl⟩
set_option maxHeartbeats 400000 in
theorem cloneInt0_any (v : Value) (l : List Int) (bs : List Nat) (w : World) (h : Sl w v l bs) (hsz : l.length ≤ 274877906944) :
    Calls Try.prog 45 #[v] w (FreshRet l w) := by
  obtain ⟨a, c, news, rfl, hread, hR⟩ := h.source_flat
  have heq := fun (W : World) => Lib.run_eql_slice_nil (P := Try.prog) W 27 3 a l.length c 0 0 Try.underlying27
  cases a with
  | none =>
    obtain ⟨rfl, hn⟩ := h.nil_len
    clear heq
    have heq := fun (W : World) => Lib.run_eql_slice_nil (P := Try.prog) W 27 3 none 0 c 0 0 Try.underlying27
    go_enter Try.func45, Try.ntmps45
    go_wp2
    go_ret
    exact ⟨.slice none 0 0, [], rfl, Sl.nil_ _, by simp, by simp, Only.refl _ _⟩
  | some ad =>
    have ho : Only [] w (w.alloc (.cells #[] 3)) := (Only.refl [] w).alloc _
    go_enter Try.func45, Try.ntmps45
    go_wp2_with (at_builtin; refine wpList_append_sl (α := Int) (l := []) (l' := l) (bn := []) rfl (.tmp 5) (.tmp 6) rfl tyInts rfl (Sl.nil_ _) (some ad) l.length c rfl news rfl (read_alloc hread _) (hR _) (by simp) (by simpa using hsz) ?_; intro v' w' bs' hs hon hb hnd)
    go_ret
    exact ⟨v', bs', rfl, hs, fun q hq => by have := hb q hq; simp at this; omega, hnd, ho.trans0 hon⟩
theorem cloneInt_any (v : Value) (l : List Int) (bs : List Nat) (w : World) (h : Sl w v l bs) (hsz : l.length ≤ 274877906944) :
    Calls Try.prog 42 #[v] w (FreshRet l w) := by
  have hc := cloneInt0_any v l bs w h hsz
  have H := Lib.hid hc
  clear hc
  go_enter Try.func42, Try.ntmps42
  go_wp2_with fail
  refine H.out.mono ?_
  rintro e w' ⟨v', bs', rfl, hs, hb, hnd, ho⟩
  obtain ⟨a, c, rfl, h1, h2⟩ := hs.form
  obtain ⟨bs2, hs2, hsub⟩ := hs.clip
  go_wp2_with fail
  refine (clipInt_any a l.length c h1 h2 _).mono ?_
  rintro e w2 ⟨rfl, rfl⟩
  go_wp2
  go_ret
  exact ⟨_, bs2, rfl, hs2, fun q hq => hb q (hsub.subset hq), hsub.nodup hnd, ho⟩
end Go.Proofs.Ytekeefdlnfnccaa
