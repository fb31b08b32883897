/- The frame of a law's proof: what every law's row asks, once. -/
import Derived.Test.YtbhoocdongeomaaR1
import Derived.Test.YtbhoocdongeomaaRows
import Derived.WalkKit
import Derived.ProofKit
import Derived.OpenShut
import Derived.Carry
set_option linter.unusedVariables false
namespace Go.Proofs.Ytbhoocdongeomaa
open Go.ChangeShapes Go.WideShapes Go.ChangeAt Go.RowKit

theorem own_Try : ownKnob Try.prog.godebug = none := by kernel_rfl
theorem laidOut_Try : laidOutB Try.prog = true := by kernel_rfl

section
variable {H : Type} {enc : TypeId × Value → H} {P : Program}
theorem post_only {f : Func} {s : ChangeSpec} {W W' : World} {args : Array Value} {v : Value} {ds : List (DataW H)} {before pa : List MemPlace}
    (hvars : s.vars = []) (hW : DataW.Whole enc P f.params.toList s.vars false W args.toList ds [] before)
    (hres : ∀ (b : Nat) (sp : Nat → Bool) (hd : Bool), DataW.TrodAll enc P W' b sp hd f.resultTypes.toList (v.resultList f.resultTypes.size) (s.fn H (ds ++ [])).results [])
    (hargs : DataW.TrodAll enc P W' 0 (fun b => decide (b < W.heap.size)) true f.params.toList args.toList (s.fn H (ds ++ [])).args pa)
    (hpa : before = pa) (hv : (s.fn H (ds ++ [])).vars = []) (hb : Only [] W W') : s.post enc P f false true false false W args v W' := by
  refine ⟨ds, [], before, [], pa, [], hW, hres _ _ _, hargs, ?_, World.keptBut_mono (fun p hp => ⟨hp, ?_⟩) (hb.below.frame (· ∈ before)), fun h => by cases h⟩
  · rw [hv, hvars]; exact rfl
  · rw [hpa] at hp; exact .inr (.inl hp)
end
/-- an argument reads as it read -/
theorem kept_arg {H : Type} {enc : TypeId × Value → H} {P : Program} {t : TypeId} (hl : laidOutB P = true) (hr : P.readableRec t = true) (hrow : t < P.types.size) {W W' : World} {v : Value} {d : DataW H} {ps : List MemPlace}
    (h : DataW.Trod enc P W 0 (fun _ => true) true t v d ps) (hb : Only [] W W') (hlt : ∀ x ∈ ps, x.block < W.heap.size) :
    DataW.Trod enc P W' 0 (fun b => decide (b < W.heap.size)) true t v d ps := Below.trod hl hr hrow h hb.below hlt

section
variable {H : Type} {enc : TypeId × Value → H} {W : World} {base : Nat} {spare : Nat → Bool} {held : Bool}
set_option maxRecDepth 100000 in
theorem read_ints {v : Value} {d : DataW H} {p : List MemPlace} (hv : Value.okWide Try.prog W .any base 49 v) (h : DataW.Trod enc Try.prog W 0 spare held 49 v d p) : ∃ l : List Int, RawSl W v l := by
  obtain ⟨a0, len, cap, rfl⟩ := okWide_slice Try.underlying49 hv
  obtain ⟨fuel, hf⟩ := h
  obtain ⟨v', l, e, hl⟩ := raw_slice (α := Int) Try.underlying49 (by kernel_rfl) (by decide +kernel) (fun n cs y hy => raw_int Try.underlying3 hy) hf
  have e2 : v' = .slice a0 len cap := by simpa [Value.cells] using e.symm
  rw [e2] at hl
  exact ⟨l, hl⟩
set_option maxRecDepth 100000 in
theorem read_bytes {v : Value} {d : DataW H} {p : List MemPlace} (hv : Value.okWide Try.prog W .any base 31 v) (h : DataW.Trod enc Try.prog W 0 spare held 31 v d p) : ∃ l : List UInt8, RawSl W v l := by
  obtain ⟨a0, len, cap, rfl⟩ := okWide_slice Try.underlying31 hv
  obtain ⟨fuel, hf⟩ := h
  obtain ⟨v', l, e, hl⟩ := raw_slice (α := UInt8) Try.underlying31 (by kernel_rfl) (by decide +kernel) (fun n cs y hy => raw_byte Try.underlying5 hy) hf
  have e2 : v' = .slice a0 len cap := by simpa [Value.cells] using e.symm
  rw [e2] at hl
  exact ⟨l, hl⟩
end
end Go.Proofs.Ytbhoocdongeomaa
