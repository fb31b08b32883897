/-
  No cell of these rows narrows 'for every input' (looked for: loops, veiled, ifaces, maps, wideKeys, modest, calm, conditions, laid).
  DERIVED. THE GIVEN ROWS OF THIS SEAT. 13 by the template 'for every input the law returns true; each argument reads behind the call as it read before'; 0 by the template 'total and deterministic' (their statements: YtbhoocdongeomaaTotals.lean).
  GIVEN WITH THE SEED: the statements are not yours to turn. If you find one false, say at which input.
  Laid BY PROGRAM, IN A SANDBOX (cutbox-rows.mjs): the forced cells as the released guide's own fill.sh prints them over the translation f5f69833c69b5133… (all of the seat's roots in one cut). By AI agents, Wed Nov 11 2026. No macro, syntax, notation, axiom, sorry.
-/
import Derived.Test.YtbhoocdongeomaaChecked
import GoSem.Claim
import GoSem.ClaimJoined
import GoSem.ClaimMapViews
import Derived.JoinedTies
import Derived.KernelRfl
namespace Go.Proofs.Ytbhoocdongeomaa
/- THE CELL 'sum', in the pinned program and in every row, IS THE sha256 OF THE DUMP (.gsa) THAT YtbhoocdongeomaaProg.lean LOADS. Nothing in Lean hashes anything: it is a label: what it is worth is what the hold of that sum in a sandbox is worth. -/
noncomputable def Try.pinned : Pinned := { name := "ytbhoocdongeomaa", sum := "f5f69833c69b5133ead07c558186081867f9427c96c8487bdf645263575e3e91", checked := Try.checked }
namespace Rows
def none {H : Type} : Left H := { results := [], args := [] }

/-- 'laws.FnExactCheckOk': WHATEVER THE INPUT: true; the input reads as it did. -/
def fnExactCheckOkSpec : ChangeSpec := { name := "fnExactCheckOk", fn := fun _ => fun
  | [d] => { results := [.lit (.bool true)], args := [d] }
  | _ => none }
def fnExactCheckOkRow : OpenClaim := { program := "ytbhoocdongeomaa", sum := "f5f69833c69b5133ead07c558186081867f9427c96c8487bdf645263575e3e91", func := "loop.example/wapentake/laws.FnExactCheckOk", spec := "fnExactCheckOk", unfollowed := true, recurses := true, apart := false }
def FnExactCheckOkSaid : Prop := fnExactCheckOkRow.holds Try.pinned (OpenSpec.ofChange fnExactCheckOkSpec)

/-- ITS FALSE NEIGHBOUR: 'it returns false'. Refute it at one input. -/
def fnExactCheckOkWrong : ChangeSpec := { name := "fnExactCheckOk", fn := fun _ => fun
  | [d] => { results := [.lit (.bool false)], args := [d] }
  | _ => none }
def FnExactCheckOkWrongFalsely : Prop := fnExactCheckOkRow.holds Try.pinned (OpenSpec.ofChange fnExactCheckOkWrong)

/-- 'laws.FnExactCheckStable': WHATEVER THE INPUT: true; the input reads as it did. -/
def fnExactCheckStableSpec : ChangeSpec := { name := "fnExactCheckStable", fn := fun _ => fun
  | [d] => { results := [.lit (.bool true)], args := [d] }
  | _ => none }
def fnExactCheckStableRow : OpenClaim := { program := "ytbhoocdongeomaa", sum := "f5f69833c69b5133ead07c558186081867f9427c96c8487bdf645263575e3e91", func := "loop.example/wapentake/laws.FnExactCheckStable", spec := "fnExactCheckStable", unfollowed := true, recurses := true, apart := false }
def FnExactCheckStableSaid : Prop := fnExactCheckStableRow.holds Try.pinned (OpenSpec.ofChange fnExactCheckStableSpec)

/-- ITS FALSE NEIGHBOUR: 'it returns false'. Refute it at one input. -/
def fnExactCheckStableWrong : ChangeSpec := { name := "fnExactCheckStable", fn := fun _ => fun
  | [d] => { results := [.lit (.bool false)], args := [d] }
  | _ => none }
def FnExactCheckStableWrongFalsely : Prop := fnExactCheckStableRow.holds Try.pinned (OpenSpec.ofChange fnExactCheckStableWrong)

/-- 'laws.FnCheckStable': WHATEVER THE INPUT: true; the input reads as it did. -/
def fnCheckStableSpec : ChangeSpec := { name := "fnCheckStable", fn := fun _ => fun
  | [d] => { results := [.lit (.bool true)], args := [d] }
  | _ => none }
def fnCheckStableRow : OpenClaim := { program := "ytbhoocdongeomaa", sum := "f5f69833c69b5133ead07c558186081867f9427c96c8487bdf645263575e3e91", func := "loop.example/wapentake/laws.FnCheckStable", spec := "fnCheckStable", unfollowed := true, recurses := true, apart := false }
def FnCheckStableSaid : Prop := fnCheckStableRow.holds Try.pinned (OpenSpec.ofChange fnCheckStableSpec)

/-- ITS FALSE NEIGHBOUR: 'it returns false'. Refute it at one input. -/
def fnCheckStableWrong : ChangeSpec := { name := "fnCheckStable", fn := fun _ => fun
  | [d] => { results := [.lit (.bool false)], args := [d] }
  | _ => none }
def FnCheckStableWrongFalsely : Prop := fnCheckStableRow.holds Try.pinned (OpenSpec.ofChange fnCheckStableWrong)

/-- 'laws.FnExactCheckAdd': WHATEVER THE INPUT: true; the input reads as it did. -/
def fnExactCheckAddSpec : ChangeSpec := { name := "fnExactCheckAdd", fn := fun _ => fun
  | [d1, d2] => { results := [.lit (.bool true)], args := [d1, d2] }
  | _ => none }
def fnExactCheckAddRow : OpenClaim := { program := "ytbhoocdongeomaa", sum := "f5f69833c69b5133ead07c558186081867f9427c96c8487bdf645263575e3e91", func := "loop.example/wapentake/laws.FnExactCheckAdd", spec := "fnExactCheckAdd", unfollowed := true, recurses := true, apart := false }
def FnExactCheckAddSaid : Prop := fnExactCheckAddRow.holds Try.pinned (OpenSpec.ofChange fnExactCheckAddSpec)

/-- ITS FALSE NEIGHBOUR: 'it returns false'. Refute it at one input. -/
def fnExactCheckAddWrong : ChangeSpec := { name := "fnExactCheckAdd", fn := fun _ => fun
  | [d1, d2] => { results := [.lit (.bool false)], args := [d1, d2] }
  | _ => none }
def FnExactCheckAddWrongFalsely : Prop := fnExactCheckAddRow.holds Try.pinned (OpenSpec.ofChange fnExactCheckAddWrong)

/-- 'laws.FnCheckAdd': WHATEVER THE INPUT: true; the input reads as it did. -/
def fnCheckAddSpec : ChangeSpec := { name := "fnCheckAdd", fn := fun _ => fun
  | [d] => { results := [.lit (.bool true)], args := [d] }
  | _ => none }
def fnCheckAddRow : OpenClaim := { program := "ytbhoocdongeomaa", sum := "f5f69833c69b5133ead07c558186081867f9427c96c8487bdf645263575e3e91", func := "loop.example/wapentake/laws.FnCheckAdd", spec := "fnCheckAdd", unfollowed := true, recurses := true, apart := false }
def FnCheckAddSaid : Prop := fnCheckAddRow.holds Try.pinned (OpenSpec.ofChange fnCheckAddSpec)

/-- ITS FALSE NEIGHBOUR: 'it returns false'. Refute it at one input. -/
def fnCheckAddWrong : ChangeSpec := { name := "fnCheckAdd", fn := fun _ => fun
  | [d] => { results := [.lit (.bool false)], args := [d] }
  | _ => none }
def FnCheckAddWrongFalsely : Prop := fnCheckAddRow.holds Try.pinned (OpenSpec.ofChange fnCheckAddWrong)

/-- 'laws.FnExactCheckCut': WHATEVER THE INPUT: true; the input reads as it did. -/
def fnExactCheckCutSpec : ChangeSpec := { name := "fnExactCheckCut", fn := fun _ => fun
  | [d1, d2] => { results := [.lit (.bool true)], args := [d1, d2] }
  | _ => none }
def fnExactCheckCutRow : OpenClaim := { program := "ytbhoocdongeomaa", sum := "f5f69833c69b5133ead07c558186081867f9427c96c8487bdf645263575e3e91", func := "loop.example/wapentake/laws.FnExactCheckCut", spec := "fnExactCheckCut", unfollowed := true, recurses := true, apart := false }
def FnExactCheckCutSaid : Prop := fnExactCheckCutRow.holds Try.pinned (OpenSpec.ofChange fnExactCheckCutSpec)

/-- ITS FALSE NEIGHBOUR: 'it returns false'. Refute it at one input. -/
def fnExactCheckCutWrong : ChangeSpec := { name := "fnExactCheckCut", fn := fun _ => fun
  | [d1, d2] => { results := [.lit (.bool false)], args := [d1, d2] }
  | _ => none }
def FnExactCheckCutWrongFalsely : Prop := fnExactCheckCutRow.holds Try.pinned (OpenSpec.ofChange fnExactCheckCutWrong)

/-- 'laws.FnCheckCut': WHATEVER THE INPUT: true; the input reads as it did. -/
def fnCheckCutSpec : ChangeSpec := { name := "fnCheckCut", fn := fun _ => fun
  | [d] => { results := [.lit (.bool true)], args := [d] }
  | _ => none }
def fnCheckCutRow : OpenClaim := { program := "ytbhoocdongeomaa", sum := "f5f69833c69b5133ead07c558186081867f9427c96c8487bdf645263575e3e91", func := "loop.example/wapentake/laws.FnCheckCut", spec := "fnCheckCut", unfollowed := true, recurses := true, apart := false }
def FnCheckCutSaid : Prop := fnCheckCutRow.holds Try.pinned (OpenSpec.ofChange fnCheckCutSpec)

/-- ITS FALSE NEIGHBOUR: 'it returns false'. Refute it at one input. -/
def fnCheckCutWrong : ChangeSpec := { name := "fnCheckCut", fn := fun _ => fun
  | [d] => { results := [.lit (.bool false)], args := [d] }
  | _ => none }
def FnCheckCutWrongFalsely : Prop := fnCheckCutRow.holds Try.pinned (OpenSpec.ofChange fnCheckCutWrong)

/-- 'laws.FnExactSeeGold': WHATEVER THE INPUT: true; the input reads as it did. -/
def fnExactSeeGoldSpec : ChangeSpec := { name := "fnExactSeeGold", fn := fun _ => fun
  | [d] => { results := [.lit (.bool true)], args := [d] }
  | _ => none }
def fnExactSeeGoldRow : OpenClaim := { program := "ytbhoocdongeomaa", sum := "f5f69833c69b5133ead07c558186081867f9427c96c8487bdf645263575e3e91", func := "loop.example/wapentake/laws.FnExactSeeGold", spec := "fnExactSeeGold", unfollowed := true, recurses := true, apart := false }
def FnExactSeeGoldSaid : Prop := fnExactSeeGoldRow.holds Try.pinned (OpenSpec.ofChange fnExactSeeGoldSpec)

/-- ITS FALSE NEIGHBOUR: 'it returns false'. Refute it at one input. -/
def fnExactSeeGoldWrong : ChangeSpec := { name := "fnExactSeeGold", fn := fun _ => fun
  | [d] => { results := [.lit (.bool false)], args := [d] }
  | _ => none }
def FnExactSeeGoldWrongFalsely : Prop := fnExactSeeGoldRow.holds Try.pinned (OpenSpec.ofChange fnExactSeeGoldWrong)

/-- 'laws.FnExactSeeOf': WHATEVER THE INPUT: true; the input reads as it did. -/
def fnExactSeeOfSpec : ChangeSpec := { name := "fnExactSeeOf", fn := fun _ => fun
  | [d1, d2] => { results := [.lit (.bool true)], args := [d1, d2] }
  | _ => none }
def fnExactSeeOfRow : OpenClaim := { program := "ytbhoocdongeomaa", sum := "f5f69833c69b5133ead07c558186081867f9427c96c8487bdf645263575e3e91", func := "loop.example/wapentake/laws.FnExactSeeOf", spec := "fnExactSeeOf", unfollowed := true, recurses := true, apart := false }
def FnExactSeeOfSaid : Prop := fnExactSeeOfRow.holds Try.pinned (OpenSpec.ofChange fnExactSeeOfSpec)

/-- ITS FALSE NEIGHBOUR: 'it returns false'. Refute it at one input. -/
def fnExactSeeOfWrong : ChangeSpec := { name := "fnExactSeeOf", fn := fun _ => fun
  | [d1, d2] => { results := [.lit (.bool false)], args := [d1, d2] }
  | _ => none }
def FnExactSeeOfWrongFalsely : Prop := fnExactSeeOfRow.holds Try.pinned (OpenSpec.ofChange fnExactSeeOfWrong)

/-- 'laws.FnSeeOf': WHATEVER THE INPUT: true; the input reads as it did. -/
def fnSeeOfSpec : ChangeSpec := { name := "fnSeeOf", fn := fun _ => fun
  | [d] => { results := [.lit (.bool true)], args := [d] }
  | _ => none }
def fnSeeOfRow : OpenClaim := { program := "ytbhoocdongeomaa", sum := "f5f69833c69b5133ead07c558186081867f9427c96c8487bdf645263575e3e91", func := "loop.example/wapentake/laws.FnSeeOf", spec := "fnSeeOf", unfollowed := true, recurses := true, apart := false }
def FnSeeOfSaid : Prop := fnSeeOfRow.holds Try.pinned (OpenSpec.ofChange fnSeeOfSpec)

/-- ITS FALSE NEIGHBOUR: 'it returns false'. Refute it at one input. -/
def fnSeeOfWrong : ChangeSpec := { name := "fnSeeOf", fn := fun _ => fun
  | [d] => { results := [.lit (.bool false)], args := [d] }
  | _ => none }
def FnSeeOfWrongFalsely : Prop := fnSeeOfRow.holds Try.pinned (OpenSpec.ofChange fnSeeOfWrong)

/-- 'laws.FnSeeGold': WHATEVER THE INPUT: true; the input reads as it did. -/
def fnSeeGoldSpec : ChangeSpec := { name := "fnSeeGold", fn := fun _ => fun
  | [d1, d2] => { results := [.lit (.bool true)], args := [d1, d2] }
  | _ => none }
def fnSeeGoldRow : OpenClaim := { program := "ytbhoocdongeomaa", sum := "f5f69833c69b5133ead07c558186081867f9427c96c8487bdf645263575e3e91", func := "loop.example/wapentake/laws.FnSeeGold", spec := "fnSeeGold", inPlace := ["slices.overlaps[loop.example/wapentake/impl.Ent]"], unfollowed := true, recurses := true, apart := false }
def FnSeeGoldSaid : Prop := fnSeeGoldRow.holds Try.pinned (OpenSpec.ofChange fnSeeGoldSpec)

/-- ITS FALSE NEIGHBOUR: 'it returns false'. Refute it at one input. -/
def fnSeeGoldWrong : ChangeSpec := { name := "fnSeeGold", fn := fun _ => fun
  | [d1, d2] => { results := [.lit (.bool false)], args := [d1, d2] }
  | _ => none }
def FnSeeGoldWrongFalsely : Prop := fnSeeGoldRow.holds Try.pinned (OpenSpec.ofChange fnSeeGoldWrong)

/-- 'laws.FnSeeMoves': WHATEVER THE INPUT: true; the input reads as it did. -/
def fnSeeMovesSpec : ChangeSpec := { name := "fnSeeMoves", fn := fun _ => fun
  | [d] => { results := [.lit (.bool true)], args := [d] }
  | _ => none }
def fnSeeMovesRow : OpenClaim := { program := "ytbhoocdongeomaa", sum := "f5f69833c69b5133ead07c558186081867f9427c96c8487bdf645263575e3e91", func := "loop.example/wapentake/laws.FnSeeMoves", spec := "fnSeeMoves", inPlace := ["slices.overlaps[loop.example/wapentake/impl.Ent]"], unfollowed := true, recurses := true, apart := false }
def FnSeeMovesSaid : Prop := fnSeeMovesRow.holds Try.pinned (OpenSpec.ofChange fnSeeMovesSpec)

/-- ITS FALSE NEIGHBOUR: 'it returns false'. Refute it at one input. -/
def fnSeeMovesWrong : ChangeSpec := { name := "fnSeeMoves", fn := fun _ => fun
  | [d] => { results := [.lit (.bool false)], args := [d] }
  | _ => none }
def FnSeeMovesWrongFalsely : Prop := fnSeeMovesRow.holds Try.pinned (OpenSpec.ofChange fnSeeMovesWrong)

/-- 'laws.FnExactSeeMoves': WHATEVER THE INPUT: true; the input reads as it did. -/
def fnExactSeeMovesSpec : ChangeSpec := { name := "fnExactSeeMoves", fn := fun _ => fun
  | [d1, d2] => { results := [.lit (.bool true)], args := [d1, d2] }
  | _ => none }
def fnExactSeeMovesRow : OpenClaim := { program := "ytbhoocdongeomaa", sum := "f5f69833c69b5133ead07c558186081867f9427c96c8487bdf645263575e3e91", func := "loop.example/wapentake/laws.FnExactSeeMoves", spec := "fnExactSeeMoves", inPlace := ["slices.overlaps[loop.example/wapentake/impl.Ent]"], unfollowed := true, recurses := true, apart := false }
def FnExactSeeMovesSaid : Prop := fnExactSeeMovesRow.holds Try.pinned (OpenSpec.ofChange fnExactSeeMovesSpec)

/-- ITS FALSE NEIGHBOUR: 'it returns false'. Refute it at one input. -/
def fnExactSeeMovesWrong : ChangeSpec := { name := "fnExactSeeMoves", fn := fun _ => fun
  | [d1, d2] => { results := [.lit (.bool false)], args := [d1, d2] }
  | _ => none }
def FnExactSeeMovesWrongFalsely : Prop := fnExactSeeMovesRow.holds Try.pinned (OpenSpec.ofChange fnExactSeeMovesWrong)

/- THE SECOND FORM. 'bulk': how many values and letters a reading holds, each counted each time it is reached (what is shared counts as often as it is met; a slice's spare places count too). A statement '..UptoSaid' is the law's where the arguments, and the package variables that the reading takes, are together of bulk at most 1048576: NARROWER than '..Said'. Prove '..Said' where nothing that the law and all that it calls make is longer than what came in: it says more and counts as full. Else prove '..UptoSaid'. A law counts once. -/
mutual
def uptoBulk {H : Type} : DataW H → Nat
  | .lit (.string bytes) => bytes.length + 1
  | .lit _ => 1
  | .nil => 1
  | .ptr d => uptoBulk d + 1
  | .slice elems spare => uptoBulkAll elems + uptoBulkAll spare + 1
  | .agg parts => uptoBulkAll parts + 1
  | .iface _ d => uptoBulk d + 1
  | .map entries => uptoBulkEntries entries + 1
  | .held _ => 1
def uptoBulkAll {H : Type} : List (DataW H) → Nat
  | [] => 0
  | d :: r => uptoBulk d + uptoBulkAll r
def uptoBulkEntries {H : Type} : List (Lit × DataW H) → Nat
  | [] => 0
  | x :: r => uptoBulkEntry x + uptoBulkEntries r
def uptoBulkEntry {H : Type} : Lit × DataW H → Nat
  | (.string bytes, d) => bytes.length + uptoBulk d + 1
  | (_, d) => uptoBulk d + 1
 end
def uptoSmall : (H : Type) → List (DataW H) → Bool := fun _ ds => decide (uptoBulkAll ds ≤ 1048576)
def OpenSpec.upto (s : _root_.Go.ChangeSpec) : _root_.Go.OpenSpec := { _root_.Go.OpenSpec.ofChange s with cond := some uptoSmall }

/-- 'laws.FnExactCheckOk', WHERE WHAT IT READS IS OF BULK AT MOST 1048576: true; the input reads as it did. -/
def fnExactCheckOkUptoRow : OpenClaim := { program := "ytbhoocdongeomaa", sum := "f5f69833c69b5133ead07c558186081867f9427c96c8487bdf645263575e3e91", func := "loop.example/wapentake/laws.FnExactCheckOk", spec := "fnExactCheckOk", unfollowed := true, recurses := true, apart := false, narrowed := true }
def FnExactCheckOkUptoSaid : Prop := fnExactCheckOkUptoRow.holds Try.pinned (OpenSpec.upto fnExactCheckOkSpec)

/-- 'laws.FnExactCheckStable', WHERE WHAT IT READS IS OF BULK AT MOST 1048576: true; the input reads as it did. -/
def fnExactCheckStableUptoRow : OpenClaim := { program := "ytbhoocdongeomaa", sum := "f5f69833c69b5133ead07c558186081867f9427c96c8487bdf645263575e3e91", func := "loop.example/wapentake/laws.FnExactCheckStable", spec := "fnExactCheckStable", unfollowed := true, recurses := true, apart := false, narrowed := true }
def FnExactCheckStableUptoSaid : Prop := fnExactCheckStableUptoRow.holds Try.pinned (OpenSpec.upto fnExactCheckStableSpec)

/-- 'laws.FnCheckStable', WHERE WHAT IT READS IS OF BULK AT MOST 1048576: true; the input reads as it did. -/
def fnCheckStableUptoRow : OpenClaim := { program := "ytbhoocdongeomaa", sum := "f5f69833c69b5133ead07c558186081867f9427c96c8487bdf645263575e3e91", func := "loop.example/wapentake/laws.FnCheckStable", spec := "fnCheckStable", unfollowed := true, recurses := true, apart := false, narrowed := true }
def FnCheckStableUptoSaid : Prop := fnCheckStableUptoRow.holds Try.pinned (OpenSpec.upto fnCheckStableSpec)

/-- 'laws.FnExactCheckAdd', WHERE WHAT IT READS IS OF BULK AT MOST 1048576: true; the input reads as it did. -/
def fnExactCheckAddUptoRow : OpenClaim := { program := "ytbhoocdongeomaa", sum := "f5f69833c69b5133ead07c558186081867f9427c96c8487bdf645263575e3e91", func := "loop.example/wapentake/laws.FnExactCheckAdd", spec := "fnExactCheckAdd", unfollowed := true, recurses := true, apart := false, narrowed := true }
def FnExactCheckAddUptoSaid : Prop := fnExactCheckAddUptoRow.holds Try.pinned (OpenSpec.upto fnExactCheckAddSpec)

/-- 'laws.FnCheckAdd', WHERE WHAT IT READS IS OF BULK AT MOST 1048576: true; the input reads as it did. -/
def fnCheckAddUptoRow : OpenClaim := { program := "ytbhoocdongeomaa", sum := "f5f69833c69b5133ead07c558186081867f9427c96c8487bdf645263575e3e91", func := "loop.example/wapentake/laws.FnCheckAdd", spec := "fnCheckAdd", unfollowed := true, recurses := true, apart := false, narrowed := true }
def FnCheckAddUptoSaid : Prop := fnCheckAddUptoRow.holds Try.pinned (OpenSpec.upto fnCheckAddSpec)

/-- 'laws.FnExactCheckCut', WHERE WHAT IT READS IS OF BULK AT MOST 1048576: true; the input reads as it did. -/
def fnExactCheckCutUptoRow : OpenClaim := { program := "ytbhoocdongeomaa", sum := "f5f69833c69b5133ead07c558186081867f9427c96c8487bdf645263575e3e91", func := "loop.example/wapentake/laws.FnExactCheckCut", spec := "fnExactCheckCut", unfollowed := true, recurses := true, apart := false, narrowed := true }
def FnExactCheckCutUptoSaid : Prop := fnExactCheckCutUptoRow.holds Try.pinned (OpenSpec.upto fnExactCheckCutSpec)

/-- 'laws.FnCheckCut', WHERE WHAT IT READS IS OF BULK AT MOST 1048576: true; the input reads as it did. -/
def fnCheckCutUptoRow : OpenClaim := { program := "ytbhoocdongeomaa", sum := "f5f69833c69b5133ead07c558186081867f9427c96c8487bdf645263575e3e91", func := "loop.example/wapentake/laws.FnCheckCut", spec := "fnCheckCut", unfollowed := true, recurses := true, apart := false, narrowed := true }
def FnCheckCutUptoSaid : Prop := fnCheckCutUptoRow.holds Try.pinned (OpenSpec.upto fnCheckCutSpec)

/-- 'laws.FnExactSeeGold', WHERE WHAT IT READS IS OF BULK AT MOST 1048576: true; the input reads as it did. -/
def fnExactSeeGoldUptoRow : OpenClaim := { program := "ytbhoocdongeomaa", sum := "f5f69833c69b5133ead07c558186081867f9427c96c8487bdf645263575e3e91", func := "loop.example/wapentake/laws.FnExactSeeGold", spec := "fnExactSeeGold", unfollowed := true, recurses := true, apart := false, narrowed := true }
def FnExactSeeGoldUptoSaid : Prop := fnExactSeeGoldUptoRow.holds Try.pinned (OpenSpec.upto fnExactSeeGoldSpec)

/-- 'laws.FnExactSeeOf', WHERE WHAT IT READS IS OF BULK AT MOST 1048576: true; the input reads as it did. -/
def fnExactSeeOfUptoRow : OpenClaim := { program := "ytbhoocdongeomaa", sum := "f5f69833c69b5133ead07c558186081867f9427c96c8487bdf645263575e3e91", func := "loop.example/wapentake/laws.FnExactSeeOf", spec := "fnExactSeeOf", unfollowed := true, recurses := true, apart := false, narrowed := true }
def FnExactSeeOfUptoSaid : Prop := fnExactSeeOfUptoRow.holds Try.pinned (OpenSpec.upto fnExactSeeOfSpec)

/-- 'laws.FnSeeOf', WHERE WHAT IT READS IS OF BULK AT MOST 1048576: true; the input reads as it did. -/
def fnSeeOfUptoRow : OpenClaim := { program := "ytbhoocdongeomaa", sum := "f5f69833c69b5133ead07c558186081867f9427c96c8487bdf645263575e3e91", func := "loop.example/wapentake/laws.FnSeeOf", spec := "fnSeeOf", unfollowed := true, recurses := true, apart := false, narrowed := true }
def FnSeeOfUptoSaid : Prop := fnSeeOfUptoRow.holds Try.pinned (OpenSpec.upto fnSeeOfSpec)

/-- 'laws.FnSeeGold', WHERE WHAT IT READS IS OF BULK AT MOST 1048576: true; the input reads as it did. -/
def fnSeeGoldUptoRow : OpenClaim := { program := "ytbhoocdongeomaa", sum := "f5f69833c69b5133ead07c558186081867f9427c96c8487bdf645263575e3e91", func := "loop.example/wapentake/laws.FnSeeGold", spec := "fnSeeGold", inPlace := ["slices.overlaps[loop.example/wapentake/impl.Ent]"], unfollowed := true, recurses := true, apart := false, narrowed := true }
def FnSeeGoldUptoSaid : Prop := fnSeeGoldUptoRow.holds Try.pinned (OpenSpec.upto fnSeeGoldSpec)

/-- 'laws.FnSeeMoves', WHERE WHAT IT READS IS OF BULK AT MOST 1048576: true; the input reads as it did. -/
def fnSeeMovesUptoRow : OpenClaim := { program := "ytbhoocdongeomaa", sum := "f5f69833c69b5133ead07c558186081867f9427c96c8487bdf645263575e3e91", func := "loop.example/wapentake/laws.FnSeeMoves", spec := "fnSeeMoves", inPlace := ["slices.overlaps[loop.example/wapentake/impl.Ent]"], unfollowed := true, recurses := true, apart := false, narrowed := true }
def FnSeeMovesUptoSaid : Prop := fnSeeMovesUptoRow.holds Try.pinned (OpenSpec.upto fnSeeMovesSpec)

/-- 'laws.FnExactSeeMoves', WHERE WHAT IT READS IS OF BULK AT MOST 1048576: true; the input reads as it did. -/
def fnExactSeeMovesUptoRow : OpenClaim := { program := "ytbhoocdongeomaa", sum := "f5f69833c69b5133ead07c558186081867f9427c96c8487bdf645263575e3e91", func := "loop.example/wapentake/laws.FnExactSeeMoves", spec := "fnExactSeeMoves", inPlace := ["slices.overlaps[loop.example/wapentake/impl.Ent]"], unfollowed := true, recurses := true, apart := false, narrowed := true }
def FnExactSeeMovesUptoSaid : Prop := fnExactSeeMovesUptoRow.holds Try.pinned (OpenSpec.upto fnExactSeeMovesSpec)

end Rows
end Go.Proofs.Ytbhoocdongeomaa
