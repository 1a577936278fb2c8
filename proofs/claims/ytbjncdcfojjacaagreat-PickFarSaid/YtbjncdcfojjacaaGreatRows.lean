/-
  No cell of these rows narrows 'for every input' (looked for: loops, veiled, ifaces, maps, wideKeys, modest, calm, conditions, laid).
  DERIVED. THE GIVEN ROWS OF THIS SEAT. 5 by the template 'for every input the law returns true; each argument reads behind the call as it read before'; 0 by the template 'total and deterministic' (their statements: YtbjncdcfojjacaaGreatTotals.lean).
  GIVEN WITH THE SEED: the statements are not yours to turn. If you find one false, say at which input.
  Laid BY PROGRAM, IN A SANDBOX (cutbox-rows.mjs): the forced cells as the released guide's own fill.sh prints them over the translation 295a469d354e4d78… (all of the seat's roots in one cut). By AI agents, Wed Nov 11 2026. No macro, syntax, notation, axiom, sorry.
-/
import Derived.Test.YtbjncdcfojjacaaGreatChecked
import GoSem.Claim
import GoSem.ClaimJoined
import GoSem.ClaimMapViews
import Derived.JoinedTies
import Derived.KernelRfl
namespace Go.Proofs.YtbjncdcfojjacaaGreat
/- THE CELL 'sum', in the pinned program and in every row, IS THE sha256 OF THE DUMP (.gsa) THAT YtbjncdcfojjacaaGreatProg.lean LOADS. Nothing in Lean hashes anything: it is a label: what it is worth is what the hold of that sum in a sandbox is worth. -/
noncomputable def Tryz.pinned : Pinned := { name := "ytbjncdcfojjacaagreat", sum := "295a469d354e4d7829d0b05effa754abc35211481e7610cdce74738aa5cd2600", checked := Tryz.checked }
namespace Rows
def none {H : Type} : Left H := { results := [], args := [] }

/-- 'clevislaw25.PickMakes': WHATEVER THE INPUT: true; the input reads as it did. -/
def pickMakesSpec : ChangeSpec := { name := "pickMakes", fn := fun _ => fun
  | [d] => { results := [.lit (.bool true)], args := [d] }
  | _ => none }
def pickMakesRow : OpenClaim := { program := "ytbjncdcfojjacaagreat", sum := "295a469d354e4d7829d0b05effa754abc35211481e7610cdce74738aa5cd2600", func := "clevis/clevislaw25.PickMakes", spec := "pickMakes", inPlace := ["internal/reflectlite.TypeOf", "maps.clone"], unfollowed := true, recurses := true, plainKeys := false, apart := false }
def PickMakesSaid : Prop := pickMakesRow.holds Tryz.pinned (OpenSpec.ofChange pickMakesSpec)

/-- ITS FALSE NEIGHBOUR: 'it returns false'. Refute it at one input. -/
def pickMakesWrong : ChangeSpec := { name := "pickMakes", fn := fun _ => fun
  | [d] => { results := [.lit (.bool false)], args := [d] }
  | _ => none }
def PickMakesWrongFalsely : Prop := pickMakesRow.holds Tryz.pinned (OpenSpec.ofChange pickMakesWrong)

/-- 'clevislaw25.PickShort': WHATEVER THE INPUT: true; the input reads as it did. -/
def pickShortSpec : ChangeSpec := { name := "pickShort", fn := fun _ => fun
  | [d1, d2] => { results := [.lit (.bool true)], args := [d1, d2] }
  | _ => none }
def pickShortRow : OpenClaim := { program := "ytbjncdcfojjacaagreat", sum := "295a469d354e4d7829d0b05effa754abc35211481e7610cdce74738aa5cd2600", func := "clevis/clevislaw25.PickShort", spec := "pickShort", inPlace := ["internal/reflectlite.TypeOf", "maps.clone"], unfollowed := true, recurses := true, plainKeys := false, apart := false }
def PickShortSaid : Prop := pickShortRow.holds Tryz.pinned (OpenSpec.ofChange pickShortSpec)

/-- ITS FALSE NEIGHBOUR: 'it returns false'. Refute it at one input. -/
def pickShortWrong : ChangeSpec := { name := "pickShort", fn := fun _ => fun
  | [d1, d2] => { results := [.lit (.bool false)], args := [d1, d2] }
  | _ => none }
def PickShortWrongFalsely : Prop := pickShortRow.holds Tryz.pinned (OpenSpec.ofChange pickShortWrong)

/-- 'clevislaw25.PickWide': WHATEVER THE INPUT: true; the input reads as it did. -/
def pickWideSpec : ChangeSpec := { name := "pickWide", fn := fun _ => fun
  | [d1, d2] => { results := [.lit (.bool true)], args := [d1, d2] }
  | _ => none }
def pickWideRow : OpenClaim := { program := "ytbjncdcfojjacaagreat", sum := "295a469d354e4d7829d0b05effa754abc35211481e7610cdce74738aa5cd2600", func := "clevis/clevislaw25.PickWide", spec := "pickWide", inPlace := ["internal/reflectlite.TypeOf", "maps.clone"], unfollowed := true, recurses := true, plainKeys := false, apart := false }
def PickWideSaid : Prop := pickWideRow.holds Tryz.pinned (OpenSpec.ofChange pickWideSpec)

/-- ITS FALSE NEIGHBOUR: 'it returns false'. Refute it at one input. -/
def pickWideWrong : ChangeSpec := { name := "pickWide", fn := fun _ => fun
  | [d1, d2] => { results := [.lit (.bool false)], args := [d1, d2] }
  | _ => none }
def PickWideWrongFalsely : Prop := pickWideRow.holds Tryz.pinned (OpenSpec.ofChange pickWideWrong)

/-- 'clevislaw25.PickRelaxes': WHATEVER THE INPUT: true; the input reads as it did. -/
def pickRelaxesSpec : ChangeSpec := { name := "pickRelaxes", fn := fun _ => fun
  | [d1, d2] => { results := [.lit (.bool true)], args := [d1, d2] }
  | _ => none }
def pickRelaxesRow : OpenClaim := { program := "ytbjncdcfojjacaagreat", sum := "295a469d354e4d7829d0b05effa754abc35211481e7610cdce74738aa5cd2600", func := "clevis/clevislaw25.PickRelaxes", spec := "pickRelaxes", inPlace := ["internal/reflectlite.TypeOf", "maps.clone"], unfollowed := true, recurses := true, plainKeys := false, apart := false }
def PickRelaxesSaid : Prop := pickRelaxesRow.holds Tryz.pinned (OpenSpec.ofChange pickRelaxesSpec)

/-- ITS FALSE NEIGHBOUR: 'it returns false'. Refute it at one input. -/
def pickRelaxesWrong : ChangeSpec := { name := "pickRelaxes", fn := fun _ => fun
  | [d1, d2] => { results := [.lit (.bool false)], args := [d1, d2] }
  | _ => none }
def PickRelaxesWrongFalsely : Prop := pickRelaxesRow.holds Tryz.pinned (OpenSpec.ofChange pickRelaxesWrong)

/-- 'clevislaw25.PickFar': WHATEVER THE INPUT: true; the input reads as it did. -/
def pickFarSpec : ChangeSpec := { name := "pickFar", fn := fun _ => fun
  | [d1, d2, d3, d4] => { results := [.lit (.bool true)], args := [d1, d2, d3, d4] }
  | _ => none }
def pickFarRow : OpenClaim := { program := "ytbjncdcfojjacaagreat", sum := "295a469d354e4d7829d0b05effa754abc35211481e7610cdce74738aa5cd2600", func := "clevis/clevislaw25.PickFar", spec := "pickFar", inPlace := ["internal/reflectlite.TypeOf", "maps.clone"], unfollowed := true, recurses := true, plainKeys := false, apart := false }
def PickFarSaid : Prop := pickFarRow.holds Tryz.pinned (OpenSpec.ofChange pickFarSpec)

/-- ITS FALSE NEIGHBOUR: 'it returns false'. Refute it at one input. -/
def pickFarWrong : ChangeSpec := { name := "pickFar", fn := fun _ => fun
  | [d1, d2, d3, d4] => { results := [.lit (.bool false)], args := [d1, d2, d3, d4] }
  | _ => none }
def PickFarWrongFalsely : Prop := pickFarRow.holds Tryz.pinned (OpenSpec.ofChange pickFarWrong)

/- THE SECOND FORM. 'bulk': how many values and letters a reading holds, each counted each time it is reached (what is shared counts as often as it is met; a slice's spare places count too). A statement '..UptoSaid' is the law's where the arguments, and the package variables that the reading takes, are together of bulk at most 1048576: NARROWER than '..Said'. Prove '..Said' where nothing that the law and all that it calls make is longer than what came in: it says more and counts as full. Else prove '..UptoSaid'. A law counts once. -/
mutual
def uptoBulk {H : Type} : DataW H → Nat
  | .lit (.string bytes) => bytes.length + 1
  | .lit _ => 1
  | .nil => 1
  | .ptr d => uptoBulk d + 1
  | .slice elems spare => uptoBulkAll elems + uptoBulkAll spare + 1
  | .agg parts => uptoBulkAll parts + 1
  | .iface _ d => uptoBulk d + 1
  | .map entries => uptoBulkEntries entries + 1
  | .held _ => 1
def uptoBulkAll {H : Type} : List (DataW H) → Nat
  | [] => 0
  | d :: r => uptoBulk d + uptoBulkAll r
def uptoBulkEntries {H : Type} : List (Lit × DataW H) → Nat
  | [] => 0
  | x :: r => uptoBulkEntry x + uptoBulkEntries r
def uptoBulkEntry {H : Type} : Lit × DataW H → Nat
  | (.string bytes, d) => bytes.length + uptoBulk d + 1
  | (_, d) => uptoBulk d + 1
 end
def uptoSmall : (H : Type) → List (DataW H) → Bool := fun _ ds => decide (uptoBulkAll ds ≤ 1048576)
def OpenSpec.upto (s : _root_.Go.ChangeSpec) : _root_.Go.OpenSpec := { _root_.Go.OpenSpec.ofChange s with cond := some uptoSmall }

/-- 'clevislaw25.PickMakes', WHERE WHAT IT READS IS OF BULK AT MOST 1048576: true; the input reads as it did. -/
def pickMakesUptoRow : OpenClaim := { program := "ytbjncdcfojjacaagreat", sum := "295a469d354e4d7829d0b05effa754abc35211481e7610cdce74738aa5cd2600", func := "clevis/clevislaw25.PickMakes", spec := "pickMakes", inPlace := ["internal/reflectlite.TypeOf", "maps.clone"], unfollowed := true, recurses := true, plainKeys := false, apart := false, narrowed := true }
def PickMakesUptoSaid : Prop := pickMakesUptoRow.holds Tryz.pinned (OpenSpec.upto pickMakesSpec)

/-- 'clevislaw25.PickShort', WHERE WHAT IT READS IS OF BULK AT MOST 1048576: true; the input reads as it did. -/
def pickShortUptoRow : OpenClaim := { program := "ytbjncdcfojjacaagreat", sum := "295a469d354e4d7829d0b05effa754abc35211481e7610cdce74738aa5cd2600", func := "clevis/clevislaw25.PickShort", spec := "pickShort", inPlace := ["internal/reflectlite.TypeOf", "maps.clone"], unfollowed := true, recurses := true, plainKeys := false, apart := false, narrowed := true }
def PickShortUptoSaid : Prop := pickShortUptoRow.holds Tryz.pinned (OpenSpec.upto pickShortSpec)

/-- 'clevislaw25.PickWide', WHERE WHAT IT READS IS OF BULK AT MOST 1048576: true; the input reads as it did. -/
def pickWideUptoRow : OpenClaim := { program := "ytbjncdcfojjacaagreat", sum := "295a469d354e4d7829d0b05effa754abc35211481e7610cdce74738aa5cd2600", func := "clevis/clevislaw25.PickWide", spec := "pickWide", inPlace := ["internal/reflectlite.TypeOf", "maps.clone"], unfollowed := true, recurses := true, plainKeys := false, apart := false, narrowed := true }
def PickWideUptoSaid : Prop := pickWideUptoRow.holds Tryz.pinned (OpenSpec.upto pickWideSpec)

/-- 'clevislaw25.PickRelaxes', WHERE WHAT IT READS IS OF BULK AT MOST 1048576: true; the input reads as it did. -/
def pickRelaxesUptoRow : OpenClaim := { program := "ytbjncdcfojjacaagreat", sum := "295a469d354e4d7829d0b05effa754abc35211481e7610cdce74738aa5cd2600", func := "clevis/clevislaw25.PickRelaxes", spec := "pickRelaxes", inPlace := ["internal/reflectlite.TypeOf", "maps.clone"], unfollowed := true, recurses := true, plainKeys := false, apart := false, narrowed := true }
def PickRelaxesUptoSaid : Prop := pickRelaxesUptoRow.holds Tryz.pinned (OpenSpec.upto pickRelaxesSpec)

/-- 'clevislaw25.PickFar', WHERE WHAT IT READS IS OF BULK AT MOST 1048576: true; the input reads as it did. -/
def pickFarUptoRow : OpenClaim := { program := "ytbjncdcfojjacaagreat", sum := "295a469d354e4d7829d0b05effa754abc35211481e7610cdce74738aa5cd2600", func := "clevis/clevislaw25.PickFar", spec := "pickFar", inPlace := ["internal/reflectlite.TypeOf", "maps.clone"], unfollowed := true, recurses := true, plainKeys := false, apart := false, narrowed := true }
def PickFarUptoSaid : Prop := pickFarUptoRow.holds Tryz.pinned (OpenSpec.upto pickFarSpec)

end Rows
end Go.Proofs.YtbjncdcfojjacaaGreat
