/-
  No cell of these rows narrows 'for every input' (looked for: loops, veiled, ifaces, maps, wideKeys, modest, calm, conditions, laid).
  DERIVED. THE GIVEN ROWS OF THIS SEAT. 11 by the template 'for every input the law returns true; each argument reads behind the call as it read before'; 0 by the template 'total and deterministic' (their statements: YtecemlamoiepdaaTotals.lean).
  GIVEN WITH THE SEED: the statements are not yours to turn. If you find one false, say at which input.
  Laid BY PROGRAM, IN A SANDBOX (cutbox-rows.mjs): the forced cells as the released guide's own fill.sh prints them over the translation fc6a862b45e26b77… (all of the seat's roots in one cut). By AI agents, Wed Nov 11 2026. No macro, syntax, notation, axiom, sorry.
-/
import Derived.Test.YtecemlamoiepdaaChecked
import GoSem.Claim
import GoSem.ClaimJoined
import GoSem.ClaimMapViews
import Derived.JoinedTies
import Derived.KernelRfl
namespace Go.Proofs.Ytecemlamoiepdaa
/- THE CELL 'sum', in the pinned program and in every row, IS THE sha256 OF THE DUMP (.gsa) THAT YtecemlamoiepdaaProg.lean LOADS. Nothing in Lean hashes anything: it is a label: what it is worth is what the hold of that sum in a sandbox is worth. -/
noncomputable def Try.pinned : Pinned := { name := "ytecemlamoiepdaa", sum := "fc6a862b45e26b779b885b81d2a2ee46bb29edd1a324341c583c5a8a0f3dbd3d", checked := Try.checked }
namespace Rows
def none {H : Type} : Left H := { results := [], args := [] }

/-- 'morainelaw20.FrameShares': WHATEVER THE INPUT: true; the input reads as it did. -/
def frameSharesSpec : ChangeSpec := { name := "frameShares", fn := fun _ => fun
  | [d1, d2, d3] => { results := [.lit (.bool true)], args := [d1, d2, d3] }
  | _ => none }
def frameSharesRow : OpenClaim := { program := "ytecemlamoiepdaa", sum := "fc6a862b45e26b779b885b81d2a2ee46bb29edd1a324341c583c5a8a0f3dbd3d", func := "moraine/morainelaw20.FrameShares", spec := "frameShares", unfollowed := true, recurses := true, apart := false }
def FrameSharesSaid : Prop := frameSharesRow.holds Try.pinned (OpenSpec.ofChange frameSharesSpec)

/-- ITS FALSE NEIGHBOUR: 'it returns false'. Refute it at one input. -/
def frameSharesWrong : ChangeSpec := { name := "frameShares", fn := fun _ => fun
  | [d1, d2, d3] => { results := [.lit (.bool false)], args := [d1, d2, d3] }
  | _ => none }
def FrameSharesWrongFalsely : Prop := frameSharesRow.holds Try.pinned (OpenSpec.ofChange frameSharesWrong)

/-- 'morainelaw20.FrameRow': WHATEVER THE INPUT: true; the input reads as it did. -/
def frameRowSpec : ChangeSpec := { name := "frameRow", fn := fun _ => fun
  | [d1, d2] => { results := [.lit (.bool true)], args := [d1, d2] }
  | _ => none }
def frameRowRow : OpenClaim := { program := "ytecemlamoiepdaa", sum := "fc6a862b45e26b779b885b81d2a2ee46bb29edd1a324341c583c5a8a0f3dbd3d", func := "moraine/morainelaw20.FrameRow", spec := "frameRow", unfollowed := true, recurses := true, apart := false }
def FrameRowSaid : Prop := frameRowRow.holds Try.pinned (OpenSpec.ofChange frameRowSpec)

/-- ITS FALSE NEIGHBOUR: 'it returns false'. Refute it at one input. -/
def frameRowWrong : ChangeSpec := { name := "frameRow", fn := fun _ => fun
  | [d1, d2] => { results := [.lit (.bool false)], args := [d1, d2] }
  | _ => none }
def FrameRowWrongFalsely : Prop := frameRowRow.holds Try.pinned (OpenSpec.ofChange frameRowWrong)

/-- 'morainelaw20.FrameLexical': WHATEVER THE INPUT: true; the input reads as it did. -/
def frameLexicalSpec : ChangeSpec := { name := "frameLexical", fn := fun _ => fun
  | [d] => { results := [.lit (.bool true)], args := [d] }
  | _ => none }
def frameLexicalRow : OpenClaim := { program := "ytecemlamoiepdaa", sum := "fc6a862b45e26b779b885b81d2a2ee46bb29edd1a324341c583c5a8a0f3dbd3d", func := "moraine/morainelaw20.FrameLexical", spec := "frameLexical", unfollowed := true, recurses := true, apart := false }
def FrameLexicalSaid : Prop := frameLexicalRow.holds Try.pinned (OpenSpec.ofChange frameLexicalSpec)

/-- ITS FALSE NEIGHBOUR: 'it returns false'. Refute it at one input. -/
def frameLexicalWrong : ChangeSpec := { name := "frameLexical", fn := fun _ => fun
  | [d] => { results := [.lit (.bool false)], args := [d] }
  | _ => none }
def FrameLexicalWrongFalsely : Prop := frameLexicalRow.holds Try.pinned (OpenSpec.ofChange frameLexicalWrong)

/-- 'morainelaw20.FrameNobody': WHATEVER THE INPUT: true; the input reads as it did. -/
def frameNobodySpec : ChangeSpec := { name := "frameNobody", fn := fun _ => fun
  | [d1, d2, d3] => { results := [.lit (.bool true)], args := [d1, d2, d3] }
  | _ => none }
def frameNobodyRow : OpenClaim := { program := "ytecemlamoiepdaa", sum := "fc6a862b45e26b779b885b81d2a2ee46bb29edd1a324341c583c5a8a0f3dbd3d", func := "moraine/morainelaw20.FrameNobody", spec := "frameNobody", unfollowed := true, recurses := true, apart := false }
def FrameNobodySaid : Prop := frameNobodyRow.holds Try.pinned (OpenSpec.ofChange frameNobodySpec)

/-- ITS FALSE NEIGHBOUR: 'it returns false'. Refute it at one input. -/
def frameNobodyWrong : ChangeSpec := { name := "frameNobody", fn := fun _ => fun
  | [d1, d2, d3] => { results := [.lit (.bool false)], args := [d1, d2, d3] }
  | _ => none }
def FrameNobodyWrongFalsely : Prop := frameNobodyRow.holds Try.pinned (OpenSpec.ofChange frameNobodyWrong)

/-- 'morainelaw10.ObjKeeps': WHATEVER THE INPUT: true; the input reads as it did. -/
def objKeepsSpec : ChangeSpec := { name := "objKeeps", fn := fun _ => fun
  | [d1, d2] => { results := [.lit (.bool true)], args := [d1, d2] }
  | _ => none }
def objKeepsRow : OpenClaim := { program := "ytecemlamoiepdaa", sum := "fc6a862b45e26b779b885b81d2a2ee46bb29edd1a324341c583c5a8a0f3dbd3d", func := "moraine/morainelaw10.ObjKeeps", spec := "objKeeps", unfollowed := true, recurses := true, apart := false }
def ObjKeepsSaid : Prop := objKeepsRow.holds Try.pinned (OpenSpec.ofChange objKeepsSpec)

/-- ITS FALSE NEIGHBOUR: 'it returns false'. Refute it at one input. -/
def objKeepsWrong : ChangeSpec := { name := "objKeeps", fn := fun _ => fun
  | [d1, d2] => { results := [.lit (.bool false)], args := [d1, d2] }
  | _ => none }
def ObjKeepsWrongFalsely : Prop := objKeepsRow.holds Try.pinned (OpenSpec.ofChange objKeepsWrong)

/-- 'morainelaw10.ObjBack': WHATEVER THE INPUT: true; the input reads as it did. -/
def objBackSpec : ChangeSpec := { name := "objBack", fn := fun _ => fun
  | [d1, d2] => { results := [.lit (.bool true)], args := [d1, d2] }
  | _ => none }
def objBackRow : OpenClaim := { program := "ytecemlamoiepdaa", sum := "fc6a862b45e26b779b885b81d2a2ee46bb29edd1a324341c583c5a8a0f3dbd3d", func := "moraine/morainelaw10.ObjBack", spec := "objBack", unfollowed := true, recurses := true, apart := false }
def ObjBackSaid : Prop := objBackRow.holds Try.pinned (OpenSpec.ofChange objBackSpec)

/-- ITS FALSE NEIGHBOUR: 'it returns false'. Refute it at one input. -/
def objBackWrong : ChangeSpec := { name := "objBack", fn := fun _ => fun
  | [d1, d2] => { results := [.lit (.bool false)], args := [d1, d2] }
  | _ => none }
def ObjBackWrongFalsely : Prop := objBackRow.holds Try.pinned (OpenSpec.ofChange objBackWrong)

/-- 'morainelaw10.ObjNobody': WHATEVER THE INPUT: true; the input reads as it did. -/
def objNobodySpec : ChangeSpec := { name := "objNobody", fn := fun _ => fun
  | [d1, d2, d3] => { results := [.lit (.bool true)], args := [d1, d2, d3] }
  | _ => none }
def objNobodyRow : OpenClaim := { program := "ytecemlamoiepdaa", sum := "fc6a862b45e26b779b885b81d2a2ee46bb29edd1a324341c583c5a8a0f3dbd3d", func := "moraine/morainelaw10.ObjNobody", spec := "objNobody", unfollowed := true, recurses := true, apart := false }
def ObjNobodySaid : Prop := objNobodyRow.holds Try.pinned (OpenSpec.ofChange objNobodySpec)

/-- ITS FALSE NEIGHBOUR: 'it returns false'. Refute it at one input. -/
def objNobodyWrong : ChangeSpec := { name := "objNobody", fn := fun _ => fun
  | [d1, d2, d3] => { results := [.lit (.bool false)], args := [d1, d2, d3] }
  | _ => none }
def ObjNobodyWrongFalsely : Prop := objNobodyRow.holds Try.pinned (OpenSpec.ofChange objNobodyWrong)

/-- 'morainelaw22.ListsBack': WHATEVER THE INPUT: true; the input reads as it did. -/
def listsBackSpec : ChangeSpec := { name := "listsBack", fn := fun _ => fun
  | [d1, d2] => { results := [.lit (.bool true)], args := [d1, d2] }
  | _ => none }
def listsBackRow : OpenClaim := { program := "ytecemlamoiepdaa", sum := "fc6a862b45e26b779b885b81d2a2ee46bb29edd1a324341c583c5a8a0f3dbd3d", func := "moraine/morainelaw22.ListsBack", spec := "listsBack", unfollowed := true, recurses := true, apart := false }
def ListsBackSaid : Prop := listsBackRow.holds Try.pinned (OpenSpec.ofChange listsBackSpec)

/-- ITS FALSE NEIGHBOUR: 'it returns false'. Refute it at one input. -/
def listsBackWrong : ChangeSpec := { name := "listsBack", fn := fun _ => fun
  | [d1, d2] => { results := [.lit (.bool false)], args := [d1, d2] }
  | _ => none }
def ListsBackWrongFalsely : Prop := listsBackRow.holds Try.pinned (OpenSpec.ofChange listsBackWrong)

/-- 'morainelaw22.ListsAssoc': WHATEVER THE INPUT: true; the input reads as it did. -/
def listsAssocSpec : ChangeSpec := { name := "listsAssoc", fn := fun _ => fun
  | [d1, d2] => { results := [.lit (.bool true)], args := [d1, d2] }
  | _ => none }
def listsAssocRow : OpenClaim := { program := "ytecemlamoiepdaa", sum := "fc6a862b45e26b779b885b81d2a2ee46bb29edd1a324341c583c5a8a0f3dbd3d", func := "moraine/morainelaw22.ListsAssoc", spec := "listsAssoc", unfollowed := true, recurses := true, apart := false }
def ListsAssocSaid : Prop := listsAssocRow.holds Try.pinned (OpenSpec.ofChange listsAssocSpec)

/-- ITS FALSE NEIGHBOUR: 'it returns false'. Refute it at one input. -/
def listsAssocWrong : ChangeSpec := { name := "listsAssoc", fn := fun _ => fun
  | [d1, d2] => { results := [.lit (.bool false)], args := [d1, d2] }
  | _ => none }
def ListsAssocWrongFalsely : Prop := listsAssocRow.holds Try.pinned (OpenSpec.ofChange listsAssocWrong)

/-- 'morainelaw22.ListsSame': WHATEVER THE INPUT: true; the input reads as it did. -/
def listsSameSpec : ChangeSpec := { name := "listsSame", fn := fun _ => fun
  | [d1, d2, d3] => { results := [.lit (.bool true)], args := [d1, d2, d3] }
  | _ => none }
def listsSameRow : OpenClaim := { program := "ytecemlamoiepdaa", sum := "fc6a862b45e26b779b885b81d2a2ee46bb29edd1a324341c583c5a8a0f3dbd3d", func := "moraine/morainelaw22.ListsSame", spec := "listsSame", unfollowed := true, recurses := true, apart := false }
def ListsSameSaid : Prop := listsSameRow.holds Try.pinned (OpenSpec.ofChange listsSameSpec)

/-- ITS FALSE NEIGHBOUR: 'it returns false'. Refute it at one input. -/
def listsSameWrong : ChangeSpec := { name := "listsSame", fn := fun _ => fun
  | [d1, d2, d3] => { results := [.lit (.bool false)], args := [d1, d2, d3] }
  | _ => none }
def ListsSameWrongFalsely : Prop := listsSameRow.holds Try.pinned (OpenSpec.ofChange listsSameWrong)

/-- 'morainelaw10.ObjApart': WHATEVER THE INPUT: true; the input reads as it did. -/
def objApartSpec : ChangeSpec := { name := "objApart", fn := fun _ => fun
  | [d1, d2] => { results := [.lit (.bool true)], args := [d1, d2] }
  | _ => none }
def objApartRow : OpenClaim := { program := "ytecemlamoiepdaa", sum := "fc6a862b45e26b779b885b81d2a2ee46bb29edd1a324341c583c5a8a0f3dbd3d", func := "moraine/morainelaw10.ObjApart", spec := "objApart", unfollowed := true, recurses := true, apart := false }
def ObjApartSaid : Prop := objApartRow.holds Try.pinned (OpenSpec.ofChange objApartSpec)

/-- ITS FALSE NEIGHBOUR: 'it returns false'. Refute it at one input. -/
def objApartWrong : ChangeSpec := { name := "objApart", fn := fun _ => fun
  | [d1, d2] => { results := [.lit (.bool false)], args := [d1, d2] }
  | _ => none }
def ObjApartWrongFalsely : Prop := objApartRow.holds Try.pinned (OpenSpec.ofChange objApartWrong)

/- THE SECOND FORM. 'bulk': how many values and letters a reading holds, each counted each time it is reached (what is shared counts as often as it is met; a slice's spare places count too). A statement '..UptoSaid' is the law's where the arguments, and the package variables that the reading takes, are together of bulk at most 1048576: NARROWER than '..Said'. Prove '..Said' where nothing that the law and all that it calls make is longer than what came in: it says more and counts as full. Else prove '..UptoSaid'. A law counts once. -/
mutual
def uptoBulk {H : Type} : DataW H → Nat
  | .lit (.string bytes) => bytes.length + 1
  | .lit _ => 1
  | .nil => 1
  | .ptr d => uptoBulk d + 1
  | .slice elems spare => uptoBulkAll elems + uptoBulkAll spare + 1
  | .agg parts => uptoBulkAll parts + 1
  | .iface _ d => uptoBulk d + 1
  | .map entries => uptoBulkEntries entries + 1
  | .held _ => 1
def uptoBulkAll {H : Type} : List (DataW H) → Nat
  | [] => 0
  | d :: r => uptoBulk d + uptoBulkAll r
def uptoBulkEntries {H : Type} : List (Lit × DataW H) → Nat
  | [] => 0
  | x :: r => uptoBulkEntry x + uptoBulkEntries r
def uptoBulkEntry {H : Type} : Lit × DataW H → Nat
  | (.string bytes, d) => bytes.length + uptoBulk d + 1
  | (_, d) => uptoBulk d + 1
 end
def uptoSmall : (H : Type) → List (DataW H) → Bool := fun _ ds => decide (uptoBulkAll ds ≤ 1048576)
def OpenSpec.upto (s : _root_.Go.ChangeSpec) : _root_.Go.OpenSpec := { _root_.Go.OpenSpec.ofChange s with cond := some uptoSmall }

/-- 'morainelaw20.FrameShares', WHERE WHAT IT READS IS OF BULK AT MOST 1048576: true; the input reads as it did. -/
def frameSharesUptoRow : OpenClaim := { program := "ytecemlamoiepdaa", sum := "fc6a862b45e26b779b885b81d2a2ee46bb29edd1a324341c583c5a8a0f3dbd3d", func := "moraine/morainelaw20.FrameShares", spec := "frameShares", unfollowed := true, recurses := true, apart := false, narrowed := true }
def FrameSharesUptoSaid : Prop := frameSharesUptoRow.holds Try.pinned (OpenSpec.upto frameSharesSpec)

/-- 'morainelaw20.FrameRow', WHERE WHAT IT READS IS OF BULK AT MOST 1048576: true; the input reads as it did. -/
def frameRowUptoRow : OpenClaim := { program := "ytecemlamoiepdaa", sum := "fc6a862b45e26b779b885b81d2a2ee46bb29edd1a324341c583c5a8a0f3dbd3d", func := "moraine/morainelaw20.FrameRow", spec := "frameRow", unfollowed := true, recurses := true, apart := false, narrowed := true }
def FrameRowUptoSaid : Prop := frameRowUptoRow.holds Try.pinned (OpenSpec.upto frameRowSpec)

/-- 'morainelaw20.FrameLexical', WHERE WHAT IT READS IS OF BULK AT MOST 1048576: true; the input reads as it did. -/
def frameLexicalUptoRow : OpenClaim := { program := "ytecemlamoiepdaa", sum := "fc6a862b45e26b779b885b81d2a2ee46bb29edd1a324341c583c5a8a0f3dbd3d", func := "moraine/morainelaw20.FrameLexical", spec := "frameLexical", unfollowed := true, recurses := true, apart := false, narrowed := true }
def FrameLexicalUptoSaid : Prop := frameLexicalUptoRow.holds Try.pinned (OpenSpec.upto frameLexicalSpec)

/-- 'morainelaw20.FrameNobody', WHERE WHAT IT READS IS OF BULK AT MOST 1048576: true; the input reads as it did. -/
def frameNobodyUptoRow : OpenClaim := { program := "ytecemlamoiepdaa", sum := "fc6a862b45e26b779b885b81d2a2ee46bb29edd1a324341c583c5a8a0f3dbd3d", func := "moraine/morainelaw20.FrameNobody", spec := "frameNobody", unfollowed := true, recurses := true, apart := false, narrowed := true }
def FrameNobodyUptoSaid : Prop := frameNobodyUptoRow.holds Try.pinned (OpenSpec.upto frameNobodySpec)

/-- 'morainelaw10.ObjKeeps', WHERE WHAT IT READS IS OF BULK AT MOST 1048576: true; the input reads as it did. -/
def objKeepsUptoRow : OpenClaim := { program := "ytecemlamoiepdaa", sum := "fc6a862b45e26b779b885b81d2a2ee46bb29edd1a324341c583c5a8a0f3dbd3d", func := "moraine/morainelaw10.ObjKeeps", spec := "objKeeps", unfollowed := true, recurses := true, apart := false, narrowed := true }
def ObjKeepsUptoSaid : Prop := objKeepsUptoRow.holds Try.pinned (OpenSpec.upto objKeepsSpec)

/-- 'morainelaw10.ObjBack', WHERE WHAT IT READS IS OF BULK AT MOST 1048576: true; the input reads as it did. -/
def objBackUptoRow : OpenClaim := { program := "ytecemlamoiepdaa", sum := "fc6a862b45e26b779b885b81d2a2ee46bb29edd1a324341c583c5a8a0f3dbd3d", func := "moraine/morainelaw10.ObjBack", spec := "objBack", unfollowed := true, recurses := true, apart := false, narrowed := true }
def ObjBackUptoSaid : Prop := objBackUptoRow.holds Try.pinned (OpenSpec.upto objBackSpec)

/-- 'morainelaw10.ObjNobody', WHERE WHAT IT READS IS OF BULK AT MOST 1048576: true; the input reads as it did. -/
def objNobodyUptoRow : OpenClaim := { program := "ytecemlamoiepdaa", sum := "fc6a862b45e26b779b885b81d2a2ee46bb29edd1a324341c583c5a8a0f3dbd3d", func := "moraine/morainelaw10.ObjNobody", spec := "objNobody", unfollowed := true, recurses := true, apart := false, narrowed := true }
def ObjNobodyUptoSaid : Prop := objNobodyUptoRow.holds Try.pinned (OpenSpec.upto objNobodySpec)

/-- 'morainelaw22.ListsBack', WHERE WHAT IT READS IS OF BULK AT MOST 1048576: true; the input reads as it did. -/
def listsBackUptoRow : OpenClaim := { program := "ytecemlamoiepdaa", sum := "fc6a862b45e26b779b885b81d2a2ee46bb29edd1a324341c583c5a8a0f3dbd3d", func := "moraine/morainelaw22.ListsBack", spec := "listsBack", unfollowed := true, recurses := true, apart := false, narrowed := true }
def ListsBackUptoSaid : Prop := listsBackUptoRow.holds Try.pinned (OpenSpec.upto listsBackSpec)

/-- 'morainelaw22.ListsAssoc', WHERE WHAT IT READS IS OF BULK AT MOST 1048576: true; the input reads as it did. -/
def listsAssocUptoRow : OpenClaim := { program := "ytecemlamoiepdaa", sum := "fc6a862b45e26b779b885b81d2a2ee46bb29edd1a324341c583c5a8a0f3dbd3d", func := "moraine/morainelaw22.ListsAssoc", spec := "listsAssoc", unfollowed := true, recurses := true, apart := false, narrowed := true }
def ListsAssocUptoSaid : Prop := listsAssocUptoRow.holds Try.pinned (OpenSpec.upto listsAssocSpec)

/-- 'morainelaw22.ListsSame', WHERE WHAT IT READS IS OF BULK AT MOST 1048576: true; the input reads as it did. -/
def listsSameUptoRow : OpenClaim := { program := "ytecemlamoiepdaa", sum := "fc6a862b45e26b779b885b81d2a2ee46bb29edd1a324341c583c5a8a0f3dbd3d", func := "moraine/morainelaw22.ListsSame", spec := "listsSame", unfollowed := true, recurses := true, apart := false, narrowed := true }
def ListsSameUptoSaid : Prop := listsSameUptoRow.holds Try.pinned (OpenSpec.upto listsSameSpec)

/-- 'morainelaw10.ObjApart', WHERE WHAT IT READS IS OF BULK AT MOST 1048576: true; the input reads as it did. -/
def objApartUptoRow : OpenClaim := { program := "ytecemlamoiepdaa", sum := "fc6a862b45e26b779b885b81d2a2ee46bb29edd1a324341c583c5a8a0f3dbd3d", func := "moraine/morainelaw10.ObjApart", spec := "objApart", unfollowed := true, recurses := true, apart := false, narrowed := true }
def ObjApartUptoSaid : Prop := objApartUptoRow.holds Try.pinned (OpenSpec.upto objApartSpec)

end Rows
end Go.Proofs.Ytecemlamoiepdaa
