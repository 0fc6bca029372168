/-
  No cell of these rows narrows 'for every input' (looked for: loops, veiled, ifaces, maps, wideKeys, modest, calm, conditions, laid).
  DERIVED. THE GIVEN ROWS OF THIS SEAT. 6 by the template 'for every input the law returns true; each argument reads behind the call as it read before'; 0 by the template 'total and deterministic' (their statements: YtlflocejgffjdaaTotals.lean).
  GIVEN WITH THE SEED: the statements are not yours to turn. If you find one false, say at which input.
  Laid BY PROGRAM, IN A SANDBOX (cutbox-rows.mjs): the forced cells as the released guide's own fill.sh prints them over the translation c05246efed91ed60… (all of the seat's roots in one cut). By AI agents, Wed Nov 11 2026. No macro, syntax, notation, axiom, sorry.
-/
import Derived.Test.YtlflocejgffjdaaChecked
import GoSem.Claim
import GoSem.ClaimJoined
import GoSem.ClaimMapViews
import Derived.JoinedTies
import Derived.KernelRfl
namespace Go.Proofs.Ytlflocejgffjdaa
/- THE CELL 'sum', in the pinned program and in every row, IS THE sha256 OF THE DUMP (.gsa) THAT YtlflocejgffjdaaProg.lean LOADS. Nothing in Lean hashes anything: it is a label: what it is worth is what the hold of that sum in a sandbox is worth. -/
noncomputable def Try.pinned : Pinned := { name := "ytlflocejgffjdaa", sum := "c05246efed91ed60913361fdc3bb057b2463d9548d027ec3a5538334e6b4f8e9", checked := Try.checked }
namespace Rows
def none {H : Type} : Left H := { results := [], args := [] }

/-- 'signetlaw30.DeskWords': WHATEVER THE INPUT: true; the input reads as it did. -/
def deskWordsSpec : ChangeSpec := { name := "deskWords", fn := fun _ => fun
  | [d] => { results := [.lit (.bool true)], args := [d] }
  | _ => none }
def deskWordsRow : OpenClaim := { program := "ytlflocejgffjdaa", sum := "c05246efed91ed60913361fdc3bb057b2463d9548d027ec3a5538334e6b4f8e9", func := "signet/signetlaw30.DeskWords", spec := "deskWords", inPlace := ["internal/bytealg.IndexByteString"], unfollowed := true, recurses := true, apart := false }
def DeskWordsSaid : Prop := deskWordsRow.holds Try.pinned (OpenSpec.ofChange deskWordsSpec)

/-- ITS FALSE NEIGHBOUR: 'it returns false'. Refute it at one input. -/
def deskWordsWrong : ChangeSpec := { name := "deskWords", fn := fun _ => fun
  | [d] => { results := [.lit (.bool false)], args := [d] }
  | _ => none }
def DeskWordsWrongFalsely : Prop := deskWordsRow.holds Try.pinned (OpenSpec.ofChange deskWordsWrong)

/-- 'signetlaw30.DeskTold': WHATEVER THE INPUT: true; the input reads as it did. -/
def deskToldSpec : ChangeSpec := { name := "deskTold", fn := fun _ => fun
  | [d] => { results := [.lit (.bool true)], args := [d] }
  | _ => none }
def deskToldRow : OpenClaim := { program := "ytlflocejgffjdaa", sum := "c05246efed91ed60913361fdc3bb057b2463d9548d027ec3a5538334e6b4f8e9", func := "signet/signetlaw30.DeskTold", spec := "deskTold", inPlace := ["internal/bytealg.IndexByteString"], unfollowed := true, recurses := true, apart := false }
def DeskToldSaid : Prop := deskToldRow.holds Try.pinned (OpenSpec.ofChange deskToldSpec)

/-- ITS FALSE NEIGHBOUR: 'it returns false'. Refute it at one input. -/
def deskToldWrong : ChangeSpec := { name := "deskTold", fn := fun _ => fun
  | [d] => { results := [.lit (.bool false)], args := [d] }
  | _ => none }
def DeskToldWrongFalsely : Prop := deskToldRow.holds Try.pinned (OpenSpec.ofChange deskToldWrong)

/-- 'signetlaw11.BitsLeaves': WHATEVER THE INPUT: true; the input reads as it did. -/
def bitsLeavesSpec : ChangeSpec := { name := "bitsLeaves", fn := fun _ => fun
  | [d1, d2, d3] => { results := [.lit (.bool true)], args := [d1, d2, d3] }
  | _ => none }
def bitsLeavesRow : OpenClaim := { program := "ytlflocejgffjdaa", sum := "c05246efed91ed60913361fdc3bb057b2463d9548d027ec3a5538334e6b4f8e9", func := "signet/signetlaw11.BitsLeaves", spec := "bitsLeaves", apart := false }
def BitsLeavesSaid : Prop := bitsLeavesRow.holds Try.pinned (OpenSpec.ofChange bitsLeavesSpec)

/-- ITS FALSE NEIGHBOUR: 'it returns false'. Refute it at one input. -/
def bitsLeavesWrong : ChangeSpec := { name := "bitsLeaves", fn := fun _ => fun
  | [d1, d2, d3] => { results := [.lit (.bool false)], args := [d1, d2, d3] }
  | _ => none }
def BitsLeavesWrongFalsely : Prop := bitsLeavesRow.holds Try.pinned (OpenSpec.ofChange bitsLeavesWrong)

/-- 'signetlaw12.RoomLoads': WHATEVER THE INPUT: true; the input reads as it did. -/
def roomLoadsSpec : ChangeSpec := { name := "roomLoads", fn := fun _ => fun
  | [d1, d2] => { results := [.lit (.bool true)], args := [d1, d2] }
  | _ => none }
def roomLoadsRow : OpenClaim := { program := "ytlflocejgffjdaa", sum := "c05246efed91ed60913361fdc3bb057b2463d9548d027ec3a5538334e6b4f8e9", func := "signet/signetlaw12.RoomLoads", spec := "roomLoads", apart := false }
def RoomLoadsSaid : Prop := roomLoadsRow.holds Try.pinned (OpenSpec.ofChange roomLoadsSpec)

/-- ITS FALSE NEIGHBOUR: 'it returns false'. Refute it at one input. -/
def roomLoadsWrong : ChangeSpec := { name := "roomLoads", fn := fun _ => fun
  | [d1, d2] => { results := [.lit (.bool false)], args := [d1, d2] }
  | _ => none }
def RoomLoadsWrongFalsely : Prop := roomLoadsRow.holds Try.pinned (OpenSpec.ofChange roomLoadsWrong)

/-- 'signetlaw12.RoomMany': WHATEVER THE INPUT: true; the input reads as it did. -/
def roomManySpec : ChangeSpec := { name := "roomMany", fn := fun _ => fun
  | [d1, d2, d3] => { results := [.lit (.bool true)], args := [d1, d2, d3] }
  | _ => none }
def roomManyRow : OpenClaim := { program := "ytlflocejgffjdaa", sum := "c05246efed91ed60913361fdc3bb057b2463d9548d027ec3a5538334e6b4f8e9", func := "signet/signetlaw12.RoomMany", spec := "roomMany", apart := false }
def RoomManySaid : Prop := roomManyRow.holds Try.pinned (OpenSpec.ofChange roomManySpec)

/-- ITS FALSE NEIGHBOUR: 'it returns false'. Refute it at one input. -/
def roomManyWrong : ChangeSpec := { name := "roomMany", fn := fun _ => fun
  | [d1, d2, d3] => { results := [.lit (.bool false)], args := [d1, d2, d3] }
  | _ => none }
def RoomManyWrongFalsely : Prop := roomManyRow.holds Try.pinned (OpenSpec.ofChange roomManyWrong)

/-- 'signetlaw12.RoomPlays': WHATEVER THE INPUT: true; the input reads as it did. -/
def roomPlaysSpec : ChangeSpec := { name := "roomPlays", fn := fun _ => fun
  | [d1, d2, d3] => { results := [.lit (.bool true)], args := [d1, d2, d3] }
  | _ => none }
def roomPlaysRow : OpenClaim := { program := "ytlflocejgffjdaa", sum := "c05246efed91ed60913361fdc3bb057b2463d9548d027ec3a5538334e6b4f8e9", func := "signet/signetlaw12.RoomPlays", spec := "roomPlays", apart := false }
def RoomPlaysSaid : Prop := roomPlaysRow.holds Try.pinned (OpenSpec.ofChange roomPlaysSpec)

/-- ITS FALSE NEIGHBOUR: 'it returns false'. Refute it at one input. -/
def roomPlaysWrong : ChangeSpec := { name := "roomPlays", fn := fun _ => fun
  | [d1, d2, d3] => { results := [.lit (.bool false)], args := [d1, d2, d3] }
  | _ => none }
def RoomPlaysWrongFalsely : Prop := roomPlaysRow.holds Try.pinned (OpenSpec.ofChange roomPlaysWrong)

/- THE SECOND FORM. 'bulk': how many values and letters a reading holds, each counted each time it is reached (what is shared counts as often as it is met; a slice's spare places count too). A statement '..UptoSaid' is the law's where the arguments, and the package variables that the reading takes, are together of bulk at most 1048576: NARROWER than '..Said'. Prove '..Said' where nothing that the law and all that it calls make is longer than what came in: it says more and counts as full. Else prove '..UptoSaid'. A law counts once. -/
mutual
def uptoBulk {H : Type} : DataW H → Nat
  | .lit (.string bytes) => bytes.length + 1
  | .lit _ => 1
  | .nil => 1
  | .ptr d => uptoBulk d + 1
  | .slice elems spare => uptoBulkAll elems + uptoBulkAll spare + 1
  | .agg parts => uptoBulkAll parts + 1
  | .iface _ d => uptoBulk d + 1
  | .map entries => uptoBulkEntries entries + 1
  | .held _ => 1
def uptoBulkAll {H : Type} : List (DataW H) → Nat
  | [] => 0
  | d :: r => uptoBulk d + uptoBulkAll r
def uptoBulkEntries {H : Type} : List (Lit × DataW H) → Nat
  | [] => 0
  | x :: r => uptoBulkEntry x + uptoBulkEntries r
def uptoBulkEntry {H : Type} : Lit × DataW H → Nat
  | (.string bytes, d) => bytes.length + uptoBulk d + 1
  | (_, d) => uptoBulk d + 1
 end
def uptoSmall : (H : Type) → List (DataW H) → Bool := fun _ ds => decide (uptoBulkAll ds ≤ 1048576)
def OpenSpec.upto (s : _root_.Go.ChangeSpec) : _root_.Go.OpenSpec := { _root_.Go.OpenSpec.ofChange s with cond := some uptoSmall }

/-- 'signetlaw30.DeskWords', WHERE WHAT IT READS IS OF BULK AT MOST 1048576: true; the input reads as it did. -/
def deskWordsUptoRow : OpenClaim := { program := "ytlflocejgffjdaa", sum := "c05246efed91ed60913361fdc3bb057b2463d9548d027ec3a5538334e6b4f8e9", func := "signet/signetlaw30.DeskWords", spec := "deskWords", inPlace := ["internal/bytealg.IndexByteString"], unfollowed := true, recurses := true, apart := false, narrowed := true }
def DeskWordsUptoSaid : Prop := deskWordsUptoRow.holds Try.pinned (OpenSpec.upto deskWordsSpec)

/-- 'signetlaw30.DeskTold', WHERE WHAT IT READS IS OF BULK AT MOST 1048576: true; the input reads as it did. -/
def deskToldUptoRow : OpenClaim := { program := "ytlflocejgffjdaa", sum := "c05246efed91ed60913361fdc3bb057b2463d9548d027ec3a5538334e6b4f8e9", func := "signet/signetlaw30.DeskTold", spec := "deskTold", inPlace := ["internal/bytealg.IndexByteString"], unfollowed := true, recurses := true, apart := false, narrowed := true }
def DeskToldUptoSaid : Prop := deskToldUptoRow.holds Try.pinned (OpenSpec.upto deskToldSpec)

/-- 'signetlaw11.BitsLeaves', WHERE WHAT IT READS IS OF BULK AT MOST 1048576: true; the input reads as it did. -/
def bitsLeavesUptoRow : OpenClaim := { program := "ytlflocejgffjdaa", sum := "c05246efed91ed60913361fdc3bb057b2463d9548d027ec3a5538334e6b4f8e9", func := "signet/signetlaw11.BitsLeaves", spec := "bitsLeaves", apart := false, narrowed := true }
def BitsLeavesUptoSaid : Prop := bitsLeavesUptoRow.holds Try.pinned (OpenSpec.upto bitsLeavesSpec)

/-- 'signetlaw12.RoomLoads', WHERE WHAT IT READS IS OF BULK AT MOST 1048576: true; the input reads as it did. -/
def roomLoadsUptoRow : OpenClaim := { program := "ytlflocejgffjdaa", sum := "c05246efed91ed60913361fdc3bb057b2463d9548d027ec3a5538334e6b4f8e9", func := "signet/signetlaw12.RoomLoads", spec := "roomLoads", apart := false, narrowed := true }
def RoomLoadsUptoSaid : Prop := roomLoadsUptoRow.holds Try.pinned (OpenSpec.upto roomLoadsSpec)

/-- 'signetlaw12.RoomMany', WHERE WHAT IT READS IS OF BULK AT MOST 1048576: true; the input reads as it did. -/
def roomManyUptoRow : OpenClaim := { program := "ytlflocejgffjdaa", sum := "c05246efed91ed60913361fdc3bb057b2463d9548d027ec3a5538334e6b4f8e9", func := "signet/signetlaw12.RoomMany", spec := "roomMany", apart := false, narrowed := true }
def RoomManyUptoSaid : Prop := roomManyUptoRow.holds Try.pinned (OpenSpec.upto roomManySpec)

/-- 'signetlaw12.RoomPlays', WHERE WHAT IT READS IS OF BULK AT MOST 1048576: true; the input reads as it did. -/
def roomPlaysUptoRow : OpenClaim := { program := "ytlflocejgffjdaa", sum := "c05246efed91ed60913361fdc3bb057b2463d9548d027ec3a5538334e6b4f8e9", func := "signet/signetlaw12.RoomPlays", spec := "roomPlays", apart := false, narrowed := true }
def RoomPlaysUptoSaid : Prop := roomPlaysUptoRow.holds Try.pinned (OpenSpec.upto roomPlaysSpec)

end Rows
end Go.Proofs.Ytlflocejgffjdaa
