/-
  No cell of these rows narrows 'for every input' (looked for: loops, veiled, ifaces, maps, wideKeys, modest, calm, conditions, laid).
  DERIVED. THE GIVEN ROWS OF THIS SEAT. 11 by the template 'for every input the law returns true; each argument reads behind the call as it read before'; 0 by the template 'total and deterministic' (their statements: YtaipnbpefdcejaaTotals.lean).
  GIVEN WITH THE SEED: the statements are not yours to turn. If you find one false, say at which input.
  Laid BY PROGRAM, IN A SANDBOX (cutbox-rows.mjs): the forced cells as the released guide's own fill.sh prints them over the translation 5ecd6f1f969b0d42… (all of the seat's roots in one cut). By AI agents, Wed Nov 11 2026. No macro, syntax, notation, axiom, sorry.
-/
import Derived.Test.YtaipnbpefdcejaaChecked
import GoSem.Claim
import GoSem.ClaimJoined
import GoSem.ClaimMapViews
import Derived.JoinedTies
import Derived.KernelRfl
namespace Go.Proofs.Ytaipnbpefdcejaa
/- THE CELL 'sum', in the pinned program and in every row, IS THE sha256 OF THE DUMP (.gsa) THAT YtaipnbpefdcejaaProg.lean LOADS. Nothing in Lean hashes anything: it is a label: what it is worth is what the hold of that sum in a sandbox is worth. -/
noncomputable def Try.pinned : Pinned := { name := "ytaipnbpefdcejaa", sum := "5ecd6f1f969b0d42b7cd2188fcc6bfab38f794363742dff7298d2ac09b0046bc", checked := Try.checked }
namespace Rows
def none {H : Type} : Left H := { results := [], args := [] }

/-- 'sluicelaw21.WireNames': WHATEVER THE INPUT: true; the input reads as it did. -/
def wireNamesSpec : ChangeSpec := { name := "wireNames", fn := fun _ => fun
  | [] => { results := [.lit (.bool true)], args := [] }
  | _ => none }
def wireNamesRow : OpenClaim := { program := "ytaipnbpefdcejaa", sum := "5ecd6f1f969b0d42b7cd2188fcc6bfab38f794363742dff7298d2ac09b0046bc", func := "sluice/sluicelaw21.WireNames", spec := "wireNames", apart := false }
def WireNamesSaid : Prop := wireNamesRow.holds Try.pinned (OpenSpec.ofChange wireNamesSpec)

/-- ITS FALSE NEIGHBOUR: 'it returns false'. Refute it at one input. -/
def wireNamesWrong : ChangeSpec := { name := "wireNames", fn := fun _ => fun
  | [] => { results := [.lit (.bool false)], args := [] }
  | _ => none }
def WireNamesWrongFalsely : Prop := wireNamesRow.holds Try.pinned (OpenSpec.ofChange wireNamesWrong)

/-- 'sluicelaw21.WireReads': WHATEVER THE INPUT: true; the input reads as it did. -/
def wireReadsSpec : ChangeSpec := { name := "wireReads", fn := fun _ => fun
  | [d1, d2] => { results := [.lit (.bool true)], args := [d1, d2] }
  | _ => none }
def wireReadsRow : OpenClaim := { program := "ytaipnbpefdcejaa", sum := "5ecd6f1f969b0d42b7cd2188fcc6bfab38f794363742dff7298d2ac09b0046bc", func := "sluice/sluicelaw21.WireReads", spec := "wireReads", apart := false }
def WireReadsSaid : Prop := wireReadsRow.holds Try.pinned (OpenSpec.ofChange wireReadsSpec)

/-- ITS FALSE NEIGHBOUR: 'it returns false'. Refute it at one input. -/
def wireReadsWrong : ChangeSpec := { name := "wireReads", fn := fun _ => fun
  | [d1, d2] => { results := [.lit (.bool false)], args := [d1, d2] }
  | _ => none }
def WireReadsWrongFalsely : Prop := wireReadsRow.holds Try.pinned (OpenSpec.ofChange wireReadsWrong)

/-- 'sluicelaw21.WireNumbers': WHATEVER THE INPUT: true; the input reads as it did. -/
def wireNumbersSpec : ChangeSpec := { name := "wireNumbers", fn := fun _ => fun
  | [d1, d2, d3, d4] => { results := [.lit (.bool true)], args := [d1, d2, d3, d4] }
  | _ => none }
def wireNumbersRow : OpenClaim := { program := "ytaipnbpefdcejaa", sum := "5ecd6f1f969b0d42b7cd2188fcc6bfab38f794363742dff7298d2ac09b0046bc", func := "sluice/sluicelaw21.WireNumbers", spec := "wireNumbers", apart := false }
def WireNumbersSaid : Prop := wireNumbersRow.holds Try.pinned (OpenSpec.ofChange wireNumbersSpec)

/-- ITS FALSE NEIGHBOUR: 'it returns false'. Refute it at one input. -/
def wireNumbersWrong : ChangeSpec := { name := "wireNumbers", fn := fun _ => fun
  | [d1, d2, d3, d4] => { results := [.lit (.bool false)], args := [d1, d2, d3, d4] }
  | _ => none }
def WireNumbersWrongFalsely : Prop := wireNumbersRow.holds Try.pinned (OpenSpec.ofChange wireNumbersWrong)

/-- 'sluicelaw21.WireEncodes': WHATEVER THE INPUT: true; the input reads as it did. -/
def wireEncodesSpec : ChangeSpec := { name := "wireEncodes", fn := fun _ => fun
  | [d] => { results := [.lit (.bool true)], args := [d] }
  | _ => none }
def wireEncodesRow : OpenClaim := { program := "ytaipnbpefdcejaa", sum := "5ecd6f1f969b0d42b7cd2188fcc6bfab38f794363742dff7298d2ac09b0046bc", func := "sluice/sluicelaw21.WireEncodes", spec := "wireEncodes", unfollowed := true, recurses := true, apart := false }
def WireEncodesSaid : Prop := wireEncodesRow.holds Try.pinned (OpenSpec.ofChange wireEncodesSpec)

/-- ITS FALSE NEIGHBOUR: 'it returns false'. Refute it at one input. -/
def wireEncodesWrong : ChangeSpec := { name := "wireEncodes", fn := fun _ => fun
  | [d] => { results := [.lit (.bool false)], args := [d] }
  | _ => none }
def WireEncodesWrongFalsely : Prop := wireEncodesRow.holds Try.pinned (OpenSpec.ofChange wireEncodesWrong)

/-- 'sluicelaw21.WireDecodes': WHATEVER THE INPUT: true; the input reads as it did. -/
def wireDecodesSpec : ChangeSpec := { name := "wireDecodes", fn := fun _ => fun
  | [d] => { results := [.lit (.bool true)], args := [d] }
  | _ => none }
def wireDecodesRow : OpenClaim := { program := "ytaipnbpefdcejaa", sum := "5ecd6f1f969b0d42b7cd2188fcc6bfab38f794363742dff7298d2ac09b0046bc", func := "sluice/sluicelaw21.WireDecodes", spec := "wireDecodes", unfollowed := true, recurses := true, apart := false }
def WireDecodesSaid : Prop := wireDecodesRow.holds Try.pinned (OpenSpec.ofChange wireDecodesSpec)

/-- ITS FALSE NEIGHBOUR: 'it returns false'. Refute it at one input. -/
def wireDecodesWrong : ChangeSpec := { name := "wireDecodes", fn := fun _ => fun
  | [d] => { results := [.lit (.bool false)], args := [d] }
  | _ => none }
def WireDecodesWrongFalsely : Prop := wireDecodesRow.holds Try.pinned (OpenSpec.ofChange wireDecodesWrong)

/-- 'sluicelaw21.WireBack': WHATEVER THE INPUT: true; the input reads as it did. -/
def wireBackSpec : ChangeSpec := { name := "wireBack", fn := fun _ => fun
  | [d1, d2, d3] => { results := [.lit (.bool true)], args := [d1, d2, d3] }
  | _ => none }
def wireBackRow : OpenClaim := { program := "ytaipnbpefdcejaa", sum := "5ecd6f1f969b0d42b7cd2188fcc6bfab38f794363742dff7298d2ac09b0046bc", func := "sluice/sluicelaw21.WireBack", spec := "wireBack", unfollowed := true, recurses := true, apart := false }
def WireBackSaid : Prop := wireBackRow.holds Try.pinned (OpenSpec.ofChange wireBackSpec)

/-- ITS FALSE NEIGHBOUR: 'it returns false'. Refute it at one input. -/
def wireBackWrong : ChangeSpec := { name := "wireBack", fn := fun _ => fun
  | [d1, d2, d3] => { results := [.lit (.bool false)], args := [d1, d2, d3] }
  | _ => none }
def WireBackWrongFalsely : Prop := wireBackRow.holds Try.pinned (OpenSpec.ofChange wireBackWrong)

/-- 'sluicelaw21.WireOneFrame': WHATEVER THE INPUT: true; the input reads as it did. -/
def wireOneFrameSpec : ChangeSpec := { name := "wireOneFrame", fn := fun _ => fun
  | [d] => { results := [.lit (.bool true)], args := [d] }
  | _ => none }
def wireOneFrameRow : OpenClaim := { program := "ytaipnbpefdcejaa", sum := "5ecd6f1f969b0d42b7cd2188fcc6bfab38f794363742dff7298d2ac09b0046bc", func := "sluice/sluicelaw21.WireOneFrame", spec := "wireOneFrame", unfollowed := true, recurses := true, apart := false }
def WireOneFrameSaid : Prop := wireOneFrameRow.holds Try.pinned (OpenSpec.ofChange wireOneFrameSpec)

/-- ITS FALSE NEIGHBOUR: 'it returns false'. Refute it at one input. -/
def wireOneFrameWrong : ChangeSpec := { name := "wireOneFrame", fn := fun _ => fun
  | [d] => { results := [.lit (.bool false)], args := [d] }
  | _ => none }
def WireOneFrameWrongFalsely : Prop := wireOneFrameRow.holds Try.pinned (OpenSpec.ofChange wireOneFrameWrong)

/-- 'sluicelaw21.WireUnlike': WHATEVER THE INPUT: true; the input reads as it did. -/
def wireUnlikeSpec : ChangeSpec := { name := "wireUnlike", fn := fun _ => fun
  | [d1, d2] => { results := [.lit (.bool true)], args := [d1, d2] }
  | _ => none }
def wireUnlikeRow : OpenClaim := { program := "ytaipnbpefdcejaa", sum := "5ecd6f1f969b0d42b7cd2188fcc6bfab38f794363742dff7298d2ac09b0046bc", func := "sluice/sluicelaw21.WireUnlike", spec := "wireUnlike", unfollowed := true, recurses := true, apart := false }
def WireUnlikeSaid : Prop := wireUnlikeRow.holds Try.pinned (OpenSpec.ofChange wireUnlikeSpec)

/-- ITS FALSE NEIGHBOUR: 'it returns false'. Refute it at one input. -/
def wireUnlikeWrong : ChangeSpec := { name := "wireUnlike", fn := fun _ => fun
  | [d1, d2] => { results := [.lit (.bool false)], args := [d1, d2] }
  | _ => none }
def WireUnlikeWrongFalsely : Prop := wireUnlikeRow.holds Try.pinned (OpenSpec.ofChange wireUnlikeWrong)

/-- 'sluicelaw21.WireAlls': WHATEVER THE INPUT: true; the input reads as it did. -/
def wireAllsSpec : ChangeSpec := { name := "wireAlls", fn := fun _ => fun
  | [d] => { results := [.lit (.bool true)], args := [d] }
  | _ => none }
def wireAllsRow : OpenClaim := { program := "ytaipnbpefdcejaa", sum := "5ecd6f1f969b0d42b7cd2188fcc6bfab38f794363742dff7298d2ac09b0046bc", func := "sluice/sluicelaw21.WireAlls", spec := "wireAlls", unfollowed := true, recurses := true, apart := false }
def WireAllsSaid : Prop := wireAllsRow.holds Try.pinned (OpenSpec.ofChange wireAllsSpec)

/-- ITS FALSE NEIGHBOUR: 'it returns false'. Refute it at one input. -/
def wireAllsWrong : ChangeSpec := { name := "wireAlls", fn := fun _ => fun
  | [d] => { results := [.lit (.bool false)], args := [d] }
  | _ => none }
def WireAllsWrongFalsely : Prop := wireAllsRow.holds Try.pinned (OpenSpec.ofChange wireAllsWrong)

/-- 'sluicelaw21.WireStream': WHATEVER THE INPUT: true; the input reads as it did. -/
def wireStreamSpec : ChangeSpec := { name := "wireStream", fn := fun _ => fun
  | [d1, d2] => { results := [.lit (.bool true)], args := [d1, d2] }
  | _ => none }
def wireStreamRow : OpenClaim := { program := "ytaipnbpefdcejaa", sum := "5ecd6f1f969b0d42b7cd2188fcc6bfab38f794363742dff7298d2ac09b0046bc", func := "sluice/sluicelaw21.WireStream", spec := "wireStream", unfollowed := true, recurses := true, apart := false }
def WireStreamSaid : Prop := wireStreamRow.holds Try.pinned (OpenSpec.ofChange wireStreamSpec)

/-- ITS FALSE NEIGHBOUR: 'it returns false'. Refute it at one input. -/
def wireStreamWrong : ChangeSpec := { name := "wireStream", fn := fun _ => fun
  | [d1, d2] => { results := [.lit (.bool false)], args := [d1, d2] }
  | _ => none }
def WireStreamWrongFalsely : Prop := wireStreamRow.holds Try.pinned (OpenSpec.ofChange wireStreamWrong)

/-- 'sluicelaw21.WireFresh': WHATEVER THE INPUT: true; the input reads as it did. -/
def wireFreshSpec : ChangeSpec := { name := "wireFresh", fn := fun _ => fun
  | [d1, d2, d3] => { results := [.lit (.bool true)], args := [d1, d2, d3] }
  | _ => none }
def wireFreshRow : OpenClaim := { program := "ytaipnbpefdcejaa", sum := "5ecd6f1f969b0d42b7cd2188fcc6bfab38f794363742dff7298d2ac09b0046bc", func := "sluice/sluicelaw21.WireFresh", spec := "wireFresh", unfollowed := true, recurses := true, apart := false }
def WireFreshSaid : Prop := wireFreshRow.holds Try.pinned (OpenSpec.ofChange wireFreshSpec)

/-- ITS FALSE NEIGHBOUR: 'it returns false'. Refute it at one input. -/
def wireFreshWrong : ChangeSpec := { name := "wireFresh", fn := fun _ => fun
  | [d1, d2, d3] => { results := [.lit (.bool false)], args := [d1, d2, d3] }
  | _ => none }
def WireFreshWrongFalsely : Prop := wireFreshRow.holds Try.pinned (OpenSpec.ofChange wireFreshWrong)

/- THE SECOND FORM. 'bulk': how many values and letters a reading holds, each counted each time it is reached (what is shared counts as often as it is met; a slice's spare places count too). A statement '..UptoSaid' is the law's where the arguments, and the package variables that the reading takes, are together of bulk at most 1048576: NARROWER than '..Said'. Prove '..Said' where nothing that the law and all that it calls make is longer than what came in: it says more and counts as full. Else prove '..UptoSaid'. A law counts once. -/
mutual
def uptoBulk {H : Type} : DataW H → Nat
  | .lit (.string bytes) => bytes.length + 1
  | .lit _ => 1
  | .nil => 1
  | .ptr d => uptoBulk d + 1
  | .slice elems spare => uptoBulkAll elems + uptoBulkAll spare + 1
  | .agg parts => uptoBulkAll parts + 1
  | .iface _ d => uptoBulk d + 1
  | .map entries => uptoBulkEntries entries + 1
  | .held _ => 1
def uptoBulkAll {H : Type} : List (DataW H) → Nat
  | [] => 0
  | d :: r => uptoBulk d + uptoBulkAll r
def uptoBulkEntries {H : Type} : List (Lit × DataW H) → Nat
  | [] => 0
  | x :: r => uptoBulkEntry x + uptoBulkEntries r
def uptoBulkEntry {H : Type} : Lit × DataW H → Nat
  | (.string bytes, d) => bytes.length + uptoBulk d + 1
  | (_, d) => uptoBulk d + 1
 end
def uptoSmall : (H : Type) → List (DataW H) → Bool := fun _ ds => decide (uptoBulkAll ds ≤ 1048576)
def OpenSpec.upto (s : _root_.Go.ChangeSpec) : _root_.Go.OpenSpec := { _root_.Go.OpenSpec.ofChange s with cond := some uptoSmall }

/-- 'sluicelaw21.WireNames', WHERE WHAT IT READS IS OF BULK AT MOST 1048576: true; the input reads as it did. -/
def wireNamesUptoRow : OpenClaim := { program := "ytaipnbpefdcejaa", sum := "5ecd6f1f969b0d42b7cd2188fcc6bfab38f794363742dff7298d2ac09b0046bc", func := "sluice/sluicelaw21.WireNames", spec := "wireNames", apart := false, narrowed := true }
def WireNamesUptoSaid : Prop := wireNamesUptoRow.holds Try.pinned (OpenSpec.upto wireNamesSpec)

/-- 'sluicelaw21.WireReads', WHERE WHAT IT READS IS OF BULK AT MOST 1048576: true; the input reads as it did. -/
def wireReadsUptoRow : OpenClaim := { program := "ytaipnbpefdcejaa", sum := "5ecd6f1f969b0d42b7cd2188fcc6bfab38f794363742dff7298d2ac09b0046bc", func := "sluice/sluicelaw21.WireReads", spec := "wireReads", apart := false, narrowed := true }
def WireReadsUptoSaid : Prop := wireReadsUptoRow.holds Try.pinned (OpenSpec.upto wireReadsSpec)

/-- 'sluicelaw21.WireNumbers', WHERE WHAT IT READS IS OF BULK AT MOST 1048576: true; the input reads as it did. -/
def wireNumbersUptoRow : OpenClaim := { program := "ytaipnbpefdcejaa", sum := "5ecd6f1f969b0d42b7cd2188fcc6bfab38f794363742dff7298d2ac09b0046bc", func := "sluice/sluicelaw21.WireNumbers", spec := "wireNumbers", apart := false, narrowed := true }
def WireNumbersUptoSaid : Prop := wireNumbersUptoRow.holds Try.pinned (OpenSpec.upto wireNumbersSpec)

/-- 'sluicelaw21.WireEncodes', WHERE WHAT IT READS IS OF BULK AT MOST 1048576: true; the input reads as it did. -/
def wireEncodesUptoRow : OpenClaim := { program := "ytaipnbpefdcejaa", sum := "5ecd6f1f969b0d42b7cd2188fcc6bfab38f794363742dff7298d2ac09b0046bc", func := "sluice/sluicelaw21.WireEncodes", spec := "wireEncodes", unfollowed := true, recurses := true, apart := false, narrowed := true }
def WireEncodesUptoSaid : Prop := wireEncodesUptoRow.holds Try.pinned (OpenSpec.upto wireEncodesSpec)

/-- 'sluicelaw21.WireDecodes', WHERE WHAT IT READS IS OF BULK AT MOST 1048576: true; the input reads as it did. -/
def wireDecodesUptoRow : OpenClaim := { program := "ytaipnbpefdcejaa", sum := "5ecd6f1f969b0d42b7cd2188fcc6bfab38f794363742dff7298d2ac09b0046bc", func := "sluice/sluicelaw21.WireDecodes", spec := "wireDecodes", unfollowed := true, recurses := true, apart := false, narrowed := true }
def WireDecodesUptoSaid : Prop := wireDecodesUptoRow.holds Try.pinned (OpenSpec.upto wireDecodesSpec)

/-- 'sluicelaw21.WireBack', WHERE WHAT IT READS IS OF BULK AT MOST 1048576: true; the input reads as it did. -/
def wireBackUptoRow : OpenClaim := { program := "ytaipnbpefdcejaa", sum := "5ecd6f1f969b0d42b7cd2188fcc6bfab38f794363742dff7298d2ac09b0046bc", func := "sluice/sluicelaw21.WireBack", spec := "wireBack", unfollowed := true, recurses := true, apart := false, narrowed := true }
def WireBackUptoSaid : Prop := wireBackUptoRow.holds Try.pinned (OpenSpec.upto wireBackSpec)

/-- 'sluicelaw21.WireOneFrame', WHERE WHAT IT READS IS OF BULK AT MOST 1048576: true; the input reads as it did. -/
def wireOneFrameUptoRow : OpenClaim := { program := "ytaipnbpefdcejaa", sum := "5ecd6f1f969b0d42b7cd2188fcc6bfab38f794363742dff7298d2ac09b0046bc", func := "sluice/sluicelaw21.WireOneFrame", spec := "wireOneFrame", unfollowed := true, recurses := true, apart := false, narrowed := true }
def WireOneFrameUptoSaid : Prop := wireOneFrameUptoRow.holds Try.pinned (OpenSpec.upto wireOneFrameSpec)

/-- 'sluicelaw21.WireUnlike', WHERE WHAT IT READS IS OF BULK AT MOST 1048576: true; the input reads as it did. -/
def wireUnlikeUptoRow : OpenClaim := { program := "ytaipnbpefdcejaa", sum := "5ecd6f1f969b0d42b7cd2188fcc6bfab38f794363742dff7298d2ac09b0046bc", func := "sluice/sluicelaw21.WireUnlike", spec := "wireUnlike", unfollowed := true, recurses := true, apart := false, narrowed := true }
def WireUnlikeUptoSaid : Prop := wireUnlikeUptoRow.holds Try.pinned (OpenSpec.upto wireUnlikeSpec)

/-- 'sluicelaw21.WireAlls', WHERE WHAT IT READS IS OF BULK AT MOST 1048576: true; the input reads as it did. -/
def wireAllsUptoRow : OpenClaim := { program := "ytaipnbpefdcejaa", sum := "5ecd6f1f969b0d42b7cd2188fcc6bfab38f794363742dff7298d2ac09b0046bc", func := "sluice/sluicelaw21.WireAlls", spec := "wireAlls", unfollowed := true, recurses := true, apart := false, narrowed := true }
def WireAllsUptoSaid : Prop := wireAllsUptoRow.holds Try.pinned (OpenSpec.upto wireAllsSpec)

/-- 'sluicelaw21.WireStream', WHERE WHAT IT READS IS OF BULK AT MOST 1048576: true; the input reads as it did. -/
def wireStreamUptoRow : OpenClaim := { program := "ytaipnbpefdcejaa", sum := "5ecd6f1f969b0d42b7cd2188fcc6bfab38f794363742dff7298d2ac09b0046bc", func := "sluice/sluicelaw21.WireStream", spec := "wireStream", unfollowed := true, recurses := true, apart := false, narrowed := true }
def WireStreamUptoSaid : Prop := wireStreamUptoRow.holds Try.pinned (OpenSpec.upto wireStreamSpec)

/-- 'sluicelaw21.WireFresh', WHERE WHAT IT READS IS OF BULK AT MOST 1048576: true; the input reads as it did. -/
def wireFreshUptoRow : OpenClaim := { program := "ytaipnbpefdcejaa", sum := "5ecd6f1f969b0d42b7cd2188fcc6bfab38f794363742dff7298d2ac09b0046bc", func := "sluice/sluicelaw21.WireFresh", spec := "wireFresh", unfollowed := true, recurses := true, apart := false, narrowed := true }
def WireFreshUptoSaid : Prop := wireFreshUptoRow.holds Try.pinned (OpenSpec.upto wireFreshSpec)

end Rows
end Go.Proofs.Ytaipnbpefdcejaa
