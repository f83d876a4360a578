/-
  NARROWER THAN 'FOR EVERY INPUT', by the rows' own cells (each row's printed sentence says how): CallNames: laid · AutoNames: laid · HistNames: laid · ExecNames: laid · NodeNames: laid · RunNames: laid.
  DERIVED. THE GIVEN ROWS OF THIS SEAT. 6 by the template 'for every input the law returns true; each argument reads behind the call as it read before'; 0 by the template 'total and deterministic' (their statements: YtciplabieafkcaaGreatDoorTotals.lean).
  GIVEN WITH THE SEED: the statements are not yours to turn. If you find one false, say at which input.
  Laid BY PROGRAM, IN A SANDBOX (cutbox-rows.mjs): the forced cells as the released guide's own fill.sh prints them over the translation a1c5d4502ab68cf5… (all of the seat's roots in one cut). By AI agents, Wed Nov 11 2026. No macro, syntax, notation, axiom, sorry.
-/
import Derived.Test.YtciplabieafkcaaGreatDoorChecked
import GoSem.Claim
import GoSem.ClaimJoined
import GoSem.ClaimMapViews
import Derived.JoinedTies
import Derived.KernelRfl
namespace Go.Proofs.YtciplabieafkcaaGreatDoor
/- THE CELL 'sum', in the pinned program and in every row, IS THE sha256 OF THE DUMP (.gsa) THAT YtciplabieafkcaaGreatDoorProg.lean LOADS. Nothing in Lean hashes anything: it is a label: what it is worth is what the hold of that sum in a sandbox is worth. -/
noncomputable def Tryz.pinned : Pinned := { name := "ytciplabieafkcaagreatdoor", sum := "a1c5d4502ab68cf5e5b0afaf937cf95a741e7877f2e0ddfdde4e1f728e207c22", checked := Tryz.checked }
namespace Rows
def none {H : Type} : Left H := { results := [], args := [] }

/- WHAT THE LISTED PACKAGE-LEVEL VARIABLES READ AS WHEN THE CALL BEGINS. Each datum BY PROGRAM (the guide's laid-datum.mjs) off the statement by which the dump's own 'gosem.cut.vars' lays the variable. In a bare row this is a premise. The card (YtciplabieafkcaaGreatDoorCards.lean) ties it to the program's text. -/
def laid_beadroll_sha_k {H : Type} : DataW H := .agg [.lit (.int .u32 1116352408), .lit (.int .u32 1899447441), .lit (.int .u32 3049323471), .lit (.int .u32 3921009573), .lit (.int .u32 961987163), .lit (.int .u32 1508970993), .lit (.int .u32 2453635748), .lit (.int .u32 2870763221), .lit (.int .u32 3624381080), .lit (.int .u32 310598401), .lit (.int .u32 607225278), .lit (.int .u32 1426881987), .lit (.int .u32 1925078388), .lit (.int .u32 2162078206), .lit (.int .u32 2614888103), .lit (.int .u32 3248222580), .lit (.int .u32 3835390401), .lit (.int .u32 4022224774), .lit (.int .u32 264347078), .lit (.int .u32 604807628), .lit (.int .u32 770255983), .lit (.int .u32 1249150122), .lit (.int .u32 1555081692), .lit (.int .u32 1996064986), .lit (.int .u32 2554220882), .lit (.int .u32 2821834349), .lit (.int .u32 2952996808), .lit (.int .u32 3210313671), .lit (.int .u32 3336571891), .lit (.int .u32 3584528711), .lit (.int .u32 113926993), .lit (.int .u32 338241895), .lit (.int .u32 666307205), .lit (.int .u32 773529912), .lit (.int .u32 1294757372), .lit (.int .u32 1396182291), .lit (.int .u32 1695183700), .lit (.int .u32 1986661051), .lit (.int .u32 2177026350), .lit (.int .u32 2456956037), .lit (.int .u32 2730485921), .lit (.int .u32 2820302411), .lit (.int .u32 3259730800), .lit (.int .u32 3345764771), .lit (.int .u32 3516065817), .lit (.int .u32 3600352804), .lit (.int .u32 4094571909), .lit (.int .u32 275423344), .lit (.int .u32 430227734), .lit (.int .u32 506948616), .lit (.int .u32 659060556), .lit (.int .u32 883997877), .lit (.int .u32 958139571), .lit (.int .u32 1322822218), .lit (.int .u32 1537002063), .lit (.int .u32 1747873779), .lit (.int .u32 1955562222), .lit (.int .u32 2024104815), .lit (.int .u32 2227730452), .lit (.int .u32 2361852424), .lit (.int .u32 2428436474), .lit (.int .u32 2756734187), .lit (.int .u32 3204031479), .lit (.int .u32 3329325298)]
def laid_beadroll_tap_gap {H : Type} : DataW H := .agg [.lit (.bool true), .agg [.lit (.int .i64 0), .lit (.bool false), .agg [.lit (.int .i64 0), .agg [.lit (.int .u8 0), .lit (.int .u8 0), .lit (.int .u8 0), .lit (.int .u8 0), .lit (.int .u8 0), .lit (.int .u8 0), .lit (.int .u8 0), .lit (.int .u8 0), .lit (.int .u8 0), .lit (.int .u8 0), .lit (.int .u8 0), .lit (.int .u8 0), .lit (.int .u8 0), .lit (.int .u8 0), .lit (.int .u8 0), .lit (.int .u8 0), .lit (.int .u8 0), .lit (.int .u8 0), .lit (.int .u8 0), .lit (.int .u8 0), .lit (.int .u8 0), .lit (.int .u8 0), .lit (.int .u8 0), .lit (.int .u8 0), .lit (.int .u8 0), .lit (.int .u8 0), .lit (.int .u8 0), .lit (.int .u8 0), .lit (.int .u8 0), .lit (.int .u8 0), .lit (.int .u8 0), .lit (.int .u8 0)], .agg [.lit (.int .u8 0), .lit (.int .u8 0), .lit (.int .u8 0), .lit (.int .u8 0), .lit (.int .u8 0), .lit (.int .u8 0), .lit (.int .u8 0), .lit (.int .u8 0), .lit (.int .u8 0), .lit (.int .u8 0), .lit (.int .u8 0), .lit (.int .u8 0), .lit (.int .u8 0), .lit (.int .u8 0), .lit (.int .u8 0), .lit (.int .u8 0), .lit (.int .u8 0), .lit (.int .u8 0), .lit (.int .u8 0), .lit (.int .u8 0), .lit (.int .u8 0), .lit (.int .u8 0), .lit (.int .u8 0), .lit (.int .u8 0), .lit (.int .u8 0), .lit (.int .u8 0), .lit (.int .u8 0), .lit (.int .u8 0), .lit (.int .u8 0), .lit (.int .u8 0), .lit (.int .u8 0), .lit (.int .u8 0)], .agg [.lit (.int .u8 0), .lit (.int .u8 0), .lit (.int .u8 0), .lit (.int .u8 0), .lit (.int .u8 0), .lit (.int .u8 0), .lit (.int .u8 0), .lit (.int .u8 0), .lit (.int .u8 0), .lit (.int .u8 0), .lit (.int .u8 0), .lit (.int .u8 0), .lit (.int .u8 0), .lit (.int .u8 0), .lit (.int .u8 0), .lit (.int .u8 0), .lit (.int .u8 0), .lit (.int .u8 0), .lit (.int .u8 0), .lit (.int .u8 0), .lit (.int .u8 0), .lit (.int .u8 0), .lit (.int .u8 0), .lit (.int .u8 0), .lit (.int .u8 0), .lit (.int .u8 0), .lit (.int .u8 0), .lit (.int .u8 0), .lit (.int .u8 0), .lit (.int .u8 0), .lit (.int .u8 0), .lit (.int .u8 0)], .lit (.int .i64 0)]]]

/-- 'beadrolllaw27.CallNames': WHATEVER THE INPUT: true; the input reads as it did. -/
def callNamesSpec : ChangeSpec := { name := "callNames", fn := fun _ => fun
  | [] => { results := [.lit (.bool true)], args := [] }
  | _ => none }
def callNamesRow : OpenClaim := { program := "ytciplabieafkcaagreatdoor", sum := "a1c5d4502ab68cf5e5b0afaf937cf95a741e7877f2e0ddfdde4e1f728e207c22", func := "beadroll/beadrolllaw27.CallNames", spec := "callNames", inPlace := ["slices.overlaps[beadroll/api.Tx]", "slices.overlaps[beadroll/api.Line]", "internal/bytealg.MakeNoZero"], unfollowed := true, recurses := true, named := ["beadroll/sha.k", "beadroll/tap.gap"], apart := false, laid := [("beadroll/sha.k", laid_beadroll_sha_k), ("beadroll/tap.gap", laid_beadroll_tap_gap)] }
def CallNamesSaid : Prop := callNamesRow.holds Tryz.pinned (OpenSpec.ofChange callNamesSpec)

/-- ITS FALSE NEIGHBOUR: 'it returns false'. Refute it at one input. -/
def callNamesWrong : ChangeSpec := { name := "callNames", fn := fun _ => fun
  | [] => { results := [.lit (.bool false)], args := [] }
  | _ => none }
def CallNamesWrongFalsely : Prop := callNamesRow.holds Tryz.pinned (OpenSpec.ofChange callNamesWrong)

/-- 'beadrolllaw25.AutoNames': WHATEVER THE INPUT: true; the input reads as it did. -/
def autoNamesSpec : ChangeSpec := { name := "autoNames", fn := fun _ => fun
  | [] => { results := [.lit (.bool true)], args := [] }
  | _ => none }
def autoNamesRow : OpenClaim := { program := "ytciplabieafkcaagreatdoor", sum := "a1c5d4502ab68cf5e5b0afaf937cf95a741e7877f2e0ddfdde4e1f728e207c22", func := "beadroll/beadrolllaw25.AutoNames", spec := "autoNames", inPlace := ["internal/bytealg.MakeNoZero", "slices.overlaps[beadroll/api.Tx]", "slices.overlaps[beadroll/api.Line]", "math/bits.Add64"], unfollowed := true, recurses := true, named := ["beadroll/sha.k", "beadroll/tap.gap"], apart := false, laid := [("beadroll/sha.k", laid_beadroll_sha_k), ("beadroll/tap.gap", laid_beadroll_tap_gap)] }
def AutoNamesSaid : Prop := autoNamesRow.holds Tryz.pinned (OpenSpec.ofChange autoNamesSpec)

/-- ITS FALSE NEIGHBOUR: 'it returns false'. Refute it at one input. -/
def autoNamesWrong : ChangeSpec := { name := "autoNames", fn := fun _ => fun
  | [] => { results := [.lit (.bool false)], args := [] }
  | _ => none }
def AutoNamesWrongFalsely : Prop := autoNamesRow.holds Tryz.pinned (OpenSpec.ofChange autoNamesWrong)

/-- 'beadrolllaw30.HistNames': WHATEVER THE INPUT: true; the input reads as it did. -/
def histNamesSpec : ChangeSpec := { name := "histNames", fn := fun _ => fun
  | [] => { results := [.lit (.bool true)], args := [] }
  | _ => none }
def histNamesRow : OpenClaim := { program := "ytciplabieafkcaagreatdoor", sum := "a1c5d4502ab68cf5e5b0afaf937cf95a741e7877f2e0ddfdde4e1f728e207c22", func := "beadroll/beadrolllaw30.HistNames", spec := "histNames", inPlace := ["internal/bytealg.MakeNoZero", "slices.overlaps[beadroll/api.Tx]", "slices.overlaps[beadroll/api.Line]", "math/bits.Add64"], unfollowed := true, recurses := true, named := ["beadroll/sha.k", "beadroll/tap.gap"], apart := false, laid := [("beadroll/sha.k", laid_beadroll_sha_k), ("beadroll/tap.gap", laid_beadroll_tap_gap)] }
def HistNamesSaid : Prop := histNamesRow.holds Tryz.pinned (OpenSpec.ofChange histNamesSpec)

/-- ITS FALSE NEIGHBOUR: 'it returns false'. Refute it at one input. -/
def histNamesWrong : ChangeSpec := { name := "histNames", fn := fun _ => fun
  | [] => { results := [.lit (.bool false)], args := [] }
  | _ => none }
def HistNamesWrongFalsely : Prop := histNamesRow.holds Tryz.pinned (OpenSpec.ofChange histNamesWrong)

/-- 'beadrolllaw28.ExecNames': WHATEVER THE INPUT: true; the input reads as it did. -/
def execNamesSpec : ChangeSpec := { name := "execNames", fn := fun _ => fun
  | [] => { results := [.lit (.bool true)], args := [] }
  | _ => none }
def execNamesRow : OpenClaim := { program := "ytciplabieafkcaagreatdoor", sum := "a1c5d4502ab68cf5e5b0afaf937cf95a741e7877f2e0ddfdde4e1f728e207c22", func := "beadroll/beadrolllaw28.ExecNames", spec := "execNames", inPlace := ["internal/bytealg.MakeNoZero", "slices.overlaps[beadroll/api.Tx]", "slices.overlaps[beadroll/api.Line]", "math/bits.Add64"], unfollowed := true, recurses := true, named := ["beadroll/sha.k", "beadroll/tap.gap"], apart := false, laid := [("beadroll/sha.k", laid_beadroll_sha_k), ("beadroll/tap.gap", laid_beadroll_tap_gap)] }
def ExecNamesSaid : Prop := execNamesRow.holds Tryz.pinned (OpenSpec.ofChange execNamesSpec)

/-- ITS FALSE NEIGHBOUR: 'it returns false'. Refute it at one input. -/
def execNamesWrong : ChangeSpec := { name := "execNames", fn := fun _ => fun
  | [] => { results := [.lit (.bool false)], args := [] }
  | _ => none }
def ExecNamesWrongFalsely : Prop := execNamesRow.holds Tryz.pinned (OpenSpec.ofChange execNamesWrong)

/-- 'beadrolllaw29.NodeNames': WHATEVER THE INPUT: true; the input reads as it did. -/
def nodeNamesSpec : ChangeSpec := { name := "nodeNames", fn := fun _ => fun
  | [] => { results := [.lit (.bool true)], args := [] }
  | _ => none }
def nodeNamesRow : OpenClaim := { program := "ytciplabieafkcaagreatdoor", sum := "a1c5d4502ab68cf5e5b0afaf937cf95a741e7877f2e0ddfdde4e1f728e207c22", func := "beadroll/beadrolllaw29.NodeNames", spec := "nodeNames", unfollowed := true, recurses := true, named := ["beadroll/sha.k"], apart := false, laid := [("beadroll/sha.k", laid_beadroll_sha_k)] }
def NodeNamesSaid : Prop := nodeNamesRow.holds Tryz.pinned (OpenSpec.ofChange nodeNamesSpec)

/-- ITS FALSE NEIGHBOUR: 'it returns false'. Refute it at one input. -/
def nodeNamesWrong : ChangeSpec := { name := "nodeNames", fn := fun _ => fun
  | [] => { results := [.lit (.bool false)], args := [] }
  | _ => none }
def NodeNamesWrongFalsely : Prop := nodeNamesRow.holds Tryz.pinned (OpenSpec.ofChange nodeNamesWrong)

/-- 'beadrolllaw31.RunNames': WHATEVER THE INPUT: true; the input reads as it did. -/
def runNamesSpec : ChangeSpec := { name := "runNames", fn := fun _ => fun
  | [] => { results := [.lit (.bool true)], args := [] }
  | _ => none }
def runNamesRow : OpenClaim := { program := "ytciplabieafkcaagreatdoor", sum := "a1c5d4502ab68cf5e5b0afaf937cf95a741e7877f2e0ddfdde4e1f728e207c22", func := "beadroll/beadrolllaw31.RunNames", spec := "runNames", inPlace := ["slices.overlaps[beadroll/api.Line]"], unfollowed := true, recurses := true, named := ["beadroll/sha.k"], apart := false, laid := [("beadroll/sha.k", laid_beadroll_sha_k)] }
def RunNamesSaid : Prop := runNamesRow.holds Tryz.pinned (OpenSpec.ofChange runNamesSpec)

/-- ITS FALSE NEIGHBOUR: 'it returns false'. Refute it at one input. -/
def runNamesWrong : ChangeSpec := { name := "runNames", fn := fun _ => fun
  | [] => { results := [.lit (.bool false)], args := [] }
  | _ => none }
def RunNamesWrongFalsely : Prop := runNamesRow.holds Tryz.pinned (OpenSpec.ofChange runNamesWrong)

/- THE SECOND FORM. 'bulk': how many values and letters a reading holds, each counted each time it is reached (what is shared counts as often as it is met; a slice's spare places count too). A statement '..UptoSaid' is the law's where the arguments, and the package variables that the reading takes, are together of bulk at most 1048576: NARROWER than '..Said'. Prove '..Said' where nothing that the law and all that it calls make is longer than what came in: it says more and counts as full. Else prove '..UptoSaid'. A law counts once. -/
mutual
def uptoBulk {H : Type} : DataW H → Nat
  | .lit (.string bytes) => bytes.length + 1
  | .lit _ => 1
  | .nil => 1
  | .ptr d => uptoBulk d + 1
  | .slice elems spare => uptoBulkAll elems + uptoBulkAll spare + 1
  | .agg parts => uptoBulkAll parts + 1
  | .iface _ d => uptoBulk d + 1
  | .map entries => uptoBulkEntries entries + 1
  | .held _ => 1
def uptoBulkAll {H : Type} : List (DataW H) → Nat
  | [] => 0
  | d :: r => uptoBulk d + uptoBulkAll r
def uptoBulkEntries {H : Type} : List (Lit × DataW H) → Nat
  | [] => 0
  | x :: r => uptoBulkEntry x + uptoBulkEntries r
def uptoBulkEntry {H : Type} : Lit × DataW H → Nat
  | (.string bytes, d) => bytes.length + uptoBulk d + 1
  | (_, d) => uptoBulk d + 1
 end
def uptoSmall : (H : Type) → List (DataW H) → Bool := fun _ ds => decide (uptoBulkAll ds ≤ 1048576)
def OpenSpec.upto (s : _root_.Go.ChangeSpec) : _root_.Go.OpenSpec := { _root_.Go.OpenSpec.ofChange s with cond := some uptoSmall }

/-- 'beadrolllaw27.CallNames', WHERE WHAT IT READS IS OF BULK AT MOST 1048576: true; the input reads as it did. -/
def callNamesUptoRow : OpenClaim := { program := "ytciplabieafkcaagreatdoor", sum := "a1c5d4502ab68cf5e5b0afaf937cf95a741e7877f2e0ddfdde4e1f728e207c22", func := "beadroll/beadrolllaw27.CallNames", spec := "callNames", inPlace := ["slices.overlaps[beadroll/api.Tx]", "slices.overlaps[beadroll/api.Line]", "internal/bytealg.MakeNoZero"], unfollowed := true, recurses := true, named := ["beadroll/sha.k", "beadroll/tap.gap"], apart := false, laid := [("beadroll/sha.k", laid_beadroll_sha_k), ("beadroll/tap.gap", laid_beadroll_tap_gap)], narrowed := true }
def CallNamesUptoSaid : Prop := callNamesUptoRow.holds Tryz.pinned (OpenSpec.upto callNamesSpec)

/-- 'beadrolllaw25.AutoNames', WHERE WHAT IT READS IS OF BULK AT MOST 1048576: true; the input reads as it did. -/
def autoNamesUptoRow : OpenClaim := { program := "ytciplabieafkcaagreatdoor", sum := "a1c5d4502ab68cf5e5b0afaf937cf95a741e7877f2e0ddfdde4e1f728e207c22", func := "beadroll/beadrolllaw25.AutoNames", spec := "autoNames", inPlace := ["internal/bytealg.MakeNoZero", "slices.overlaps[beadroll/api.Tx]", "slices.overlaps[beadroll/api.Line]", "math/bits.Add64"], unfollowed := true, recurses := true, named := ["beadroll/sha.k", "beadroll/tap.gap"], apart := false, laid := [("beadroll/sha.k", laid_beadroll_sha_k), ("beadroll/tap.gap", laid_beadroll_tap_gap)], narrowed := true }
def AutoNamesUptoSaid : Prop := autoNamesUptoRow.holds Tryz.pinned (OpenSpec.upto autoNamesSpec)

/-- 'beadrolllaw30.HistNames', WHERE WHAT IT READS IS OF BULK AT MOST 1048576: true; the input reads as it did. -/
def histNamesUptoRow : OpenClaim := { program := "ytciplabieafkcaagreatdoor", sum := "a1c5d4502ab68cf5e5b0afaf937cf95a741e7877f2e0ddfdde4e1f728e207c22", func := "beadroll/beadrolllaw30.HistNames", spec := "histNames", inPlace := ["internal/bytealg.MakeNoZero", "slices.overlaps[beadroll/api.Tx]", "slices.overlaps[beadroll/api.Line]", "math/bits.Add64"], unfollowed := true, recurses := true, named := ["beadroll/sha.k", "beadroll/tap.gap"], apart := false, laid := [("beadroll/sha.k", laid_beadroll_sha_k), ("beadroll/tap.gap", laid_beadroll_tap_gap)], narrowed := true }
def HistNamesUptoSaid : Prop := histNamesUptoRow.holds Tryz.pinned (OpenSpec.upto histNamesSpec)

/-- 'beadrolllaw28.ExecNames', WHERE WHAT IT READS IS OF BULK AT MOST 1048576: true; the input reads as it did. -/
def execNamesUptoRow : OpenClaim := { program := "ytciplabieafkcaagreatdoor", sum := "a1c5d4502ab68cf5e5b0afaf937cf95a741e7877f2e0ddfdde4e1f728e207c22", func := "beadroll/beadrolllaw28.ExecNames", spec := "execNames", inPlace := ["internal/bytealg.MakeNoZero", "slices.overlaps[beadroll/api.Tx]", "slices.overlaps[beadroll/api.Line]", "math/bits.Add64"], unfollowed := true, recurses := true, named := ["beadroll/sha.k", "beadroll/tap.gap"], apart := false, laid := [("beadroll/sha.k", laid_beadroll_sha_k), ("beadroll/tap.gap", laid_beadroll_tap_gap)], narrowed := true }
def ExecNamesUptoSaid : Prop := execNamesUptoRow.holds Tryz.pinned (OpenSpec.upto execNamesSpec)

/-- 'beadrolllaw29.NodeNames', WHERE WHAT IT READS IS OF BULK AT MOST 1048576: true; the input reads as it did. -/
def nodeNamesUptoRow : OpenClaim := { program := "ytciplabieafkcaagreatdoor", sum := "a1c5d4502ab68cf5e5b0afaf937cf95a741e7877f2e0ddfdde4e1f728e207c22", func := "beadroll/beadrolllaw29.NodeNames", spec := "nodeNames", unfollowed := true, recurses := true, named := ["beadroll/sha.k"], apart := false, laid := [("beadroll/sha.k", laid_beadroll_sha_k)], narrowed := true }
def NodeNamesUptoSaid : Prop := nodeNamesUptoRow.holds Tryz.pinned (OpenSpec.upto nodeNamesSpec)

/-- 'beadrolllaw31.RunNames', WHERE WHAT IT READS IS OF BULK AT MOST 1048576: true; the input reads as it did. -/
def runNamesUptoRow : OpenClaim := { program := "ytciplabieafkcaagreatdoor", sum := "a1c5d4502ab68cf5e5b0afaf937cf95a741e7877f2e0ddfdde4e1f728e207c22", func := "beadroll/beadrolllaw31.RunNames", spec := "runNames", inPlace := ["slices.overlaps[beadroll/api.Line]"], unfollowed := true, recurses := true, named := ["beadroll/sha.k"], apart := false, laid := [("beadroll/sha.k", laid_beadroll_sha_k)], narrowed := true }
def RunNamesUptoSaid : Prop := runNamesUptoRow.holds Tryz.pinned (OpenSpec.upto runNamesSpec)

end Rows
end Go.Proofs.YtciplabieafkcaaGreatDoor
