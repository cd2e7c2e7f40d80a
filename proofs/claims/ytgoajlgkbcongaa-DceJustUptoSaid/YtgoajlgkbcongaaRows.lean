/-
  No cell of these rows narrows 'for every input' (looked for: loops, veiled, ifaces, maps, wideKeys, modest, calm, conditions, laid).
  DERIVED. THE GIVEN ROWS OF THIS SEAT. 12 by the template 'for every input the law returns true; each argument reads behind the call as it read before'; 0 by the template 'total and deterministic' (their statements: YtgoajlgkbcongaaTotals.lean).
  GIVEN WITH THE SEED: the statements are not yours to turn. If you find one false, say at which input.
  Laid BY PROGRAM, IN A SANDBOX (cutbox-rows.mjs): the forced cells as the released guide's own fill.sh prints them over the translation a56f944d83f88995… (all of the seat's roots in one cut). By AI agents, Wed Nov 11 2026. No macro, syntax, notation, axiom, sorry.
-/
import Derived.Test.YtgoajlgkbcongaaChecked
import GoSem.Claim
import GoSem.ClaimJoined
import GoSem.ClaimMapViews
import Derived.JoinedTies
import Derived.KernelRfl
namespace Go.Proofs.Ytgoajlgkbcongaa
/- THE CELL 'sum', in the pinned program and in every row, IS THE sha256 OF THE DUMP (.gsa) THAT YtgoajlgkbcongaaProg.lean LOADS. Nothing in Lean hashes anything: it is a label: what it is worth is what the hold of that sum in a sandbox is worth. -/
noncomputable def Try.pinned : Pinned := { name := "ytgoajlgkbcongaa", sum := "a56f944d83f88995372f0a18636a2ab57251cb7a809b1a6e1871195e35cd42d2", checked := Try.checked }
namespace Rows
def none {H : Type} : Left H := { results := [], args := [] }

/-- 'theodolitelaw20.DceSays': WHATEVER THE INPUT: true; the input reads as it did. -/
def dceSaysSpec : ChangeSpec := { name := "dceSays", fn := fun _ => fun
  | [d1, d2, d3] => { results := [.lit (.bool true)], args := [d1, d2, d3] }
  | _ => none }
def dceSaysRow : OpenClaim := { program := "ytgoajlgkbcongaa", sum := "a56f944d83f88995372f0a18636a2ab57251cb7a809b1a6e1871195e35cd42d2", func := "theodolite/theodolitelaw20.DceSays", spec := "dceSays", unfollowed := true, recurses := true, plainKeys := false, apart := false }
def DceSaysSaid : Prop := dceSaysRow.holds Try.pinned (OpenSpec.ofChange dceSaysSpec)

/-- ITS FALSE NEIGHBOUR: 'it returns false'. Refute it at one input. -/
def dceSaysWrong : ChangeSpec := { name := "dceSays", fn := fun _ => fun
  | [d1, d2, d3] => { results := [.lit (.bool false)], args := [d1, d2, d3] }
  | _ => none }
def DceSaysWrongFalsely : Prop := dceSaysRow.holds Try.pinned (OpenSpec.ofChange dceSaysWrong)

/-- 'theodolitelaw20.DceAgain': WHATEVER THE INPUT: true; the input reads as it did. -/
def dceAgainSpec : ChangeSpec := { name := "dceAgain", fn := fun _ => fun
  | [d] => { results := [.lit (.bool true)], args := [d] }
  | _ => none }
def dceAgainRow : OpenClaim := { program := "ytgoajlgkbcongaa", sum := "a56f944d83f88995372f0a18636a2ab57251cb7a809b1a6e1871195e35cd42d2", func := "theodolite/theodolitelaw20.DceAgain", spec := "dceAgain", unfollowed := true, recurses := true, plainKeys := false, apart := false }
def DceAgainSaid : Prop := dceAgainRow.holds Try.pinned (OpenSpec.ofChange dceAgainSpec)

/-- ITS FALSE NEIGHBOUR: 'it returns false'. Refute it at one input. -/
def dceAgainWrong : ChangeSpec := { name := "dceAgain", fn := fun _ => fun
  | [d] => { results := [.lit (.bool false)], args := [d] }
  | _ => none }
def DceAgainWrongFalsely : Prop := dceAgainRow.holds Try.pinned (OpenSpec.ofChange dceAgainWrong)

/-- 'theodolitelaw20.DceJust': WHATEVER THE INPUT: true; the input reads as it did. -/
def dceJustSpec : ChangeSpec := { name := "dceJust", fn := fun _ => fun
  | [d] => { results := [.lit (.bool true)], args := [d] }
  | _ => none }
def dceJustRow : OpenClaim := { program := "ytgoajlgkbcongaa", sum := "a56f944d83f88995372f0a18636a2ab57251cb7a809b1a6e1871195e35cd42d2", func := "theodolite/theodolitelaw20.DceJust", spec := "dceJust", unfollowed := true, recurses := true, plainKeys := false, apart := false }
def DceJustSaid : Prop := dceJustRow.holds Try.pinned (OpenSpec.ofChange dceJustSpec)

/-- ITS FALSE NEIGHBOUR: 'it returns false'. Refute it at one input. -/
def dceJustWrong : ChangeSpec := { name := "dceJust", fn := fun _ => fun
  | [d] => { results := [.lit (.bool false)], args := [d] }
  | _ => none }
def DceJustWrongFalsely : Prop := dceJustRow.holds Try.pinned (OpenSpec.ofChange dceJustWrong)

/-- 'theodolitelaw20.DceStays': WHATEVER THE INPUT: true; the input reads as it did. -/
def dceStaysSpec : ChangeSpec := { name := "dceStays", fn := fun _ => fun
  | [d1, d2, d3] => { results := [.lit (.bool true)], args := [d1, d2, d3] }
  | _ => none }
def dceStaysRow : OpenClaim := { program := "ytgoajlgkbcongaa", sum := "a56f944d83f88995372f0a18636a2ab57251cb7a809b1a6e1871195e35cd42d2", func := "theodolite/theodolitelaw20.DceStays", spec := "dceStays", unfollowed := true, recurses := true, plainKeys := false, apart := false }
def DceStaysSaid : Prop := dceStaysRow.holds Try.pinned (OpenSpec.ofChange dceStaysSpec)

/-- ITS FALSE NEIGHBOUR: 'it returns false'. Refute it at one input. -/
def dceStaysWrong : ChangeSpec := { name := "dceStays", fn := fun _ => fun
  | [d1, d2, d3] => { results := [.lit (.bool false)], args := [d1, d2, d3] }
  | _ => none }
def DceStaysWrongFalsely : Prop := dceStaysRow.holds Try.pinned (OpenSpec.ofChange dceStaysWrong)

/-- 'theodolitelaw20.DceTwice': WHATEVER THE INPUT: true; the input reads as it did. -/
def dceTwiceSpec : ChangeSpec := { name := "dceTwice", fn := fun _ => fun
  | [d] => { results := [.lit (.bool true)], args := [d] }
  | _ => none }
def dceTwiceRow : OpenClaim := { program := "ytgoajlgkbcongaa", sum := "a56f944d83f88995372f0a18636a2ab57251cb7a809b1a6e1871195e35cd42d2", func := "theodolite/theodolitelaw20.DceTwice", spec := "dceTwice", unfollowed := true, recurses := true, plainKeys := false, apart := false }
def DceTwiceSaid : Prop := dceTwiceRow.holds Try.pinned (OpenSpec.ofChange dceTwiceSpec)

/-- ITS FALSE NEIGHBOUR: 'it returns false'. Refute it at one input. -/
def dceTwiceWrong : ChangeSpec := { name := "dceTwice", fn := fun _ => fun
  | [d] => { results := [.lit (.bool false)], args := [d] }
  | _ => none }
def DceTwiceWrongFalsely : Prop := dceTwiceRow.holds Try.pinned (OpenSpec.ofChange dceTwiceWrong)

/-- 'theodolitelaw23.SchedAgain': WHATEVER THE INPUT: true; the input reads as it did. -/
def schedAgainSpec : ChangeSpec := { name := "schedAgain", fn := fun _ => fun
  | [d] => { results := [.lit (.bool true)], args := [d] }
  | _ => none }
def schedAgainRow : OpenClaim := { program := "ytgoajlgkbcongaa", sum := "a56f944d83f88995372f0a18636a2ab57251cb7a809b1a6e1871195e35cd42d2", func := "theodolite/theodolitelaw23.SchedAgain", spec := "schedAgain", unfollowed := true, recurses := true, plainKeys := false, apart := false }
def SchedAgainSaid : Prop := schedAgainRow.holds Try.pinned (OpenSpec.ofChange schedAgainSpec)

/-- ITS FALSE NEIGHBOUR: 'it returns false'. Refute it at one input. -/
def schedAgainWrong : ChangeSpec := { name := "schedAgain", fn := fun _ => fun
  | [d] => { results := [.lit (.bool false)], args := [d] }
  | _ => none }
def SchedAgainWrongFalsely : Prop := schedAgainRow.holds Try.pinned (OpenSpec.ofChange schedAgainWrong)

/-- 'theodolitelaw23.SchedKeeps': WHATEVER THE INPUT: true; the input reads as it did. -/
def schedKeepsSpec : ChangeSpec := { name := "schedKeeps", fn := fun _ => fun
  | [d] => { results := [.lit (.bool true)], args := [d] }
  | _ => none }
def schedKeepsRow : OpenClaim := { program := "ytgoajlgkbcongaa", sum := "a56f944d83f88995372f0a18636a2ab57251cb7a809b1a6e1871195e35cd42d2", func := "theodolite/theodolitelaw23.SchedKeeps", spec := "schedKeeps", unfollowed := true, recurses := true, plainKeys := false, apart := false }
def SchedKeepsSaid : Prop := schedKeepsRow.holds Try.pinned (OpenSpec.ofChange schedKeepsSpec)

/-- ITS FALSE NEIGHBOUR: 'it returns false'. Refute it at one input. -/
def schedKeepsWrong : ChangeSpec := { name := "schedKeeps", fn := fun _ => fun
  | [d] => { results := [.lit (.bool false)], args := [d] }
  | _ => none }
def SchedKeepsWrongFalsely : Prop := schedKeepsRow.holds Try.pinned (OpenSpec.ofChange schedKeepsWrong)

/-- 'theodolitelaw23.SchedNear': WHATEVER THE INPUT: true; the input reads as it did. -/
def schedNearSpec : ChangeSpec := { name := "schedNear", fn := fun _ => fun
  | [d] => { results := [.lit (.bool true)], args := [d] }
  | _ => none }
def schedNearRow : OpenClaim := { program := "ytgoajlgkbcongaa", sum := "a56f944d83f88995372f0a18636a2ab57251cb7a809b1a6e1871195e35cd42d2", func := "theodolite/theodolitelaw23.SchedNear", spec := "schedNear", unfollowed := true, recurses := true, plainKeys := false, apart := false }
def SchedNearSaid : Prop := schedNearRow.holds Try.pinned (OpenSpec.ofChange schedNearSpec)

/-- ITS FALSE NEIGHBOUR: 'it returns false'. Refute it at one input. -/
def schedNearWrong : ChangeSpec := { name := "schedNear", fn := fun _ => fun
  | [d] => { results := [.lit (.bool false)], args := [d] }
  | _ => none }
def SchedNearWrongFalsely : Prop := schedNearRow.holds Try.pinned (OpenSpec.ofChange schedNearWrong)

/-- 'theodolitelaw22.CopiesAgain': WHATEVER THE INPUT: true; the input reads as it did. -/
def copiesAgainSpec : ChangeSpec := { name := "copiesAgain", fn := fun _ => fun
  | [d] => { results := [.lit (.bool true)], args := [d] }
  | _ => none }
def copiesAgainRow : OpenClaim := { program := "ytgoajlgkbcongaa", sum := "a56f944d83f88995372f0a18636a2ab57251cb7a809b1a6e1871195e35cd42d2", func := "theodolite/theodolitelaw22.CopiesAgain", spec := "copiesAgain", unfollowed := true, recurses := true, plainKeys := false, apart := false }
def CopiesAgainSaid : Prop := copiesAgainRow.holds Try.pinned (OpenSpec.ofChange copiesAgainSpec)

/-- ITS FALSE NEIGHBOUR: 'it returns false'. Refute it at one input. -/
def copiesAgainWrong : ChangeSpec := { name := "copiesAgain", fn := fun _ => fun
  | [d] => { results := [.lit (.bool false)], args := [d] }
  | _ => none }
def CopiesAgainWrongFalsely : Prop := copiesAgainRow.holds Try.pinned (OpenSpec.ofChange copiesAgainWrong)

/-- 'theodolitelaw22.CopiesKeep': WHATEVER THE INPUT: true; the input reads as it did. -/
def copiesKeepSpec : ChangeSpec := { name := "copiesKeep", fn := fun _ => fun
  | [d] => { results := [.lit (.bool true)], args := [d] }
  | _ => none }
def copiesKeepRow : OpenClaim := { program := "ytgoajlgkbcongaa", sum := "a56f944d83f88995372f0a18636a2ab57251cb7a809b1a6e1871195e35cd42d2", func := "theodolite/theodolitelaw22.CopiesKeep", spec := "copiesKeep", unfollowed := true, recurses := true, plainKeys := false, apart := false }
def CopiesKeepSaid : Prop := copiesKeepRow.holds Try.pinned (OpenSpec.ofChange copiesKeepSpec)

/-- ITS FALSE NEIGHBOUR: 'it returns false'. Refute it at one input. -/
def copiesKeepWrong : ChangeSpec := { name := "copiesKeep", fn := fun _ => fun
  | [d] => { results := [.lit (.bool false)], args := [d] }
  | _ => none }
def CopiesKeepWrongFalsely : Prop := copiesKeepRow.holds Try.pinned (OpenSpec.ofChange copiesKeepWrong)

/-- 'theodolitelaw22.CopiesTurn': WHATEVER THE INPUT: true; the input reads as it did. -/
def copiesTurnSpec : ChangeSpec := { name := "copiesTurn", fn := fun _ => fun
  | [d1, d2] => { results := [.lit (.bool true)], args := [d1, d2] }
  | _ => none }
def copiesTurnRow : OpenClaim := { program := "ytgoajlgkbcongaa", sum := "a56f944d83f88995372f0a18636a2ab57251cb7a809b1a6e1871195e35cd42d2", func := "theodolite/theodolitelaw22.CopiesTurn", spec := "copiesTurn", unfollowed := true, recurses := true, plainKeys := false, apart := false }
def CopiesTurnSaid : Prop := copiesTurnRow.holds Try.pinned (OpenSpec.ofChange copiesTurnSpec)

/-- ITS FALSE NEIGHBOUR: 'it returns false'. Refute it at one input. -/
def copiesTurnWrong : ChangeSpec := { name := "copiesTurn", fn := fun _ => fun
  | [d1, d2] => { results := [.lit (.bool false)], args := [d1, d2] }
  | _ => none }
def CopiesTurnWrongFalsely : Prop := copiesTurnRow.holds Try.pinned (OpenSpec.ofChange copiesTurnWrong)

/-- 'theodolitelaw19.CseTwice': WHATEVER THE INPUT: true; the input reads as it did. -/
def cseTwiceSpec : ChangeSpec := { name := "cseTwice", fn := fun _ => fun
  | [d1, d2] => { results := [.lit (.bool true)], args := [d1, d2] }
  | _ => none }
def cseTwiceRow : OpenClaim := { program := "ytgoajlgkbcongaa", sum := "a56f944d83f88995372f0a18636a2ab57251cb7a809b1a6e1871195e35cd42d2", func := "theodolite/theodolitelaw19.CseTwice", spec := "cseTwice", unfollowed := true, recurses := true, plainKeys := false, apart := false }
def CseTwiceSaid : Prop := cseTwiceRow.holds Try.pinned (OpenSpec.ofChange cseTwiceSpec)

/-- ITS FALSE NEIGHBOUR: 'it returns false'. Refute it at one input. -/
def cseTwiceWrong : ChangeSpec := { name := "cseTwice", fn := fun _ => fun
  | [d1, d2] => { results := [.lit (.bool false)], args := [d1, d2] }
  | _ => none }
def CseTwiceWrongFalsely : Prop := cseTwiceRow.holds Try.pinned (OpenSpec.ofChange cseTwiceWrong)

/- THE SECOND FORM. 'bulk': how many values and letters a reading holds, each counted each time it is reached (what is shared counts as often as it is met; a slice's spare places count too). A statement '..UptoSaid' is the law's where the arguments, and the package variables that the reading takes, are together of bulk at most 1048576: NARROWER than '..Said'. Prove '..Said' where nothing that the law and all that it calls make is longer than what came in: it says more and counts as full. Else prove '..UptoSaid'. A law counts once. -/
mutual
def uptoBulk {H : Type} : DataW H → Nat
  | .lit (.string bytes) => bytes.length + 1
  | .lit _ => 1
  | .nil => 1
  | .ptr d => uptoBulk d + 1
  | .slice elems spare => uptoBulkAll elems + uptoBulkAll spare + 1
  | .agg parts => uptoBulkAll parts + 1
  | .iface _ d => uptoBulk d + 1
  | .map entries => uptoBulkEntries entries + 1
  | .held _ => 1
def uptoBulkAll {H : Type} : List (DataW H) → Nat
  | [] => 0
  | d :: r => uptoBulk d + uptoBulkAll r
def uptoBulkEntries {H : Type} : List (Lit × DataW H) → Nat
  | [] => 0
  | x :: r => uptoBulkEntry x + uptoBulkEntries r
def uptoBulkEntry {H : Type} : Lit × DataW H → Nat
  | (.string bytes, d) => bytes.length + uptoBulk d + 1
  | (_, d) => uptoBulk d + 1
 end
def uptoSmall : (H : Type) → List (DataW H) → Bool := fun _ ds => decide (uptoBulkAll ds ≤ 1048576)
def OpenSpec.upto (s : _root_.Go.ChangeSpec) : _root_.Go.OpenSpec := { _root_.Go.OpenSpec.ofChange s with cond := some uptoSmall }

/-- 'theodolitelaw20.DceSays', WHERE WHAT IT READS IS OF BULK AT MOST 1048576: true; the input reads as it did. -/
def dceSaysUptoRow : OpenClaim := { program := "ytgoajlgkbcongaa", sum := "a56f944d83f88995372f0a18636a2ab57251cb7a809b1a6e1871195e35cd42d2", func := "theodolite/theodolitelaw20.DceSays", spec := "dceSays", unfollowed := true, recurses := true, plainKeys := false, apart := false, narrowed := true }
def DceSaysUptoSaid : Prop := dceSaysUptoRow.holds Try.pinned (OpenSpec.upto dceSaysSpec)

/-- 'theodolitelaw20.DceAgain', WHERE WHAT IT READS IS OF BULK AT MOST 1048576: true; the input reads as it did. -/
def dceAgainUptoRow : OpenClaim := { program := "ytgoajlgkbcongaa", sum := "a56f944d83f88995372f0a18636a2ab57251cb7a809b1a6e1871195e35cd42d2", func := "theodolite/theodolitelaw20.DceAgain", spec := "dceAgain", unfollowed := true, recurses := true, plainKeys := false, apart := false, narrowed := true }
def DceAgainUptoSaid : Prop := dceAgainUptoRow.holds Try.pinned (OpenSpec.upto dceAgainSpec)

/-- 'theodolitelaw20.DceJust', WHERE WHAT IT READS IS OF BULK AT MOST 1048576: true; the input reads as it did. -/
def dceJustUptoRow : OpenClaim := { program := "ytgoajlgkbcongaa", sum := "a56f944d83f88995372f0a18636a2ab57251cb7a809b1a6e1871195e35cd42d2", func := "theodolite/theodolitelaw20.DceJust", spec := "dceJust", unfollowed := true, recurses := true, plainKeys := false, apart := false, narrowed := true }
def DceJustUptoSaid : Prop := dceJustUptoRow.holds Try.pinned (OpenSpec.upto dceJustSpec)

/-- 'theodolitelaw20.DceStays', WHERE WHAT IT READS IS OF BULK AT MOST 1048576: true; the input reads as it did. -/
def dceStaysUptoRow : OpenClaim := { program := "ytgoajlgkbcongaa", sum := "a56f944d83f88995372f0a18636a2ab57251cb7a809b1a6e1871195e35cd42d2", func := "theodolite/theodolitelaw20.DceStays", spec := "dceStays", unfollowed := true, recurses := true, plainKeys := false, apart := false, narrowed := true }
def DceStaysUptoSaid : Prop := dceStaysUptoRow.holds Try.pinned (OpenSpec.upto dceStaysSpec)

/-- 'theodolitelaw20.DceTwice', WHERE WHAT IT READS IS OF BULK AT MOST 1048576: true; the input reads as it did. -/
def dceTwiceUptoRow : OpenClaim := { program := "ytgoajlgkbcongaa", sum := "a56f944d83f88995372f0a18636a2ab57251cb7a809b1a6e1871195e35cd42d2", func := "theodolite/theodolitelaw20.DceTwice", spec := "dceTwice", unfollowed := true, recurses := true, plainKeys := false, apart := false, narrowed := true }
def DceTwiceUptoSaid : Prop := dceTwiceUptoRow.holds Try.pinned (OpenSpec.upto dceTwiceSpec)

/-- 'theodolitelaw23.SchedAgain', WHERE WHAT IT READS IS OF BULK AT MOST 1048576: true; the input reads as it did. -/
def schedAgainUptoRow : OpenClaim := { program := "ytgoajlgkbcongaa", sum := "a56f944d83f88995372f0a18636a2ab57251cb7a809b1a6e1871195e35cd42d2", func := "theodolite/theodolitelaw23.SchedAgain", spec := "schedAgain", unfollowed := true, recurses := true, plainKeys := false, apart := false, narrowed := true }
def SchedAgainUptoSaid : Prop := schedAgainUptoRow.holds Try.pinned (OpenSpec.upto schedAgainSpec)

/-- 'theodolitelaw23.SchedKeeps', WHERE WHAT IT READS IS OF BULK AT MOST 1048576: true; the input reads as it did. -/
def schedKeepsUptoRow : OpenClaim := { program := "ytgoajlgkbcongaa", sum := "a56f944d83f88995372f0a18636a2ab57251cb7a809b1a6e1871195e35cd42d2", func := "theodolite/theodolitelaw23.SchedKeeps", spec := "schedKeeps", unfollowed := true, recurses := true, plainKeys := false, apart := false, narrowed := true }
def SchedKeepsUptoSaid : Prop := schedKeepsUptoRow.holds Try.pinned (OpenSpec.upto schedKeepsSpec)

/-- 'theodolitelaw23.SchedNear', WHERE WHAT IT READS IS OF BULK AT MOST 1048576: true; the input reads as it did. -/
def schedNearUptoRow : OpenClaim := { program := "ytgoajlgkbcongaa", sum := "a56f944d83f88995372f0a18636a2ab57251cb7a809b1a6e1871195e35cd42d2", func := "theodolite/theodolitelaw23.SchedNear", spec := "schedNear", unfollowed := true, recurses := true, plainKeys := false, apart := false, narrowed := true }
def SchedNearUptoSaid : Prop := schedNearUptoRow.holds Try.pinned (OpenSpec.upto schedNearSpec)

/-- 'theodolitelaw22.CopiesAgain', WHERE WHAT IT READS IS OF BULK AT MOST 1048576: true; the input reads as it did. -/
def copiesAgainUptoRow : OpenClaim := { program := "ytgoajlgkbcongaa", sum := "a56f944d83f88995372f0a18636a2ab57251cb7a809b1a6e1871195e35cd42d2", func := "theodolite/theodolitelaw22.CopiesAgain", spec := "copiesAgain", unfollowed := true, recurses := true, plainKeys := false, apart := false, narrowed := true }
def CopiesAgainUptoSaid : Prop := copiesAgainUptoRow.holds Try.pinned (OpenSpec.upto copiesAgainSpec)

/-- 'theodolitelaw22.CopiesKeep', WHERE WHAT IT READS IS OF BULK AT MOST 1048576: true; the input reads as it did. -/
def copiesKeepUptoRow : OpenClaim := { program := "ytgoajlgkbcongaa", sum := "a56f944d83f88995372f0a18636a2ab57251cb7a809b1a6e1871195e35cd42d2", func := "theodolite/theodolitelaw22.CopiesKeep", spec := "copiesKeep", unfollowed := true, recurses := true, plainKeys := false, apart := false, narrowed := true }
def CopiesKeepUptoSaid : Prop := copiesKeepUptoRow.holds Try.pinned (OpenSpec.upto copiesKeepSpec)

/-- 'theodolitelaw22.CopiesTurn', WHERE WHAT IT READS IS OF BULK AT MOST 1048576: true; the input reads as it did. -/
def copiesTurnUptoRow : OpenClaim := { program := "ytgoajlgkbcongaa", sum := "a56f944d83f88995372f0a18636a2ab57251cb7a809b1a6e1871195e35cd42d2", func := "theodolite/theodolitelaw22.CopiesTurn", spec := "copiesTurn", unfollowed := true, recurses := true, plainKeys := false, apart := false, narrowed := true }
def CopiesTurnUptoSaid : Prop := copiesTurnUptoRow.holds Try.pinned (OpenSpec.upto copiesTurnSpec)

/-- 'theodolitelaw19.CseTwice', WHERE WHAT IT READS IS OF BULK AT MOST 1048576: true; the input reads as it did. -/
def cseTwiceUptoRow : OpenClaim := { program := "ytgoajlgkbcongaa", sum := "a56f944d83f88995372f0a18636a2ab57251cb7a809b1a6e1871195e35cd42d2", func := "theodolite/theodolitelaw19.CseTwice", spec := "cseTwice", unfollowed := true, recurses := true, plainKeys := false, apart := false, narrowed := true }
def CseTwiceUptoSaid : Prop := cseTwiceUptoRow.holds Try.pinned (OpenSpec.upto cseTwiceSpec)

end Rows
end Go.Proofs.Ytgoajlgkbcongaa
