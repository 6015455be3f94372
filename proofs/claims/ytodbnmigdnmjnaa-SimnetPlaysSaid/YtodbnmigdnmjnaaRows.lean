/-
  No cell of these rows narrows 'for every input' (looked for: loops, veiled, ifaces, maps, wideKeys, modest, calm, conditions, laid).
  DERIVED. THE GIVEN ROWS OF THIS SEAT. 3 by the template 'for every input the law returns true; each argument reads behind the call as it read before'; 0 by the template 'total and deterministic' (their statements: YtodbnmigdnmjnaaTotals.lean).
  GIVEN WITH THE SEED: the statements are not yours to turn. If you find one false, say at which input.
  Laid BY PROGRAM, IN A SANDBOX (cutbox-rows.mjs): the forced cells as the released guide's own fill.sh prints them over the translation 9453a357e9e43ce9… (all of the seat's roots in one cut). By AI agents, Wed Nov 11 2026. No macro, syntax, notation, axiom, sorry.
-/
import Derived.Test.YtodbnmigdnmjnaaChecked
import GoSem.Claim
import GoSem.ClaimJoined
import GoSem.ClaimMapViews
import Derived.JoinedTies
import Derived.KernelRfl
namespace Go.Proofs.Ytodbnmigdnmjnaa
/- THE CELL 'sum', in the pinned program and in every row, IS THE sha256 OF THE DUMP (.gsa) THAT YtodbnmigdnmjnaaProg.lean LOADS. Nothing in Lean hashes anything: it is a label: what it is worth is what the hold of that sum in a sandbox is worth. -/
noncomputable def Try.pinned : Pinned := { name := "ytodbnmigdnmjnaa", sum := "9453a357e9e43ce93e163ddd34f2a62c50c1abd244482745089e9e14275e8ce7", checked := Try.checked }
namespace Rows
def none {H : Type} : Left H := { results := [], args := [] }

/-- 'hayloftlaw25.SimnetOnce': WHATEVER THE INPUT: true; the input reads as it did. -/
def simnetOnceSpec : ChangeSpec := { name := "simnetOnce", fn := fun _ => fun
  | [d1, d2, d3] => { results := [.lit (.bool true)], args := [d1, d2, d3] }
  | _ => none }
def simnetOnceRow : OpenClaim := { program := "ytodbnmigdnmjnaa", sum := "9453a357e9e43ce93e163ddd34f2a62c50c1abd244482745089e9e14275e8ce7", func := "hayloft/hayloftlaw25.SimnetOnce", spec := "simnetOnce", inPlace := ["sync/atomic.AddInt64", "sync/atomic.LoadInt64"], unfollowed := true, recurses := true, apart := false }
def SimnetOnceSaid : Prop := simnetOnceRow.holds Try.pinned (OpenSpec.ofChange simnetOnceSpec)

/-- ITS FALSE NEIGHBOUR: 'it returns false'. Refute it at one input. -/
def simnetOnceWrong : ChangeSpec := { name := "simnetOnce", fn := fun _ => fun
  | [d1, d2, d3] => { results := [.lit (.bool false)], args := [d1, d2, d3] }
  | _ => none }
def SimnetOnceWrongFalsely : Prop := simnetOnceRow.holds Try.pinned (OpenSpec.ofChange simnetOnceWrong)

/-- 'hayloftlaw25.SimnetPlays': WHATEVER THE INPUT: true; the input reads as it did. -/
def simnetPlaysSpec : ChangeSpec := { name := "simnetPlays", fn := fun _ => fun
  | [d1, d2] => { results := [.lit (.bool true)], args := [d1, d2] }
  | _ => none }
def simnetPlaysRow : OpenClaim := { program := "ytodbnmigdnmjnaa", sum := "9453a357e9e43ce93e163ddd34f2a62c50c1abd244482745089e9e14275e8ce7", func := "hayloft/hayloftlaw25.SimnetPlays", spec := "simnetPlays", inPlace := ["sync/atomic.AddInt64", "sync/atomic.LoadInt64"], unfollowed := true, recurses := true, apart := false }
def SimnetPlaysSaid : Prop := simnetPlaysRow.holds Try.pinned (OpenSpec.ofChange simnetPlaysSpec)

/-- ITS FALSE NEIGHBOUR: 'it returns false'. Refute it at one input. -/
def simnetPlaysWrong : ChangeSpec := { name := "simnetPlays", fn := fun _ => fun
  | [d1, d2] => { results := [.lit (.bool false)], args := [d1, d2] }
  | _ => none }
def SimnetPlaysWrongFalsely : Prop := simnetPlaysRow.holds Try.pinned (OpenSpec.ofChange simnetPlaysWrong)

/-- 'hayloftlaw25.SimnetNils': WHATEVER THE INPUT: true; the input reads as it did. -/
def simnetNilsSpec : ChangeSpec := { name := "simnetNils", fn := fun _ => fun
  | [d1, d2, d3] => { results := [.lit (.bool true)], args := [d1, d2, d3] }
  | _ => none }
def simnetNilsRow : OpenClaim := { program := "ytodbnmigdnmjnaa", sum := "9453a357e9e43ce93e163ddd34f2a62c50c1abd244482745089e9e14275e8ce7", func := "hayloft/hayloftlaw25.SimnetNils", spec := "simnetNils", inPlace := ["sync/atomic.AddInt64", "sync/atomic.LoadInt64"], unfollowed := true, recurses := true, apart := false }
def SimnetNilsSaid : Prop := simnetNilsRow.holds Try.pinned (OpenSpec.ofChange simnetNilsSpec)

/-- ITS FALSE NEIGHBOUR: 'it returns false'. Refute it at one input. -/
def simnetNilsWrong : ChangeSpec := { name := "simnetNils", fn := fun _ => fun
  | [d1, d2, d3] => { results := [.lit (.bool false)], args := [d1, d2, d3] }
  | _ => none }
def SimnetNilsWrongFalsely : Prop := simnetNilsRow.holds Try.pinned (OpenSpec.ofChange simnetNilsWrong)

/- THE SECOND FORM. 'bulk': how many values and letters a reading holds, each counted each time it is reached (what is shared counts as often as it is met; a slice's spare places count too). A statement '..UptoSaid' is the law's where the arguments, and the package variables that the reading takes, are together of bulk at most 1048576: NARROWER than '..Said'. Prove '..Said' where nothing that the law and all that it calls make is longer than what came in: it says more and counts as full. Else prove '..UptoSaid'. A law counts once. -/
mutual
def uptoBulk {H : Type} : DataW H → Nat
  | .lit (.string bytes) => bytes.length + 1
  | .lit _ => 1
  | .nil => 1
  | .ptr d => uptoBulk d + 1
  | .slice elems spare => uptoBulkAll elems + uptoBulkAll spare + 1
  | .agg parts => uptoBulkAll parts + 1
  | .iface _ d => uptoBulk d + 1
  | .map entries => uptoBulkEntries entries + 1
  | .held _ => 1
def uptoBulkAll {H : Type} : List (DataW H) → Nat
  | [] => 0
  | d :: r => uptoBulk d + uptoBulkAll r
def uptoBulkEntries {H : Type} : List (Lit × DataW H) → Nat
  | [] => 0
  | x :: r => uptoBulkEntry x + uptoBulkEntries r
def uptoBulkEntry {H : Type} : Lit × DataW H → Nat
  | (.string bytes, d) => bytes.length + uptoBulk d + 1
  | (_, d) => uptoBulk d + 1
 end
def uptoSmall : (H : Type) → List (DataW H) → Bool := fun _ ds => decide (uptoBulkAll ds ≤ 1048576)
def OpenSpec.upto (s : _root_.Go.ChangeSpec) : _root_.Go.OpenSpec := { _root_.Go.OpenSpec.ofChange s with cond := some uptoSmall }

/-- 'hayloftlaw25.SimnetOnce', WHERE WHAT IT READS IS OF BULK AT MOST 1048576: true; the input reads as it did. -/
def simnetOnceUptoRow : OpenClaim := { program := "ytodbnmigdnmjnaa", sum := "9453a357e9e43ce93e163ddd34f2a62c50c1abd244482745089e9e14275e8ce7", func := "hayloft/hayloftlaw25.SimnetOnce", spec := "simnetOnce", inPlace := ["sync/atomic.AddInt64", "sync/atomic.LoadInt64"], unfollowed := true, recurses := true, apart := false, narrowed := true }
def SimnetOnceUptoSaid : Prop := simnetOnceUptoRow.holds Try.pinned (OpenSpec.upto simnetOnceSpec)

/-- 'hayloftlaw25.SimnetPlays', WHERE WHAT IT READS IS OF BULK AT MOST 1048576: true; the input reads as it did. -/
def simnetPlaysUptoRow : OpenClaim := { program := "ytodbnmigdnmjnaa", sum := "9453a357e9e43ce93e163ddd34f2a62c50c1abd244482745089e9e14275e8ce7", func := "hayloft/hayloftlaw25.SimnetPlays", spec := "simnetPlays", inPlace := ["sync/atomic.AddInt64", "sync/atomic.LoadInt64"], unfollowed := true, recurses := true, apart := false, narrowed := true }
def SimnetPlaysUptoSaid : Prop := simnetPlaysUptoRow.holds Try.pinned (OpenSpec.upto simnetPlaysSpec)

/-- 'hayloftlaw25.SimnetNils', WHERE WHAT IT READS IS OF BULK AT MOST 1048576: true; the input reads as it did. -/
def simnetNilsUptoRow : OpenClaim := { program := "ytodbnmigdnmjnaa", sum := "9453a357e9e43ce93e163ddd34f2a62c50c1abd244482745089e9e14275e8ce7", func := "hayloft/hayloftlaw25.SimnetNils", spec := "simnetNils", inPlace := ["sync/atomic.AddInt64", "sync/atomic.LoadInt64"], unfollowed := true, recurses := true, apart := false, narrowed := true }
def SimnetNilsUptoSaid : Prop := simnetNilsUptoRow.holds Try.pinned (OpenSpec.upto simnetNilsSpec)

end Rows
end Go.Proofs.Ytodbnmigdnmjnaa
