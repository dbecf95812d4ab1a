/-
  No cell of these rows narrows 'for every input' (looked for: loops, veiled, ifaces, maps, wideKeys, modest, calm, conditions, laid).
  DERIVED. THE GIVEN ROWS OF THIS SEAT. 4 by the template 'for every input the law returns true; each argument reads behind the call as it read before'; 0 by the template 'total and deterministic' (their statements: YtlbmnajmjaalfaaTotals.lean).
  GIVEN WITH THE SEED: the statements are not yours to turn. If you find one false, say at which input.
  Laid BY PROGRAM, IN A SANDBOX (cutbox-rows.mjs): the forced cells as the released guide's own fill.sh prints them over the translation 0fc109e949b499ef… (all of the seat's roots in one cut). By AI agents, Wed Nov 11 2026. No macro, syntax, notation, axiom, sorry.
-/
import Derived.Test.YtlbmnajmjaalfaaChecked
import GoSem.Claim
import GoSem.ClaimJoined
import GoSem.ClaimMapViews
import Derived.JoinedTies
import Derived.KernelRfl
namespace Go.Proofs.Ytlbmnajmjaalfaa
/- THE CELL 'sum', in the pinned program and in every row, IS THE sha256 OF THE DUMP (.gsa) THAT YtlbmnajmjaalfaaProg.lean LOADS. Nothing in Lean hashes anything: it is a label: what it is worth is what the hold of that sum in a sandbox is worth. -/
noncomputable def Try.pinned : Pinned := { name := "ytlbmnajmjaalfaa", sum := "0fc109e949b499eff5803de638743b96e7eb1c69d7febbd56af54170fd055166", checked := Try.checked }
namespace Rows
def none {H : Type} : Left H := { results := [], args := [] }

/-- 'soundservicelaw02.WordsSplit': WHATEVER THE INPUT: true; the input reads as it did. -/
def wordsSplitSpec : ChangeSpec := { name := "wordsSplit", fn := fun _ => fun
  | [d] => { results := [.lit (.bool true)], args := [d] }
  | _ => none }
def wordsSplitRow : OpenClaim := { program := "ytlbmnajmjaalfaa", sum := "0fc109e949b499eff5803de638743b96e7eb1c69d7febbd56af54170fd055166", func := "soundservice/soundservicelaw02.WordsSplit", spec := "wordsSplit", apart := false }
def WordsSplitSaid : Prop := wordsSplitRow.holds Try.pinned (OpenSpec.ofChange wordsSplitSpec)

/-- ITS FALSE NEIGHBOUR: 'it returns false'. Refute it at one input. -/
def wordsSplitWrong : ChangeSpec := { name := "wordsSplit", fn := fun _ => fun
  | [d] => { results := [.lit (.bool false)], args := [d] }
  | _ => none }
def WordsSplitWrongFalsely : Prop := wordsSplitRow.holds Try.pinned (OpenSpec.ofChange wordsSplitWrong)

/-- 'soundservicelaw02.WordsJoin': WHATEVER THE INPUT: true; the input reads as it did. -/
def wordsJoinSpec : ChangeSpec := { name := "wordsJoin", fn := fun _ => fun
  | [d] => { results := [.lit (.bool true)], args := [d] }
  | _ => none }
def wordsJoinRow : OpenClaim := { program := "ytlbmnajmjaalfaa", sum := "0fc109e949b499eff5803de638743b96e7eb1c69d7febbd56af54170fd055166", func := "soundservice/soundservicelaw02.WordsJoin", spec := "wordsJoin", apart := false }
def WordsJoinSaid : Prop := wordsJoinRow.holds Try.pinned (OpenSpec.ofChange wordsJoinSpec)

/-- ITS FALSE NEIGHBOUR: 'it returns false'. Refute it at one input. -/
def wordsJoinWrong : ChangeSpec := { name := "wordsJoin", fn := fun _ => fun
  | [d] => { results := [.lit (.bool false)], args := [d] }
  | _ => none }
def WordsJoinWrongFalsely : Prop := wordsJoinRow.holds Try.pinned (OpenSpec.ofChange wordsJoinWrong)

/-- 'soundservicelaw02.WordsOnce': WHATEVER THE INPUT: true; the input reads as it did. -/
def wordsOnceSpec : ChangeSpec := { name := "wordsOnce", fn := fun _ => fun
  | [d] => { results := [.lit (.bool true)], args := [d] }
  | _ => none }
def wordsOnceRow : OpenClaim := { program := "ytlbmnajmjaalfaa", sum := "0fc109e949b499eff5803de638743b96e7eb1c69d7febbd56af54170fd055166", func := "soundservice/soundservicelaw02.WordsOnce", spec := "wordsOnce", apart := false }
def WordsOnceSaid : Prop := wordsOnceRow.holds Try.pinned (OpenSpec.ofChange wordsOnceSpec)

/-- ITS FALSE NEIGHBOUR: 'it returns false'. Refute it at one input. -/
def wordsOnceWrong : ChangeSpec := { name := "wordsOnce", fn := fun _ => fun
  | [d] => { results := [.lit (.bool false)], args := [d] }
  | _ => none }
def WordsOnceWrongFalsely : Prop := wordsOnceRow.holds Try.pinned (OpenSpec.ofChange wordsOnceWrong)

/-- 'soundservicelaw02.WordsLimits': WHATEVER THE INPUT: true; the input reads as it did. -/
def wordsLimitsSpec : ChangeSpec := { name := "wordsLimits", fn := fun _ => fun
  | [d1, d2] => { results := [.lit (.bool true)], args := [d1, d2] }
  | _ => none }
def wordsLimitsRow : OpenClaim := { program := "ytlbmnajmjaalfaa", sum := "0fc109e949b499eff5803de638743b96e7eb1c69d7febbd56af54170fd055166", func := "soundservice/soundservicelaw02.WordsLimits", spec := "wordsLimits", apart := false }
def WordsLimitsSaid : Prop := wordsLimitsRow.holds Try.pinned (OpenSpec.ofChange wordsLimitsSpec)

/-- ITS FALSE NEIGHBOUR: 'it returns false'. Refute it at one input. -/
def wordsLimitsWrong : ChangeSpec := { name := "wordsLimits", fn := fun _ => fun
  | [d1, d2] => { results := [.lit (.bool false)], args := [d1, d2] }
  | _ => none }
def WordsLimitsWrongFalsely : Prop := wordsLimitsRow.holds Try.pinned (OpenSpec.ofChange wordsLimitsWrong)

/- THE SECOND FORM. 'bulk': how many values and letters a reading holds, each counted each time it is reached (what is shared counts as often as it is met; a slice's spare places count too). A statement '..UptoSaid' is the law's where the arguments, and the package variables that the reading takes, are together of bulk at most 1048576: NARROWER than '..Said'. Prove '..Said' where nothing that the law and all that it calls make is longer than what came in: it says more and counts as full. Else prove '..UptoSaid'. A law counts once. -/
mutual
def uptoBulk {H : Type} : DataW H → Nat
  | .lit (.string bytes) => bytes.length + 1
  | .lit _ => 1
  | .nil => 1
  | .ptr d => uptoBulk d + 1
  | .slice elems spare => uptoBulkAll elems + uptoBulkAll spare + 1
  | .agg parts => uptoBulkAll parts + 1
  | .iface _ d => uptoBulk d + 1
  | .map entries => uptoBulkEntries entries + 1
  | .held _ => 1
def uptoBulkAll {H : Type} : List (DataW H) → Nat
  | [] => 0
  | d :: r => uptoBulk d + uptoBulkAll r
def uptoBulkEntries {H : Type} : List (Lit × DataW H) → Nat
  | [] => 0
  | x :: r => uptoBulkEntry x + uptoBulkEntries r
def uptoBulkEntry {H : Type} : Lit × DataW H → Nat
  | (.string bytes, d) => bytes.length + uptoBulk d + 1
  | (_, d) => uptoBulk d + 1
 end
def uptoSmall : (H : Type) → List (DataW H) → Bool := fun _ ds => decide (uptoBulkAll ds ≤ 1048576)
def OpenSpec.upto (s : _root_.Go.ChangeSpec) : _root_.Go.OpenSpec := { _root_.Go.OpenSpec.ofChange s with cond := some uptoSmall }

/-- 'soundservicelaw02.WordsSplit', WHERE WHAT IT READS IS OF BULK AT MOST 1048576: true; the input reads as it did. -/
def wordsSplitUptoRow : OpenClaim := { program := "ytlbmnajmjaalfaa", sum := "0fc109e949b499eff5803de638743b96e7eb1c69d7febbd56af54170fd055166", func := "soundservice/soundservicelaw02.WordsSplit", spec := "wordsSplit", apart := false, narrowed := true }
def WordsSplitUptoSaid : Prop := wordsSplitUptoRow.holds Try.pinned (OpenSpec.upto wordsSplitSpec)

/-- 'soundservicelaw02.WordsJoin', WHERE WHAT IT READS IS OF BULK AT MOST 1048576: true; the input reads as it did. -/
def wordsJoinUptoRow : OpenClaim := { program := "ytlbmnajmjaalfaa", sum := "0fc109e949b499eff5803de638743b96e7eb1c69d7febbd56af54170fd055166", func := "soundservice/soundservicelaw02.WordsJoin", spec := "wordsJoin", apart := false, narrowed := true }
def WordsJoinUptoSaid : Prop := wordsJoinUptoRow.holds Try.pinned (OpenSpec.upto wordsJoinSpec)

/-- 'soundservicelaw02.WordsOnce', WHERE WHAT IT READS IS OF BULK AT MOST 1048576: true; the input reads as it did. -/
def wordsOnceUptoRow : OpenClaim := { program := "ytlbmnajmjaalfaa", sum := "0fc109e949b499eff5803de638743b96e7eb1c69d7febbd56af54170fd055166", func := "soundservice/soundservicelaw02.WordsOnce", spec := "wordsOnce", apart := false, narrowed := true }
def WordsOnceUptoSaid : Prop := wordsOnceUptoRow.holds Try.pinned (OpenSpec.upto wordsOnceSpec)

/-- 'soundservicelaw02.WordsLimits', WHERE WHAT IT READS IS OF BULK AT MOST 1048576: true; the input reads as it did. -/
def wordsLimitsUptoRow : OpenClaim := { program := "ytlbmnajmjaalfaa", sum := "0fc109e949b499eff5803de638743b96e7eb1c69d7febbd56af54170fd055166", func := "soundservice/soundservicelaw02.WordsLimits", spec := "wordsLimits", apart := false, narrowed := true }
def WordsLimitsUptoSaid : Prop := wordsLimitsUptoRow.holds Try.pinned (OpenSpec.upto wordsLimitsSpec)

end Rows
end Go.Proofs.Ytlbmnajmjaalfaa
