/-
  No cell of these rows narrows 'for every input' (looked for: loops, veiled, ifaces, maps, wideKeys, modest, calm, conditions, laid).
  DERIVED. THE GIVEN ROWS OF THIS SEAT. 5 by the template 'for every input the law returns true; each argument reads behind the call as it read before'; 0 by the template 'total and deterministic' (their statements: YtkfjnllbjlndlaaTotals.lean).
  GIVEN WITH THE SEED: the statements are not yours to turn. If you find one false, say at which input.
  Laid BY PROGRAM, IN A SANDBOX (cutbox-rows.mjs): the forced cells as the released guide's own fill.sh prints them over the translation 9799492290dedc7a… (all of the seat's roots in one cut). By AI agents, Wed Nov 11 2026. No macro, syntax, notation, axiom, sorry.
-/
import Derived.Test.YtkfjnllbjlndlaaChecked
import GoSem.Claim
import GoSem.ClaimJoined
import GoSem.ClaimMapViews
import Derived.JoinedTies
import Derived.KernelRfl
namespace Go.Proofs.Ytkfjnllbjlndlaa
/- THE CELL 'sum', in the pinned program and in every row, IS THE sha256 OF THE DUMP (.gsa) THAT YtkfjnllbjlndlaaProg.lean LOADS. Nothing in Lean hashes anything: it is a label: what it is worth is what the hold of that sum in a sandbox is worth. -/
noncomputable def Try.pinned : Pinned := { name := "ytkfjnllbjlndlaa", sum := "9799492290dedc7adfa3516ac48b111aa147be990b6cd3c3b83a621fc5dc21b8", checked := Try.checked }
namespace Rows
def none {H : Type} : Left H := { results := [], args := [] }

/-- 'riddlelaw20.RuleFlags': WHATEVER THE INPUT: true; the input reads as it did. -/
def ruleFlagsSpec : ChangeSpec := { name := "ruleFlags", fn := fun _ => fun
  | [d1, d2] => { results := [.lit (.bool true)], args := [d1, d2] }
  | _ => none }
def ruleFlagsRow : OpenClaim := { program := "ytkfjnllbjlndlaa", sum := "9799492290dedc7adfa3516ac48b111aa147be990b6cd3c3b83a621fc5dc21b8", func := "riddle/riddlelaw20.RuleFlags", spec := "ruleFlags", inPlace := ["internal/bytealg.IndexByte"], apart := false }
def RuleFlagsSaid : Prop := ruleFlagsRow.holds Try.pinned (OpenSpec.ofChange ruleFlagsSpec)

/-- ITS FALSE NEIGHBOUR: 'it returns false'. Refute it at one input. -/
def ruleFlagsWrong : ChangeSpec := { name := "ruleFlags", fn := fun _ => fun
  | [d1, d2] => { results := [.lit (.bool false)], args := [d1, d2] }
  | _ => none }
def RuleFlagsWrongFalsely : Prop := ruleFlagsRow.holds Try.pinned (OpenSpec.ofChange ruleFlagsWrong)

/-- 'riddlelaw20.RuleTells': WHATEVER THE INPUT: true; the input reads as it did. -/
def ruleTellsSpec : ChangeSpec := { name := "ruleTells", fn := fun _ => fun
  | [d1, d2] => { results := [.lit (.bool true)], args := [d1, d2] }
  | _ => none }
def ruleTellsRow : OpenClaim := { program := "ytkfjnllbjlndlaa", sum := "9799492290dedc7adfa3516ac48b111aa147be990b6cd3c3b83a621fc5dc21b8", func := "riddle/riddlelaw20.RuleTells", spec := "ruleTells", inPlace := ["internal/bytealg.IndexByte", "internal/bytealg.Index"], unfollowed := true, recurses := true, named := ["internal/bytealg.MaxLen"], apart := false }
def RuleTellsSaid : Prop := ruleTellsRow.holds Try.pinned (OpenSpec.ofChange ruleTellsSpec)

/-- ITS FALSE NEIGHBOUR: 'it returns false'. Refute it at one input. -/
def ruleTellsWrong : ChangeSpec := { name := "ruleTells", fn := fun _ => fun
  | [d1, d2] => { results := [.lit (.bool false)], args := [d1, d2] }
  | _ => none }
def RuleTellsWrongFalsely : Prop := ruleTellsRow.holds Try.pinned (OpenSpec.ofChange ruleTellsWrong)

/-- 'riddlelaw04.TokenWhole': WHATEVER THE INPUT: true; the input reads as it did. -/
def tokenWholeSpec : ChangeSpec := { name := "tokenWhole", fn := fun _ => fun
  | [d] => { results := [.lit (.bool true)], args := [d] }
  | _ => none }
def tokenWholeRow : OpenClaim := { program := "ytkfjnllbjlndlaa", sum := "9799492290dedc7adfa3516ac48b111aa147be990b6cd3c3b83a621fc5dc21b8", func := "riddle/riddlelaw04.TokenWhole", spec := "tokenWhole", unfollowed := true, recurses := true, apart := false }
def TokenWholeSaid : Prop := tokenWholeRow.holds Try.pinned (OpenSpec.ofChange tokenWholeSpec)

/-- ITS FALSE NEIGHBOUR: 'it returns false'. Refute it at one input. -/
def tokenWholeWrong : ChangeSpec := { name := "tokenWhole", fn := fun _ => fun
  | [d] => { results := [.lit (.bool false)], args := [d] }
  | _ => none }
def TokenWholeWrongFalsely : Prop := tokenWholeRow.holds Try.pinned (OpenSpec.ofChange tokenWholeWrong)

/-- 'riddlelaw04.TokenLexes': WHATEVER THE INPUT: true; the input reads as it did. -/
def tokenLexesSpec : ChangeSpec := { name := "tokenLexes", fn := fun _ => fun
  | [d] => { results := [.lit (.bool true)], args := [d] }
  | _ => none }
def tokenLexesRow : OpenClaim := { program := "ytkfjnllbjlndlaa", sum := "9799492290dedc7adfa3516ac48b111aa147be990b6cd3c3b83a621fc5dc21b8", func := "riddle/riddlelaw04.TokenLexes", spec := "tokenLexes", unfollowed := true, recurses := true, apart := false }
def TokenLexesSaid : Prop := tokenLexesRow.holds Try.pinned (OpenSpec.ofChange tokenLexesSpec)

/-- ITS FALSE NEIGHBOUR: 'it returns false'. Refute it at one input. -/
def tokenLexesWrong : ChangeSpec := { name := "tokenLexes", fn := fun _ => fun
  | [d] => { results := [.lit (.bool false)], args := [d] }
  | _ => none }
def TokenLexesWrongFalsely : Prop := tokenLexesRow.holds Try.pinned (OpenSpec.ofChange tokenLexesWrong)

/-- 'riddlelaw04.TokenTells': WHATEVER THE INPUT: true; the input reads as it did. -/
def tokenTellsSpec : ChangeSpec := { name := "tokenTells", fn := fun _ => fun
  | [d1, d2] => { results := [.lit (.bool true)], args := [d1, d2] }
  | _ => none }
def tokenTellsRow : OpenClaim := { program := "ytkfjnllbjlndlaa", sum := "9799492290dedc7adfa3516ac48b111aa147be990b6cd3c3b83a621fc5dc21b8", func := "riddle/riddlelaw04.TokenTells", spec := "tokenTells", unfollowed := true, recurses := true, apart := false }
def TokenTellsSaid : Prop := tokenTellsRow.holds Try.pinned (OpenSpec.ofChange tokenTellsSpec)

/-- ITS FALSE NEIGHBOUR: 'it returns false'. Refute it at one input. -/
def tokenTellsWrong : ChangeSpec := { name := "tokenTells", fn := fun _ => fun
  | [d1, d2] => { results := [.lit (.bool false)], args := [d1, d2] }
  | _ => none }
def TokenTellsWrongFalsely : Prop := tokenTellsRow.holds Try.pinned (OpenSpec.ofChange tokenTellsWrong)

/- THE SECOND FORM. 'bulk': how many values and letters a reading holds, each counted each time it is reached (what is shared counts as often as it is met; a slice's spare places count too). A statement '..UptoSaid' is the law's where the arguments, and the package variables that the reading takes, are together of bulk at most 1048576: NARROWER than '..Said'. Prove '..Said' where nothing that the law and all that it calls make is longer than what came in: it says more and counts as full. Else prove '..UptoSaid'. A law counts once. -/
mutual
def uptoBulk {H : Type} : DataW H → Nat
  | .lit (.string bytes) => bytes.length + 1
  | .lit _ => 1
  | .nil => 1
  | .ptr d => uptoBulk d + 1
  | .slice elems spare => uptoBulkAll elems + uptoBulkAll spare + 1
  | .agg parts => uptoBulkAll parts + 1
  | .iface _ d => uptoBulk d + 1
  | .map entries => uptoBulkEntries entries + 1
  | .held _ => 1
def uptoBulkAll {H : Type} : List (DataW H) → Nat
  | [] => 0
  | d :: r => uptoBulk d + uptoBulkAll r
def uptoBulkEntries {H : Type} : List (Lit × DataW H) → Nat
  | [] => 0
  | x :: r => uptoBulkEntry x + uptoBulkEntries r
def uptoBulkEntry {H : Type} : Lit × DataW H → Nat
  | (.string bytes, d) => bytes.length + uptoBulk d + 1
  | (_, d) => uptoBulk d + 1
 end
def uptoSmall : (H : Type) → List (DataW H) → Bool := fun _ ds => decide (uptoBulkAll ds ≤ 1048576)
def OpenSpec.upto (s : _root_.Go.ChangeSpec) : _root_.Go.OpenSpec := { _root_.Go.OpenSpec.ofChange s with cond := some uptoSmall }

/-- 'riddlelaw20.RuleFlags', WHERE WHAT IT READS IS OF BULK AT MOST 1048576: true; the input reads as it did. -/
def ruleFlagsUptoRow : OpenClaim := { program := "ytkfjnllbjlndlaa", sum := "9799492290dedc7adfa3516ac48b111aa147be990b6cd3c3b83a621fc5dc21b8", func := "riddle/riddlelaw20.RuleFlags", spec := "ruleFlags", inPlace := ["internal/bytealg.IndexByte"], apart := false, narrowed := true }
def RuleFlagsUptoSaid : Prop := ruleFlagsUptoRow.holds Try.pinned (OpenSpec.upto ruleFlagsSpec)

/-- 'riddlelaw20.RuleTells', WHERE WHAT IT READS IS OF BULK AT MOST 1048576: true; the input reads as it did. -/
def ruleTellsUptoRow : OpenClaim := { program := "ytkfjnllbjlndlaa", sum := "9799492290dedc7adfa3516ac48b111aa147be990b6cd3c3b83a621fc5dc21b8", func := "riddle/riddlelaw20.RuleTells", spec := "ruleTells", inPlace := ["internal/bytealg.IndexByte", "internal/bytealg.Index"], unfollowed := true, recurses := true, named := ["internal/bytealg.MaxLen"], apart := false, narrowed := true }
def RuleTellsUptoSaid : Prop := ruleTellsUptoRow.holds Try.pinned (OpenSpec.upto ruleTellsSpec)

/-- 'riddlelaw04.TokenWhole', WHERE WHAT IT READS IS OF BULK AT MOST 1048576: true; the input reads as it did. -/
def tokenWholeUptoRow : OpenClaim := { program := "ytkfjnllbjlndlaa", sum := "9799492290dedc7adfa3516ac48b111aa147be990b6cd3c3b83a621fc5dc21b8", func := "riddle/riddlelaw04.TokenWhole", spec := "tokenWhole", unfollowed := true, recurses := true, apart := false, narrowed := true }
def TokenWholeUptoSaid : Prop := tokenWholeUptoRow.holds Try.pinned (OpenSpec.upto tokenWholeSpec)

/-- 'riddlelaw04.TokenLexes', WHERE WHAT IT READS IS OF BULK AT MOST 1048576: true; the input reads as it did. -/
def tokenLexesUptoRow : OpenClaim := { program := "ytkfjnllbjlndlaa", sum := "9799492290dedc7adfa3516ac48b111aa147be990b6cd3c3b83a621fc5dc21b8", func := "riddle/riddlelaw04.TokenLexes", spec := "tokenLexes", unfollowed := true, recurses := true, apart := false, narrowed := true }
def TokenLexesUptoSaid : Prop := tokenLexesUptoRow.holds Try.pinned (OpenSpec.upto tokenLexesSpec)

/-- 'riddlelaw04.TokenTells', WHERE WHAT IT READS IS OF BULK AT MOST 1048576: true; the input reads as it did. -/
def tokenTellsUptoRow : OpenClaim := { program := "ytkfjnllbjlndlaa", sum := "9799492290dedc7adfa3516ac48b111aa147be990b6cd3c3b83a621fc5dc21b8", func := "riddle/riddlelaw04.TokenTells", spec := "tokenTells", unfollowed := true, recurses := true, apart := false, narrowed := true }
def TokenTellsUptoSaid : Prop := tokenTellsUptoRow.holds Try.pinned (OpenSpec.upto tokenTellsSpec)

end Rows
end Go.Proofs.Ytkfjnllbjlndlaa
