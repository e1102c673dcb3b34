/-
  No cell of these rows narrows 'for every input' (looked for: loops, veiled, ifaces, maps, wideKeys, modest, calm, conditions, laid).
  DERIVED. THE GIVEN ROWS OF THIS SEAT. 5 by the template 'for every input the law returns true; each argument reads behind the call as it read before'; 0 by the template 'total and deterministic' (their statements: YtogdmmccbeipkaaGreatTotals.lean).
  GIVEN WITH THE SEED: the statements are not yours to turn. If you find one false, say at which input.
  Laid BY PROGRAM, IN A SANDBOX (cutbox-rows.mjs): the forced cells as the released guide's own fill.sh prints them over the translation d14d38ee686a25e2… (all of the seat's roots in one cut). By AI agents, Wed Nov 11 2026. No macro, syntax, notation, axiom, sorry.
-/
import Derived.Test.YtogdmmccbeipkaaGreatChecked
import GoSem.Claim
import GoSem.ClaimJoined
import GoSem.ClaimMapViews
import Derived.JoinedTies
import Derived.KernelRfl
namespace Go.Proofs.YtogdmmccbeipkaaGreat
/- THE CELL 'sum', in the pinned program and in every row, IS THE sha256 OF THE DUMP (.gsa) THAT YtogdmmccbeipkaaGreatProg.lean LOADS. Nothing in Lean hashes anything: it is a label: what it is worth is what the hold of that sum in a sandbox is worth. -/
noncomputable def Tryz.pinned : Pinned := { name := "ytogdmmccbeipkaagreat", sum := "d14d38ee686a25e2333389321fe4bf44d005362f28985426ce2e4cc69e694ecd", checked := Tryz.checked }
namespace Rows
def none {H : Type} : Left H := { results := [], args := [] }

/-- 'laws.FnExactInterpolateNegative': WHATEVER THE INPUT: true; the input reads as it did. -/
def fnExactInterpolateNegativeSpec : ChangeSpec := { name := "fnExactInterpolateNegative", fn := fun _ => fun
  | [d1, d2, d3] => { results := [.lit (.bool true)], args := [d1, d2, d3] }
  | _ => none }
def fnExactInterpolateNegativeRow : OpenClaim := { program := "ytogdmmccbeipkaagreat", sum := "d14d38ee686a25e2333389321fe4bf44d005362f28985426ce2e4cc69e694ecd", func := "loop.example/g01080/laws.FnExactInterpolateNegative", spec := "fnExactInterpolateNegative", unfollowed := true, recurses := true, apart := false }
def FnExactInterpolateNegativeSaid : Prop := fnExactInterpolateNegativeRow.holds Tryz.pinned (OpenSpec.ofChange fnExactInterpolateNegativeSpec)

/-- ITS FALSE NEIGHBOUR: 'it returns false'. Refute it at one input. -/
def fnExactInterpolateNegativeWrong : ChangeSpec := { name := "fnExactInterpolateNegative", fn := fun _ => fun
  | [d1, d2, d3] => { results := [.lit (.bool false)], args := [d1, d2, d3] }
  | _ => none }
def FnExactInterpolateNegativeWrongFalsely : Prop := fnExactInterpolateNegativeRow.holds Tryz.pinned (OpenSpec.ofChange fnExactInterpolateNegativeWrong)

/-- 'laws.FnExactInterpolatePositive': WHATEVER THE INPUT: true; the input reads as it did. -/
def fnExactInterpolatePositiveSpec : ChangeSpec := { name := "fnExactInterpolatePositive", fn := fun _ => fun
  | [d1, d2, d3] => { results := [.lit (.bool true)], args := [d1, d2, d3] }
  | _ => none }
def fnExactInterpolatePositiveRow : OpenClaim := { program := "ytogdmmccbeipkaagreat", sum := "d14d38ee686a25e2333389321fe4bf44d005362f28985426ce2e4cc69e694ecd", func := "loop.example/g01080/laws.FnExactInterpolatePositive", spec := "fnExactInterpolatePositive", unfollowed := true, recurses := true, apart := false }
def FnExactInterpolatePositiveSaid : Prop := fnExactInterpolatePositiveRow.holds Tryz.pinned (OpenSpec.ofChange fnExactInterpolatePositiveSpec)

/-- ITS FALSE NEIGHBOUR: 'it returns false'. Refute it at one input. -/
def fnExactInterpolatePositiveWrong : ChangeSpec := { name := "fnExactInterpolatePositive", fn := fun _ => fun
  | [d1, d2, d3] => { results := [.lit (.bool false)], args := [d1, d2, d3] }
  | _ => none }
def FnExactInterpolatePositiveWrongFalsely : Prop := fnExactInterpolatePositiveRow.holds Tryz.pinned (OpenSpec.ofChange fnExactInterpolatePositiveWrong)

/-- 'laws.FnExactPartialValues': WHATEVER THE INPUT: true; the input reads as it did. -/
def fnExactPartialValuesSpec : ChangeSpec := { name := "fnExactPartialValues", fn := fun _ => fun
  | [d1, d2, d3, d4] => { results := [.lit (.bool true)], args := [d1, d2, d3, d4] }
  | _ => none }
def fnExactPartialValuesRow : OpenClaim := { program := "ytogdmmccbeipkaagreat", sum := "d14d38ee686a25e2333389321fe4bf44d005362f28985426ce2e4cc69e694ecd", func := "loop.example/g01080/laws.FnExactPartialValues", spec := "fnExactPartialValues", unfollowed := true, recurses := true, apart := false }
def FnExactPartialValuesSaid : Prop := fnExactPartialValuesRow.holds Tryz.pinned (OpenSpec.ofChange fnExactPartialValuesSpec)

/-- ITS FALSE NEIGHBOUR: 'it returns false'. Refute it at one input. -/
def fnExactPartialValuesWrong : ChangeSpec := { name := "fnExactPartialValues", fn := fun _ => fun
  | [d1, d2, d3, d4] => { results := [.lit (.bool false)], args := [d1, d2, d3, d4] }
  | _ => none }
def FnExactPartialValuesWrongFalsely : Prop := fnExactPartialValuesRow.holds Tryz.pinned (OpenSpec.ofChange fnExactPartialValuesWrong)

/-- 'laws.FnExactInterpolate': WHATEVER THE INPUT: true; the input reads as it did. -/
def fnExactInterpolateSpec : ChangeSpec := { name := "fnExactInterpolate", fn := fun _ => fun
  | [d1, d2, d3] => { results := [.lit (.bool true)], args := [d1, d2, d3] }
  | _ => none }
def fnExactInterpolateRow : OpenClaim := { program := "ytogdmmccbeipkaagreat", sum := "d14d38ee686a25e2333389321fe4bf44d005362f28985426ce2e4cc69e694ecd", func := "loop.example/g01080/laws.FnExactInterpolate", spec := "fnExactInterpolate", unfollowed := true, recurses := true, apart := false }
def FnExactInterpolateSaid : Prop := fnExactInterpolateRow.holds Tryz.pinned (OpenSpec.ofChange fnExactInterpolateSpec)

/-- ITS FALSE NEIGHBOUR: 'it returns false'. Refute it at one input. -/
def fnExactInterpolateWrong : ChangeSpec := { name := "fnExactInterpolate", fn := fun _ => fun
  | [d1, d2, d3] => { results := [.lit (.bool false)], args := [d1, d2, d3] }
  | _ => none }
def FnExactInterpolateWrongFalsely : Prop := fnExactInterpolateRow.holds Tryz.pinned (OpenSpec.ofChange fnExactInterpolateWrong)

/-- 'laws.FnExactInterpolateLeft': WHATEVER THE INPUT: true; the input reads as it did. -/
def fnExactInterpolateLeftSpec : ChangeSpec := { name := "fnExactInterpolateLeft", fn := fun _ => fun
  | [d1, d2, d3] => { results := [.lit (.bool true)], args := [d1, d2, d3] }
  | _ => none }
def fnExactInterpolateLeftRow : OpenClaim := { program := "ytogdmmccbeipkaagreat", sum := "d14d38ee686a25e2333389321fe4bf44d005362f28985426ce2e4cc69e694ecd", func := "loop.example/g01080/laws.FnExactInterpolateLeft", spec := "fnExactInterpolateLeft", unfollowed := true, recurses := true, apart := false }
def FnExactInterpolateLeftSaid : Prop := fnExactInterpolateLeftRow.holds Tryz.pinned (OpenSpec.ofChange fnExactInterpolateLeftSpec)

/-- ITS FALSE NEIGHBOUR: 'it returns false'. Refute it at one input. -/
def fnExactInterpolateLeftWrong : ChangeSpec := { name := "fnExactInterpolateLeft", fn := fun _ => fun
  | [d1, d2, d3] => { results := [.lit (.bool false)], args := [d1, d2, d3] }
  | _ => none }
def FnExactInterpolateLeftWrongFalsely : Prop := fnExactInterpolateLeftRow.holds Tryz.pinned (OpenSpec.ofChange fnExactInterpolateLeftWrong)

/- THE SECOND FORM. 'bulk': how many values and letters a reading holds, each counted each time it is reached (what is shared counts as often as it is met; a slice's spare places count too). A statement '..UptoSaid' is the law's where the arguments, and the package variables that the reading takes, are together of bulk at most 1048576: NARROWER than '..Said'. Prove '..Said' where nothing that the law and all that it calls make is longer than what came in: it says more and counts as full. Else prove '..UptoSaid'. A law counts once. -/
mutual
def uptoBulk {H : Type} : DataW H → Nat
  | .lit (.string bytes) => bytes.length + 1
  | .lit _ => 1
  | .nil => 1
  | .ptr d => uptoBulk d + 1
  | .slice elems spare => uptoBulkAll elems + uptoBulkAll spare + 1
  | .agg parts => uptoBulkAll parts + 1
  | .iface _ d => uptoBulk d + 1
  | .map entries => uptoBulkEntries entries + 1
  | .held _ => 1
def uptoBulkAll {H : Type} : List (DataW H) → Nat
  | [] => 0
  | d :: r => uptoBulk d + uptoBulkAll r
def uptoBulkEntries {H : Type} : List (Lit × DataW H) → Nat
  | [] => 0
  | x :: r => uptoBulkEntry x + uptoBulkEntries r
def uptoBulkEntry {H : Type} : Lit × DataW H → Nat
  | (.string bytes, d) => bytes.length + uptoBulk d + 1
  | (_, d) => uptoBulk d + 1
 end
def uptoSmall : (H : Type) → List (DataW H) → Bool := fun _ ds => decide (uptoBulkAll ds ≤ 1048576)
def OpenSpec.upto (s : _root_.Go.ChangeSpec) : _root_.Go.OpenSpec := { _root_.Go.OpenSpec.ofChange s with cond := some uptoSmall }

/-- 'laws.FnExactInterpolateNegative', WHERE WHAT IT READS IS OF BULK AT MOST 1048576: true; the input reads as it did. -/
def fnExactInterpolateNegativeUptoRow : OpenClaim := { program := "ytogdmmccbeipkaagreat", sum := "d14d38ee686a25e2333389321fe4bf44d005362f28985426ce2e4cc69e694ecd", func := "loop.example/g01080/laws.FnExactInterpolateNegative", spec := "fnExactInterpolateNegative", unfollowed := true, recurses := true, apart := false, narrowed := true }
def FnExactInterpolateNegativeUptoSaid : Prop := fnExactInterpolateNegativeUptoRow.holds Tryz.pinned (OpenSpec.upto fnExactInterpolateNegativeSpec)

/-- 'laws.FnExactInterpolatePositive', WHERE WHAT IT READS IS OF BULK AT MOST 1048576: true; the input reads as it did. -/
def fnExactInterpolatePositiveUptoRow : OpenClaim := { program := "ytogdmmccbeipkaagreat", sum := "d14d38ee686a25e2333389321fe4bf44d005362f28985426ce2e4cc69e694ecd", func := "loop.example/g01080/laws.FnExactInterpolatePositive", spec := "fnExactInterpolatePositive", unfollowed := true, recurses := true, apart := false, narrowed := true }
def FnExactInterpolatePositiveUptoSaid : Prop := fnExactInterpolatePositiveUptoRow.holds Tryz.pinned (OpenSpec.upto fnExactInterpolatePositiveSpec)

/-- 'laws.FnExactPartialValues', WHERE WHAT IT READS IS OF BULK AT MOST 1048576: true; the input reads as it did. -/
def fnExactPartialValuesUptoRow : OpenClaim := { program := "ytogdmmccbeipkaagreat", sum := "d14d38ee686a25e2333389321fe4bf44d005362f28985426ce2e4cc69e694ecd", func := "loop.example/g01080/laws.FnExactPartialValues", spec := "fnExactPartialValues", unfollowed := true, recurses := true, apart := false, narrowed := true }
def FnExactPartialValuesUptoSaid : Prop := fnExactPartialValuesUptoRow.holds Tryz.pinned (OpenSpec.upto fnExactPartialValuesSpec)

/-- 'laws.FnExactInterpolate', WHERE WHAT IT READS IS OF BULK AT MOST 1048576: true; the input reads as it did. -/
def fnExactInterpolateUptoRow : OpenClaim := { program := "ytogdmmccbeipkaagreat", sum := "d14d38ee686a25e2333389321fe4bf44d005362f28985426ce2e4cc69e694ecd", func := "loop.example/g01080/laws.FnExactInterpolate", spec := "fnExactInterpolate", unfollowed := true, recurses := true, apart := false, narrowed := true }
def FnExactInterpolateUptoSaid : Prop := fnExactInterpolateUptoRow.holds Tryz.pinned (OpenSpec.upto fnExactInterpolateSpec)

/-- 'laws.FnExactInterpolateLeft', WHERE WHAT IT READS IS OF BULK AT MOST 1048576: true; the input reads as it did. -/
def fnExactInterpolateLeftUptoRow : OpenClaim := { program := "ytogdmmccbeipkaagreat", sum := "d14d38ee686a25e2333389321fe4bf44d005362f28985426ce2e4cc69e694ecd", func := "loop.example/g01080/laws.FnExactInterpolateLeft", spec := "fnExactInterpolateLeft", unfollowed := true, recurses := true, apart := false, narrowed := true }
def FnExactInterpolateLeftUptoSaid : Prop := fnExactInterpolateLeftUptoRow.holds Tryz.pinned (OpenSpec.upto fnExactInterpolateLeftSpec)

end Rows
end Go.Proofs.YtogdmmccbeipkaaGreat
