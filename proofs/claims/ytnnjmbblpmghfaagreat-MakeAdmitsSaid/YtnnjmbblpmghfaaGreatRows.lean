/-
  No cell of these rows narrows 'for every input' (looked for: loops, veiled, ifaces, maps, wideKeys, modest, calm, conditions, laid).
  DERIVED. THE GIVEN ROWS OF THIS SEAT. 10 by the template 'for every input the law returns true; each argument reads behind the call as it read before'; 0 by the template 'total and deterministic' (their statements: YtnnjmbblpmghfaaGreatTotals.lean).
  GIVEN WITH THE SEED: the statements are not yours to turn. If you find one false, say at which input.
  Laid BY PROGRAM, IN A SANDBOX (cutbox-rows.mjs): the forced cells as the released guide's own fill.sh prints them over the translation 505297f90d135bfd… (all of the seat's roots in one cut). By AI agents, Wed Nov 11 2026. No macro, syntax, notation, axiom, sorry.
-/
import Derived.Test.YtnnjmbblpmghfaaGreatChecked
import GoSem.Claim
import GoSem.ClaimJoined
import GoSem.ClaimMapViews
import Derived.JoinedTies
import Derived.KernelRfl
namespace Go.Proofs.YtnnjmbblpmghfaaGreat
/- THE CELL 'sum', in the pinned program and in every row, IS THE sha256 OF THE DUMP (.gsa) THAT YtnnjmbblpmghfaaGreatProg.lean LOADS. Nothing in Lean hashes anything: it is a label: what it is worth is what the hold of that sum in a sandbox is worth. -/
noncomputable def Tryz.pinned : Pinned := { name := "ytnnjmbblpmghfaagreat", sum := "505297f90d135bfdffd382828527d5ceead998d19c1d6e3f681b18b681397594", checked := Tryz.checked }
namespace Rows
def none {H : Type} : Left H := { results := [], args := [] }

/-- 'odographlaw29.MakeAdmits': WHATEVER THE INPUT: true; the input reads as it did. -/
def makeAdmitsSpec : ChangeSpec := { name := "makeAdmits", fn := fun _ => fun
  | [d1, d2, d3, d4] => { results := [.lit (.bool true)], args := [d1, d2, d3, d4] }
  | _ => none }
def makeAdmitsRow : OpenClaim := { program := "ytnnjmbblpmghfaagreat", sum := "505297f90d135bfdffd382828527d5ceead998d19c1d6e3f681b18b681397594", func := "odograph/odographlaw29.MakeAdmits", spec := "makeAdmits", unfollowed := true, recurses := true, plainKeys := false, apart := false }
def MakeAdmitsSaid : Prop := makeAdmitsRow.holds Tryz.pinned (OpenSpec.ofChange makeAdmitsSpec)

/-- ITS FALSE NEIGHBOUR: 'it returns false'. Refute it at one input. -/
def makeAdmitsWrong : ChangeSpec := { name := "makeAdmits", fn := fun _ => fun
  | [d1, d2, d3, d4] => { results := [.lit (.bool false)], args := [d1, d2, d3, d4] }
  | _ => none }
def MakeAdmitsWrongFalsely : Prop := makeAdmitsRow.holds Tryz.pinned (OpenSpec.ofChange makeAdmitsWrong)

/-- 'odographlaw28.AdmitChecks': WHATEVER THE INPUT: true; the input reads as it did. -/
def admitChecksSpec : ChangeSpec := { name := "admitChecks", fn := fun _ => fun
  | [d1, d2, d3] => { results := [.lit (.bool true)], args := [d1, d2, d3] }
  | _ => none }
def admitChecksRow : OpenClaim := { program := "ytnnjmbblpmghfaagreat", sum := "505297f90d135bfdffd382828527d5ceead998d19c1d6e3f681b18b681397594", func := "odograph/odographlaw28.AdmitChecks", spec := "admitChecks", unfollowed := true, recurses := true, plainKeys := false, apart := false }
def AdmitChecksSaid : Prop := admitChecksRow.holds Tryz.pinned (OpenSpec.ofChange admitChecksSpec)

/-- ITS FALSE NEIGHBOUR: 'it returns false'. Refute it at one input. -/
def admitChecksWrong : ChangeSpec := { name := "admitChecks", fn := fun _ => fun
  | [d1, d2, d3] => { results := [.lit (.bool false)], args := [d1, d2, d3] }
  | _ => none }
def AdmitChecksWrongFalsely : Prop := admitChecksRow.holds Tryz.pinned (OpenSpec.ofChange admitChecksWrong)

/-- 'odographtop.WholeWheels': WHATEVER THE INPUT: true; the input reads as it did. -/
def wholeWheelsSpec : ChangeSpec := { name := "wholeWheels", fn := fun _ => fun
  | [d1, d2, d3] => { results := [.lit (.bool true)], args := [d1, d2, d3] }
  | _ => none }
def wholeWheelsRow : OpenClaim := { program := "ytnnjmbblpmghfaagreat", sum := "505297f90d135bfdffd382828527d5ceead998d19c1d6e3f681b18b681397594", func := "odograph/odographtop.WholeWheels", spec := "wholeWheels", unfollowed := true, recurses := true, plainKeys := false, apart := false }
def WholeWheelsSaid : Prop := wholeWheelsRow.holds Tryz.pinned (OpenSpec.ofChange wholeWheelsSpec)

/-- ITS FALSE NEIGHBOUR: 'it returns false'. Refute it at one input. -/
def wholeWheelsWrong : ChangeSpec := { name := "wholeWheels", fn := fun _ => fun
  | [d1, d2, d3] => { results := [.lit (.bool false)], args := [d1, d2, d3] }
  | _ => none }
def WholeWheelsWrongFalsely : Prop := wholeWheelsRow.holds Tryz.pinned (OpenSpec.ofChange wholeWheelsWrong)

/-- 'odographtop.WholeResets': WHATEVER THE INPUT: true; the input reads as it did. -/
def wholeResetsSpec : ChangeSpec := { name := "wholeResets", fn := fun _ => fun
  | [d1, d2, d3] => { results := [.lit (.bool true)], args := [d1, d2, d3] }
  | _ => none }
def wholeResetsRow : OpenClaim := { program := "ytnnjmbblpmghfaagreat", sum := "505297f90d135bfdffd382828527d5ceead998d19c1d6e3f681b18b681397594", func := "odograph/odographtop.WholeResets", spec := "wholeResets", unfollowed := true, recurses := true, plainKeys := false, apart := false }
def WholeResetsSaid : Prop := wholeResetsRow.holds Tryz.pinned (OpenSpec.ofChange wholeResetsSpec)

/-- ITS FALSE NEIGHBOUR: 'it returns false'. Refute it at one input. -/
def wholeResetsWrong : ChangeSpec := { name := "wholeResets", fn := fun _ => fun
  | [d1, d2, d3] => { results := [.lit (.bool false)], args := [d1, d2, d3] }
  | _ => none }
def WholeResetsWrongFalsely : Prop := wholeResetsRow.holds Tryz.pinned (OpenSpec.ofChange wholeResetsWrong)

/-- 'odographtop.WholeGrowth': WHATEVER THE INPUT: true; the input reads as it did. -/
def wholeGrowthSpec : ChangeSpec := { name := "wholeGrowth", fn := fun _ => fun
  | [d1, d2, d3, d4, d5] => { results := [.lit (.bool true)], args := [d1, d2, d3, d4, d5] }
  | _ => none }
def wholeGrowthRow : OpenClaim := { program := "ytnnjmbblpmghfaagreat", sum := "505297f90d135bfdffd382828527d5ceead998d19c1d6e3f681b18b681397594", func := "odograph/odographtop.WholeGrowth", spec := "wholeGrowth", unfollowed := true, recurses := true, plainKeys := false, apart := false }
def WholeGrowthSaid : Prop := wholeGrowthRow.holds Tryz.pinned (OpenSpec.ofChange wholeGrowthSpec)

/-- ITS FALSE NEIGHBOUR: 'it returns false'. Refute it at one input. -/
def wholeGrowthWrong : ChangeSpec := { name := "wholeGrowth", fn := fun _ => fun
  | [d1, d2, d3, d4, d5] => { results := [.lit (.bool false)], args := [d1, d2, d3, d4, d5] }
  | _ => none }
def WholeGrowthWrongFalsely : Prop := wholeGrowthRow.holds Tryz.pinned (OpenSpec.ofChange wholeGrowthWrong)

/-- 'odographlaw28.AdmitTrue': WHATEVER THE INPUT: true; the input reads as it did. -/
def admitTrueSpec : ChangeSpec := { name := "admitTrue", fn := fun _ => fun
  | [d1, d2, d3] => { results := [.lit (.bool true)], args := [d1, d2, d3] }
  | _ => none }
def admitTrueRow : OpenClaim := { program := "ytnnjmbblpmghfaagreat", sum := "505297f90d135bfdffd382828527d5ceead998d19c1d6e3f681b18b681397594", func := "odograph/odographlaw28.AdmitTrue", spec := "admitTrue", unfollowed := true, recurses := true, plainKeys := false, apart := false }
def AdmitTrueSaid : Prop := admitTrueRow.holds Tryz.pinned (OpenSpec.ofChange admitTrueSpec)

/-- ITS FALSE NEIGHBOUR: 'it returns false'. Refute it at one input. -/
def admitTrueWrong : ChangeSpec := { name := "admitTrue", fn := fun _ => fun
  | [d1, d2, d3] => { results := [.lit (.bool false)], args := [d1, d2, d3] }
  | _ => none }
def AdmitTrueWrongFalsely : Prop := admitTrueRow.holds Tryz.pinned (OpenSpec.ofChange admitTrueWrong)

/-- 'odographlaw30.JudgeFinds': WHATEVER THE INPUT: true; the input reads as it did. -/
def judgeFindsSpec : ChangeSpec := { name := "judgeFinds", fn := fun _ => fun
  | [d1, d2, d3, d4] => { results := [.lit (.bool true)], args := [d1, d2, d3, d4] }
  | _ => none }
def judgeFindsRow : OpenClaim := { program := "ytnnjmbblpmghfaagreat", sum := "505297f90d135bfdffd382828527d5ceead998d19c1d6e3f681b18b681397594", func := "odograph/odographlaw30.JudgeFinds", spec := "judgeFinds", unfollowed := true, recurses := true, plainKeys := false, apart := false }
def JudgeFindsSaid : Prop := judgeFindsRow.holds Tryz.pinned (OpenSpec.ofChange judgeFindsSpec)

/-- ITS FALSE NEIGHBOUR: 'it returns false'. Refute it at one input. -/
def judgeFindsWrong : ChangeSpec := { name := "judgeFinds", fn := fun _ => fun
  | [d1, d2, d3, d4] => { results := [.lit (.bool false)], args := [d1, d2, d3, d4] }
  | _ => none }
def JudgeFindsWrongFalsely : Prop := judgeFindsRow.holds Tryz.pinned (OpenSpec.ofChange judgeFindsWrong)

/-- 'odographtop.WholeOnward': WHATEVER THE INPUT: true; the input reads as it did. -/
def wholeOnwardSpec : ChangeSpec := { name := "wholeOnward", fn := fun _ => fun
  | [d1, d2, d3] => { results := [.lit (.bool true)], args := [d1, d2, d3] }
  | _ => none }
def wholeOnwardRow : OpenClaim := { program := "ytnnjmbblpmghfaagreat", sum := "505297f90d135bfdffd382828527d5ceead998d19c1d6e3f681b18b681397594", func := "odograph/odographtop.WholeOnward", spec := "wholeOnward", unfollowed := true, recurses := true, plainKeys := false, apart := false }
def WholeOnwardSaid : Prop := wholeOnwardRow.holds Tryz.pinned (OpenSpec.ofChange wholeOnwardSpec)

/-- ITS FALSE NEIGHBOUR: 'it returns false'. Refute it at one input. -/
def wholeOnwardWrong : ChangeSpec := { name := "wholeOnward", fn := fun _ => fun
  | [d1, d2, d3] => { results := [.lit (.bool false)], args := [d1, d2, d3] }
  | _ => none }
def WholeOnwardWrongFalsely : Prop := wholeOnwardRow.holds Tryz.pinned (OpenSpec.ofChange wholeOnwardWrong)

/-- 'odographtop.WholeSome': WHATEVER THE INPUT: true; the input reads as it did. -/
def wholeSomeSpec : ChangeSpec := { name := "wholeSome", fn := fun _ => fun
  | [d1, d2, d3] => { results := [.lit (.bool true)], args := [d1, d2, d3] }
  | _ => none }
def wholeSomeRow : OpenClaim := { program := "ytnnjmbblpmghfaagreat", sum := "505297f90d135bfdffd382828527d5ceead998d19c1d6e3f681b18b681397594", func := "odograph/odographtop.WholeSome", spec := "wholeSome", unfollowed := true, recurses := true, plainKeys := false, apart := false }
def WholeSomeSaid : Prop := wholeSomeRow.holds Tryz.pinned (OpenSpec.ofChange wholeSomeSpec)

/-- ITS FALSE NEIGHBOUR: 'it returns false'. Refute it at one input. -/
def wholeSomeWrong : ChangeSpec := { name := "wholeSome", fn := fun _ => fun
  | [d1, d2, d3] => { results := [.lit (.bool false)], args := [d1, d2, d3] }
  | _ => none }
def WholeSomeWrongFalsely : Prop := wholeSomeRow.holds Tryz.pinned (OpenSpec.ofChange wholeSomeWrong)

/-- 'odographtop.WholeMade': WHATEVER THE INPUT: true; the input reads as it did. -/
def wholeMadeSpec : ChangeSpec := { name := "wholeMade", fn := fun _ => fun
  | [d1, d2, d3, d4] => { results := [.lit (.bool true)], args := [d1, d2, d3, d4] }
  | _ => none }
def wholeMadeRow : OpenClaim := { program := "ytnnjmbblpmghfaagreat", sum := "505297f90d135bfdffd382828527d5ceead998d19c1d6e3f681b18b681397594", func := "odograph/odographtop.WholeMade", spec := "wholeMade", unfollowed := true, recurses := true, plainKeys := false, apart := false }
def WholeMadeSaid : Prop := wholeMadeRow.holds Tryz.pinned (OpenSpec.ofChange wholeMadeSpec)

/-- ITS FALSE NEIGHBOUR: 'it returns false'. Refute it at one input. -/
def wholeMadeWrong : ChangeSpec := { name := "wholeMade", fn := fun _ => fun
  | [d1, d2, d3, d4] => { results := [.lit (.bool false)], args := [d1, d2, d3, d4] }
  | _ => none }
def WholeMadeWrongFalsely : Prop := wholeMadeRow.holds Tryz.pinned (OpenSpec.ofChange wholeMadeWrong)

/- THE SECOND FORM. 'bulk': how many values and letters a reading holds, each counted each time it is reached (what is shared counts as often as it is met; a slice's spare places count too). A statement '..UptoSaid' is the law's where the arguments, and the package variables that the reading takes, are together of bulk at most 1048576: NARROWER than '..Said'. Prove '..Said' where nothing that the law and all that it calls make is longer than what came in: it says more and counts as full. Else prove '..UptoSaid'. A law counts once. -/
mutual
def uptoBulk {H : Type} : DataW H → Nat
  | .lit (.string bytes) => bytes.length + 1
  | .lit _ => 1
  | .nil => 1
  | .ptr d => uptoBulk d + 1
  | .slice elems spare => uptoBulkAll elems + uptoBulkAll spare + 1
  | .agg parts => uptoBulkAll parts + 1
  | .iface _ d => uptoBulk d + 1
  | .map entries => uptoBulkEntries entries + 1
  | .held _ => 1
def uptoBulkAll {H : Type} : List (DataW H) → Nat
  | [] => 0
  | d :: r => uptoBulk d + uptoBulkAll r
def uptoBulkEntries {H : Type} : List (Lit × DataW H) → Nat
  | [] => 0
  | x :: r => uptoBulkEntry x + uptoBulkEntries r
def uptoBulkEntry {H : Type} : Lit × DataW H → Nat
  | (.string bytes, d) => bytes.length + uptoBulk d + 1
  | (_, d) => uptoBulk d + 1
 end
def uptoSmall : (H : Type) → List (DataW H) → Bool := fun _ ds => decide (uptoBulkAll ds ≤ 1048576)
def OpenSpec.upto (s : _root_.Go.ChangeSpec) : _root_.Go.OpenSpec := { _root_.Go.OpenSpec.ofChange s with cond := some uptoSmall }

/-- 'odographlaw29.MakeAdmits', WHERE WHAT IT READS IS OF BULK AT MOST 1048576: true; the input reads as it did. -/
def makeAdmitsUptoRow : OpenClaim := { program := "ytnnjmbblpmghfaagreat", sum := "505297f90d135bfdffd382828527d5ceead998d19c1d6e3f681b18b681397594", func := "odograph/odographlaw29.MakeAdmits", spec := "makeAdmits", unfollowed := true, recurses := true, plainKeys := false, apart := false, narrowed := true }
def MakeAdmitsUptoSaid : Prop := makeAdmitsUptoRow.holds Tryz.pinned (OpenSpec.upto makeAdmitsSpec)

/-- 'odographlaw28.AdmitChecks', WHERE WHAT IT READS IS OF BULK AT MOST 1048576: true; the input reads as it did. -/
def admitChecksUptoRow : OpenClaim := { program := "ytnnjmbblpmghfaagreat", sum := "505297f90d135bfdffd382828527d5ceead998d19c1d6e3f681b18b681397594", func := "odograph/odographlaw28.AdmitChecks", spec := "admitChecks", unfollowed := true, recurses := true, plainKeys := false, apart := false, narrowed := true }
def AdmitChecksUptoSaid : Prop := admitChecksUptoRow.holds Tryz.pinned (OpenSpec.upto admitChecksSpec)

/-- 'odographtop.WholeWheels', WHERE WHAT IT READS IS OF BULK AT MOST 1048576: true; the input reads as it did. -/
def wholeWheelsUptoRow : OpenClaim := { program := "ytnnjmbblpmghfaagreat", sum := "505297f90d135bfdffd382828527d5ceead998d19c1d6e3f681b18b681397594", func := "odograph/odographtop.WholeWheels", spec := "wholeWheels", unfollowed := true, recurses := true, plainKeys := false, apart := false, narrowed := true }
def WholeWheelsUptoSaid : Prop := wholeWheelsUptoRow.holds Tryz.pinned (OpenSpec.upto wholeWheelsSpec)

/-- 'odographtop.WholeResets', WHERE WHAT IT READS IS OF BULK AT MOST 1048576: true; the input reads as it did. -/
def wholeResetsUptoRow : OpenClaim := { program := "ytnnjmbblpmghfaagreat", sum := "505297f90d135bfdffd382828527d5ceead998d19c1d6e3f681b18b681397594", func := "odograph/odographtop.WholeResets", spec := "wholeResets", unfollowed := true, recurses := true, plainKeys := false, apart := false, narrowed := true }
def WholeResetsUptoSaid : Prop := wholeResetsUptoRow.holds Tryz.pinned (OpenSpec.upto wholeResetsSpec)

/-- 'odographtop.WholeGrowth', WHERE WHAT IT READS IS OF BULK AT MOST 1048576: true; the input reads as it did. -/
def wholeGrowthUptoRow : OpenClaim := { program := "ytnnjmbblpmghfaagreat", sum := "505297f90d135bfdffd382828527d5ceead998d19c1d6e3f681b18b681397594", func := "odograph/odographtop.WholeGrowth", spec := "wholeGrowth", unfollowed := true, recurses := true, plainKeys := false, apart := false, narrowed := true }
def WholeGrowthUptoSaid : Prop := wholeGrowthUptoRow.holds Tryz.pinned (OpenSpec.upto wholeGrowthSpec)

/-- 'odographlaw28.AdmitTrue', WHERE WHAT IT READS IS OF BULK AT MOST 1048576: true; the input reads as it did. -/
def admitTrueUptoRow : OpenClaim := { program := "ytnnjmbblpmghfaagreat", sum := "505297f90d135bfdffd382828527d5ceead998d19c1d6e3f681b18b681397594", func := "odograph/odographlaw28.AdmitTrue", spec := "admitTrue", unfollowed := true, recurses := true, plainKeys := false, apart := false, narrowed := true }
def AdmitTrueUptoSaid : Prop := admitTrueUptoRow.holds Tryz.pinned (OpenSpec.upto admitTrueSpec)

/-- 'odographlaw30.JudgeFinds', WHERE WHAT IT READS IS OF BULK AT MOST 1048576: true; the input reads as it did. -/
def judgeFindsUptoRow : OpenClaim := { program := "ytnnjmbblpmghfaagreat", sum := "505297f90d135bfdffd382828527d5ceead998d19c1d6e3f681b18b681397594", func := "odograph/odographlaw30.JudgeFinds", spec := "judgeFinds", unfollowed := true, recurses := true, plainKeys := false, apart := false, narrowed := true }
def JudgeFindsUptoSaid : Prop := judgeFindsUptoRow.holds Tryz.pinned (OpenSpec.upto judgeFindsSpec)

/-- 'odographtop.WholeOnward', WHERE WHAT IT READS IS OF BULK AT MOST 1048576: true; the input reads as it did. -/
def wholeOnwardUptoRow : OpenClaim := { program := "ytnnjmbblpmghfaagreat", sum := "505297f90d135bfdffd382828527d5ceead998d19c1d6e3f681b18b681397594", func := "odograph/odographtop.WholeOnward", spec := "wholeOnward", unfollowed := true, recurses := true, plainKeys := false, apart := false, narrowed := true }
def WholeOnwardUptoSaid : Prop := wholeOnwardUptoRow.holds Tryz.pinned (OpenSpec.upto wholeOnwardSpec)

/-- 'odographtop.WholeSome', WHERE WHAT IT READS IS OF BULK AT MOST 1048576: true; the input reads as it did. -/
def wholeSomeUptoRow : OpenClaim := { program := "ytnnjmbblpmghfaagreat", sum := "505297f90d135bfdffd382828527d5ceead998d19c1d6e3f681b18b681397594", func := "odograph/odographtop.WholeSome", spec := "wholeSome", unfollowed := true, recurses := true, plainKeys := false, apart := false, narrowed := true }
def WholeSomeUptoSaid : Prop := wholeSomeUptoRow.holds Tryz.pinned (OpenSpec.upto wholeSomeSpec)

/-- 'odographtop.WholeMade', WHERE WHAT IT READS IS OF BULK AT MOST 1048576: true; the input reads as it did. -/
def wholeMadeUptoRow : OpenClaim := { program := "ytnnjmbblpmghfaagreat", sum := "505297f90d135bfdffd382828527d5ceead998d19c1d6e3f681b18b681397594", func := "odograph/odographtop.WholeMade", spec := "wholeMade", unfollowed := true, recurses := true, plainKeys := false, apart := false, narrowed := true }
def WholeMadeUptoSaid : Prop := wholeMadeUptoRow.holds Tryz.pinned (OpenSpec.upto wholeMadeSpec)

end Rows
end Go.Proofs.YtnnjmbblpmghfaaGreat
