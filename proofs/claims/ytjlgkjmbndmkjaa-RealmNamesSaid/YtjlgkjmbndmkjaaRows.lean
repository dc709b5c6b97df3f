/-
  No cell of these rows narrows 'for every input' (looked for: loops, veiled, ifaces, maps, wideKeys, modest, calm, conditions, laid).
  DERIVED. THE GIVEN ROWS OF THIS SEAT. 10 by the template 'for every input the law returns true; each argument reads behind the call as it read before'; 0 by the template 'total and deterministic' (their statements: YtjlgkjmbndmkjaaTotals.lean).
  GIVEN WITH THE SEED: the statements are not yours to turn. If you find one false, say at which input.
  Laid BY PROGRAM, IN A SANDBOX (cutbox-rows.mjs): the forced cells as the released guide's own fill.sh prints them over the translation 02075f33bf28a312… (all of the seat's roots in one cut). By AI agents, Wed Nov 11 2026. No macro, syntax, notation, axiom, sorry.
-/
import Derived.Test.YtjlgkjmbndmkjaaChecked
import GoSem.Claim
import GoSem.ClaimJoined
import GoSem.ClaimMapViews
import Derived.JoinedTies
import Derived.KernelRfl
namespace Go.Proofs.Ytjlgkjmbndmkjaa
/- THE CELL 'sum', in the pinned program and in every row, IS THE sha256 OF THE DUMP (.gsa) THAT YtjlgkjmbndmkjaaProg.lean LOADS. Nothing in Lean hashes anything: it is a label: what it is worth is what the hold of that sum in a sandbox is worth. -/
noncomputable def Try.pinned : Pinned := { name := "ytjlgkjmbndmkjaa", sum := "02075f33bf28a31282e268249e7d2b99e034f8f74122a46118415892ebd12d78", checked := Try.checked }
namespace Rows
def none {H : Type} : Left H := { results := [], args := [] }

/-- 'bailifflaw25.WitnessTwos': WHATEVER THE INPUT: true; the input reads as it did. -/
def witnessTwosSpec : ChangeSpec := { name := "witnessTwos", fn := fun _ => fun
  | [d1, d2, d3] => { results := [.lit (.bool true)], args := [d1, d2, d3] }
  | _ => none }
def witnessTwosRow : OpenClaim := { program := "ytjlgkjmbndmkjaa", sum := "02075f33bf28a31282e268249e7d2b99e034f8f74122a46118415892ebd12d78", func := "bailiff/bailifflaw25.WitnessTwos", spec := "witnessTwos", plainKeys := false, apart := false }
def WitnessTwosSaid : Prop := witnessTwosRow.holds Try.pinned (OpenSpec.ofChange witnessTwosSpec)

/-- ITS FALSE NEIGHBOUR: 'it returns false'. Refute it at one input. -/
def witnessTwosWrong : ChangeSpec := { name := "witnessTwos", fn := fun _ => fun
  | [d1, d2, d3] => { results := [.lit (.bool false)], args := [d1, d2, d3] }
  | _ => none }
def WitnessTwosWrongFalsely : Prop := witnessTwosRow.holds Try.pinned (OpenSpec.ofChange witnessTwosWrong)

/-- 'bailifflaw24.RealmCalled': WHATEVER THE INPUT: true; the input reads as it did. -/
def realmCalledSpec : ChangeSpec := { name := "realmCalled", fn := fun _ => fun
  | [d1, d2] => { results := [.lit (.bool true)], args := [d1, d2] }
  | _ => none }
def realmCalledRow : OpenClaim := { program := "ytjlgkjmbndmkjaa", sum := "02075f33bf28a31282e268249e7d2b99e034f8f74122a46118415892ebd12d78", func := "bailiff/bailifflaw24.RealmCalled", spec := "realmCalled", inPlace := ["math.Float64frombits"], plainKeys := false, apart := false }
def RealmCalledSaid : Prop := realmCalledRow.holds Try.pinned (OpenSpec.ofChange realmCalledSpec)

/-- ITS FALSE NEIGHBOUR: 'it returns false'. Refute it at one input. -/
def realmCalledWrong : ChangeSpec := { name := "realmCalled", fn := fun _ => fun
  | [d1, d2] => { results := [.lit (.bool false)], args := [d1, d2] }
  | _ => none }
def RealmCalledWrongFalsely : Prop := realmCalledRow.holds Try.pinned (OpenSpec.ofChange realmCalledWrong)

/-- 'bailifflaw24.RealmFirst': WHATEVER THE INPUT: true; the input reads as it did. -/
def realmFirstSpec : ChangeSpec := { name := "realmFirst", fn := fun _ => fun
  | [d] => { results := [.lit (.bool true)], args := [d] }
  | _ => none }
def realmFirstRow : OpenClaim := { program := "ytjlgkjmbndmkjaa", sum := "02075f33bf28a31282e268249e7d2b99e034f8f74122a46118415892ebd12d78", func := "bailiff/bailifflaw24.RealmFirst", spec := "realmFirst", plainKeys := false, apart := false }
def RealmFirstSaid : Prop := realmFirstRow.holds Try.pinned (OpenSpec.ofChange realmFirstSpec)

/-- ITS FALSE NEIGHBOUR: 'it returns false'. Refute it at one input. -/
def realmFirstWrong : ChangeSpec := { name := "realmFirst", fn := fun _ => fun
  | [d] => { results := [.lit (.bool false)], args := [d] }
  | _ => none }
def RealmFirstWrongFalsely : Prop := realmFirstRow.holds Try.pinned (OpenSpec.ofChange realmFirstWrong)

/-- 'bailifflaw09.DescTwos': WHATEVER THE INPUT: true; the input reads as it did. -/
def descTwosSpec : ChangeSpec := { name := "descTwos", fn := fun _ => fun
  | [d1, d2, d3, d4] => { results := [.lit (.bool true)], args := [d1, d2, d3, d4] }
  | _ => none }
def descTwosRow : OpenClaim := { program := "ytjlgkjmbndmkjaa", sum := "02075f33bf28a31282e268249e7d2b99e034f8f74122a46118415892ebd12d78", func := "bailiff/bailifflaw09.DescTwos", spec := "descTwos", inPlace := ["math.archTrunc", "math.Float64bits", "math.Float64frombits"], plainKeys := false, apart := false }
def DescTwosSaid : Prop := descTwosRow.holds Try.pinned (OpenSpec.ofChange descTwosSpec)

/-- ITS FALSE NEIGHBOUR: 'it returns false'. Refute it at one input. -/
def descTwosWrong : ChangeSpec := { name := "descTwos", fn := fun _ => fun
  | [d1, d2, d3, d4] => { results := [.lit (.bool false)], args := [d1, d2, d3, d4] }
  | _ => none }
def DescTwosWrongFalsely : Prop := descTwosRow.holds Try.pinned (OpenSpec.ofChange descTwosWrong)

/-- 'bailifflaw09.DescStays': WHATEVER THE INPUT: true; the input reads as it did. -/
def descStaysSpec : ChangeSpec := { name := "descStays", fn := fun _ => fun
  | [d1, d2, d3, d4] => { results := [.lit (.bool true)], args := [d1, d2, d3, d4] }
  | _ => none }
def descStaysRow : OpenClaim := { program := "ytjlgkjmbndmkjaa", sum := "02075f33bf28a31282e268249e7d2b99e034f8f74122a46118415892ebd12d78", func := "bailiff/bailifflaw09.DescStays", spec := "descStays", inPlace := ["math.archTrunc", "math.Float64bits", "math.Float64frombits"], plainKeys := false, apart := false }
def DescStaysSaid : Prop := descStaysRow.holds Try.pinned (OpenSpec.ofChange descStaysSpec)

/-- ITS FALSE NEIGHBOUR: 'it returns false'. Refute it at one input. -/
def descStaysWrong : ChangeSpec := { name := "descStays", fn := fun _ => fun
  | [d1, d2, d3, d4] => { results := [.lit (.bool false)], args := [d1, d2, d3, d4] }
  | _ => none }
def DescStaysWrongFalsely : Prop := descStaysRow.holds Try.pinned (OpenSpec.ofChange descStaysWrong)

/-- 'bailifflaw25.WitnessFirst': WHATEVER THE INPUT: true; the input reads as it did. -/
def witnessFirstSpec : ChangeSpec := { name := "witnessFirst", fn := fun _ => fun
  | [d1, d2] => { results := [.lit (.bool true)], args := [d1, d2] }
  | _ => none }
def witnessFirstRow : OpenClaim := { program := "ytjlgkjmbndmkjaa", sum := "02075f33bf28a31282e268249e7d2b99e034f8f74122a46118415892ebd12d78", func := "bailiff/bailifflaw25.WitnessFirst", spec := "witnessFirst", inPlace := ["math.archTrunc", "math.Float64bits", "math.Float64frombits"], plainKeys := false, apart := false }
def WitnessFirstSaid : Prop := witnessFirstRow.holds Try.pinned (OpenSpec.ofChange witnessFirstSpec)

/-- ITS FALSE NEIGHBOUR: 'it returns false'. Refute it at one input. -/
def witnessFirstWrong : ChangeSpec := { name := "witnessFirst", fn := fun _ => fun
  | [d1, d2] => { results := [.lit (.bool false)], args := [d1, d2] }
  | _ => none }
def WitnessFirstWrongFalsely : Prop := witnessFirstRow.holds Try.pinned (OpenSpec.ofChange witnessFirstWrong)

/-- 'bailifflaw25.WitnessHolds': WHATEVER THE INPUT: true; the input reads as it did. -/
def witnessHoldsSpec : ChangeSpec := { name := "witnessHolds", fn := fun _ => fun
  | [d] => { results := [.lit (.bool true)], args := [d] }
  | _ => none }
def witnessHoldsRow : OpenClaim := { program := "ytjlgkjmbndmkjaa", sum := "02075f33bf28a31282e268249e7d2b99e034f8f74122a46118415892ebd12d78", func := "bailiff/bailifflaw25.WitnessHolds", spec := "witnessHolds", inPlace := ["math.archTrunc", "math.Float64bits", "math.Float64frombits"], plainKeys := false, apart := false }
def WitnessHoldsSaid : Prop := witnessHoldsRow.holds Try.pinned (OpenSpec.ofChange witnessHoldsSpec)

/-- ITS FALSE NEIGHBOUR: 'it returns false'. Refute it at one input. -/
def witnessHoldsWrong : ChangeSpec := { name := "witnessHolds", fn := fun _ => fun
  | [d] => { results := [.lit (.bool false)], args := [d] }
  | _ => none }
def WitnessHoldsWrongFalsely : Prop := witnessHoldsRow.holds Try.pinned (OpenSpec.ofChange witnessHoldsWrong)

/-- 'bailifflaw25.WitnessBegins': WHATEVER THE INPUT: true; the input reads as it did. -/
def witnessBeginsSpec : ChangeSpec := { name := "witnessBegins", fn := fun _ => fun
  | [d1, d2] => { results := [.lit (.bool true)], args := [d1, d2] }
  | _ => none }
def witnessBeginsRow : OpenClaim := { program := "ytjlgkjmbndmkjaa", sum := "02075f33bf28a31282e268249e7d2b99e034f8f74122a46118415892ebd12d78", func := "bailiff/bailifflaw25.WitnessBegins", spec := "witnessBegins", inPlace := ["math.archTrunc", "math.Float64bits", "math.Float64frombits"], plainKeys := false, apart := false }
def WitnessBeginsSaid : Prop := witnessBeginsRow.holds Try.pinned (OpenSpec.ofChange witnessBeginsSpec)

/-- ITS FALSE NEIGHBOUR: 'it returns false'. Refute it at one input. -/
def witnessBeginsWrong : ChangeSpec := { name := "witnessBegins", fn := fun _ => fun
  | [d1, d2] => { results := [.lit (.bool false)], args := [d1, d2] }
  | _ => none }
def WitnessBeginsWrongFalsely : Prop := witnessBeginsRow.holds Try.pinned (OpenSpec.ofChange witnessBeginsWrong)

/-- 'bailifflaw11.HeapChanges': WHATEVER THE INPUT: true; the input reads as it did. -/
def heapChangesSpec : ChangeSpec := { name := "heapChanges", fn := fun _ => fun
  | [d1, d2, d3] => { results := [.lit (.bool true)], args := [d1, d2, d3] }
  | _ => none }
def heapChangesRow : OpenClaim := { program := "ytjlgkjmbndmkjaa", sum := "02075f33bf28a31282e268249e7d2b99e034f8f74122a46118415892ebd12d78", func := "bailiff/bailifflaw11.HeapChanges", spec := "heapChanges", inPlace := ["math.archTrunc", "math.Float64bits", "math.Float64frombits"], unfollowed := true, recurses := true, plainKeys := false, apart := false }
def HeapChangesSaid : Prop := heapChangesRow.holds Try.pinned (OpenSpec.ofChange heapChangesSpec)

/-- ITS FALSE NEIGHBOUR: 'it returns false'. Refute it at one input. -/
def heapChangesWrong : ChangeSpec := { name := "heapChanges", fn := fun _ => fun
  | [d1, d2, d3] => { results := [.lit (.bool false)], args := [d1, d2, d3] }
  | _ => none }
def HeapChangesWrongFalsely : Prop := heapChangesRow.holds Try.pinned (OpenSpec.ofChange heapChangesWrong)

/-- 'bailifflaw24.RealmNames': WHATEVER THE INPUT: true; the input reads as it did. -/
def realmNamesSpec : ChangeSpec := { name := "realmNames", fn := fun _ => fun
  | [] => { results := [.lit (.bool true)], args := [] }
  | _ => none }
def realmNamesRow : OpenClaim := { program := "ytjlgkjmbndmkjaa", sum := "02075f33bf28a31282e268249e7d2b99e034f8f74122a46118415892ebd12d78", func := "bailiff/bailifflaw24.RealmNames", spec := "realmNames", inPlace := ["math.archTrunc", "math.Float64bits", "math.Float64frombits"], plainKeys := false, apart := false }
def RealmNamesSaid : Prop := realmNamesRow.holds Try.pinned (OpenSpec.ofChange realmNamesSpec)

/-- ITS FALSE NEIGHBOUR: 'it returns false'. Refute it at one input. -/
def realmNamesWrong : ChangeSpec := { name := "realmNames", fn := fun _ => fun
  | [] => { results := [.lit (.bool false)], args := [] }
  | _ => none }
def RealmNamesWrongFalsely : Prop := realmNamesRow.holds Try.pinned (OpenSpec.ofChange realmNamesWrong)

/- THE SECOND FORM. 'bulk': how many values and letters a reading holds, each counted each time it is reached (what is shared counts as often as it is met; a slice's spare places count too). A statement '..UptoSaid' is the law's where the arguments, and the package variables that the reading takes, are together of bulk at most 1048576: NARROWER than '..Said'. Prove '..Said' where nothing that the law and all that it calls make is longer than what came in: it says more and counts as full. Else prove '..UptoSaid'. A law counts once. -/
mutual
def uptoBulk {H : Type} : DataW H → Nat
  | .lit (.string bytes) => bytes.length + 1
  | .lit _ => 1
  | .nil => 1
  | .ptr d => uptoBulk d + 1
  | .slice elems spare => uptoBulkAll elems + uptoBulkAll spare + 1
  | .agg parts => uptoBulkAll parts + 1
  | .iface _ d => uptoBulk d + 1
  | .map entries => uptoBulkEntries entries + 1
  | .held _ => 1
def uptoBulkAll {H : Type} : List (DataW H) → Nat
  | [] => 0
  | d :: r => uptoBulk d + uptoBulkAll r
def uptoBulkEntries {H : Type} : List (Lit × DataW H) → Nat
  | [] => 0
  | x :: r => uptoBulkEntry x + uptoBulkEntries r
def uptoBulkEntry {H : Type} : Lit × DataW H → Nat
  | (.string bytes, d) => bytes.length + uptoBulk d + 1
  | (_, d) => uptoBulk d + 1
 end
def uptoSmall : (H : Type) → List (DataW H) → Bool := fun _ ds => decide (uptoBulkAll ds ≤ 1048576)
def OpenSpec.upto (s : _root_.Go.ChangeSpec) : _root_.Go.OpenSpec := { _root_.Go.OpenSpec.ofChange s with cond := some uptoSmall }

/-- 'bailifflaw25.WitnessTwos', WHERE WHAT IT READS IS OF BULK AT MOST 1048576: true; the input reads as it did. -/
def witnessTwosUptoRow : OpenClaim := { program := "ytjlgkjmbndmkjaa", sum := "02075f33bf28a31282e268249e7d2b99e034f8f74122a46118415892ebd12d78", func := "bailiff/bailifflaw25.WitnessTwos", spec := "witnessTwos", plainKeys := false, apart := false, narrowed := true }
def WitnessTwosUptoSaid : Prop := witnessTwosUptoRow.holds Try.pinned (OpenSpec.upto witnessTwosSpec)

/-- 'bailifflaw24.RealmCalled', WHERE WHAT IT READS IS OF BULK AT MOST 1048576: true; the input reads as it did. -/
def realmCalledUptoRow : OpenClaim := { program := "ytjlgkjmbndmkjaa", sum := "02075f33bf28a31282e268249e7d2b99e034f8f74122a46118415892ebd12d78", func := "bailiff/bailifflaw24.RealmCalled", spec := "realmCalled", inPlace := ["math.Float64frombits"], plainKeys := false, apart := false, narrowed := true }
def RealmCalledUptoSaid : Prop := realmCalledUptoRow.holds Try.pinned (OpenSpec.upto realmCalledSpec)

/-- 'bailifflaw24.RealmFirst', WHERE WHAT IT READS IS OF BULK AT MOST 1048576: true; the input reads as it did. -/
def realmFirstUptoRow : OpenClaim := { program := "ytjlgkjmbndmkjaa", sum := "02075f33bf28a31282e268249e7d2b99e034f8f74122a46118415892ebd12d78", func := "bailiff/bailifflaw24.RealmFirst", spec := "realmFirst", plainKeys := false, apart := false, narrowed := true }
def RealmFirstUptoSaid : Prop := realmFirstUptoRow.holds Try.pinned (OpenSpec.upto realmFirstSpec)

/-- 'bailifflaw09.DescTwos', WHERE WHAT IT READS IS OF BULK AT MOST 1048576: true; the input reads as it did. -/
def descTwosUptoRow : OpenClaim := { program := "ytjlgkjmbndmkjaa", sum := "02075f33bf28a31282e268249e7d2b99e034f8f74122a46118415892ebd12d78", func := "bailiff/bailifflaw09.DescTwos", spec := "descTwos", inPlace := ["math.archTrunc", "math.Float64bits", "math.Float64frombits"], plainKeys := false, apart := false, narrowed := true }
def DescTwosUptoSaid : Prop := descTwosUptoRow.holds Try.pinned (OpenSpec.upto descTwosSpec)

/-- 'bailifflaw09.DescStays', WHERE WHAT IT READS IS OF BULK AT MOST 1048576: true; the input reads as it did. -/
def descStaysUptoRow : OpenClaim := { program := "ytjlgkjmbndmkjaa", sum := "02075f33bf28a31282e268249e7d2b99e034f8f74122a46118415892ebd12d78", func := "bailiff/bailifflaw09.DescStays", spec := "descStays", inPlace := ["math.archTrunc", "math.Float64bits", "math.Float64frombits"], plainKeys := false, apart := false, narrowed := true }
def DescStaysUptoSaid : Prop := descStaysUptoRow.holds Try.pinned (OpenSpec.upto descStaysSpec)

/-- 'bailifflaw25.WitnessFirst', WHERE WHAT IT READS IS OF BULK AT MOST 1048576: true; the input reads as it did. -/
def witnessFirstUptoRow : OpenClaim := { program := "ytjlgkjmbndmkjaa", sum := "02075f33bf28a31282e268249e7d2b99e034f8f74122a46118415892ebd12d78", func := "bailiff/bailifflaw25.WitnessFirst", spec := "witnessFirst", inPlace := ["math.archTrunc", "math.Float64bits", "math.Float64frombits"], plainKeys := false, apart := false, narrowed := true }
def WitnessFirstUptoSaid : Prop := witnessFirstUptoRow.holds Try.pinned (OpenSpec.upto witnessFirstSpec)

/-- 'bailifflaw25.WitnessHolds', WHERE WHAT IT READS IS OF BULK AT MOST 1048576: true; the input reads as it did. -/
def witnessHoldsUptoRow : OpenClaim := { program := "ytjlgkjmbndmkjaa", sum := "02075f33bf28a31282e268249e7d2b99e034f8f74122a46118415892ebd12d78", func := "bailiff/bailifflaw25.WitnessHolds", spec := "witnessHolds", inPlace := ["math.archTrunc", "math.Float64bits", "math.Float64frombits"], plainKeys := false, apart := false, narrowed := true }
def WitnessHoldsUptoSaid : Prop := witnessHoldsUptoRow.holds Try.pinned (OpenSpec.upto witnessHoldsSpec)

/-- 'bailifflaw25.WitnessBegins', WHERE WHAT IT READS IS OF BULK AT MOST 1048576: true; the input reads as it did. -/
def witnessBeginsUptoRow : OpenClaim := { program := "ytjlgkjmbndmkjaa", sum := "02075f33bf28a31282e268249e7d2b99e034f8f74122a46118415892ebd12d78", func := "bailiff/bailifflaw25.WitnessBegins", spec := "witnessBegins", inPlace := ["math.archTrunc", "math.Float64bits", "math.Float64frombits"], plainKeys := false, apart := false, narrowed := true }
def WitnessBeginsUptoSaid : Prop := witnessBeginsUptoRow.holds Try.pinned (OpenSpec.upto witnessBeginsSpec)

/-- 'bailifflaw11.HeapChanges', WHERE WHAT IT READS IS OF BULK AT MOST 1048576: true; the input reads as it did. -/
def heapChangesUptoRow : OpenClaim := { program := "ytjlgkjmbndmkjaa", sum := "02075f33bf28a31282e268249e7d2b99e034f8f74122a46118415892ebd12d78", func := "bailiff/bailifflaw11.HeapChanges", spec := "heapChanges", inPlace := ["math.archTrunc", "math.Float64bits", "math.Float64frombits"], unfollowed := true, recurses := true, plainKeys := false, apart := false, narrowed := true }
def HeapChangesUptoSaid : Prop := heapChangesUptoRow.holds Try.pinned (OpenSpec.upto heapChangesSpec)

/-- 'bailifflaw24.RealmNames', WHERE WHAT IT READS IS OF BULK AT MOST 1048576: true; the input reads as it did. -/
def realmNamesUptoRow : OpenClaim := { program := "ytjlgkjmbndmkjaa", sum := "02075f33bf28a31282e268249e7d2b99e034f8f74122a46118415892ebd12d78", func := "bailiff/bailifflaw24.RealmNames", spec := "realmNames", inPlace := ["math.archTrunc", "math.Float64bits", "math.Float64frombits"], plainKeys := false, apart := false, narrowed := true }
def RealmNamesUptoSaid : Prop := realmNamesUptoRow.holds Try.pinned (OpenSpec.upto realmNamesSpec)

end Rows
end Go.Proofs.Ytjlgkjmbndmkjaa
