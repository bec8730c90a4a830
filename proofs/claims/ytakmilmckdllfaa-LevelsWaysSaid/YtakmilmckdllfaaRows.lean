/-
  NARROWER THAN 'FOR EVERY INPUT', by the rows' own cells (each row's printed sentence says how): AdmitTells: loops · LevelsTells: loops · LevelsWays: loops · CostTells: loops · CostParts: loops · OrderTells: loops · OrderLine: loops · OrderInner: loops.
  DERIVED. THE GIVEN ROWS OF THIS SEAT. 10 by the template 'for every input the law returns true; each argument reads behind the call as it read before'; 0 by the template 'total and deterministic' (their statements: YtakmilmckdllfaaTotals.lean).
  GIVEN WITH THE SEED: the statements are not yours to turn. If you find one false, say at which input.
  Laid BY PROGRAM, IN A SANDBOX (cutbox-rows.mjs): the forced cells as the released guide's own fill.sh prints them over the translation b09288f4443b1dc7… (all of the seat's roots in one cut). By AI agents, Wed Nov 11 2026. No macro, syntax, notation, axiom, sorry.
-/
import Derived.Test.YtakmilmckdllfaaChecked
import GoSem.Claim
import GoSem.ClaimJoined
import GoSem.ClaimMapViews
import Derived.JoinedTies
import Derived.KernelRfl
namespace Go.Proofs.Ytakmilmckdllfaa
/- THE CELL 'sum', in the pinned program and in every row, IS THE sha256 OF THE DUMP (.gsa) THAT YtakmilmckdllfaaProg.lean LOADS. Nothing in Lean hashes anything: it is a label: what it is worth is what the hold of that sum in a sandbox is worth. -/
noncomputable def Try.pinned : Pinned := { name := "ytakmilmckdllfaa", sum := "b09288f4443b1dc70dd995d48831c4191225e8ff9e766f6f469bf1ab34a5a0e5", checked := Try.checked }
namespace Rows
def none {H : Type} : Left H := { results := [], args := [] }

/-- 'watersmeetlaw04.LogicTells': WHATEVER THE INPUT: true; the input reads as it did. -/
def logicTellsSpec : ChangeSpec := { name := "logicTells", fn := fun _ => fun
  | [d1, d2] => { results := [.lit (.bool true)], args := [d1, d2] }
  | _ => none }
def logicTellsRow : OpenClaim := { program := "ytakmilmckdllfaa", sum := "b09288f4443b1dc70dd995d48831c4191225e8ff9e766f6f469bf1ab34a5a0e5", func := "watersmeet/watersmeetlaw04.LogicTells", spec := "logicTells", unfollowed := true, recurses := true, apart := false }
def LogicTellsSaid : Prop := logicTellsRow.holds Try.pinned (OpenSpec.ofChange logicTellsSpec)

/-- ITS FALSE NEIGHBOUR: 'it returns false'. Refute it at one input. -/
def logicTellsWrong : ChangeSpec := { name := "logicTells", fn := fun _ => fun
  | [d1, d2] => { results := [.lit (.bool false)], args := [d1, d2] }
  | _ => none }
def LogicTellsWrongFalsely : Prop := logicTellsRow.holds Try.pinned (OpenSpec.ofChange logicTellsWrong)

/-- 'watersmeetlaw04.LogicLaws': WHATEVER THE INPUT: true; the input reads as it did. -/
def logicLawsSpec : ChangeSpec := { name := "logicLaws", fn := fun _ => fun
  | [d1, d2] => { results := [.lit (.bool true)], args := [d1, d2] }
  | _ => none }
def logicLawsRow : OpenClaim := { program := "ytakmilmckdllfaa", sum := "b09288f4443b1dc70dd995d48831c4191225e8ff9e766f6f469bf1ab34a5a0e5", func := "watersmeet/watersmeetlaw04.LogicLaws", spec := "logicLaws", unfollowed := true, recurses := true, apart := false }
def LogicLawsSaid : Prop := logicLawsRow.holds Try.pinned (OpenSpec.ofChange logicLawsSpec)

/-- ITS FALSE NEIGHBOUR: 'it returns false'. Refute it at one input. -/
def logicLawsWrong : ChangeSpec := { name := "logicLaws", fn := fun _ => fun
  | [d1, d2] => { results := [.lit (.bool false)], args := [d1, d2] }
  | _ => none }
def LogicLawsWrongFalsely : Prop := logicLawsRow.holds Try.pinned (OpenSpec.ofChange logicLawsWrong)

/-- 'watersmeetlaw23.AdmitTells': WHATEVER THE INPUT: true; the input reads as it did. -/
def admitTellsSpec : ChangeSpec := { name := "admitTells", fn := fun _ => fun
  | [d1, d2, d3] => { results := [.lit (.bool true)], args := [d1, d2, d3] }
  | _ => none }
def admitTellsRow : OpenClaim := { program := "ytakmilmckdllfaa", sum := "b09288f4443b1dc70dd995d48831c4191225e8ff9e766f6f469bf1ab34a5a0e5", func := "watersmeet/watersmeetlaw23.AdmitTells", spec := "admitTells", unfollowed := true, recurses := true, loops := true, apart := false }
def AdmitTellsSaid : Prop := admitTellsRow.holds Try.pinned (OpenSpec.ofChange admitTellsSpec)

/-- ITS FALSE NEIGHBOUR: 'it returns false'. Refute it at one input. -/
def admitTellsWrong : ChangeSpec := { name := "admitTells", fn := fun _ => fun
  | [d1, d2, d3] => { results := [.lit (.bool false)], args := [d1, d2, d3] }
  | _ => none }
def AdmitTellsWrongFalsely : Prop := admitTellsRow.holds Try.pinned (OpenSpec.ofChange admitTellsWrong)

/-- 'watersmeetlaw18.LevelsTells': WHATEVER THE INPUT: true; the input reads as it did. -/
def levelsTellsSpec : ChangeSpec := { name := "levelsTells", fn := fun _ => fun
  | [d1, d2] => { results := [.lit (.bool true)], args := [d1, d2] }
  | _ => none }
def levelsTellsRow : OpenClaim := { program := "ytakmilmckdllfaa", sum := "b09288f4443b1dc70dd995d48831c4191225e8ff9e766f6f469bf1ab34a5a0e5", func := "watersmeet/watersmeetlaw18.LevelsTells", spec := "levelsTells", unfollowed := true, recurses := true, loops := true, apart := false }
def LevelsTellsSaid : Prop := levelsTellsRow.holds Try.pinned (OpenSpec.ofChange levelsTellsSpec)

/-- ITS FALSE NEIGHBOUR: 'it returns false'. Refute it at one input. -/
def levelsTellsWrong : ChangeSpec := { name := "levelsTells", fn := fun _ => fun
  | [d1, d2] => { results := [.lit (.bool false)], args := [d1, d2] }
  | _ => none }
def LevelsTellsWrongFalsely : Prop := levelsTellsRow.holds Try.pinned (OpenSpec.ofChange levelsTellsWrong)

/-- 'watersmeetlaw18.LevelsWays': WHATEVER THE INPUT: true; the input reads as it did. -/
def levelsWaysSpec : ChangeSpec := { name := "levelsWays", fn := fun _ => fun
  | [d] => { results := [.lit (.bool true)], args := [d] }
  | _ => none }
def levelsWaysRow : OpenClaim := { program := "ytakmilmckdllfaa", sum := "b09288f4443b1dc70dd995d48831c4191225e8ff9e766f6f469bf1ab34a5a0e5", func := "watersmeet/watersmeetlaw18.LevelsWays", spec := "levelsWays", unfollowed := true, recurses := true, loops := true, apart := false }
def LevelsWaysSaid : Prop := levelsWaysRow.holds Try.pinned (OpenSpec.ofChange levelsWaysSpec)

/-- ITS FALSE NEIGHBOUR: 'it returns false'. Refute it at one input. -/
def levelsWaysWrong : ChangeSpec := { name := "levelsWays", fn := fun _ => fun
  | [d] => { results := [.lit (.bool false)], args := [d] }
  | _ => none }
def LevelsWaysWrongFalsely : Prop := levelsWaysRow.holds Try.pinned (OpenSpec.ofChange levelsWaysWrong)

/-- 'watersmeetlaw28.CostTells': WHATEVER THE INPUT: true; the input reads as it did. -/
def costTellsSpec : ChangeSpec := { name := "costTells", fn := fun _ => fun
  | [d1, d2, d3] => { results := [.lit (.bool true)], args := [d1, d2, d3] }
  | _ => none }
def costTellsRow : OpenClaim := { program := "ytakmilmckdllfaa", sum := "b09288f4443b1dc70dd995d48831c4191225e8ff9e766f6f469bf1ab34a5a0e5", func := "watersmeet/watersmeetlaw28.CostTells", spec := "costTells", unfollowed := true, recurses := true, loops := true, apart := false }
def CostTellsSaid : Prop := costTellsRow.holds Try.pinned (OpenSpec.ofChange costTellsSpec)

/-- ITS FALSE NEIGHBOUR: 'it returns false'. Refute it at one input. -/
def costTellsWrong : ChangeSpec := { name := "costTells", fn := fun _ => fun
  | [d1, d2, d3] => { results := [.lit (.bool false)], args := [d1, d2, d3] }
  | _ => none }
def CostTellsWrongFalsely : Prop := costTellsRow.holds Try.pinned (OpenSpec.ofChange costTellsWrong)

/-- 'watersmeetlaw28.CostParts': WHATEVER THE INPUT: true; the input reads as it did. -/
def costPartsSpec : ChangeSpec := { name := "costParts", fn := fun _ => fun
  | [d1, d2, d3] => { results := [.lit (.bool true)], args := [d1, d2, d3] }
  | _ => none }
def costPartsRow : OpenClaim := { program := "ytakmilmckdllfaa", sum := "b09288f4443b1dc70dd995d48831c4191225e8ff9e766f6f469bf1ab34a5a0e5", func := "watersmeet/watersmeetlaw28.CostParts", spec := "costParts", unfollowed := true, recurses := true, loops := true, apart := false }
def CostPartsSaid : Prop := costPartsRow.holds Try.pinned (OpenSpec.ofChange costPartsSpec)

/-- ITS FALSE NEIGHBOUR: 'it returns false'. Refute it at one input. -/
def costPartsWrong : ChangeSpec := { name := "costParts", fn := fun _ => fun
  | [d1, d2, d3] => { results := [.lit (.bool false)], args := [d1, d2, d3] }
  | _ => none }
def CostPartsWrongFalsely : Prop := costPartsRow.holds Try.pinned (OpenSpec.ofChange costPartsWrong)

/-- 'watersmeetlaw29.OrderTells': WHATEVER THE INPUT: true; the input reads as it did. -/
def orderTellsSpec : ChangeSpec := { name := "orderTells", fn := fun _ => fun
  | [d1, d2] => { results := [.lit (.bool true)], args := [d1, d2] }
  | _ => none }
def orderTellsRow : OpenClaim := { program := "ytakmilmckdllfaa", sum := "b09288f4443b1dc70dd995d48831c4191225e8ff9e766f6f469bf1ab34a5a0e5", func := "watersmeet/watersmeetlaw29.OrderTells", spec := "orderTells", unfollowed := true, recurses := true, loops := true, apart := false }
def OrderTellsSaid : Prop := orderTellsRow.holds Try.pinned (OpenSpec.ofChange orderTellsSpec)

/-- ITS FALSE NEIGHBOUR: 'it returns false'. Refute it at one input. -/
def orderTellsWrong : ChangeSpec := { name := "orderTells", fn := fun _ => fun
  | [d1, d2] => { results := [.lit (.bool false)], args := [d1, d2] }
  | _ => none }
def OrderTellsWrongFalsely : Prop := orderTellsRow.holds Try.pinned (OpenSpec.ofChange orderTellsWrong)

/-- 'watersmeetlaw29.OrderLine': WHATEVER THE INPUT: true; the input reads as it did. -/
def orderLineSpec : ChangeSpec := { name := "orderLine", fn := fun _ => fun
  | [d1, d2, d3] => { results := [.lit (.bool true)], args := [d1, d2, d3] }
  | _ => none }
def orderLineRow : OpenClaim := { program := "ytakmilmckdllfaa", sum := "b09288f4443b1dc70dd995d48831c4191225e8ff9e766f6f469bf1ab34a5a0e5", func := "watersmeet/watersmeetlaw29.OrderLine", spec := "orderLine", unfollowed := true, recurses := true, loops := true, apart := false }
def OrderLineSaid : Prop := orderLineRow.holds Try.pinned (OpenSpec.ofChange orderLineSpec)

/-- ITS FALSE NEIGHBOUR: 'it returns false'. Refute it at one input. -/
def orderLineWrong : ChangeSpec := { name := "orderLine", fn := fun _ => fun
  | [d1, d2, d3] => { results := [.lit (.bool false)], args := [d1, d2, d3] }
  | _ => none }
def OrderLineWrongFalsely : Prop := orderLineRow.holds Try.pinned (OpenSpec.ofChange orderLineWrong)

/-- 'watersmeetlaw29.OrderInner': WHATEVER THE INPUT: true; the input reads as it did. -/
def orderInnerSpec : ChangeSpec := { name := "orderInner", fn := fun _ => fun
  | [d1, d2, d3] => { results := [.lit (.bool true)], args := [d1, d2, d3] }
  | _ => none }
def orderInnerRow : OpenClaim := { program := "ytakmilmckdllfaa", sum := "b09288f4443b1dc70dd995d48831c4191225e8ff9e766f6f469bf1ab34a5a0e5", func := "watersmeet/watersmeetlaw29.OrderInner", spec := "orderInner", unfollowed := true, recurses := true, loops := true, apart := false }
def OrderInnerSaid : Prop := orderInnerRow.holds Try.pinned (OpenSpec.ofChange orderInnerSpec)

/-- ITS FALSE NEIGHBOUR: 'it returns false'. Refute it at one input. -/
def orderInnerWrong : ChangeSpec := { name := "orderInner", fn := fun _ => fun
  | [d1, d2, d3] => { results := [.lit (.bool false)], args := [d1, d2, d3] }
  | _ => none }
def OrderInnerWrongFalsely : Prop := orderInnerRow.holds Try.pinned (OpenSpec.ofChange orderInnerWrong)

/- THE SECOND FORM. 'bulk': how many values and letters a reading holds, each counted each time it is reached (what is shared counts as often as it is met; a slice's spare places count too). A statement '..UptoSaid' is the law's where the arguments, and the package variables that the reading takes, are together of bulk at most 1048576: NARROWER than '..Said'. Prove '..Said' where nothing that the law and all that it calls make is longer than what came in: it says more and counts as full. Else prove '..UptoSaid'. A law counts once. -/
mutual
def uptoBulk {H : Type} : DataW H → Nat
  | .lit (.string bytes) => bytes.length + 1
  | .lit _ => 1
  | .nil => 1
  | .ptr d => uptoBulk d + 1
  | .slice elems spare => uptoBulkAll elems + uptoBulkAll spare + 1
  | .agg parts => uptoBulkAll parts + 1
  | .iface _ d => uptoBulk d + 1
  | .map entries => uptoBulkEntries entries + 1
  | .held _ => 1
def uptoBulkAll {H : Type} : List (DataW H) → Nat
  | [] => 0
  | d :: r => uptoBulk d + uptoBulkAll r
def uptoBulkEntries {H : Type} : List (Lit × DataW H) → Nat
  | [] => 0
  | x :: r => uptoBulkEntry x + uptoBulkEntries r
def uptoBulkEntry {H : Type} : Lit × DataW H → Nat
  | (.string bytes, d) => bytes.length + uptoBulk d + 1
  | (_, d) => uptoBulk d + 1
 end
def uptoSmall : (H : Type) → List (DataW H) → Bool := fun _ ds => decide (uptoBulkAll ds ≤ 1048576)
def OpenSpec.upto (s : _root_.Go.ChangeSpec) : _root_.Go.OpenSpec := { _root_.Go.OpenSpec.ofChange s with cond := some uptoSmall }

/-- 'watersmeetlaw04.LogicTells', WHERE WHAT IT READS IS OF BULK AT MOST 1048576: true; the input reads as it did. -/
def logicTellsUptoRow : OpenClaim := { program := "ytakmilmckdllfaa", sum := "b09288f4443b1dc70dd995d48831c4191225e8ff9e766f6f469bf1ab34a5a0e5", func := "watersmeet/watersmeetlaw04.LogicTells", spec := "logicTells", unfollowed := true, recurses := true, apart := false, narrowed := true }
def LogicTellsUptoSaid : Prop := logicTellsUptoRow.holds Try.pinned (OpenSpec.upto logicTellsSpec)

/-- 'watersmeetlaw04.LogicLaws', WHERE WHAT IT READS IS OF BULK AT MOST 1048576: true; the input reads as it did. -/
def logicLawsUptoRow : OpenClaim := { program := "ytakmilmckdllfaa", sum := "b09288f4443b1dc70dd995d48831c4191225e8ff9e766f6f469bf1ab34a5a0e5", func := "watersmeet/watersmeetlaw04.LogicLaws", spec := "logicLaws", unfollowed := true, recurses := true, apart := false, narrowed := true }
def LogicLawsUptoSaid : Prop := logicLawsUptoRow.holds Try.pinned (OpenSpec.upto logicLawsSpec)

/-- 'watersmeetlaw23.AdmitTells', WHERE WHAT IT READS IS OF BULK AT MOST 1048576: true; the input reads as it did. -/
def admitTellsUptoRow : OpenClaim := { program := "ytakmilmckdllfaa", sum := "b09288f4443b1dc70dd995d48831c4191225e8ff9e766f6f469bf1ab34a5a0e5", func := "watersmeet/watersmeetlaw23.AdmitTells", spec := "admitTells", unfollowed := true, recurses := true, loops := true, apart := false, narrowed := true }
def AdmitTellsUptoSaid : Prop := admitTellsUptoRow.holds Try.pinned (OpenSpec.upto admitTellsSpec)

/-- 'watersmeetlaw18.LevelsTells', WHERE WHAT IT READS IS OF BULK AT MOST 1048576: true; the input reads as it did. -/
def levelsTellsUptoRow : OpenClaim := { program := "ytakmilmckdllfaa", sum := "b09288f4443b1dc70dd995d48831c4191225e8ff9e766f6f469bf1ab34a5a0e5", func := "watersmeet/watersmeetlaw18.LevelsTells", spec := "levelsTells", unfollowed := true, recurses := true, loops := true, apart := false, narrowed := true }
def LevelsTellsUptoSaid : Prop := levelsTellsUptoRow.holds Try.pinned (OpenSpec.upto levelsTellsSpec)

/-- 'watersmeetlaw18.LevelsWays', WHERE WHAT IT READS IS OF BULK AT MOST 1048576: true; the input reads as it did. -/
def levelsWaysUptoRow : OpenClaim := { program := "ytakmilmckdllfaa", sum := "b09288f4443b1dc70dd995d48831c4191225e8ff9e766f6f469bf1ab34a5a0e5", func := "watersmeet/watersmeetlaw18.LevelsWays", spec := "levelsWays", unfollowed := true, recurses := true, loops := true, apart := false, narrowed := true }
def LevelsWaysUptoSaid : Prop := levelsWaysUptoRow.holds Try.pinned (OpenSpec.upto levelsWaysSpec)

/-- 'watersmeetlaw28.CostTells', WHERE WHAT IT READS IS OF BULK AT MOST 1048576: true; the input reads as it did. -/
def costTellsUptoRow : OpenClaim := { program := "ytakmilmckdllfaa", sum := "b09288f4443b1dc70dd995d48831c4191225e8ff9e766f6f469bf1ab34a5a0e5", func := "watersmeet/watersmeetlaw28.CostTells", spec := "costTells", unfollowed := true, recurses := true, loops := true, apart := false, narrowed := true }
def CostTellsUptoSaid : Prop := costTellsUptoRow.holds Try.pinned (OpenSpec.upto costTellsSpec)

/-- 'watersmeetlaw28.CostParts', WHERE WHAT IT READS IS OF BULK AT MOST 1048576: true; the input reads as it did. -/
def costPartsUptoRow : OpenClaim := { program := "ytakmilmckdllfaa", sum := "b09288f4443b1dc70dd995d48831c4191225e8ff9e766f6f469bf1ab34a5a0e5", func := "watersmeet/watersmeetlaw28.CostParts", spec := "costParts", unfollowed := true, recurses := true, loops := true, apart := false, narrowed := true }
def CostPartsUptoSaid : Prop := costPartsUptoRow.holds Try.pinned (OpenSpec.upto costPartsSpec)

/-- 'watersmeetlaw29.OrderTells', WHERE WHAT IT READS IS OF BULK AT MOST 1048576: true; the input reads as it did. -/
def orderTellsUptoRow : OpenClaim := { program := "ytakmilmckdllfaa", sum := "b09288f4443b1dc70dd995d48831c4191225e8ff9e766f6f469bf1ab34a5a0e5", func := "watersmeet/watersmeetlaw29.OrderTells", spec := "orderTells", unfollowed := true, recurses := true, loops := true, apart := false, narrowed := true }
def OrderTellsUptoSaid : Prop := orderTellsUptoRow.holds Try.pinned (OpenSpec.upto orderTellsSpec)

/-- 'watersmeetlaw29.OrderLine', WHERE WHAT IT READS IS OF BULK AT MOST 1048576: true; the input reads as it did. -/
def orderLineUptoRow : OpenClaim := { program := "ytakmilmckdllfaa", sum := "b09288f4443b1dc70dd995d48831c4191225e8ff9e766f6f469bf1ab34a5a0e5", func := "watersmeet/watersmeetlaw29.OrderLine", spec := "orderLine", unfollowed := true, recurses := true, loops := true, apart := false, narrowed := true }
def OrderLineUptoSaid : Prop := orderLineUptoRow.holds Try.pinned (OpenSpec.upto orderLineSpec)

/-- 'watersmeetlaw29.OrderInner', WHERE WHAT IT READS IS OF BULK AT MOST 1048576: true; the input reads as it did. -/
def orderInnerUptoRow : OpenClaim := { program := "ytakmilmckdllfaa", sum := "b09288f4443b1dc70dd995d48831c4191225e8ff9e766f6f469bf1ab34a5a0e5", func := "watersmeet/watersmeetlaw29.OrderInner", spec := "orderInner", unfollowed := true, recurses := true, loops := true, apart := false, narrowed := true }
def OrderInnerUptoSaid : Prop := orderInnerUptoRow.holds Try.pinned (OpenSpec.upto orderInnerSpec)

end Rows
end Go.Proofs.Ytakmilmckdllfaa
