/-
  NARROWER THAN 'FOR EVERY INPUT', by the rows' own cells (each row's printed sentence says how): CostTells: loops · CostParts: loops · OrderLine: loops · OrderInner: loops · StrongTells: loops · IdentBack: loops.
  DERIVED. THE GIVEN ROWS OF THIS SEAT. 6 by the template 'for every input the law returns true; each argument reads behind the call as it read before'; 0 by the template 'total and deterministic' (their statements: YtcfekacmmfdggaaTotals.lean).
  GIVEN WITH THE SEED: the statements are not yours to turn. If you find one false, say at which input.
  Laid BY PROGRAM, IN A SANDBOX (cutbox-rows.mjs): the forced cells as the released guide's own fill.sh prints them over the translation 9659cbe90903ac82… (all of the seat's roots in one cut). By AI agents, Wed Nov 11 2026. No macro, syntax, notation, axiom, sorry.
-/
import Derived.Test.YtcfekacmmfdggaaChecked
import GoSem.Claim
import GoSem.ClaimJoined
import GoSem.ClaimMapViews
import Derived.JoinedTies
import Derived.KernelRfl
namespace Go.Proofs.Ytcfekacmmfdggaa
/- THE CELL 'sum', in the pinned program and in every row, IS THE sha256 OF THE DUMP (.gsa) THAT YtcfekacmmfdggaaProg.lean LOADS. Nothing in Lean hashes anything: it is a label: what it is worth is what the hold of that sum in a sandbox is worth. -/
noncomputable def Try.pinned : Pinned := { name := "ytcfekacmmfdggaa", sum := "9659cbe90903ac82327d79652443b229614fdb6af82f2fdffb49669234a8180e", checked := Try.checked }
namespace Rows
def none {H : Type} : Left H := { results := [], args := [] }

/-- 'watersmeetlaw28.CostTells': WHATEVER THE INPUT: true; the input reads as it did. -/
def costTellsSpec : ChangeSpec := { name := "costTells", fn := fun _ => fun
  | [d1, d2, d3] => { results := [.lit (.bool true)], args := [d1, d2, d3] }
  | _ => none }
def costTellsRow : OpenClaim := { program := "ytcfekacmmfdggaa", sum := "9659cbe90903ac82327d79652443b229614fdb6af82f2fdffb49669234a8180e", func := "watersmeet/watersmeetlaw28.CostTells", spec := "costTells", unfollowed := true, recurses := true, loops := true, apart := false }
def CostTellsSaid : Prop := costTellsRow.holds Try.pinned (OpenSpec.ofChange costTellsSpec)

/-- ITS FALSE NEIGHBOUR: 'it returns false'. Refute it at one input. -/
def costTellsWrong : ChangeSpec := { name := "costTells", fn := fun _ => fun
  | [d1, d2, d3] => { results := [.lit (.bool false)], args := [d1, d2, d3] }
  | _ => none }
def CostTellsWrongFalsely : Prop := costTellsRow.holds Try.pinned (OpenSpec.ofChange costTellsWrong)

/-- 'watersmeetlaw28.CostParts': WHATEVER THE INPUT: true; the input reads as it did. -/
def costPartsSpec : ChangeSpec := { name := "costParts", fn := fun _ => fun
  | [d1, d2, d3] => { results := [.lit (.bool true)], args := [d1, d2, d3] }
  | _ => none }
def costPartsRow : OpenClaim := { program := "ytcfekacmmfdggaa", sum := "9659cbe90903ac82327d79652443b229614fdb6af82f2fdffb49669234a8180e", func := "watersmeet/watersmeetlaw28.CostParts", spec := "costParts", unfollowed := true, recurses := true, loops := true, apart := false }
def CostPartsSaid : Prop := costPartsRow.holds Try.pinned (OpenSpec.ofChange costPartsSpec)

/-- ITS FALSE NEIGHBOUR: 'it returns false'. Refute it at one input. -/
def costPartsWrong : ChangeSpec := { name := "costParts", fn := fun _ => fun
  | [d1, d2, d3] => { results := [.lit (.bool false)], args := [d1, d2, d3] }
  | _ => none }
def CostPartsWrongFalsely : Prop := costPartsRow.holds Try.pinned (OpenSpec.ofChange costPartsWrong)

/-- 'watersmeetlaw29.OrderLine': WHATEVER THE INPUT: true; the input reads as it did. -/
def orderLineSpec : ChangeSpec := { name := "orderLine", fn := fun _ => fun
  | [d1, d2, d3] => { results := [.lit (.bool true)], args := [d1, d2, d3] }
  | _ => none }
def orderLineRow : OpenClaim := { program := "ytcfekacmmfdggaa", sum := "9659cbe90903ac82327d79652443b229614fdb6af82f2fdffb49669234a8180e", func := "watersmeet/watersmeetlaw29.OrderLine", spec := "orderLine", unfollowed := true, recurses := true, loops := true, apart := false }
def OrderLineSaid : Prop := orderLineRow.holds Try.pinned (OpenSpec.ofChange orderLineSpec)

/-- ITS FALSE NEIGHBOUR: 'it returns false'. Refute it at one input. -/
def orderLineWrong : ChangeSpec := { name := "orderLine", fn := fun _ => fun
  | [d1, d2, d3] => { results := [.lit (.bool false)], args := [d1, d2, d3] }
  | _ => none }
def OrderLineWrongFalsely : Prop := orderLineRow.holds Try.pinned (OpenSpec.ofChange orderLineWrong)

/-- 'watersmeetlaw29.OrderInner': WHATEVER THE INPUT: true; the input reads as it did. -/
def orderInnerSpec : ChangeSpec := { name := "orderInner", fn := fun _ => fun
  | [d1, d2, d3] => { results := [.lit (.bool true)], args := [d1, d2, d3] }
  | _ => none }
def orderInnerRow : OpenClaim := { program := "ytcfekacmmfdggaa", sum := "9659cbe90903ac82327d79652443b229614fdb6af82f2fdffb49669234a8180e", func := "watersmeet/watersmeetlaw29.OrderInner", spec := "orderInner", unfollowed := true, recurses := true, loops := true, apart := false }
def OrderInnerSaid : Prop := orderInnerRow.holds Try.pinned (OpenSpec.ofChange orderInnerSpec)

/-- ITS FALSE NEIGHBOUR: 'it returns false'. Refute it at one input. -/
def orderInnerWrong : ChangeSpec := { name := "orderInner", fn := fun _ => fun
  | [d1, d2, d3] => { results := [.lit (.bool false)], args := [d1, d2, d3] }
  | _ => none }
def OrderInnerWrongFalsely : Prop := orderInnerRow.holds Try.pinned (OpenSpec.ofChange orderInnerWrong)

/-- 'watersmeetlaw40.StrongTells': WHATEVER THE INPUT: true; the input reads as it did. -/
def strongTellsSpec : ChangeSpec := { name := "strongTells", fn := fun _ => fun
  | [d] => { results := [.lit (.bool true)], args := [d] }
  | _ => none }
def strongTellsRow : OpenClaim := { program := "ytcfekacmmfdggaa", sum := "9659cbe90903ac82327d79652443b229614fdb6af82f2fdffb49669234a8180e", func := "watersmeet/watersmeetlaw40.StrongTells", spec := "strongTells", unfollowed := true, recurses := true, loops := true, apart := false }
def StrongTellsSaid : Prop := strongTellsRow.holds Try.pinned (OpenSpec.ofChange strongTellsSpec)

/-- ITS FALSE NEIGHBOUR: 'it returns false'. Refute it at one input. -/
def strongTellsWrong : ChangeSpec := { name := "strongTells", fn := fun _ => fun
  | [d] => { results := [.lit (.bool false)], args := [d] }
  | _ => none }
def StrongTellsWrongFalsely : Prop := strongTellsRow.holds Try.pinned (OpenSpec.ofChange strongTellsWrong)

/-- 'watersmeetlaw17.IdentBack': WHATEVER THE INPUT: true; the input reads as it did. -/
def identBackSpec : ChangeSpec := { name := "identBack", fn := fun _ => fun
  | [d] => { results := [.lit (.bool true)], args := [d] }
  | _ => none }
def identBackRow : OpenClaim := { program := "ytcfekacmmfdggaa", sum := "9659cbe90903ac82327d79652443b229614fdb6af82f2fdffb49669234a8180e", func := "watersmeet/watersmeetlaw17.IdentBack", spec := "identBack", unfollowed := true, recurses := true, loops := true, apart := false }
def IdentBackSaid : Prop := identBackRow.holds Try.pinned (OpenSpec.ofChange identBackSpec)

/-- ITS FALSE NEIGHBOUR: 'it returns false'. Refute it at one input. -/
def identBackWrong : ChangeSpec := { name := "identBack", fn := fun _ => fun
  | [d] => { results := [.lit (.bool false)], args := [d] }
  | _ => none }
def IdentBackWrongFalsely : Prop := identBackRow.holds Try.pinned (OpenSpec.ofChange identBackWrong)

/- THE SECOND FORM. 'bulk': how many values and letters a reading holds, each counted each time it is reached (what is shared counts as often as it is met; a slice's spare places count too). A statement '..UptoSaid' is the law's where the arguments, and the package variables that the reading takes, are together of bulk at most 1048576: NARROWER than '..Said'. Prove '..Said' where nothing that the law and all that it calls make is longer than what came in: it says more and counts as full. Else prove '..UptoSaid'. A law counts once. -/
mutual
def uptoBulk {H : Type} : DataW H → Nat
  | .lit (.string bytes) => bytes.length + 1
  | .lit _ => 1
  | .nil => 1
  | .ptr d => uptoBulk d + 1
  | .slice elems spare => uptoBulkAll elems + uptoBulkAll spare + 1
  | .agg parts => uptoBulkAll parts + 1
  | .iface _ d => uptoBulk d + 1
  | .map entries => uptoBulkEntries entries + 1
  | .held _ => 1
def uptoBulkAll {H : Type} : List (DataW H) → Nat
  | [] => 0
  | d :: r => uptoBulk d + uptoBulkAll r
def uptoBulkEntries {H : Type} : List (Lit × DataW H) → Nat
  | [] => 0
  | x :: r => uptoBulkEntry x + uptoBulkEntries r
def uptoBulkEntry {H : Type} : Lit × DataW H → Nat
  | (.string bytes, d) => bytes.length + uptoBulk d + 1
  | (_, d) => uptoBulk d + 1
 end
def uptoSmall : (H : Type) → List (DataW H) → Bool := fun _ ds => decide (uptoBulkAll ds ≤ 1048576)
def OpenSpec.upto (s : _root_.Go.ChangeSpec) : _root_.Go.OpenSpec := { _root_.Go.OpenSpec.ofChange s with cond := some uptoSmall }

/-- 'watersmeetlaw28.CostTells', WHERE WHAT IT READS IS OF BULK AT MOST 1048576: true; the input reads as it did. -/
def costTellsUptoRow : OpenClaim := { program := "ytcfekacmmfdggaa", sum := "9659cbe90903ac82327d79652443b229614fdb6af82f2fdffb49669234a8180e", func := "watersmeet/watersmeetlaw28.CostTells", spec := "costTells", unfollowed := true, recurses := true, loops := true, apart := false, narrowed := true }
def CostTellsUptoSaid : Prop := costTellsUptoRow.holds Try.pinned (OpenSpec.upto costTellsSpec)

/-- 'watersmeetlaw28.CostParts', WHERE WHAT IT READS IS OF BULK AT MOST 1048576: true; the input reads as it did. -/
def costPartsUptoRow : OpenClaim := { program := "ytcfekacmmfdggaa", sum := "9659cbe90903ac82327d79652443b229614fdb6af82f2fdffb49669234a8180e", func := "watersmeet/watersmeetlaw28.CostParts", spec := "costParts", unfollowed := true, recurses := true, loops := true, apart := false, narrowed := true }
def CostPartsUptoSaid : Prop := costPartsUptoRow.holds Try.pinned (OpenSpec.upto costPartsSpec)

/-- 'watersmeetlaw29.OrderLine', WHERE WHAT IT READS IS OF BULK AT MOST 1048576: true; the input reads as it did. -/
def orderLineUptoRow : OpenClaim := { program := "ytcfekacmmfdggaa", sum := "9659cbe90903ac82327d79652443b229614fdb6af82f2fdffb49669234a8180e", func := "watersmeet/watersmeetlaw29.OrderLine", spec := "orderLine", unfollowed := true, recurses := true, loops := true, apart := false, narrowed := true }
def OrderLineUptoSaid : Prop := orderLineUptoRow.holds Try.pinned (OpenSpec.upto orderLineSpec)

/-- 'watersmeetlaw29.OrderInner', WHERE WHAT IT READS IS OF BULK AT MOST 1048576: true; the input reads as it did. -/
def orderInnerUptoRow : OpenClaim := { program := "ytcfekacmmfdggaa", sum := "9659cbe90903ac82327d79652443b229614fdb6af82f2fdffb49669234a8180e", func := "watersmeet/watersmeetlaw29.OrderInner", spec := "orderInner", unfollowed := true, recurses := true, loops := true, apart := false, narrowed := true }
def OrderInnerUptoSaid : Prop := orderInnerUptoRow.holds Try.pinned (OpenSpec.upto orderInnerSpec)

/-- 'watersmeetlaw40.StrongTells', WHERE WHAT IT READS IS OF BULK AT MOST 1048576: true; the input reads as it did. -/
def strongTellsUptoRow : OpenClaim := { program := "ytcfekacmmfdggaa", sum := "9659cbe90903ac82327d79652443b229614fdb6af82f2fdffb49669234a8180e", func := "watersmeet/watersmeetlaw40.StrongTells", spec := "strongTells", unfollowed := true, recurses := true, loops := true, apart := false, narrowed := true }
def StrongTellsUptoSaid : Prop := strongTellsUptoRow.holds Try.pinned (OpenSpec.upto strongTellsSpec)

/-- 'watersmeetlaw17.IdentBack', WHERE WHAT IT READS IS OF BULK AT MOST 1048576: true; the input reads as it did. -/
def identBackUptoRow : OpenClaim := { program := "ytcfekacmmfdggaa", sum := "9659cbe90903ac82327d79652443b229614fdb6af82f2fdffb49669234a8180e", func := "watersmeet/watersmeetlaw17.IdentBack", spec := "identBack", unfollowed := true, recurses := true, loops := true, apart := false, narrowed := true }
def IdentBackUptoSaid : Prop := identBackUptoRow.holds Try.pinned (OpenSpec.upto identBackSpec)

end Rows
end Go.Proofs.Ytcfekacmmfdggaa
