/-
  NARROWER THAN 'FOR EVERY INPUT', by the rows' own cells (each row's printed sentence says how): DeepTells: loops · DpsubTells: loops · MemoTells: loops · MemoOnce: loops · MemoBest: loops.
  DERIVED. THE GIVEN ROWS OF THIS SEAT. 5 by the template 'for every input the law returns true; each argument reads behind the call as it read before'; 0 by the template 'total and deterministic' (their statements: YtjnnhjgjecgomaaGreatTotals.lean).
  GIVEN WITH THE SEED: the statements are not yours to turn. If you find one false, say at which input.
  Laid BY PROGRAM, IN A SANDBOX (cutbox-rows.mjs): the forced cells as the released guide's own fill.sh prints them over the translation 5b7084f03bb079b5… (all of the seat's roots in one cut). By AI agents, Wed Nov 11 2026. No macro, syntax, notation, axiom, sorry.
-/
import Derived.Test.YtjnnhjgjecgomaaGreatChecked
import GoSem.Claim
import GoSem.ClaimJoined
import GoSem.ClaimMapViews
import Derived.JoinedTies
import Derived.KernelRfl
namespace Go.Proofs.YtjnnhjgjecgomaaGreat
/- THE CELL 'sum', in the pinned program and in every row, IS THE sha256 OF THE DUMP (.gsa) THAT YtjnnhjgjecgomaaGreatProg.lean LOADS. Nothing in Lean hashes anything: it is a label: what it is worth is what the hold of that sum in a sandbox is worth. -/
noncomputable def Tryz.pinned : Pinned := { name := "ytjnnhjgjecgomaagreat", sum := "5b7084f03bb079b5a557f5a1561a50e44216ea74da8393d25a077364ef59147c", checked := Tryz.checked }
namespace Rows
def none {H : Type} : Left H := { results := [], args := [] }

/-- 'watersmeetlaw44.DeepTells': WHATEVER THE INPUT: true; the input reads as it did. -/
def deepTellsSpec : ChangeSpec := { name := "deepTells", fn := fun _ => fun
  | [d1, d2, d3] => { results := [.lit (.bool true)], args := [d1, d2, d3] }
  | _ => none }
def deepTellsRow : OpenClaim := { program := "ytjnnhjgjecgomaagreat", sum := "5b7084f03bb079b5a557f5a1561a50e44216ea74da8393d25a077364ef59147c", func := "watersmeet/watersmeetlaw44.DeepTells", spec := "deepTells", unfollowed := true, recurses := true, loops := true, apart := false }
def DeepTellsSaid : Prop := deepTellsRow.holds Tryz.pinned (OpenSpec.ofChange deepTellsSpec)

/-- ITS FALSE NEIGHBOUR: 'it returns false'. Refute it at one input. -/
def deepTellsWrong : ChangeSpec := { name := "deepTells", fn := fun _ => fun
  | [d1, d2, d3] => { results := [.lit (.bool false)], args := [d1, d2, d3] }
  | _ => none }
def DeepTellsWrongFalsely : Prop := deepTellsRow.holds Tryz.pinned (OpenSpec.ofChange deepTellsWrong)

/-- 'watersmeetlaw42.DpsubTells': WHATEVER THE INPUT: true; the input reads as it did. -/
def dpsubTellsSpec : ChangeSpec := { name := "dpsubTells", fn := fun _ => fun
  | [d1, d2] => { results := [.lit (.bool true)], args := [d1, d2] }
  | _ => none }
def dpsubTellsRow : OpenClaim := { program := "ytjnnhjgjecgomaagreat", sum := "5b7084f03bb079b5a557f5a1561a50e44216ea74da8393d25a077364ef59147c", func := "watersmeet/watersmeetlaw42.DpsubTells", spec := "dpsubTells", unfollowed := true, recurses := true, loops := true, apart := false }
def DpsubTellsSaid : Prop := dpsubTellsRow.holds Tryz.pinned (OpenSpec.ofChange dpsubTellsSpec)

/-- ITS FALSE NEIGHBOUR: 'it returns false'. Refute it at one input. -/
def dpsubTellsWrong : ChangeSpec := { name := "dpsubTells", fn := fun _ => fun
  | [d1, d2] => { results := [.lit (.bool false)], args := [d1, d2] }
  | _ => none }
def DpsubTellsWrongFalsely : Prop := dpsubTellsRow.holds Tryz.pinned (OpenSpec.ofChange dpsubTellsWrong)

/-- 'watersmeetlaw30.MemoTells': WHATEVER THE INPUT: true; the input reads as it did. -/
def memoTellsSpec : ChangeSpec := { name := "memoTells", fn := fun _ => fun
  | [d1, d2, d3] => { results := [.lit (.bool true)], args := [d1, d2, d3] }
  | _ => none }
def memoTellsRow : OpenClaim := { program := "ytjnnhjgjecgomaagreat", sum := "5b7084f03bb079b5a557f5a1561a50e44216ea74da8393d25a077364ef59147c", func := "watersmeet/watersmeetlaw30.MemoTells", spec := "memoTells", unfollowed := true, recurses := true, loops := true, apart := false }
def MemoTellsSaid : Prop := memoTellsRow.holds Tryz.pinned (OpenSpec.ofChange memoTellsSpec)

/-- ITS FALSE NEIGHBOUR: 'it returns false'. Refute it at one input. -/
def memoTellsWrong : ChangeSpec := { name := "memoTells", fn := fun _ => fun
  | [d1, d2, d3] => { results := [.lit (.bool false)], args := [d1, d2, d3] }
  | _ => none }
def MemoTellsWrongFalsely : Prop := memoTellsRow.holds Tryz.pinned (OpenSpec.ofChange memoTellsWrong)

/-- 'watersmeetlaw30.MemoOnce': WHATEVER THE INPUT: true; the input reads as it did. -/
def memoOnceSpec : ChangeSpec := { name := "memoOnce", fn := fun _ => fun
  | [d1, d2, d3] => { results := [.lit (.bool true)], args := [d1, d2, d3] }
  | _ => none }
def memoOnceRow : OpenClaim := { program := "ytjnnhjgjecgomaagreat", sum := "5b7084f03bb079b5a557f5a1561a50e44216ea74da8393d25a077364ef59147c", func := "watersmeet/watersmeetlaw30.MemoOnce", spec := "memoOnce", unfollowed := true, recurses := true, loops := true, apart := false }
def MemoOnceSaid : Prop := memoOnceRow.holds Tryz.pinned (OpenSpec.ofChange memoOnceSpec)

/-- ITS FALSE NEIGHBOUR: 'it returns false'. Refute it at one input. -/
def memoOnceWrong : ChangeSpec := { name := "memoOnce", fn := fun _ => fun
  | [d1, d2, d3] => { results := [.lit (.bool false)], args := [d1, d2, d3] }
  | _ => none }
def MemoOnceWrongFalsely : Prop := memoOnceRow.holds Tryz.pinned (OpenSpec.ofChange memoOnceWrong)

/-- 'watersmeetlaw30.MemoBest': WHATEVER THE INPUT: true; the input reads as it did. -/
def memoBestSpec : ChangeSpec := { name := "memoBest", fn := fun _ => fun
  | [d1, d2] => { results := [.lit (.bool true)], args := [d1, d2] }
  | _ => none }
def memoBestRow : OpenClaim := { program := "ytjnnhjgjecgomaagreat", sum := "5b7084f03bb079b5a557f5a1561a50e44216ea74da8393d25a077364ef59147c", func := "watersmeet/watersmeetlaw30.MemoBest", spec := "memoBest", unfollowed := true, recurses := true, loops := true, apart := false }
def MemoBestSaid : Prop := memoBestRow.holds Tryz.pinned (OpenSpec.ofChange memoBestSpec)

/-- ITS FALSE NEIGHBOUR: 'it returns false'. Refute it at one input. -/
def memoBestWrong : ChangeSpec := { name := "memoBest", fn := fun _ => fun
  | [d1, d2] => { results := [.lit (.bool false)], args := [d1, d2] }
  | _ => none }
def MemoBestWrongFalsely : Prop := memoBestRow.holds Tryz.pinned (OpenSpec.ofChange memoBestWrong)

/- THE SECOND FORM. 'bulk': how many values and letters a reading holds, each counted each time it is reached (what is shared counts as often as it is met; a slice's spare places count too). A statement '..UptoSaid' is the law's where the arguments, and the package variables that the reading takes, are together of bulk at most 1048576: NARROWER than '..Said'. Prove '..Said' where nothing that the law and all that it calls make is longer than what came in: it says more and counts as full. Else prove '..UptoSaid'. A law counts once. -/
mutual
def uptoBulk {H : Type} : DataW H → Nat
  | .lit (.string bytes) => bytes.length + 1
  | .lit _ => 1
  | .nil => 1
  | .ptr d => uptoBulk d + 1
  | .slice elems spare => uptoBulkAll elems + uptoBulkAll spare + 1
  | .agg parts => uptoBulkAll parts + 1
  | .iface _ d => uptoBulk d + 1
  | .map entries => uptoBulkEntries entries + 1
  | .held _ => 1
def uptoBulkAll {H : Type} : List (DataW H) → Nat
  | [] => 0
  | d :: r => uptoBulk d + uptoBulkAll r
def uptoBulkEntries {H : Type} : List (Lit × DataW H) → Nat
  | [] => 0
  | x :: r => uptoBulkEntry x + uptoBulkEntries r
def uptoBulkEntry {H : Type} : Lit × DataW H → Nat
  | (.string bytes, d) => bytes.length + uptoBulk d + 1
  | (_, d) => uptoBulk d + 1
 end
def uptoSmall : (H : Type) → List (DataW H) → Bool := fun _ ds => decide (uptoBulkAll ds ≤ 1048576)
def OpenSpec.upto (s : _root_.Go.ChangeSpec) : _root_.Go.OpenSpec := { _root_.Go.OpenSpec.ofChange s with cond := some uptoSmall }

/-- 'watersmeetlaw44.DeepTells', WHERE WHAT IT READS IS OF BULK AT MOST 1048576: true; the input reads as it did. -/
def deepTellsUptoRow : OpenClaim := { program := "ytjnnhjgjecgomaagreat", sum := "5b7084f03bb079b5a557f5a1561a50e44216ea74da8393d25a077364ef59147c", func := "watersmeet/watersmeetlaw44.DeepTells", spec := "deepTells", unfollowed := true, recurses := true, loops := true, apart := false, narrowed := true }
def DeepTellsUptoSaid : Prop := deepTellsUptoRow.holds Tryz.pinned (OpenSpec.upto deepTellsSpec)

/-- 'watersmeetlaw42.DpsubTells', WHERE WHAT IT READS IS OF BULK AT MOST 1048576: true; the input reads as it did. -/
def dpsubTellsUptoRow : OpenClaim := { program := "ytjnnhjgjecgomaagreat", sum := "5b7084f03bb079b5a557f5a1561a50e44216ea74da8393d25a077364ef59147c", func := "watersmeet/watersmeetlaw42.DpsubTells", spec := "dpsubTells", unfollowed := true, recurses := true, loops := true, apart := false, narrowed := true }
def DpsubTellsUptoSaid : Prop := dpsubTellsUptoRow.holds Tryz.pinned (OpenSpec.upto dpsubTellsSpec)

/-- 'watersmeetlaw30.MemoTells', WHERE WHAT IT READS IS OF BULK AT MOST 1048576: true; the input reads as it did. -/
def memoTellsUptoRow : OpenClaim := { program := "ytjnnhjgjecgomaagreat", sum := "5b7084f03bb079b5a557f5a1561a50e44216ea74da8393d25a077364ef59147c", func := "watersmeet/watersmeetlaw30.MemoTells", spec := "memoTells", unfollowed := true, recurses := true, loops := true, apart := false, narrowed := true }
def MemoTellsUptoSaid : Prop := memoTellsUptoRow.holds Tryz.pinned (OpenSpec.upto memoTellsSpec)

/-- 'watersmeetlaw30.MemoOnce', WHERE WHAT IT READS IS OF BULK AT MOST 1048576: true; the input reads as it did. -/
def memoOnceUptoRow : OpenClaim := { program := "ytjnnhjgjecgomaagreat", sum := "5b7084f03bb079b5a557f5a1561a50e44216ea74da8393d25a077364ef59147c", func := "watersmeet/watersmeetlaw30.MemoOnce", spec := "memoOnce", unfollowed := true, recurses := true, loops := true, apart := false, narrowed := true }
def MemoOnceUptoSaid : Prop := memoOnceUptoRow.holds Tryz.pinned (OpenSpec.upto memoOnceSpec)

/-- 'watersmeetlaw30.MemoBest', WHERE WHAT IT READS IS OF BULK AT MOST 1048576: true; the input reads as it did. -/
def memoBestUptoRow : OpenClaim := { program := "ytjnnhjgjecgomaagreat", sum := "5b7084f03bb079b5a557f5a1561a50e44216ea74da8393d25a077364ef59147c", func := "watersmeet/watersmeetlaw30.MemoBest", spec := "memoBest", unfollowed := true, recurses := true, loops := true, apart := false, narrowed := true }
def MemoBestUptoSaid : Prop := memoBestUptoRow.holds Tryz.pinned (OpenSpec.upto memoBestSpec)

end Rows
end Go.Proofs.YtjnnhjgjecgomaaGreat
