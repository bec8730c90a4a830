/-
From a contract on abstract values to the call of a row: what the caller's data is, told as abstract values; the caller's memory stays.
-/
import Derived.Test.YtakmilmckdllfaaG18
import Derived.WalkKit
import Derived.ProofKit
import Derived.OpenShut
import Derived.ChangeOld
import Derived.Below
import Derived.Carry
import Derived.SizedLaws
set_option linter.unusedVariables false
set_option linter.unusedSimpArgs false
namespace Go.Proofs.Ytakmilmckdllfaa.G
open Go.ChangeShapes Go.WideShapes Go.ChangeAt Go.RowKit

def g0 : Gh := ⟨fun _ => none, fun _ => none, fun _ => 0⟩
def m0 : Mem := ⟨[], []⟩
theorem memOk0 (w : World) : MemOk g0 m0 w := by
  constructor <;> intros <;> simp_all [g0, m0]
theorem imm0 (b n : Nat) : Imm g0 b n := ⟨fun l h => by simp [g0] at h, fun id h => by simp [g0] at h⟩

/-- **A contract is a call's fact.** -/
theorem Does.calls {P : Program} {f : FuncId} {args : List AV} {K : AV → Mem → Prop} {vs : Array Value} {w : World} (h : Does P f args m0 K) (hr : Reps g0 w args vs) :
    Calls P f vs w fun e w' => ∃ v r m1 g', e = .returned v ∧ K r m1 ∧ Rep g' w' r v ∧ Below w.heap.size w w' := by
  obtain ⟨r, m1, ⟨_, hmono, h1⟩, hk⟩ := h
  have h2 := h1 g0 w vs ⟨fun _ _ _ => rfl, fun _ _ _ => rfl⟩ (memOk0 w) hr
  refine (callsIn_wide.1 h2).mono ?_
  rintro e w' ⟨v, g', he, hs, hm, hv⟩
  exact ⟨v, r, m1, g', he, hk, hv, hs.os, hs.tape, hs.output, hs.size, fun b hb => hs.same b hb (fun l _ h => by simp [g0] at h) (fun l _ h => by simp [g0] at h)⟩
/-- A law's function: it returns true. -/
theorem Does.law {P : Program} {f : FuncId} {args : List AV} {vs : Array Value} {w : World} {R : Mem → Prop} (h : Does P f args m0 fun r m1 => r = .bool true ∧ R m1) (hr : Reps g0 w args vs) :
    Calls P f vs w fun e w' => e = .returned (.bool true) ∧ Below w.heap.size w w' := by
  refine (h.calls hr).mono ?_
  rintro e w' ⟨v, r, m1, g', rfl, ⟨rfl, _⟩, hv, hb⟩
  rw [hv.atom_inv]
  exact ⟨rfl, hb⟩

theorem Reps.nil {g : Gh} {w : World} : Reps g w [] #[] := ⟨rfl, fun j c v h => by cases h⟩
theorem Reps.cons {g : Gh} {w : World} {a : AV} {v : Value} {as : List AV} {vs : List Value} (h : Rep g w a v) (hs : Reps g w as vs.toArray) : Reps g w (a :: as) (v :: vs).toArray := by
  refine ⟨by have := hs.1; simp at this ⊢; omega, fun j c x hc hx => ?_⟩
  cases j with
  | zero => simp at hc hx; subst hc hx; exact h
  | succ j => simp at hc hx; exact hs.2 j c x hc (by simpa using hx)

section
variable {H : Type} {enc : TypeId × Value → H} {P : Program} {W : World} {base b0 : Nat} {spare : Nat → Bool} {held : Bool} {r : Reach}
/-- A slice of whole numbers. -/
theorem reads_ints {t e : TypeId} {v : Value} {d : DataW H} {ps : List MemPlace} (ht : P.underlying t = some (.slice e)) (he : P.underlying e = some (.int .i64)) (hc : P.cellsOf e = 1) (hval : Value.okWide P W r b0 t v) (hd : DataW.Trod enc P W base spare held t v d ps) :
    ∃ l : List Int, Rep g0 W (.slice .foreign (l.map .i64)) v ∧ l.length ≤ maxLen ∧ ∀ x ∈ l, -9223372036854775808 ≤ x ∧ x ≤ 9223372036854775807 := by
  obtain ⟨a, len, cap, rfl⟩ := okWide_slice ht hval
  obtain ⟨fuel, hf⟩ := hd
  rcases open_ints ht he hc hf with ⟨hcs, _⟩ | ⟨x, l, c, zs, hcs, _, hl, hm, hz, _, hcell, hwz⟩
  · simp [Value.cells] at hcs
    obtain ⟨rfl, rfl, rfl⟩ := hcs
    exact ⟨[], .nil _ (fun id e => by cases e), by simp, by simp⟩
  · simp [Value.cells] at hcs
    obtain ⟨rfl, rfl, rfl⟩ := hcs
    have hlz : len ≤ zs.length := by rw [hz]; split <;> omega
    refine ⟨zs.take len, ?_, by simp; omega, fun y hy => ?_⟩
    · obtain ⟨b, o, spot⟩ := x
      have hlen : ((zs.take len).map AV.i64).length = len := by simp; omega
      have hspot : spot = none := by
        simp only [Value.okWide, ht, Cell.okWide, Cell.ok, World.has] at hval
        exact hval.2.2.2.1
      subst hspot
      · have := Rep.slice (g := g0) (w := W) .foreign ((zs.take len).map AV.i64) b o cap 1 (fun j => .int .i64 (zs.getD j 0)) (by omega) (fun e he => by obtain ⟨z, _, rfl⟩ := List.mem_map.1 he; rfl) (fun _ => imm0 _ _) (fun j hj => by rw [← add_plain]; exact hcell j (by rw [hlen] at hj; omega)) (fun i j e c he hcj => by
          simp only [List.getElem?_map, Option.map_eq_some_iff] at he
          obtain ⟨z, hz1, rfl⟩ := he
          cases j with
          | zero =>
            simp [AV.cells] at hcj
            subst hcj
            rw [Nat.mul_one, Nat.add_zero]
            have : zs.getD i 0 = z := by
              rw [List.getElem?_take] at hz1
              split at hz1
              · simp [hz1]
              · cases hz1
            rw [this]
            exact .atom _ rfl
          | succ j => simp [AV.cells] at hcj) (fun e he c hc => by obtain ⟨z, _, rfl⟩ := List.mem_map.1 he; simp [AV.cells] at hc; subst hc; rfl) (by rw [hlen]; omega) trivial
        rw [hlen] at this
        exact this
    · have := hwz y (List.mem_of_mem_take hy)
      simp [Lit.wf, IntKind.min, IntKind.max, IntKind.signed, IntKind.bits] at this
      omega
end
end Go.Proofs.Ytakmilmckdllfaa.G
