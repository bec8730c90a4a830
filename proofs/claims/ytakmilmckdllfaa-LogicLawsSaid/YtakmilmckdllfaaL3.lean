/-
The functions of the two laws on logic return true.
-/
import Derived.Test.YtakmilmckdllfaaL2
set_option linter.unusedVariables false
set_option linter.unusedSimpArgs false
set_option maxRecDepth 100000
namespace Go.Proofs.Ytakmilmckdllfaa.G

theorem law_LogicTells (l : List Int) (b : Bool) (m : Mem) : Does Try.prog 3 [.ints l, .bool b] m fun r m1 => r = .bool true ∧ Ext m m1 := by
  refine Does.of_slim mix fn_3 ok_3 (by rfl) ?_; simp -implicitDefEqProofs only [go_sem, Try.f3]
  refine SCond_dec (fun h => ?_) fun h => ?_
  · simp -implicitDefEqProofs only [go_sem]
    refine DoesV.ext (law04_awake _) fun r m1 h e => ?_
    subst h
    simp -implicitDefEqProofs only [go_sem]
    exact e
  · have hlen : l.length < 2 ^ 62 := by omega
    simp -implicitDefEqProofs only [go_sem]
    refine SLoop.induct mix fn_3 (by kernel_rfl) (fun n env m' => ∃ (i : Nat), env = [(0, .slice .foreign (l.map .i64)), (1, .bool b), (5, .i64 i)] ∧ Ext m m' ∧ i ≤ l.length ∧ n = l.length - i) l.length ⟨0, rfl, Ext.refl _, by omega, by omega⟩ (by simp -implicitDefEqProofs only [go_sem] <;> repeat' (first | rfl | apply And.intro)) ?_
    rintro n env m' ⟨i, rfl, he, hi, hn⟩ ih
    simp -implicitDefEqProofs only [go_sem, Try.f3]
    refine SCond_dec (fun h => ?_) fun h => ?_
    · have hi' : i < l.length := by omega
      have hg : l[i]? = some l[i] := by simp [hi']
      simp -implicitDefEqProofs only [go_sem, hg]
      refine DoesV.same (logic_Not l[i] _) fun r h => ?_
      subst h
      simp -implicitDefEqProofs only [go_sem, hg]
      refine DoesV.same (ref04_Not l[i] _) fun r h => ?_
      subst h
      simp -implicitDefEqProofs only [go_sem, hg]
      refine DoesV.same (logic_Right l[i] _) fun r h => ?_
      subst h
      have e0 : IntKind.i64.wrap ((i : Int) + 1) = (i : Int) + 1 := wrap64 (by omega) (by omega)
      have done : ∀ (n' : Nat), n' = l.length - (i + 1) → n' < n := fun n' h => by omega
      by_cases h0 : l[i] = 0
      · rw [h0]; simp -implicitDefEqProofs only [go_sem, hg, h0, show ((0 : Int) == 0) = true from rfl, show decide ((0 : Int) ≤ 0 ∧ (0 : Int) ≤ 2) = true by decide, e0]; exact ih (l.length - (i + 1)) _ _ _ (by omega) ⟨i + 1, rfl, he, by omega, rfl⟩ (by simp -implicitDefEqProofs only [go_sem] <;> repeat' (first | rfl | apply And.intro))
      · by_cases h1 : l[i] = 1
        · rw [h1]; simp -implicitDefEqProofs only [go_sem, hg, h1, show ((1 : Int) == 0) = false from rfl, show decide ((0 : Int) ≤ 1 ∧ (1 : Int) ≤ 2) = true by decide, e0]; exact ih (l.length - (i + 1)) _ _ _ (by omega) ⟨i + 1, rfl, he, by omega, rfl⟩ (by simp -implicitDefEqProofs only [go_sem] <;> repeat' (first | rfl | apply And.intro))
        · by_cases h2 : l[i] = 2
          · rw [h2]; simp -implicitDefEqProofs only [go_sem, hg, h2, show ((2 : Int) == 0) = false from rfl, show ((2 : Int) == 1) = false from rfl, show decide ((0 : Int) ≤ 2 ∧ (2 : Int) ≤ 2) = true by decide, e0]; exact ih (l.length - (i + 1)) _ _ _ (by omega) ⟨i + 1, rfl, he, by omega, rfl⟩ (by simp -implicitDefEqProofs only [go_sem] <;> repeat' (first | rfl | apply And.intro))
          · have h3 : decide ((0 : Int) ≤ l[i] ∧ l[i] ≤ 2) = false := by simp; omega
            rw [h3]
            simp -implicitDefEqProofs only [go_sem, hg, show (l[i] == 0) = false by simpa using h0, show (l[i] == 1) = false by simpa using h1, show (l[i] == 2) = false by simpa using h2, e0]; exact ih (l.length - (i + 1)) _ _ _ (by omega) ⟨i + 1, rfl, he, by omega, rfl⟩ (by simp -implicitDefEqProofs only [go_sem] <;> repeat' (first | rfl | apply And.intro))
    · simp -implicitDefEqProofs only [go_sem]
      refine DoesV.ext (logic_And l _ hlen) fun r m2 h e2 => ?_
      subst h
      simp -implicitDefEqProofs only [go_sem]
      refine DoesV.same (ref04_And l _ hlen) fun r h => ?_
      subst h
      simp -implicitDefEqProofs only [go_sem]
      refine DoesV.ext (logic_Or l _ hlen) fun r m3 h e3 => ?_
      subst h
      simp -implicitDefEqProofs only [go_sem]
      refine DoesV.same (ref04_Or l _ hlen) fun r h => ?_
      subst h
      simp -implicitDefEqProofs only [go_sem]
      refine DoesV.same (logic_Of b _) fun r h => ?_
      subst h
      cases b
      · simp -implicitDefEqProofs only [go_sem]
        refine DoesV.same (logic_Of false _) fun r h => ?_
        subst h
        simp -implicitDefEqProofs only [go_sem]
        refine DoesV.ext (law04_awake _) fun r m4 h e4 => ?_
        subst h
        simp -implicitDefEqProofs only [go_sem]
        exact ((he.trans e2).trans e3).trans e4
      · simp -implicitDefEqProofs only [go_sem]
        refine DoesV.same (logic_Of true _) fun r h => ?_
        subst h
        simp -implicitDefEqProofs only [go_sem]
        refine DoesV.ext (law04_awake _) fun r m4 h e4 => ?_
        subst h
        simp -implicitDefEqProofs only [go_sem]
        exact ((he.trans e2).trans e3).trans e4
end Go.Proofs.Ytakmilmckdllfaa.G
