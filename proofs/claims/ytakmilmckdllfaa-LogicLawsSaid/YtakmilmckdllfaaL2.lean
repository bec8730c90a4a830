/-
The layer 'logic' and what the document says of it: the two laws' functions return true.
-/
import Derived.Test.YtakmilmckdllfaaL1
set_option linter.unusedVariables false
set_option linter.unusedSimpArgs false
set_option maxRecDepth 100000
namespace Go.Proofs.Ytakmilmckdllfaa.G

theorem ref04_three (t : Int) (m : Mem) : Does Try.prog 65 [.i64 t] m fun r m1 => r = .i64 (ofI t) ∧ m1 = m := by
  refine Does.of_slim mix fn_65 ok_65 (by rfl) ?_; simp -implicitDefEqProofs only [go_sem, Try.f65]
  by_cases h0 : t = 0
  · subst h0; simp -implicitDefEqProofs only [go_sem, ofI]
  · by_cases h2 : t = 2
    · subst h2; simp -implicitDefEqProofs only [go_sem, ofI]
    · simp -implicitDefEqProofs only [go_sem, show (t == 0) = false by simpa using h0, show (t == 2) = false by simpa using h2]
      unfold ofI
      split
      · congr 2; omega
      · rfl
theorem ref04_Not (t : Int) (m : Mem) : Does Try.prog 15 [.i64 t] m fun r m1 => r = .i64 (2 - ofI t) ∧ m1 = m := by
  refine Does.of_slim mix fn_15 ok_15 (by rfl) ?_; simp -implicitDefEqProofs only [go_sem, Try.f15]
  refine DoesV.same (ref04_three t m) fun r h => ?_
  subst h
  have := ofI_bound t
  simp -implicitDefEqProofs only [go_sem, wrap64 (n := 2 - ofI t) (by omega) (by omega)]
theorem firstI_snoc_and (l : List Int) (x : Int) : firstI (l ++ [x]) 0 1 2 = if ofI x < firstI l 0 1 2 then ofI x else firstI l 0 1 2 := by
  have := ofI_bound x
  have h : ofI x = 0 ∨ ofI x = 1 ∨ ofI x = 2 := by omega
  unfold firstI
  simp only [List.any_append, List.any_cons, List.any_nil, Bool.or_false]
  rcases h with h | h | h <;> rw [h] <;> cases (l.any fun x => ofI x == 0) <;> cases (l.any fun x => ofI x == 1) <;> simp
theorem firstI_snoc_or (l : List Int) (x : Int) : firstI (l ++ [x]) 2 1 0 = if ofI x > firstI l 2 1 0 then ofI x else firstI l 2 1 0 := by
  have := ofI_bound x
  have h : ofI x = 0 ∨ ofI x = 1 ∨ ofI x = 2 := by omega
  unfold firstI
  simp only [List.any_append, List.any_cons, List.any_nil, Bool.or_false]
  rcases h with h | h | h <;> rw [h] <;> cases (l.any fun x => ofI x == 2) <;> cases (l.any fun x => ofI x == 1) <;> simp
theorem ref04_And (l : List Int) (m : Mem) (hlen : l.length < 2 ^ 62) : Does Try.prog 18 [.ints l] m fun r m1 => r = .i64 (firstI l 0 1 2) ∧ m1 = m := by
  refine Does.of_slim mix fn_18 ok_18 (by rfl) ?_; simp -implicitDefEqProofs only [go_sem, Try.f18]
  refine SLoop.induct mix fn_18 (by kernel_rfl) (fun n env m' => ∃ (i : Nat), env = [(0, .slice .foreign (l.map .i64)), (3, .i64 (firstI (l.take i) 0 1 2)), (4, .i64 i)] ∧ m' = m ∧ i ≤ l.length ∧ n = l.length - i) l.length ⟨0, rfl, rfl, by omega, by omega⟩ (by simp -implicitDefEqProofs only [go_sem] <;> repeat' (first | rfl | apply And.intro)) ?_
  rintro n env m' ⟨i, rfl, rfl, hi, hn⟩ ih
  simp -implicitDefEqProofs only [go_sem, Try.f18]
  refine SCond_dec (fun h => ?_) fun h => ?_
  · have hi' : i < l.length := by omega
    have hg : l[i]? = some l[i] := by simp [hi']
    simp -implicitDefEqProofs only [go_sem, hg]
    refine DoesV.same (ref04_three l[i] _) fun r h => ?_
    subst h
    simp -implicitDefEqProofs only [go_sem, wrap64 (n := (i : Int) + 1) (by omega) (by omega), ← firstI_snoc_and]
    rw [← List.take_succ_eq_append_getElem hi']
    exact ih (l.length - (i + 1)) _ _ _ (by omega) ⟨i + 1, rfl, rfl, by omega, rfl⟩ (by simp -implicitDefEqProofs only [go_sem] <;> repeat' (first | rfl | apply And.intro))
  · simp -implicitDefEqProofs only [go_sem]
    have : i = l.length := by omega
    subst this
    simp only [List.take_length]
theorem ref04_Or (l : List Int) (m : Mem) (hlen : l.length < 2 ^ 62) : Does Try.prog 20 [.ints l] m fun r m1 => r = .i64 (firstI l 2 1 0) ∧ m1 = m := by
  refine Does.of_slim mix fn_20 ok_20 (by rfl) ?_; simp -implicitDefEqProofs only [go_sem, Try.f20]
  refine SLoop.induct mix fn_20 (by kernel_rfl) (fun n env m' => ∃ (i : Nat), env = [(0, .slice .foreign (l.map .i64)), (3, .i64 (firstI (l.take i) 2 1 0)), (4, .i64 i)] ∧ m' = m ∧ i ≤ l.length ∧ n = l.length - i) l.length ⟨0, rfl, rfl, by omega, by omega⟩ (by simp -implicitDefEqProofs only [go_sem] <;> repeat' (first | rfl | apply And.intro)) ?_
  rintro n env m' ⟨i, rfl, rfl, hi, hn⟩ ih
  simp -implicitDefEqProofs only [go_sem, Try.f20]
  refine SCond_dec (fun h => ?_) fun h => ?_
  · have hi' : i < l.length := by omega
    have hg : l[i]? = some l[i] := by simp [hi']
    simp -implicitDefEqProofs only [go_sem, hg]
    refine DoesV.same (ref04_three l[i] _) fun r h => ?_
    subst h
    simp -implicitDefEqProofs only [go_sem, wrap64 (n := (i : Int) + 1) (by omega) (by omega), ← firstI_snoc_or]
    rw [← List.take_succ_eq_append_getElem hi']
    exact ih (l.length - (i + 1)) _ _ _ (by omega) ⟨i + 1, rfl, rfl, by omega, rfl⟩ (by simp -implicitDefEqProofs only [go_sem] <;> repeat' (first | rfl | apply And.intro))
  · simp -implicitDefEqProofs only [go_sem]
    have : i = l.length := by omega
    subst this
    simp only [List.take_length]

theorem law04_awake (m : Mem) : Does Try.prog 13 [] m fun r m1 => r = .bool true ∧ Ext m m1 := by
  refine Does.of_slim mix fn_13 ok_13 (by rfl) ?_; simp -implicitDefEqProofs only [go_sem, Try.f13]
  refine DoesV.ext (logic_And [2, 1] _ (by decide)) fun r m1 h e => ?_
  rw [show firstI [2, 1] 0 1 2 = 1 by decide] at h; subst h
  simp -implicitDefEqProofs only [go_sem]
  refine DoesV.ext (logic_Or [2, 1] _ (by decide)) fun r m2 h e2 => ?_
  rw [show firstI [2, 1] 2 1 0 = 2 by decide] at h; subst h
  simp -implicitDefEqProofs only [go_sem]
  refine DoesV.ext (logic_And [] _ (by decide)) fun r m3 h e3 => ?_
  rw [show firstI [] 0 1 2 = 2 by decide] at h; subst h
  simp -implicitDefEqProofs only [go_sem]
  refine DoesV.ext (logic_Or [] _ (by decide)) fun r m4 h e4 => ?_
  rw [show firstI [] 2 1 0 = 0 by decide] at h; subst h
  simp -implicitDefEqProofs only [go_sem]
  refine DoesV.same (logic_Of true _) fun r h => ?_
  subst h
  simp -implicitDefEqProofs only [go_sem]
  refine DoesV.same (logic_Not 0 _) fun r h => ?_
  rw [show (2 : Int) - ofI 0 = 2 by decide] at h; subst h
  simp -implicitDefEqProofs only [go_sem]
  refine DoesV.same (logic_Right 1 _) fun r h => ?_
  rw [show decide ((0 : Int) ≤ 1 ∧ (1 : Int) ≤ 2) = true by decide] at h; subst h
  simp -implicitDefEqProofs only [go_sem]
  exact ((e.trans e2).trans e3).trans e4
end Go.Proofs.Ytakmilmckdllfaa.G
