/-
The law on admit.
-/
import Derived.Test.YtakmilmckdllfaaL8
set_option linter.unusedVariables false
set_option linter.unusedSimpArgs false
set_option maxRecDepth 100000
namespace Go.Proofs.Ytakmilmckdllfaa.G

theorem law23_awake : Fn Try.prog 22 [] (.bool true) := Fn.run_bool mix okBits_ok (n := 1000) (μ := fun _ => true) (by kernel_rfl)
theorem prefix_len {α : Type} {f : Nat → List α} {K : Nat} : ∀ (ns : List Nat), (∀ i ∈ ns, (f i).length ≤ K) → (ns.flatMap f).length ≤ ns.length * K := by
  intro ns
  induction ns with
  | nil => intro _; simp
  | cons i ns ih =>
    intro h
    have h1 := ih fun j hj => h j (List.mem_cons_of_mem _ hj)
    have h2 := h i (by simp)
    simp only [List.flatMap_cons, List.length_append, List.length_cons, Nat.add_mul]
    omega
theorem law_AdmitTells (l : List Edg) (a b : Set64) (hl : l.length < 9223372036854775808) (hpl : ∀ e ∈ l, e.preds.length < 9223372036854775808 ∧ ∀ p ∈ e.preds, Prd.small 9223372036854775808 p) : Fn Try.prog 5 [.edgs l, .set a, .set b] (.bool true) := by
  refine Does.fn (fun _ => false) (flC (flat_edgs _) (flC (.atom _) (flC (.atom _) flN))) ?_; refine Does.of_slim mix fn_5 ok_5 (by rfl) ?_; simp -implicitDefEqProofs only [go_sem, Try.f5]
  refine SCond_dec (fun h => ?_) fun h => ?_
  · simp -implicitDefEqProofs only [go_sem]
    refine DoesV.fn law23_awake ?_
    simp -implicitDefEqProofs only [go_sem]
    exact .atom _
  have hl60 : l.length ≤ 60 := by omega
  simp -implicitDefEqProofs only [go_sem]
  refine SLoop.induct mix fn_5 (by kernel_rfl) (fun n e m' => ∃ (i : Nat), e = [(0, .edgs l), (1, .set a), (2, .set b), (7, .i64 i)] ∧ m' = ⟨[], [], fun _ => false⟩ ∧ i ≤ l.length ∧ n = l.length - i ∧ ∀ e ∈ l.take i, e.preds.length ≤ 11 ∧ ∀ p ∈ e.preds, Prd.small 1000000 p) l.length ⟨0, rfl, rfl, by omega, by omega, by simp⟩ (by simp -implicitDefEqProofs only [go_sem] <;> repeat' (first | rfl | apply And.intro)) ?_
  rintro n e m' ⟨i, rfl, rfl, hi, hn, hp⟩ ih
  simp -implicitDefEqProofs only [go_sem, Try.f5]
  refine SCond_dec (fun h => ?_) fun h => ?_
  · have hi' : i < l.length := by omega
    have hpi := hpl _ (List.getElem_mem hi')
    simp -implicitDefEqProofs only [go_sem]
    refine SLoop.induct mix fn_5 (by kernel_rfl) (fun n e m' => ∃ (k : Nat), e = [(0, .edgs l), (1, .set a), (2, .set b), (7, .i64 i), (8, .i64 k)] ∧ m' = ⟨[], [], fun _ => false⟩ ∧ k ≤ l[i].preds.length ∧ n = l[i].preds.length - k ∧ k ≤ 11 ∧ ∀ p ∈ l[i].preds.take k, Prd.small 1000000 p) l[i].preds.length ⟨0, rfl, rfl, by omega, by omega, by omega, by simp⟩ (by simp -implicitDefEqProofs only [go_sem] <;> repeat' (first | rfl | apply And.intro)) ?_
    rintro n2 e2 m2 ⟨k, rfl, rfl, hk, hn2, hk11, hpk⟩ ih2
    simp -implicitDefEqProofs only [go_sem, Try.f5]
    simp -implicitDefEqProofs only [go_sem, getL hi']
    refine SCond_dec (fun h => ?_) fun h => ?_
    · have hk' : k < l[i].preds.length := by omega
      have hsz := psz_bound l[i].preds[k] 51 (by omega)
      by_cases h10 : k > 10
      · simp -implicitDefEqProofs only [go_sem, decide_eq_true (show (k : Int) > 10 by omega)]
        refine DoesV.fn law23_awake ?_
        simp -implicitDefEqProofs only [go_sem]
        exact .atom _
      · simp -implicitDefEqProofs only [go_sem, decide_eq_false (show ¬ (k : Int) > 10 by omega), getL hk', getL hi']
        refine DoesV.fn (ref06_Size _ 51 (by omega) (by omega) (hpi.2 _ (List.getElem_mem hk'))) ?_
        by_cases hs : psz l[i].preds[k] 51 > 50
        · simp -implicitDefEqProofs only [go_sem, decide_eq_true hs]
          refine DoesV.fn law23_awake ?_
          simp -implicitDefEqProofs only [go_sem]
          exact .atom _
        · simp -implicitDefEqProofs only [go_sem, decide_eq_false hs, inc64 k (by omega)]
          refine ih2 (l[i].preds.length - (k + 1)) _ _ _ (by omega) ⟨k + 1, rfl, rfl, by omega, rfl, by omega, fun p hp => ?_⟩ (by simp -implicitDefEqProofs only [go_sem] <;> repeat' (first | rfl | apply And.intro))
          rw [List.take_succ_eq_append_getElem hk'] at hp
          rcases List.mem_append.1 hp with hp | hp
          · exact hpk p hp
          · simp at hp; subst hp; exact hsz.2.2 (by omega) 1000000 (by omega)
    · simp -implicitDefEqProofs only [go_sem, inc64 i (by omega)]
      have hkk : k = l[i].preds.length := by omega
      rw [hkk, List.take_length] at hpk
      refine ih (l.length - (i + 1)) _ _ _ (by omega) ⟨i + 1, rfl, rfl, by omega, rfl, fun e he => ?_⟩ (by simp -implicitDefEqProofs only [go_sem] <;> repeat' (first | rfl | apply And.intro))
      rw [List.take_succ_eq_append_getElem hi'] at he
      rcases List.mem_append.1 he with he | he
      · exact hp e he
      · simp at he; subst he; exact ⟨by omega, hpk⟩
  · have hii : i = l.length := by omega
    rw [hii, List.take_length] at hp
    have hat : ∀ i ∈ joinNs l a b, ∃ e ∈ l, predsAt l i = e.preds := fun i hi => by
      have := joinNs_lt l a b i hi
      exact ⟨l[i], List.getElem_mem this, by simp [predsAt, getL this]⟩
    have hjl : (joinPs l a b).length ≤ 660 := by
      refine Nat.le_trans (prefix_len (K := 11) _ fun i hi => ?_) (by have := joinNs_len l a b; omega)
      obtain ⟨e, he, hpe⟩ := hat i hi
      rw [hpe]; exact (hp e he).1
    have hjs : ∀ p ∈ joinPs l a b, Prd.small 9223372036854775808 p := fun p hpp => by
      obtain ⟨i, hi, hpi⟩ := List.mem_flatMap.1 hpp
      obtain ⟨e, he, hpe⟩ := hat i hi
      rw [hpe] at hpi
      exact (hpl e he).2 p hpi
    have hnl := newI_len l a b l.length
    simp -implicitDefEqProofs only [go_sem]
    refine DoesV.fn (admit_Join l a b (by omega) (by omega) fun e he => ⟨by have := (hp e he).1; omega, (hp e he).2⟩) ?_
    have hJ := ref23_Join l a b (by omega) (by omega)
    unfold joinAV at hJ ⊢
    cases hok : joinOk l a b with
    | true =>
      rw [hok] at hJ
      simp only [if_true] at hJ ⊢
      simp -implicitDefEqProofs only [go_sem]
      refine DoesV.fn hJ ?_
      simp -implicitDefEqProofs only [go_sem]
      refine DoesV.fn (ref01_Ints _ _ (by omega) (by omega)) ?_
      simp -implicitDefEqProofs only [go_sem, eqB_true rfl]
      refine DoesV.fn (ref06_List _ _ (by omega) (by omega) hjs hjs) ?_
      simp -implicitDefEqProofs only [go_sem, eqB_true rfl]
      refine DoesV.fn (admit_New l a b (by omega)) ?_
      simp -implicitDefEqProofs only [go_sem]
      refine DoesV.fn (ref23_New l a b (by omega)) ?_
      simp -implicitDefEqProofs only [go_sem]
      refine DoesV.fn (ref01_Ints _ _ (by omega) (by omega)) ?_
      simp -implicitDefEqProofs only [go_sem, eqB_true rfl]
      refine DoesV.fn law23_awake ?_
      simp -implicitDefEqProofs only [go_sem]
      exact .atom _
    | false =>
      rw [hok] at hJ
      simp only [Bool.false_eq_true, if_false] at hJ ⊢
      simp -implicitDefEqProofs only [go_sem]
      refine DoesV.fn hJ ?_
      simp -implicitDefEqProofs only [go_sem]
      refine DoesV.fn (ref01_Ints [] [] (by simp) (by simp)) ?_
      simp -implicitDefEqProofs only [go_sem, eqB_true rfl]
      refine DoesV.fn (ref06_List [] [] (by simp) (by simp) (by simp) (by simp)) ?_
      simp -implicitDefEqProofs only [go_sem, eqB_true rfl]
      refine DoesV.fn (admit_New l a b (by omega)) ?_
      simp -implicitDefEqProofs only [go_sem]
      refine DoesV.fn (ref23_New l a b (by omega)) ?_
      simp -implicitDefEqProofs only [go_sem]
      refine DoesV.fn (ref01_Ints _ _ (by omega) (by omega)) ?_
      simp -implicitDefEqProofs only [go_sem, eqB_true rfl]
      refine DoesV.fn law23_awake ?_
      simp -implicitDefEqProofs only [go_sem]
      exact .atom _
end Go.Proofs.Ytakmilmckdllfaa.G
