/-
admit.Join as the document has it, and the law.
-/
import Derived.Test.YtakmilmckdllfaaL7
set_option linter.unusedVariables false
set_option linter.unusedSimpArgs false
set_option maxRecDepth 100000
namespace Go.Proofs.Ytakmilmckdllfaa.G

def refOk (n : Nat) (a b : Set64) (e : Edg) : Bool := innerE a b e || (n == 1 && otherE a b e)
theorem refOk_all (l : List Edg) (a b : Set64) (h : joinNs l a b ≠ []) (hab : a &&& b = 0#64) : joinOk l a b = (joinNs l a b).all fun i => (l[i]?).all (refOk (joinNs l a b).length a b) := by
  unfold joinOk
  rw [hab]
  generalize joinNs l a b = ns at *
  match ns, h with
  | [i], _ =>
    cases hi : l[i]? with
    | none => simp [hi]
    | some e => simp [hi, refOk]
  | i :: k :: ns, _ =>
    have : ((i :: k :: ns).length == 1) = false := rfl
    have h2 : refOk (i :: k :: ns).length a b = innerE a b := by funext e; simp [refOk]
    simp only [h2, this, Bool.false_and, Bool.or_false, List.isEmpty_cons, Bool.not_false, Bool.true_and, beq_self_eq_true]
set_option maxHeartbeats 2000000 in
theorem ref23_Join (l : List Edg) (a b : Set64) (hl : l.length ≤ 1000) (hps : (joinPs l a b).length ≤ 1000000) : Fn Try.prog 25 [.edgs l, .set a, .set b] (joinAV l a b) := by
  refine Does.fn (fun _ => false) (flC (flat_edgs _) (flC (.atom _) (flC (.atom _) flN))) ?_; refine Does.of_slim mix fn_25 ok_25 (by rfl) ?_; simp -implicitDefEqProofs only [go_sem, Try.f25]
  refine DoesV.fn (ref23_New l a b (by omega)) ?_
  rw [newI_joinNs]
  have hlt := joinNs_lt l a b
  have hlen := joinNs_len l a b
  have bad : ∀ {m : Mem}, joinOk l a b = false → Frz m (.tuple [cutAV 0 [] [], .bool false]) (joinAV l a b) := by
    intro m h
    unfold joinAV
    rw [h]
    exact (Flat.tuple _ (flC (cut_flat 0 [] []) (flC (.atom _) flN))).frz
  by_cases h0 : joinNs l a b = []
  · simp -implicitDefEqProofs only [go_sem, h0]
    exact bad (by simp [joinOk, h0])
  by_cases hab : a &&& b = 0#64
  case neg =>
    have hab' : (a &&& b != 0#64) = true := by simpa using hab
    have hab2 : (a &&& b == 0#64) = false := by simpa using hab
    have e0 : (((joinNs l a b).length : Int) == 0) = false := eqI (by have := List.length_pos_iff.2 h0; omega)
    simp -implicitDefEqProofs only [go_sem, e0, hab']
    exact bad (by simp [joinOk, hab2])
  have hall := refOk_all l a b h0 hab
  have hkind : ∀ (h1 : 0 < (joinNs l a b).length), joinKind l a b = (l[(joinNs l a b)[0]]'(hlt _ (List.getElem_mem h1))).kind := fun h1 => by
    unfold joinKind
    rw [getL h1]
    simp only [Option.bind_some]
    rw [getL (hlt _ (List.getElem_mem h1))]; rfl
  have good : joinOk l a b = true → joinAV l a b = .tuple [cutAV (joinKind l a b) ((joinNs l a b).map fun (i : Nat) => (i : Int)) (joinPs l a b), .bool true] := fun h => by
    unfold joinAV
    rw [if_pos h]; rfl
  unfold joinPs at hps good
  generalize joinOk l a b = ok at *
  generalize joinAV l a b = jav at *
  generalize joinKind l a b = jk at *
  generalize joinNs l a b = ns at *
  have hab' : (a &&& b != 0#64) = false := by simp [hab]
  have h0' : 0 < ns.length := List.length_pos_iff.2 h0
  have e0 : ((ns.length : Int) == 0) = false := eqI (by omega)
  simp -implicitDefEqProofs only [go_sem, e0, hab', getL h0', getL (hlt _ (List.getElem_mem h0')), (hkind h0').symm]
  refine SLoop.induct mix fn_25 (by kernel_rfl) (fun n e m' => ∃ (j : Nat) (own : Own) (X : List ABox) (R : List (Option (Nat × List AV))), e = [(0, .edgs l), (1, .set a), (2, .set b), (6, .ptr 0 0), (8, .slice .foreign ((ns.map fun (i : Nat) => (i : Int)).map .i64)), (9, .ptr 1 0), (10, .i64 j)] ∧ m' = ⟨.cells [.i64 0, .slice .full [], .slice .full []] :: .cells [.i64 jk, .slice .foreign ((ns.map fun (i : Nat) => (i : Int)).map .i64), .slice own (((ns.take j).flatMap (predsAt l)).map Prd.av)] :: X, R, fun _ => false⟩ ∧ Mine R own ((ns.take j).flatMap (predsAt l)).length 14 ∧ j ≤ ns.length ∧ n = ns.length - j ∧ ∀ i ∈ ns.take j, (l[i]?).all (refOk ns.length a b) = true) ns.length ⟨0, .full, [], [], rfl, rfl, .full, by omega, by omega, by simp⟩ (by simp -implicitDefEqProofs only [go_sem] <;> repeat' (first | rfl | apply And.intro)) ?_
  rintro n e m' ⟨j, own, X, R, rfl, rfl, hm, hj, hn, hp⟩ ih
  simp -implicitDefEqProofs only [go_sem, Try.f25]
  refine SCond_dec (fun h => ?_) fun h => ?_
  · have hj' : j < ns.length := by omega
    have hlt' := hlt _ (List.getElem_mem hj')
    have hpa : predsAt l ns[j] = l[ns[j]].preds := by simp [predsAt, getL hlt']
    have htk : (ns.take (j + 1)).flatMap (predsAt l) = (ns.take j).flatMap (predsAt l) ++ l[ns[j]].preds := by
      rw [List.take_succ_eq_append_getElem hj', List.flatMap_append, ← hpa]; simp
    have hle : ((ns.take j).flatMap (predsAt l)).length + l[ns[j]].preds.length ≤ 1000000 := by
      rw [← List.length_append, ← htk]
      refine Nat.le_trans ?_ hps
      conv => rhs; rw [← List.take_append_drop (j + 1) ns, List.flatMap_append, List.length_append]
      exact Nat.le_add_right _ _
    have hbad : refOk ns.length a b l[ns[j]] = false → ok = false := fun h => by
      rw [hall, ← Bool.not_eq_true, List.all_eq_true]
      intro hx
      have := hx _ (List.getElem_mem hj')
      rw [getL hlt', Option.all_some, h] at this
      cases this
    have hnext : refOk ns.length a b l[ns[j]] = true → ∀ i ∈ ns.take (j + 1), (l[i]?).all (refOk ns.length a b) = true := fun h i hi => by
      rw [List.take_succ_eq_append_getElem hj'] at hi
      rcases List.mem_append.1 hi with hi | hi
      · exact hp i hi
      · simp at hi; subst hi; rw [getL hlt', Option.all_some, h]
    obtain ⟨own', R', ha, hm', _, _, _⟩ := append_map (P := Try.prog) (f := Prd.av) (B := .cells [.i64 0, .slice .full [], .slice .full []] :: .cells [.i64 jk, .slice .foreign ((ns.map fun (i : Nat) => (i : Int)).map .i64), .slice own (((ns.take j).flatMap (predsAt l)).map Prd.av)] :: (X ++ [.cells (edgC l[ns[j]])])) (μ := fun _ => false) (o := .foreign) (l := (ns.take j).flatMap (predsAt l)) (ys := l[ns[j]].preds) t33_elem t42_size t42_bytes t42_zsize rfl rfl prd_len hm (by omega)
    simp -implicitDefEqProofs only [go_sem, getL hj', getL hlt']
    by_cases hk : l[ns[j]].kind = 1
    · have k3 : (l[ns[j]].kind != 1) = false := by simp [hk]
      have k4 : (l[ns[j]].kind == 1) = true := by simp [hk]
      simp -implicitDefEqProofs only [go_sem, k3, k4]
      refine DoesV.fn (ref23_fits l[ns[j]] a b) ?_
      cases hf : fits l[ns[j]] a b with
      | true =>
        have hr : refOk ns.length a b l[ns[j]] = true := by simp [refOk, innerE, hk, hf]
        simp -implicitDefEqProofs only [go_sem, k3, k4, ha, inc64 j (by omega)]
        exact ih (ns.length - (j + 1)) _ _ _ (by omega) ⟨j + 1, own', X ++ [.cells (edgC l[ns[j]])], R', rfl, by rw [htk], by rw [htk]; exact hm', by omega, rfl, hnext hr⟩ (by simp -implicitDefEqProofs only [go_sem] <;> repeat' (first | rfl | apply And.intro))
      | false =>
        simp -implicitDefEqProofs only [go_sem]
        refine DoesV.fn (ref23_fits l[ns[j]] b a) ?_
        cases hg : fits l[ns[j]] b a with
        | true =>
          have hr : refOk ns.length a b l[ns[j]] = true := by simp [refOk, innerE, hk, hf, hg]
          simp -implicitDefEqProofs only [go_sem, k3, k4, ha, inc64 j (by omega)]
          exact ih (ns.length - (j + 1)) _ _ _ (by omega) ⟨j + 1, own', X ++ [.cells (edgC l[ns[j]])], R', rfl, by rw [htk], by rw [htk]; exact hm', by omega, rfl, hnext hr⟩ (by simp -implicitDefEqProofs only [go_sem] <;> repeat' (first | rfl | apply And.intro))
        | false =>
          have hr : refOk ns.length a b l[ns[j]] = false := by simp [refOk, innerE, otherE, hk, hf, hg]
          simp -implicitDefEqProofs only [go_sem, k3, k4]
          exact bad (hbad hr)
    · have k1 := neI hk
      have k2 := eqI hk
      by_cases hn1 : 1 < ns.length
      · have hr : refOk ns.length a b l[ns[j]] = false := by simp only [refOk, innerE, k2, Bool.false_and, Bool.false_or, show (ns.length == 1) = false by simp; omega]
        simp -implicitDefEqProofs only [go_sem, k1, decide_eq_true (show (ns.length : Int) > 1 by omega)]
        exact bad (hbad hr)
      have n1 : ns.length = 1 := by omega
      by_cases hk2 : l[ns[j]].kind < 2
      · have hr : refOk ns.length a b l[ns[j]] = false := by simp only [refOk, innerE, otherE, k2, Bool.false_and, Bool.false_or, decide_eq_false (show ¬ l[ns[j]].kind > 1 by omega), Bool.and_false]
        simp -implicitDefEqProofs only [go_sem, k1, decide_eq_false (show ¬ (ns.length : Int) > 1 by omega), decide_eq_true hk2]
        exact bad (hbad hr)
      by_cases hk4 : l[ns[j]].kind > 4
      · have hr : refOk ns.length a b l[ns[j]] = false := by simp only [refOk, innerE, otherE, k2, Bool.false_and, Bool.false_or, decide_eq_false (show ¬ l[ns[j]].kind ≤ 4 by omega), Bool.and_false]
        simp -implicitDefEqProofs only [go_sem, k1, decide_eq_false (show ¬ (ns.length : Int) > 1 by omega), decide_eq_false hk2, decide_eq_true hk4]
        exact bad (hbad hr)
      simp -implicitDefEqProofs only [go_sem, k1, decide_eq_false (show ¬ (ns.length : Int) > 1 by omega), decide_eq_false hk2, decide_eq_false hk4]
      refine DoesV.fn (ref23_fits l[ns[j]] a b) ?_
      cases hf : fits l[ns[j]] a b with
      | true =>
        have hr : refOk ns.length a b l[ns[j]] = true := by simp only [refOk, innerE, otherE, k1, k2, hf, n1, Bool.false_and, Bool.false_or, decide_eq_true (show l[ns[j]].kind ≤ 4 by omega), decide_eq_true (show l[ns[j]].kind > 1 by omega), Bool.and_true, beq_self_eq_true]
        simp -implicitDefEqProofs only [go_sem, k2, ha, inc64 j (by omega)]
        exact ih (ns.length - (j + 1)) _ _ _ (by omega) ⟨j + 1, own', X ++ [.cells (edgC l[ns[j]])], R', rfl, by rw [htk], by rw [htk]; exact hm', by omega, rfl, hnext hr⟩ (by simp -implicitDefEqProofs only [go_sem] <;> repeat' (first | rfl | apply And.intro))
      | false =>
        have hr : refOk ns.length a b l[ns[j]] = false := by simp only [refOk, innerE, otherE, k2, hf, Bool.false_and, Bool.false_or, Bool.and_false]
        simp -implicitDefEqProofs only [go_sem]
        exact bad (hbad hr)
  · simp -implicitDefEqProofs only [go_sem]
    have : j = ns.length := by omega
    subst this
    rw [List.take_length] at hp ⊢
    rw [good (by rw [hall, List.all_eq_true]; exact hp)]
    exact (Flat.tuple _ (flC (cut_flat _ _ _) (flC (.atom _) flN))).frz
end Go.Proofs.Ytakmilmckdllfaa.G
