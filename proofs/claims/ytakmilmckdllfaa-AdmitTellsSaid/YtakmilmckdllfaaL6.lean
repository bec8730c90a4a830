/-
The layer 'admit', and what the document says of it: each of its functions.
-/
import Derived.Test.YtakmilmckdllfaaL5
set_option linter.unusedVariables false
set_option linter.unusedSimpArgs false
set_option maxRecDepth 100000
namespace Go.Proofs.Ytakmilmckdllfaa.G

theorem frz_prdC {m : Mem} (k t o : Int) (a b : Trm) (ps : List Prd) : Frz m (.agg (prdC k t o a b ps)) (.agg (prdC k t o a b ps)) := by
  have h := Prd.flat (.mk k t o a b ps)
  rw [Prd.av_mk] at h
  exact h.frz
abbrev prdZ : List AV := [.i64 0, .i64 0, .i64 0, .i64 0, .i64 0, .i64 0, .bool false, .i64 0, .i64 0, .i64 0, .i64 0, .bool false, .i64 0, .slice .full []]
theorem pred_Copy (p : Prd) (hp : p.small 1000000) : Fn Try.prog 72 [p.av] p.av := by
  induction p using Prd.induct with
  | h k t o a b ps ih =>
    rw [small_mk] at hp
    have hpl := hp.1
    refine Does.fn (fun _ => false) (flC (Prd.flat _) flN) ?_; refine Does.of_slim mix fn_72 ok_72 (by rfl) ?_; simp -implicitDefEqProofs only [go_sem, Try.f72]
    refine SLoop.induct mix fn_72 (by kernel_rfl) (fun n e m' => ∃ (j : Nat) (own : Own) (X : List ABox) (R : List (Option (Nat × List AV))), e = [(1, .ptr 0 0), (2, .ptr 1 0), (3, .slice own ((ps.take j).map Prd.av)), (7, .prds ps), (8, .i64 ps.length), (9, .i64 j)] ∧ m' = ⟨.cells (prdC k t o a b ps) :: .cells prdZ :: X, R, fun _ => false⟩ ∧ Mine R own j 14 ∧ j ≤ ps.length ∧ n = ps.length - j) ps.length ⟨0, .full, [], [], rfl, rfl, .full, by omega, by omega⟩ (by simp -implicitDefEqProofs only [go_sem] <;> repeat' (first | rfl | apply And.intro)) ?_
    rintro n e m' ⟨j, own, X, R, rfl, rfl, hm, hj, hn⟩ ih2
    simp -implicitDefEqProofs only [go_sem, Try.f72]
    refine SCond_dec (fun h => ?_) fun h => ?_
    · have hj' : j < ps.length := by omega
      simp -implicitDefEqProofs only [go_sem, getL hj']
      refine DoesV.fn (ih _ (List.getElem_mem hj') (hp.2 _ (List.getElem_mem hj'))) ?_
      obtain ⟨own', R', ha, hm', _, _, _⟩ := append_map (P := Try.prog) (f := Prd.av) (B := .cells (prdC k t o a b ps) :: .cells prdZ :: (X ++ [.cells ps[j].av.cells])) (μ := fun _ => false) (o := .full) (l := ps.take j) (ys := [ps[j]]) t33_elem t42_size t42_bytes t42_zsize rfl rfl prd_len (by simpa [Nat.min_eq_left hj] using hm) (by simp; omega)
      simp only [List.map_cons, List.map_nil] at ha
      rw [List.take_append_getElem hj'] at ha hm'
      simp -implicitDefEqProofs only [go_sem, ha, inc64 j (by omega)]
      exact ih2 (ps.length - (j + 1)) _ _ _ (by omega) ⟨j + 1, own', _, R', rfl, rfl, by simpa [Nat.min_eq_left (show j + 1 ≤ ps.length from hj')] using hm', hj', rfl⟩ (by simp -implicitDefEqProofs only [go_sem] <;> repeat' (first | rfl | apply And.intro))
    · simp -implicitDefEqProofs only [go_sem]
      have : j = ps.length := by omega
      subst this
      rw [List.take_length]
      exact frz_prdC k t o a b ps

/-- Which edges are new where two sets are joined. -/
def fresh (a b : Set64) (e : Edg) : Bool := insub e.uses (a ||| b) && !insub e.uses a && !insub e.uses b
def freshN (l : List Edg) (a b : Set64) (j : Nat) : List Nat := (List.range j).filter fun i => (l[i]?).any (fresh a b)
def newI (l : List Edg) (a b : Set64) (j : Nat) : List Int := (freshN l a b j).map fun (i : Nat) => (i : Int)
theorem newI_succ (l : List Edg) (a b : Set64) {j : Nat} (hj : j < l.length) : newI l a b (j + 1) = newI l a b j ++ (if fresh a b l[j] = true then [(j : Int)] else []) := by
  unfold newI freshN
  rw [List.range_succ, List.filter_append, List.map_append]
  congr 1
  rw [List.filter_cons, getL hj]
  simp only [Option.any_some, List.filter_nil]
  split <;> rfl
theorem newI_len (l : List Edg) (a b : Set64) (j : Nat) : (newI l a b j).length ≤ j := by
  unfold newI freshN
  rw [List.length_map]
  exact Nat.le_trans (List.length_filter_le _ _) (by simp)
@[go_sem] theorem newI_zero (l : List Edg) (a b : Set64) : newI l a b 0 = [] := rfl
theorem cells_i64 (x : Int) : (AV.i64 x).cells.length = 1 := rfl
theorem frz_ints {m : Mem} {own : Own} (l : List Int) : Frz m (.slice own (l.map AV.i64)) (.slice .foreign (l.map AV.i64)) := Frz.mk fun e he c hc => by
  obtain ⟨x, _, rfl⟩ := List.mem_map.1 he
  exact flat_cells (.atom _) c hc

theorem admit_New (l : List Edg) (a b : Set64) (hl : l.length ≤ 1000000) : Fn Try.prog 28 [.edgs l, .set a, .set b] (.slice .foreign ((newI l a b l.length).map .i64)) := by
  refine Does.fn (fun _ => false) (flC (flat_edgs _) (flC (.atom _) (flC (.atom _) flN))) ?_; refine Does.of_slim mix fn_28 ok_28 (by rfl) ?_; simp -implicitDefEqProofs only [go_sem, Try.f28]
  refine SLoop.induct mix fn_28 (by kernel_rfl) (fun n e m' => ∃ (j : Nat) (own : Own) (X : List ABox) (R : List (Option (Nat × List AV))), e = [(1, .set a), (2, .set b), (7, .slice own ((newI l a b j).map .i64)), (10, .edgs l), (11, .i64 l.length), (12, .i64 j)] ∧ m' = ⟨X, R, fun _ => false⟩ ∧ Mine R own (newI l a b j).length 1 ∧ j ≤ l.length ∧ n = l.length - j) l.length ⟨0, .full, [], [], rfl, rfl, .full, by omega, by omega⟩ (by simp -implicitDefEqProofs only [go_sem] <;> repeat' (first | rfl | apply And.intro)) ?_
  rintro n e m' ⟨j, own, X, R, rfl, rfl, hm, hj, hn⟩ ih
  simp -implicitDefEqProofs only [go_sem, Try.f28]
  refine SCond_dec (fun h => ?_) fun h => ?_
  · have hj' : j < l.length := by omega
    have hlen := newI_len l a b j
    simp -implicitDefEqProofs only [go_sem, getL hj']
    refine DoesV.fn (sets_In l[j].uses (a ||| b)) ?_
    have hs := newI_succ l a b hj'
    by_cases h1 : insub l[j].uses (a ||| b) = true
    · by_cases h2 : insub l[j].uses a = true
      · have hf : fresh a b l[j] = false := by simp [fresh, h1, h2]
        rw [hf] at hs
        simp only [Bool.false_eq_true, if_false, List.append_nil] at hs
        simp -implicitDefEqProofs only [go_sem, h1]
        refine DoesV.fn (sets_In l[j].uses a) ?_
        simp -implicitDefEqProofs only [go_sem, h2, inc64 j (by omega)]
        exact ih (l.length - (j + 1)) _ _ _ (by omega) ⟨j + 1, own, _, R, rfl, rfl, by rw [hs]; exact hm, by omega, rfl⟩ (by rw [hs]; simp -implicitDefEqProofs only [go_sem])
      · simp only [Bool.not_eq_true] at h2
        simp -implicitDefEqProofs only [go_sem, h1]
        refine DoesV.fn (sets_In l[j].uses a) ?_
        simp -implicitDefEqProofs only [go_sem, h2]
        refine DoesV.fn (sets_In l[j].uses b) ?_
        by_cases h3 : insub l[j].uses b = true
        · have hf : fresh a b l[j] = false := by simp [fresh, h1, h2, h3]
          rw [hf] at hs
          simp only [Bool.false_eq_true, if_false, List.append_nil] at hs
          simp -implicitDefEqProofs only [go_sem, h3, inc64 j (by omega)]
          exact ih (l.length - (j + 1)) _ _ _ (by omega) ⟨j + 1, own, _, R, rfl, rfl, by rw [hs]; exact hm, by omega, rfl⟩ (by rw [hs]; simp -implicitDefEqProofs only [go_sem])
        · simp only [Bool.not_eq_true] at h3
          have hf : fresh a b l[j] = true := by simp [fresh, h1, h2, h3]
          rw [hf] at hs
          simp only [if_true] at hs
          obtain ⟨own', R', ha, hm', _, _, _⟩ := append_map (P := Try.prog) (f := AV.i64) (B := X ++ [.cells (edgC l[j])]) (μ := fun _ => false) (o := .full) (l := newI l a b j) (ys := [(j : Int)]) t22_elem t3_size t3_bytes t3_zsize rfl rfl cells_i64 hm (by simp; omega)
          simp only [List.map_cons, List.map_nil] at ha
          rw [← hs] at ha hm'
          simp -implicitDefEqProofs only [go_sem, h3, ha, inc64 j (by omega)]
          exact ih (l.length - (j + 1)) _ _ _ (by omega) ⟨j + 1, own', _, R', rfl, rfl, hm', by omega, rfl⟩ (by simp -implicitDefEqProofs only [go_sem] <;> repeat' (first | rfl | apply And.intro))
    · simp only [Bool.not_eq_true] at h1
      have hf : fresh a b l[j] = false := by simp [fresh, h1]
      rw [hf] at hs
      simp only [Bool.false_eq_true, if_false, List.append_nil] at hs
      simp -implicitDefEqProofs only [go_sem, h1, inc64 j (by omega)]
      exact ih (l.length - (j + 1)) _ _ _ (by omega) ⟨j + 1, own, _, R, rfl, rfl, by rw [hs]; exact hm, by omega, rfl⟩ (by rw [hs]; simp -implicitDefEqProofs only [go_sem])
  · simp -implicitDefEqProofs only [go_sem]
    have : j = l.length := by omega
    subst this
    exact frz_ints _

theorem ref23_New (l : List Edg) (a b : Set64) (hl : l.length ≤ 1000000) : Fn Try.prog 29 [.edgs l, .set a, .set b] (.slice .foreign ((newI l a b l.length).map .i64)) := by
  refine Does.fn (fun _ => false) (flC (flat_edgs _) (flC (.atom _) (flC (.atom _) flN))) ?_; refine Does.of_slim mix fn_29 ok_29 (by rfl) ?_; simp -implicitDefEqProofs only [go_sem, Try.f29]
  refine SLoop.induct mix fn_29 (by kernel_rfl) (fun n e m' => ∃ (j : Nat) (own : Own) (X : List ABox) (R : List (Option (Nat × List AV))), e = [(0, .edgs l), (1, .set a), (2, .set b), (7, .slice own ((newI l a b j).map .i64)), (8, .i64 j)] ∧ m' = ⟨X, R, fun _ => false⟩ ∧ Mine R own (newI l a b j).length 1 ∧ j ≤ l.length ∧ n = l.length - j) l.length ⟨0, .full, [], [], rfl, rfl, .full, by omega, by omega⟩ (by simp -implicitDefEqProofs only [go_sem] <;> repeat' (first | rfl | apply And.intro)) ?_
  rintro n e m' ⟨j, own, X, R, rfl, rfl, hm, hj, hn⟩ ih
  simp -implicitDefEqProofs only [go_sem, Try.f29]
  refine SCond_dec (fun h => ?_) fun h => ?_
  · have hj' : j < l.length := by omega
    have hlen := newI_len l a b j
    simp -implicitDefEqProofs only [go_sem, getL hj']
    refine DoesV.fn (ref01_In l[j].uses (a ||| b)) ?_
    have hs := newI_succ l a b hj'
    by_cases h1 : insub l[j].uses (a ||| b) = true
    · by_cases h2 : insub l[j].uses a = true
      · have hf : fresh a b l[j] = false := by simp [fresh, h1, h2]
        rw [hf] at hs
        simp only [Bool.false_eq_true, if_false, List.append_nil] at hs
        simp -implicitDefEqProofs only [go_sem, h1]
        refine DoesV.fn (ref01_In l[j].uses a) ?_
        simp -implicitDefEqProofs only [go_sem, h2, inc64 j (by omega)]
        exact ih (l.length - (j + 1)) _ _ _ (by omega) ⟨j + 1, own, _, R, rfl, rfl, by rw [hs]; exact hm, by omega, rfl⟩ (by rw [hs]; simp -implicitDefEqProofs only [go_sem])
      · simp only [Bool.not_eq_true] at h2
        simp -implicitDefEqProofs only [go_sem, h1]
        refine DoesV.fn (ref01_In l[j].uses a) ?_
        simp -implicitDefEqProofs only [go_sem, h2]
        refine DoesV.fn (ref01_In l[j].uses b) ?_
        by_cases h3 : insub l[j].uses b = true
        · have hf : fresh a b l[j] = false := by simp [fresh, h1, h2, h3]
          rw [hf] at hs
          simp only [Bool.false_eq_true, if_false, List.append_nil] at hs
          simp -implicitDefEqProofs only [go_sem, h3, inc64 j (by omega)]
          exact ih (l.length - (j + 1)) _ _ _ (by omega) ⟨j + 1, own, _, R, rfl, rfl, by rw [hs]; exact hm, by omega, rfl⟩ (by rw [hs]; simp -implicitDefEqProofs only [go_sem])
        · simp only [Bool.not_eq_true] at h3
          have hf : fresh a b l[j] = true := by simp [fresh, h1, h2, h3]
          rw [hf] at hs
          simp only [if_true] at hs
          obtain ⟨own', R', ha, hm', _, _, _⟩ := append_map (P := Try.prog) (f := AV.i64) (B := X) (μ := fun _ => false) (o := .full) (l := newI l a b j) (ys := [(j : Int)]) t22_elem t3_size t3_bytes t3_zsize rfl rfl cells_i64 hm (by simp; omega)
          simp only [List.map_cons, List.map_nil] at ha
          rw [← hs] at ha hm'
          simp -implicitDefEqProofs only [go_sem, h3, ha, inc64 j (by omega)]
          exact ih (l.length - (j + 1)) _ _ _ (by omega) ⟨j + 1, own', _, R', rfl, rfl, hm', by omega, rfl⟩ (by simp -implicitDefEqProofs only [go_sem] <;> repeat' (first | rfl | apply And.intro))
    · simp only [Bool.not_eq_true] at h1
      have hf : fresh a b l[j] = false := by simp [fresh, h1]
      rw [hf] at hs
      simp only [Bool.false_eq_true, if_false, List.append_nil] at hs
      simp -implicitDefEqProofs only [go_sem, h1, inc64 j (by omega)]
      exact ih (l.length - (j + 1)) _ _ _ (by omega) ⟨j + 1, own, _, R, rfl, rfl, by rw [hs]; exact hm, by omega, rfl⟩ (by rw [hs]; simp -implicitDefEqProofs only [go_sem])
  · simp -implicitDefEqProofs only [go_sem]
    have : j = l.length := by omega
    subst this
    exact frz_ints _

/-- Whether an edge fits two sets. -/
def fits (e : Edg) (a b : Set64) : Bool := insub e.left a && insub e.right b
theorem ref23_fits (e : Edg) (a b : Set64) : Fn Try.prog 73 [e.av, .set a, .set b] (.bool (fits e a b)) := by
  refine Does.fn (fun _ => false) (flC (Edg.flat _) (flC (.atom _) (flC (.atom _) flN))) ?_; refine Does.of_slim mix fn_73 ok_73 (by rfl) ?_; simp -implicitDefEqProofs only [go_sem, Try.f73]
  refine DoesV.fn (ref01_In e.left a) ?_
  cases h1 : insub e.left a with
  | false => simp -implicitDefEqProofs only [go_sem]; simp only [fits, h1, Bool.false_and]; exact .atom _
  | true =>
    simp -implicitDefEqProofs only [go_sem]
    refine DoesV.fn (ref01_In e.right b) ?_
    simp -implicitDefEqProofs only [go_sem]
    simp only [fits, h1, Bool.true_and]; exact .atom _
theorem admit_wayOf (e : Edg) (a b : Set64) : Fn Try.prog 70 [e.av, .set a, .set b] (.agg [.bool (e.kind == 1), .bool (fits e a b), .bool (insub e.right a && insub e.left b)]) := by
  refine Does.fn (fun _ => false) (flC (Edg.flat _) (flC (.atom _) (flC (.atom _) flN))) ?_; refine Does.of_slim mix fn_70 ok_70 (by rfl) ?_; simp -implicitDefEqProofs only [go_sem, Try.f70]
  refine DoesV.fn (sets_In e.left a) ?_
  have fin : ∀ m x y z, Frz m (.agg [.bool x, .bool y, .bool z]) (.agg [.bool x, .bool y, .bool z]) := fun m x y z => (Flat.agg _ (flC (.atom _) (flC (.atom _) (flC (.atom _) flN)))).frz
  cases h1 : insub e.left a with
  | false =>
    simp -implicitDefEqProofs only [go_sem]
    refine DoesV.fn (sets_In e.right a) ?_
    cases h3 : insub e.right a with
    | false => simp -implicitDefEqProofs only [go_sem]; simp only [fits, h1, Bool.false_and]; exact fin _ _ _ _
    | true =>
      simp -implicitDefEqProofs only [go_sem]
      refine DoesV.fn (sets_In e.left b) ?_
      simp -implicitDefEqProofs only [go_sem]; simp only [fits, h1, Bool.false_and, Bool.true_and]; exact fin _ _ _ _
  | true =>
    simp -implicitDefEqProofs only [go_sem]
    refine DoesV.fn (sets_In e.right b) ?_
    simp -implicitDefEqProofs only [go_sem]
    refine DoesV.fn (sets_In e.right a) ?_
    cases h3 : insub e.right a with
    | false => simp -implicitDefEqProofs only [go_sem]; simp only [fits, h1, Bool.false_and, Bool.true_and]; exact fin _ _ _ _
    | true =>
      simp -implicitDefEqProofs only [go_sem]
      refine DoesV.fn (sets_In e.left b) ?_
      simp -implicitDefEqProofs only [go_sem]; simp only [fits, h1, Bool.true_and]; exact fin _ _ _ _
end Go.Proofs.Ytakmilmckdllfaa.G
