/-
The law's function LogicLaws returns true.
-/
import Derived.Test.YtakmilmckdllfaaL3
import Derived.Test.YtakmilmckdllfaaG19
set_option linter.unusedVariables false
set_option linter.unusedSimpArgs false
set_option maxRecDepth 100000
namespace Go.Proofs.Ytakmilmckdllfaa.G

theorem any_map_not (l : List Int) (a b : Int) (h : ∀ x, (ofI (2 - ofI x) == a) = (ofI x == b)) : (l.map fun x => 2 - ofI x).any (fun x => ofI x == a) = l.any (fun x => ofI x == b) := by
  induction l with
  | nil => rfl
  | cons x l ih => simp only [List.map_cons, List.any_cons, ih, h]
theorem ofI_not (x a : Int) : (ofI (2 - ofI x) == a) = (ofI x == 2 - a) := by
  have := ofI_bound x
  have e : ofI (2 - ofI x) = 2 - ofI x := by
    rw [show ofI (2 - ofI x) = if 0 ≤ 2 - ofI x ∧ 2 - ofI x ≤ 2 then 2 - ofI x else 1 from rfl, if_pos (by omega)]
  rw [e, Bool.eq_iff_iff, beq_iff_eq, beq_iff_eq]; omega
theorem nots_or (l : List Int) : firstI (l.map fun x => 2 - ofI x) 2 1 0 = 2 - ofI (firstI l 0 1 2) := by
  unfold firstI
  rw [any_map_not l 2 0 (fun x => ofI_not x 2), any_map_not l 1 1 (fun x => ofI_not x 1)]
  cases (l.any fun x => ofI x == 0) <;> cases (l.any fun x => ofI x == 1) <;> rfl
theorem firstI_one (x : Int) : firstI [x] 0 1 2 = 2 - ofI (2 - ofI x) := by
  have := ofI_bound x
  have h : ofI x = 0 ∨ ofI x = 1 ∨ ofI x = 2 := by omega
  unfold firstI
  simp only [List.any_cons, List.any_nil, Bool.or_false]
  rcases h with h | h | h <;> rw [h] <;> rfl
theorem firstI_turn (l m : List Int) (a b c : Int) : firstI (m ++ l ++ m) a b c = firstI (l ++ m) a b c := by
  unfold firstI
  simp only [List.any_append]
  cases (l.any fun x => ofI x == a) <;> cases (m.any fun x => ofI x == a) <;> cases (l.any fun x => ofI x == b) <;> cases (m.any fun x => ofI x == b) <;> rfl
theorem firstI_two_and (l m : List Int) : firstI [firstI l 0 1 2, firstI m 0 1 2] 0 1 2 = firstI (l ++ m) 0 1 2 := by
  unfold firstI
  simp only [List.any_append, List.any_cons, List.any_nil, Bool.or_false]
  cases (l.any fun x => ofI x == 0) <;> cases (m.any fun x => ofI x == 0) <;> cases (l.any fun x => ofI x == 1) <;> cases (m.any fun x => ofI x == 1) <;> rfl
theorem firstI_two_or (l m : List Int) : firstI [firstI l 2 1 0, firstI m 2 1 0] 2 1 0 = firstI (l ++ m) 2 1 0 := by
  unfold firstI
  simp only [List.any_append, List.any_cons, List.any_nil, Bool.or_false]
  cases (l.any fun x => ofI x == 2) <;> cases (m.any fun x => ofI x == 2) <;> cases (l.any fun x => ofI x == 1) <;> cases (m.any fun x => ofI x == 1) <;> rfl

/-- An append of whole numbers. -/
theorem append_ints {m0 m : Mem} {own o : Own} {l ys : List Int} (he : Ext m0 m) (hm : Mine m0 m own l.length 1) (hlen : l.length + ys.length ≤ 1000000) :
    ∃ own' m', aappend Try.prog m 22 22 (.slice own (l.map .i64)) (.slice o (ys.map .i64)) = some (.slice own' ((l ++ ys).map .i64), m') ∧ Ext m0 m' ∧ Mine m0 m' own' (l ++ ys).length 1 ∧ Else own m m' ∧ (own' = own ∨ own' = .row m.rows.length) := by
  have h := aappend_mine (P := Try.prog) (t := 22) (xt := 22) (m0 := m0) (m := m) (own := own) (o := o) (es := l.map .i64) (ys := ys.map .i64) t22_elem t22_elem t3_size t3_bytes t3_zsize (by omega) (by omega) he (by simpa using hm) (by simp; omega) (fun e he => by obtain ⟨x, _, rfl⟩ := List.mem_map.1 he; rfl) (fun e he => by obtain ⟨x, _, rfl⟩ := List.mem_map.1 he; rfl)
  simpa using h

theorem law_LogicLaws (l k : List Int) (m : Mem) : Does Try.prog 4 [.ints l, .ints k] m fun r m1 => r = .bool true ∧ Ext m m1 := by
  refine Does.of_slim mix fn_4 ok_4 (by rfl) ?_; simp -implicitDefEqProofs only [go_sem, Try.f4]
  by_cases hl : (l.length : Int) > 200
  · simp -implicitDefEqProofs only [go_sem, decide_eq_true hl]
    refine DoesV.ext (law04_awake _) fun r m1 h e => ?_
    subst h
    simp -implicitDefEqProofs only [go_sem]
    exact e
  by_cases hk : (k.length : Int) > 200
  · simp -implicitDefEqProofs only [go_sem, decide_eq_false hl, decide_eq_true hk]
    refine DoesV.ext (law04_awake _) fun r m1 h e => ?_
    subst h
    simp -implicitDefEqProofs only [go_sem]
    exact e
  simp -implicitDefEqProofs only [go_sem, decide_eq_false hl, decide_eq_false hk]
  refine SLoop.induct mix fn_4 (by kernel_rfl) (fun n e m' => ∃ (i : Nat) (own : Own), e = [(0, .ints l), (1, .ints k), (5, .slice own (((l.take i).map fun x => 2 - ofI x).map .i64)), (6, .i64 i)] ∧ Ext m m' ∧ Mine m m' own i 1 ∧ i ≤ l.length ∧ n = l.length - i) l.length ⟨0, .full, rfl, Ext.refl _, .full, by omega, by omega⟩ (by simp -implicitDefEqProofs only [go_sem] <;> repeat' (first | rfl | apply And.intro)) ?_
  rintro n e m' ⟨i, own, rfl, he, hm, hi, hn⟩ ih
  simp -implicitDefEqProofs only [go_sem, Try.f4]
  refine SCond_dec (fun h => ?_) fun h => ?_
  · have hi' : i < l.length := by omega
    have hg : l[i]? = some l[i] := by simp [hi']
    simp -implicitDefEqProofs only [go_sem, hg]
    refine DoesV.same (logic_Not l[i] _) fun r h => ?_
    subst h
    obtain ⟨own', m2, ha, he2, hm2, _, _⟩ := append_ints (o := .full) (l := (l.take i).map fun x => 2 - ofI x) (ys := [2 - ofI l[i]]) he (by simpa [Nat.min_eq_left hi] using hm) (by simp; omega)
    simp only [List.map_cons, List.map_nil] at ha
    simp -implicitDefEqProofs only [go_sem, ha, hg]
    refine DoesV.same (logic_Not l[i] _) fun r h => ?_
    subst h
    simp -implicitDefEqProofs only [go_sem]
    refine DoesV.same (logic_Not _ _) fun r h => ?_
    subst h
    simp -implicitDefEqProofs only [go_sem, hg]
    refine DoesV.ext (logic_And [l[i]] _ (by simp)) fun r m3 h e3 => ?_
    subst h
    simp -implicitDefEqProofs only [go_sem, firstI_one]
    rw [wrap64 (n := (i : Int) + 1) (by omega) (by omega)]
    refine ih (l.length - (i + 1)) _ _ _ (by omega) ⟨i + 1, own', rfl, he2.trans e3, ?_, by omega, rfl⟩ ?_
    · have := hm2.ext e3
      simpa [Nat.min_eq_left hi] using this
    · rw [List.take_succ_eq_append_getElem hi']
      simp -implicitDefEqProofs only [go_sem, List.map_append]
  · simp -implicitDefEqProofs only [go_sem]
    have : i = l.length := by omega
    subst this
    rw [List.take_length]
    obtain ⟨o1, m1, ha1, he1, hm1, el1, _⟩ := append_ints (o := .foreign) (own := .full) (l := []) (ys := l) he .full (by show 0 + _ ≤ _; omega)
    simp only [List.map_nil, List.nil_append] at ha1 hm1
    simp -implicitDefEqProofs only [go_sem, ha1]
    obtain ⟨o2, m2, ha2, he2, hm2, el2, _⟩ := append_ints (o := .foreign) (l := l) (ys := k) he1 hm1 (by omega)
    simp -implicitDefEqProofs only [go_sem, ha2]
    obtain ⟨o3, m3, ha3, he3, hm3, el3, _⟩ := append_ints (o := .foreign) (own := .full) (l := []) (ys := k) he2 .full (by show 0 + _ ≤ _; omega)
    simp only [List.map_nil, List.nil_append] at ha3 hm3
    simp -implicitDefEqProofs only [go_sem, ha3]
    obtain ⟨o4, m4, ha4, he4, hm4, el4, _⟩ := append_ints (o := .foreign) (l := k) (ys := l) he3 hm3 (by omega)
    simp -implicitDefEqProofs only [go_sem, ha4]
    obtain ⟨o5, m5, ha5, he5, hm5, el5, _⟩ := append_ints (o := .foreign) (l := k ++ l) (ys := k) he4 hm4 (by simp; omega)
    simp -implicitDefEqProofs only [go_sem, ha5]
    refine DoesV.ext (logic_And l _ (by omega)) fun r m6 h e6 => ?_
    subst h
    simp -implicitDefEqProofs only [go_sem]
    refine DoesV.same (logic_Not _ _) fun r h => ?_
    subst h
    simp -implicitDefEqProofs only [go_sem]
    refine DoesV.ext (logic_Or (l.map fun x => 2 - ofI x) _ (by simp; omega)) fun r m7 h e7 => ?_
    subst h
    simp -implicitDefEqProofs only [go_sem, nots_or]
    refine DoesV.ext (logic_And (l ++ k) _ (by simp; omega)) fun r m8 h e8 => ?_
    subst h
    simp -implicitDefEqProofs only [go_sem]
    refine DoesV.ext (logic_And (k ++ l ++ k) _ (by simp; omega)) fun r m9 h e9 => ?_
    subst h
    simp -implicitDefEqProofs only [go_sem, firstI_turn]
    refine DoesV.ext (logic_Or (l ++ k) _ (by simp; omega)) fun r m10 h e10 => ?_
    subst h
    simp -implicitDefEqProofs only [go_sem]
    refine DoesV.ext (logic_Or (k ++ l ++ k) _ (by simp; omega)) fun r m11 h e11 => ?_
    subst h
    simp -implicitDefEqProofs only [go_sem, firstI_turn]
    refine DoesV.ext (logic_And (l ++ k) _ (by simp; omega)) fun r m12 h e12 => ?_
    subst h
    simp -implicitDefEqProofs only [go_sem]
    refine DoesV.ext (logic_And l _ (by omega)) fun r m13 h e13 => ?_
    subst h
    simp -implicitDefEqProofs only [go_sem]
    refine DoesV.ext (logic_And k _ (by omega)) fun r m14 h e14 => ?_
    subst h
    simp -implicitDefEqProofs only [go_sem]
    refine DoesV.ext (logic_And [firstI l 0 1 2, firstI k 0 1 2] _ (by simp)) fun r m15 h e15 => ?_
    subst h
    simp -implicitDefEqProofs only [go_sem, firstI_two_and]
    refine DoesV.ext (logic_Or (l ++ k) _ (by simp; omega)) fun r m16 h e16 => ?_
    subst h
    simp -implicitDefEqProofs only [go_sem]
    refine DoesV.ext (logic_Or l _ (by omega)) fun r m17 h e17 => ?_
    subst h
    simp -implicitDefEqProofs only [go_sem]
    refine DoesV.ext (logic_Or k _ (by omega)) fun r m18 h e18 => ?_
    subst h
    simp -implicitDefEqProofs only [go_sem]
    refine DoesV.ext (logic_Or [firstI l 2 1 0, firstI k 2 1 0] _ (by simp)) fun r m19 h e19 => ?_
    subst h
    simp -implicitDefEqProofs only [go_sem, firstI_two_or]
    refine DoesV.ext (law04_awake _) fun r m20 h e20 => ?_
    subst h
    simp -implicitDefEqProofs only [go_sem]
    exact he5.trans (e6.trans (e7.trans (e8.trans (e9.trans (e10.trans (e11.trans (e12.trans (e13.trans (e14.trans (e15.trans (e16.trans (e17.trans (e18.trans (e19.trans e20))))))))))))))
end Go.Proofs.Ytakmilmckdllfaa.G
