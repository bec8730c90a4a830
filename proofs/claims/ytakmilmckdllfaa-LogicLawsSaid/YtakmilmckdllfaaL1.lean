/-
The layer 'logic': what each of its functions tells.
-/
import Derived.Test.YtakmilmckdllfaaGF
import Derived.Test.YtakmilmckdllfaaG18
set_option linter.unusedVariables false
set_option linter.unusedSimpArgs false
set_option maxRecDepth 100000
namespace Go.Proofs.Ytakmilmckdllfaa.G

def ofI (t : Int) : Int := if 0 ≤ t ∧ t ≤ 2 then t else 1
theorem ofI_bound (t : Int) : 0 ≤ ofI t ∧ ofI t ≤ 2 := by unfold ofI; split <;> omega
abbrev AV.ints (l : List Int) : AV := .slice .foreign (l.map .i64)

theorem logic_Right (t : Int) (m : Mem) : Does Try.prog 16 [.i64 t] m fun r m1 => r = .bool (decide (0 ≤ t ∧ t ≤ 2)) ∧ m1 = m := by
  refine Does.of_slim mix fn_16 ok_16 (by rfl) ?_; simp -implicitDefEqProofs only [go_sem, Try.f16]
  refine SGo_bool (fun h => ?_) fun h => ?_ <;> simp -implicitDefEqProofs only [go_sem, h] <;> simp at h ⊢ <;> omega
theorem logic_of (t : Int) (m : Mem) : Does Try.prog 64 [.i64 t] m fun r m1 => r = .i64 (ofI t) ∧ m1 = m := by
  refine Does.of_slim mix fn_64 ok_64 (by rfl) ?_; simp -implicitDefEqProofs only [go_sem, Try.f64]
  refine DoesV.same (logic_Right t m) fun r h => ?_
  subst h
  simp -implicitDefEqProofs only [go_sem]
  refine SCond_bool (fun h => ?_) fun h => ?_ <;> simp -implicitDefEqProofs only [go_sem] <;> simp [ofI] at h ⊢ <;> omega
theorem logic_Not (t : Int) (m : Mem) : Does Try.prog 14 [.i64 t] m fun r m1 => r = .i64 (2 - ofI t) ∧ m1 = m := by
  refine Does.of_slim mix fn_14 ok_14 (by rfl) ?_; simp -implicitDefEqProofs only [go_sem, Try.f14]
  refine DoesV.same (logic_of t m) fun r h => ?_
  subst h
  have := ofI_bound t
  simp -implicitDefEqProofs only [go_sem, wrap64 (n := 2 - ofI t) (by omega) (by omega)]
theorem logic_Of (b : Bool) (m : Mem) : Does Try.prog 21 [.bool b] m fun r m1 => r = .i64 (if b = true then 2 else 0) ∧ m1 = m := by
  refine Does.of_slim mix fn_21 ok_21 (by rfl) ?_; simp -implicitDefEqProofs only [go_sem, Try.f21]
  refine SCond_bool (fun h => ?_) fun h => ?_ <;> simp -implicitDefEqProofs only [go_sem, h]
theorem logic_first11 (t x : Int) (l : Nat) (m : Mem) (hl : m.boxes[l]? = some (.cells [.i64 t])) : Does Try.prog 125 [.i64 x, .ptr l 0] m fun r m1 => r = .bool (ofI x == t) ∧ m1 = m := by
  refine Does.of_slim mix fn_125 ok_125 (by rfl) ?_; simp -implicitDefEqProofs only [go_sem, Try.f125]
  refine DoesV.same (logic_of x m) fun r h => ?_
  subst h
  simp -implicitDefEqProofs only [go_sem, hl]

/-- slices.IndexFunc, of whole numbers. -/
theorem slices_IndexFunc_int (l : List Int) (fv : AV) (p : Int → Bool) (m : Mem) (hlen : l.length < 2 ^ 62)
    (hf : ∀ x ∈ l, DoesV Try.prog fv [.i64 x] m fun r m1 => r = .bool (p x) ∧ m1 = m) : Does Try.prog 154 [.ints l, fv] m fun r m1 => r = .i64 (if l.any p = true then (l.findIdx p : Nat) else -1) ∧ m1 = m := by
  refine Does.of_slim mix fn_154 ok_154 (by rfl) ?_; simp -implicitDefEqProofs only [go_sem, Try.f154]
  refine SLoop.induct mix fn_154 (by kernel_rfl) (fun n env m' => ∃ (i : Nat), env = [(0, .slice .foreign (l.map .i64)), (1, fv), (6, .slice .foreign (l.map .i64)), (7, .i64 l.length), (8, .i64 i)] ∧ m' = m ∧ i ≤ l.length ∧ n = l.length - i ∧ ∀ x ∈ l.take i, p x = false) l.length ⟨0, rfl, rfl, by omega, by omega, by simp⟩ (by simp -implicitDefEqProofs only [go_sem] <;> repeat' (first | rfl | apply And.intro)) ?_
  rintro n env m' ⟨i, rfl, rfl, hi, hn, hp⟩ ih
  simp -implicitDefEqProofs only [go_sem, Try.f154]
  refine SCond_dec (fun h => ?_) fun h => ?_
  · have hi' : i < l.length := by omega
    have hg : l[i]? = some l[i] := by simp [hi']
    simp -implicitDefEqProofs only [go_sem, hg]
    refine DoesV.sameV (hf l[i] (List.getElem_mem hi')) fun r h => ?_
    subst h
    simp -implicitDefEqProofs only [go_sem]
    refine SCond_bool (fun h => ?_) fun h => ?_
    · simp -implicitDefEqProofs only [go_sem]
      have h3 : l.any p = true := List.any_eq_true.2 ⟨_, List.getElem_mem hi', h⟩
      have h4 : l.findIdx p = i := by
        rw [List.findIdx_eq hi']
        refine ⟨h, fun j hj => hp _ (List.mem_take_iff_getElem.2 ⟨j, by omega, rfl⟩)⟩
      rw [if_pos h3, h4]
    · simp -implicitDefEqProofs only [go_sem, wrap64 (n := (i : Int) + 1) (by omega) (by omega)]
      exact ih (l.length - (i + 1)) _ _ _ (by omega) ⟨i + 1, rfl, rfl, by omega, rfl, fun x hx => by
        rw [List.take_succ_eq_append_getElem hi'] at hx
        rcases List.mem_append.1 hx with hx | hx
        · exact hp x hx
        · simp at hx; subst hx; exact h⟩ (by simp -implicitDefEqProofs only [go_sem] <;> repeat' (first | rfl | apply And.intro))
  · simp -implicitDefEqProofs only [go_sem]
    have : i = l.length := by omega
    subst this
    simp only [List.take_length] at hp
    rw [if_neg (by simpa using hp)]
theorem slices_ContainsFunc_int (l : List Int) (fv : AV) (p : Int → Bool) (m : Mem) (hlen : l.length < 2 ^ 62) (hs : fv.strip = fv)
    (hf : ∀ x ∈ l, DoesV Try.prog fv [.i64 x] m fun r m1 => r = .bool (p x) ∧ m1 = m) : Does Try.prog 124 [.ints l, fv] m fun r m1 => r = .bool (l.any p) ∧ m1 = m := by
  refine Does.of_slim mix fn_124 ok_124 (by rfl) ?_; simp -implicitDefEqProofs only [go_sem, Try.f124]
  rw [hs]
  refine DoesV.same (slices_IndexFunc_int l fv p m hlen hf) fun r h => ?_
  subst h
  simp -implicitDefEqProofs only [go_sem]
  cases l.any p <;> simp
theorem logic_first1 (l : List Int) (t : Int) (L : Nat) (m : Mem) (hlen : l.length < 2 ^ 62) (hl : m.boxes[L]? = some (.cells [.ints l])) : Does Try.prog 123 [.i64 t, .ptr L 0] m fun r m1 => r = .bool (l.any fun x => ofI x == t) ∧ Ext m m1 := by
  refine Does.of_slim mix fn_123 ok_123 (by rfl) ?_; simp -implicitDefEqProofs only [go_sem, Try.f123]
  have e := Ext.push m (.cells [.i64 t])
  simp -implicitDefEqProofs only [go_sem, e.get hl]
  refine DoesV.same (slices_ContainsFunc_int l _ (fun x => ofI x == t) _ hlen rfl fun x hx => .of (logic_first11 t x _ _ (by simp -implicitDefEqProofs only [go_sem])) fun r m1 h => h) fun r h => ?_
  subst h
  simp -implicitDefEqProofs only [go_sem]
  exact e
def firstI (l : List Int) (a b c : Int) : Int := if l.any (fun x => ofI x == a) = true then a else if l.any (fun x => ofI x == b) = true then b else c
theorem logic_first (l : List Int) (a b c : Int) (m : Mem) (hlen : l.length < 2 ^ 62) : Does Try.prog 66 [.ints l, .i64 a, .i64 b, .i64 c] m fun r m1 => r = .i64 (firstI l a b c) ∧ Ext m m1 := by
  refine Does.of_slim mix fn_66 ok_66 (by rfl) ?_; simp -implicitDefEqProofs only [go_sem, Try.f66]
  have e := Ext.push m (.cells [.ints l])
  refine DoesV.ext (logic_first1 l a _ _ hlen (by simp -implicitDefEqProofs only [go_sem])) fun r m1 h e1 => ?_
  subst h
  have e2 := e.trans e1
  simp -implicitDefEqProofs only [go_sem]
  refine SCond_bool (fun h => ?_) fun h => ?_
  · simp -implicitDefEqProofs only [go_sem]
    exact ⟨by simp [firstI, h], e2⟩
  · simp -implicitDefEqProofs only [go_sem]
    refine DoesV.ext (logic_first1 l b _ _ hlen (e1.get (by simp -implicitDefEqProofs only [go_sem]))) fun r m2 h2 e3 => ?_
    subst h2
    simp -implicitDefEqProofs only [go_sem]
    refine SCond_bool (fun h => ?_) fun h => ?_ <;> simp -implicitDefEqProofs only [go_sem] <;> refine ⟨?_, e2.trans e3⟩ <;> simp [firstI, *]
theorem logic_And (l : List Int) (m : Mem) (hlen : l.length < 2 ^ 62) : Does Try.prog 17 [.ints l] m fun r m1 => r = .i64 (firstI l 0 1 2) ∧ Ext m m1 := by
  refine Does.of_slim mix fn_17 ok_17 (by rfl) ?_; simp -implicitDefEqProofs only [go_sem, Try.f17]
  refine DoesV.ext (logic_first l 0 1 2 m hlen) fun r m1 h e => ?_
  subst h
  simp -implicitDefEqProofs only [go_sem]
  exact e
theorem logic_Or (l : List Int) (m : Mem) (hlen : l.length < 2 ^ 62) : Does Try.prog 19 [.ints l] m fun r m1 => r = .i64 (firstI l 2 1 0) ∧ Ext m m1 := by
  refine Does.of_slim mix fn_19 ok_19 (by rfl) ?_; simp -implicitDefEqProofs only [go_sem, Try.f19]
  refine DoesV.ext (logic_first l 2 1 0 m hlen) fun r m1 h e => ?_
  subst h
  simp -implicitDefEqProofs only [go_sem]
  exact e
end Go.Proofs.Ytakmilmckdllfaa.G
