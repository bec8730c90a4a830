/-
Sets, predicates: what functions on them tell.
-/
import Derived.Test.YtakmilmckdllfaaD1
set_option linter.unusedVariables false
set_option linter.unusedSimpArgs false
set_option maxRecDepth 100000
namespace Go.Proofs.Ytakmilmckdllfaa.G
/-- Part of. -/
def insub (a b : Set64) : Bool := a &&& ~~~b == 0#64
theorem sets_In (a b : Set64) : Fn Try.prog 75 [.set a, .set b] (.bool (insub a b)) := by
  refine Does.fn (fun _ => false) (flC (.atom _) (flC (.atom _) flN)) ?_; refine Does.of_slim mix fn_75 ok_75 (by rfl) ?_; simp -implicitDefEqProofs only [go_sem, Try.f75]
  exact .atom _
theorem ref01_power (i : Nat) (hi : i < 64) : Fn Try.prog 146 [.i64 i] (.u64 (2 ^ i : Nat)) := by
  refine Does.fn (fun _ => false) (flC (.atom _) flN) ?_; refine Does.of_slim mix fn_146 ok_146 (by rfl) ?_; simp -implicitDefEqProofs only [go_sem, Try.f146]
  refine SLoop.induct mix fn_146 (by kernel_rfl) (fun n e m' => ∃ (j : Nat), e = [(0, .i64 i), (3, .u64 (2 ^ j : Nat)), (4, .i64 j)] ∧ j ≤ i ∧ n = i - j) i ⟨0, rfl, by omega, by omega⟩ (by simp -implicitDefEqProofs only [go_sem] <;> repeat' (first | rfl | apply And.intro)) ?_
  rintro n e m' ⟨j, rfl, hj, hn⟩ ih
  simp -implicitDefEqProofs only [go_sem, Try.f146]
  refine SCond_dec (fun h => ?_) fun h => ?_
  · have hj' : j < i := by omega
    have hp : (2 : Nat) ^ (j + 1) ≤ 2 ^ 63 := Nat.pow_le_pow_right (by omega) (by omega)
    have e1 : IntKind.u64.wrap (((2 ^ j : Nat) : Int) * 2) = ((2 ^ (j + 1) : Nat) : Int) := by
      rw [Nat.pow_succ] at hp ⊢
      generalize 2 ^ j = c at hp ⊢
      rw [wrapu (by omega) (by omega)]; omega
    simp -implicitDefEqProofs only [go_sem, e1, wrap64 (n := (j : Int) + 1) (by omega) (by omega)]
    exact ih (i - (j + 1)) _ _ _ (by omega) ⟨j + 1, rfl, by omega, rfl⟩ (by simp -implicitDefEqProofs only [go_sem] <;> repeat' (first | rfl | apply And.intro))
  · simp -implicitDefEqProofs only [go_sem]
    have : j = i := by omega
    subst this
    exact .atom _
theorem ref01_Has (s : Set64) (i : Nat) (hi : i < 64) : Fn Try.prog 126 [.set s, .i64 i] (.bool (s.getLsbD i)) := by
  refine Does.fn (fun _ => false) (flC (.atom _) (flC (.atom _) flN)) ?_; refine Does.of_slim mix fn_126 ok_126 (by rfl) ?_; simp -implicitDefEqProofs only [go_sem, Try.f126]
  simp -implicitDefEqProofs only [go_sem, decide_eq_true (show (i : Int) < 64 by omega), decide_eq_true (show (i : Int) ≥ 0 by omega)]
  refine DoesV.fn (ref01_power i hi) ?_
  have h0 : ((2 ^ i : Nat) : Int) ≠ 0 := by have := Nat.two_pow_pos i; omega
  simp -implicitDefEqProofs only [go_sem, h0]
  have hlt := s.isLt
  have e1 : ((s.toNat : Int)).tdiv ((2 ^ i : Nat) : Int) = ((s.toNat / 2 ^ i : Nat) : Int) := rfl
  have e4 : IntKind.u64.wrap ((s.toNat / 2 ^ i : Nat) : Int) = ((s.toNat / 2 ^ i : Nat) : Int) := by
    have hd : s.toNat / 2 ^ i ≤ s.toNat := Nat.div_le_self _ _
    generalize s.toNat / 2 ^ i = q at hd ⊢
    exact wrapu (by omega) (by omega)
  rw [e1, e4]
  have e2 : ((s.toNat / 2 ^ i : Nat) : Int).tmod 2 = ((s.toNat / 2 ^ i % 2 : Nat) : Int) := rfl
  rw [e2]
  have e3 : s.getLsbD i = (((s.toNat / 2 ^ i % 2 : Nat) : Int) == 1) := by
    rw [BitVec.getLsbD, Nat.testBit, Nat.shiftRight_eq_div_pow, Bool.eq_iff_iff, beq_iff_eq, bne_iff_ne, Nat.one_and_eq_mod_two]
    omega
  rw [e3]
  exact .atom _

theorem insub_iff (a b : Set64) : insub a b = true ↔ ∀ i, i < 64 → a.getLsbD i = true → b.getLsbD i = true := by
  unfold insub
  rw [beq_iff_eq]
  constructor
  · intro h i hi ha
    have := congrArg (·.getLsbD i) h
    simp [ha, hi] at this
    exact this
  · intro h
    apply BitVec.eq_of_getLsbD_eq
    intro i hi
    simp only [BitVec.getLsbD_and, BitVec.getLsbD_not, BitVec.getLsbD_zero, hi, decide_true, Bool.true_and]
    cases ha : a.getLsbD i with
    | false => rfl
    | true => rw [h i hi ha]; rfl
theorem ref01_In (a b : Set64) : Fn Try.prog 76 [.set a, .set b] (.bool (insub a b)) := by
  refine Does.fn (fun _ => false) (flC (.atom _) (flC (.atom _) flN)) ?_; refine Does.of_slim mix fn_76 ok_76 (by rfl) ?_; simp -implicitDefEqProofs only [go_sem, Try.f76]
  refine SLoop.induct mix fn_76 (by kernel_rfl) (fun n e m' => ∃ (j : Nat), e = [(0, .set a), (1, .set b), (5, .i64 j)] ∧ j ≤ 64 ∧ n = 64 - j ∧ ∀ i, i < j → a.getLsbD i = true → b.getLsbD i = true) 64 ⟨0, rfl, by omega, by omega, by omega⟩ (by simp -implicitDefEqProofs only [go_sem] <;> repeat' (first | rfl | apply And.intro)) ?_
  rintro n e m' ⟨j, rfl, hj, hn, hp⟩ ih
  simp -implicitDefEqProofs only [go_sem, Try.f76]
  refine SCond_dec (fun h => ?_) fun h => ?_
  · have hj' : j < 64 := by omega
    simp -implicitDefEqProofs only [go_sem]
    refine DoesV.fn (ref01_Has a j hj') ?_
    have step : (a.getLsbD j = true → b.getLsbD j = true) → ∀ i, i < j + 1 → a.getLsbD i = true → b.getLsbD i = true := by
      intro h0 i hi
      rcases Nat.lt_or_eq_of_le (Nat.le_of_lt_succ hi) with h1 | rfl
      · exact hp i h1
      · exact h0
    cases ha : a.getLsbD j with
    | false =>
      simp -implicitDefEqProofs only [go_sem, wrap64 (n := (j : Int) + 1) (by omega) (by omega)]
      exact ih (64 - (j + 1)) _ _ _ (by omega) ⟨j + 1, rfl, by omega, rfl, step (by rw [ha]; intro h; cases h)⟩ (by simp -implicitDefEqProofs only [go_sem] <;> repeat' (first | rfl | apply And.intro))
    | true =>
      simp -implicitDefEqProofs only [go_sem]
      refine DoesV.fn (ref01_Has b j hj') ?_
      cases hb : b.getLsbD j with
      | true =>
        simp -implicitDefEqProofs only [go_sem, wrap64 (n := (j : Int) + 1) (by omega) (by omega)]
        exact ih (64 - (j + 1)) _ _ _ (by omega) ⟨j + 1, rfl, by omega, rfl, step (fun _ => hb)⟩ (by simp -implicitDefEqProofs only [go_sem] <;> repeat' (first | rfl | apply And.intro))
      | false =>
        simp -implicitDefEqProofs only [go_sem]
        have : insub a b = false := by
          rw [← Bool.not_eq_true, insub_iff]
          intro h
          have := h j hj' ha
          rw [hb] at this; cases this
        rw [this]
        exact .atom _
  · simp -implicitDefEqProofs only [go_sem]
    have : j = 64 := by omega
    subst this
    rw [(insub_iff a b).2 hp]
    exact .atom _

theorem ref01_Ints (l k : List Int) (hl : l.length < 9223372036854775808) (hk : k.length < 9223372036854775808) : Fn Try.prog 26 [.slice .foreign (l.map .i64), .slice .foreign (k.map .i64)] (.bool (eqB l k)) := by
  refine Does.fn (fun _ => false) (flC (flat_ints _) (flC (flat_ints _) flN)) ?_; refine Does.of_slim mix fn_26 ok_26 (by rfl) ?_; simp -implicitDefEqProofs only [go_sem, Try.f26]
  by_cases hlen : l.length = k.length
  · have e0 : ((l.length : Int) != (k.length : Int)) = false := by simp [hlen]
    simp -implicitDefEqProofs only [go_sem, e0]
    refine SLoop.induct mix fn_26 (by kernel_rfl) (fun n e m' => ∃ (j : Nat), e = [(0, .slice .foreign (l.map .i64)), (1, .slice .foreign (k.map .i64)), (5, .i64 j)] ∧ j ≤ l.length ∧ n = l.length - j ∧ ∀ i, i < j → l[i]? = k[i]?) l.length ⟨0, rfl, by omega, by omega, by omega⟩ (by simp -implicitDefEqProofs only [go_sem] <;> repeat' (first | rfl | apply And.intro)) ?_
    rintro n e m' ⟨j, rfl, hj, hn, hp⟩ ih
    simp -implicitDefEqProofs only [go_sem, Try.f26]
    refine SCond_dec (fun h => ?_) fun h => ?_
    · have hj' : j < l.length := by omega
      have hjk : j < k.length := by omega
      simp -implicitDefEqProofs only [go_sem, getL hj', getL hjk]
      by_cases he : l[j] = k[j]
      · have e1 : (l[j] != k[j]) = false := by simp [he]
        simp -implicitDefEqProofs only [go_sem, e1, inc64 j (by omega)]
        refine ih (l.length - (j + 1)) _ _ _ (by omega) ⟨j + 1, rfl, by omega, rfl, fun i hi => ?_⟩ (by simp -implicitDefEqProofs only [go_sem] <;> repeat' (first | rfl | apply And.intro))
        rcases Nat.lt_or_eq_of_le (Nat.le_of_lt_succ hi) with h1 | rfl
        · exact hp i h1
        · rw [getL hj', getL hjk, he]
      · simp -implicitDefEqProofs only [go_sem, neI he]
        have : eqB l k = false := eqB_false (fun h => he (by subst h; rfl))
        rw [this]
        exact .atom _
    · simp -implicitDefEqProofs only [go_sem]
      have : j = l.length := by omega
      subst this
      have : eqB l k = true := eqB_true (List.ext_getElem? fun i => by
        rcases Nat.lt_or_ge i l.length with h1 | h1
        · exact hp i h1
        · rw [List.getElem?_eq_none h1, List.getElem?_eq_none (by omega)])
      rw [this]
      exact .atom _
  · have e0 : ((l.length : Int) != (k.length : Int)) = true := neI (by omega)
    simp -implicitDefEqProofs only [go_sem, e0]
    have : eqB l k = false := eqB_false (fun h => hlen (by rw [h]))
    rw [this]
    exact .atom _

/-- Few enough parts everywhere. -/
def Prd.small (N : Nat) (p : Prd) : Prop := Prd.rec (motive_1 := fun _ => Prop) (motive_2 := fun _ => Prop) (fun k t o a b ps ih => ps.length < N ∧ ih) True (fun _ _ h hs => h ∧ hs) p
theorem small_mk {N : Nat} {k t o : Int} {a b : Trm} {ps : List Prd} : Prd.small N (.mk k t o a b ps) ↔ ps.length < N ∧ ∀ p ∈ ps, p.small N := by
  have : ∀ l : List Prd, (Prd.rec_1 (motive_1 := fun _ => Prop) (motive_2 := fun _ => Prop) (fun k t o a b ps ih => ps.length < N ∧ ih) True (fun _ _ h hs => h ∧ hs) l) ↔ ∀ p ∈ l, p.small N := by
    intro l
    induction l with
    | nil => simp
    | cons p l ih => simp only [List.forall_mem_cons]; exact and_congr Iff.rfl ih
  exact and_congr Iff.rfl (this ps)

theorem Trm.eqs {a b : Trm} : a = b ↔ a.kind = b.kind ∧ a.table = b.table ∧ a.col = b.col ∧ a.null = b.null ∧ a.n = b.n := by
  obtain ⟨a1, a2, a3, a4, a5⟩ := a
  obtain ⟨b1, b2, b3, b4, b5⟩ := b
  simp
theorem trm_beq (a b : Trm) : (a.kind == b.kind && (a.table == b.table && (a.col == b.col && (a.null == b.null && a.n == b.n)))) = eqB a b := by
  rw [Bool.eq_iff_iff, eqB_iff, Trm.eqs]
  simp
theorem ref06_Same (p q : Prd) (hp : p.small 9223372036854775808) (hq : q.small 9223372036854775808) : Fn Try.prog 74 [p.av, q.av] (.bool (eqB p q)) := by
  induction p using Prd.induct generalizing q with
  | h k t o a b ps ih =>
    obtain ⟨k', t', o', a', b', qs⟩ := q
    refine Does.fn (fun _ => false) (flC (Prd.flat _) (flC (Prd.flat _) flN)) ?_; refine Does.of_slim mix fn_74 ok_74 (by rfl) ?_; simp -implicitDefEqProofs only [go_sem, Try.f74]
    have no : (Prd.mk k t o a b ps ≠ .mk k' t' o' a' b' qs) → eqB (Prd.mk k t o a b ps) (.mk k' t' o' a' b' qs) = false := eqB_false
    by_cases hk : k = k'
    case neg => simp -implicitDefEqProofs only [go_sem, neI hk]; rw [no (fun h => hk (by injection h))]; exact .atom _
    subst hk
    by_cases ht : t = t'
    case neg => simp -implicitDefEqProofs only [go_sem, neI ht]; rw [no (fun h => ht (by injection h))]; exact .atom _
    subst ht
    by_cases ho : o = o'
    case neg => simp -implicitDefEqProofs only [go_sem, neI ho]; rw [no (fun h => ho (by injection h))]; exact .atom _
    subst ho
    by_cases ha : a = a'
    case neg => simp -implicitDefEqProofs only [go_sem, trm_beq, eqB_false ha]; rw [no (fun h => ha (by injection h))]; exact .atom _
    subst ha
    by_cases hb : b = b'
    case neg => simp -implicitDefEqProofs only [go_sem, trm_beq, eqB_true rfl, eqB_false hb]; rw [no (fun h => hb (by injection h))]; exact .atom _
    subst hb
    by_cases hl : ps.length = qs.length
    case neg => simp -implicitDefEqProofs only [go_sem, trm_beq, eqB_true rfl, neI (show (ps.length : Int) ≠ (qs.length : Int) by omega)]; rw [no (fun h => hl (by injection h with _ _ _ _ _ h; rw [h]))]; exact .atom _
    simp -implicitDefEqProofs only [go_sem, trm_beq, eqB_true rfl, show ((ps.length : Int) != (qs.length : Int)) = false by simp [hl]]
    rw [small_mk] at hp hq
    have hpl := hp.1
    refine SLoop.induct mix fn_74 (by kernel_rfl) (fun n e m' => ∃ (j : Nat) (X : List ABox) (R : List (Option (Nat × List AV))), e = [(2, .ptr 0 0), (3, .ptr 1 0), (5, .i64 j)] ∧ m' = ⟨.cells (prdC k t o a b ps) :: .cells (prdC k t o a b qs) :: X, R, fun _ => false⟩ ∧ j ≤ ps.length ∧ n = ps.length - j ∧ ∀ i, i < j → ps[i]? = qs[i]?) ps.length ⟨0, [], [], rfl, rfl, by omega, by omega, by omega⟩ (by simp -implicitDefEqProofs only [go_sem] <;> repeat' (first | rfl | apply And.intro)) ?_
    rintro n e m' ⟨j, X, R, rfl, rfl, hj, hn, hpre⟩ ih2
    simp -implicitDefEqProofs only [go_sem, Try.f74]
    refine SCond_dec (fun h => ?_) fun h => ?_
    · have hj' : j < ps.length := by omega
      have hjq : j < qs.length := by omega
      simp -implicitDefEqProofs only [go_sem, getL hj', getL hjq]
      refine DoesV.fn (ih _ (List.getElem_mem hj') _ (hp.2 _ (List.getElem_mem hj')) (hq.2 _ (List.getElem_mem hjq))) ?_
      by_cases he : ps[j] = qs[j]
      · simp -implicitDefEqProofs only [go_sem, eqB_true he, inc64 j (by omega)]
        refine ih2 (ps.length - (j + 1)) _ _ _ (by omega) ⟨j + 1, X, R, rfl, rfl, by omega, rfl, fun i hi => ?_⟩ (by simp -implicitDefEqProofs only [go_sem] <;> repeat' (first | rfl | apply And.intro))
        rcases Nat.lt_or_eq_of_le (Nat.le_of_lt_succ hi) with h1 | rfl
        · exact hpre i h1
        · rw [getL hj', getL hjq, he]
      · simp -implicitDefEqProofs only [go_sem, eqB_false he]
        rw [no (fun h => he (by injection h with _ _ _ _ _ h; subst h; rfl))]
        exact .atom _
    · simp -implicitDefEqProofs only [go_sem]
      have : j = ps.length := by omega
      subst this
      have : ps = qs := List.ext_getElem? fun i => by
        rcases Nat.lt_or_ge i ps.length with h1 | h1
        · exact hpre i h1
        · rw [List.getElem?_eq_none h1, List.getElem?_eq_none (by omega)]
      rw [eqB_true (by rw [this])]
      exact .atom _

theorem ref06_List (l k : List Prd) (hl : l.length < 9223372036854775808) (hk : k.length < 9223372036854775808) (hls : ∀ p ∈ l, p.small 9223372036854775808) (hks : ∀ p ∈ k, p.small 9223372036854775808) : Fn Try.prog 27 [.prds l, .prds k] (.bool (eqB l k)) := by
  refine Does.fn (fun _ => false) (flC (flat_prds _) (flC (flat_prds _) flN)) ?_; refine Does.of_slim mix fn_27 ok_27 (by rfl) ?_; simp -implicitDefEqProofs only [go_sem, Try.f27]
  by_cases hlen : l.length = k.length
  · have e0 : ((l.length : Int) != (k.length : Int)) = false := by simp [hlen]
    simp -implicitDefEqProofs only [go_sem, e0]
    refine SLoop.induct mix fn_27 (by kernel_rfl) (fun n e m' => ∃ (j : Nat), e = [(0, .prds l), (1, .prds k), (5, .i64 j)] ∧ j ≤ l.length ∧ n = l.length - j ∧ ∀ i, i < j → l[i]? = k[i]?) l.length ⟨0, rfl, by omega, by omega, by omega⟩ (by simp -implicitDefEqProofs only [go_sem] <;> repeat' (first | rfl | apply And.intro)) ?_
    rintro n e m' ⟨j, rfl, hj, hn, hp⟩ ih
    simp -implicitDefEqProofs only [go_sem, Try.f27]
    refine SCond_dec (fun h => ?_) fun h => ?_
    · have hj' : j < l.length := by omega
      have hjk : j < k.length := by omega
      simp -implicitDefEqProofs only [go_sem, getL hj', getL hjk]
      refine DoesV.fn (ref06_Same _ _ (hls _ (List.getElem_mem hj')) (hks _ (List.getElem_mem hjk))) ?_
      by_cases he : l[j] = k[j]
      · simp -implicitDefEqProofs only [go_sem, eqB_true he, inc64 j (by omega)]
        refine ih (l.length - (j + 1)) _ _ _ (by omega) ⟨j + 1, rfl, by omega, rfl, fun i hi => ?_⟩ (by simp -implicitDefEqProofs only [go_sem] <;> repeat' (first | rfl | apply And.intro))
        rcases Nat.lt_or_eq_of_le (Nat.le_of_lt_succ hi) with h1 | rfl
        · exact hp i h1
        · rw [getL hj', getL hjk, he]
      · simp -implicitDefEqProofs only [go_sem, eqB_false he]
        rw [eqB_false (fun h => he (by subst h; rfl))]
        exact .atom _
    · simp -implicitDefEqProofs only [go_sem]
      have : j = l.length := by omega
      subst this
      rw [eqB_true (List.ext_getElem? fun i => by
        rcases Nat.lt_or_ge i l.length with h1 | h1
        · exact hp i h1
        · rw [List.getElem?_eq_none h1, List.getElem?_eq_none (by omega)])]
      exact .atom _
  · have e0 : ((l.length : Int) != (k.length : Int)) = true := neI (by omega)
    simp -implicitDefEqProofs only [go_sem, e0]
    rw [eqB_false (fun h => hlen (by rw [h]))]
    exact .atom _

mutual
/-- How many predicates there are, as far as a limit. -/
def psz : Prd → Int → Int
  | .mk _ _ _ _ _ ps, lim => pszL ps 1 lim
def pszL : List Prd → Int → Int → Int
  | [], n, _ => n
  | p :: ps, n, lim => if n < lim then pszL ps (n + psz p (lim - n)) lim else n
end
@[go_sem] theorem pszL_nil (n lim : Int) : pszL [] n lim = n := by simp only [pszL]
theorem psz_bound (p : Prd) : ∀ lim : Int, 1 ≤ lim → 1 ≤ psz p lim ∧ psz p lim ≤ lim ∧ (psz p lim < lim → ∀ N : Nat, psz p lim ≤ N → p.small N) := by
  refine Prd.rec (motive_1 := fun p => ∀ lim : Int, 1 ≤ lim → 1 ≤ psz p lim ∧ psz p lim ≤ lim ∧ (psz p lim < lim → ∀ N : Nat, psz p lim ≤ N → p.small N))
    (motive_2 := fun l => ∀ n lim : Int, 1 ≤ n → n ≤ lim → n ≤ pszL l n lim ∧ pszL l n lim ≤ lim ∧ (pszL l n lim < lim → n + l.length ≤ pszL l n lim ∧ ∀ N : Nat, pszL l n lim ≤ N → ∀ p ∈ l, p.small N)) ?_ ?_ ?_ p
  · intro k t o a b ps ih lim hl
    simp only [psz]
    obtain ⟨h1, h2, h3⟩ := ih 1 lim (by omega) hl
    refine ⟨by omega, h2, fun hlt N hN => ?_⟩
    obtain ⟨h4, h5⟩ := h3 hlt
    rw [small_mk]
    exact ⟨by omega, h5 N hN⟩
  · intro n lim h1 h2
    simp only [pszL]
    exact ⟨by omega, h2, fun _ => ⟨by simp, fun N _ p hp => by cases hp⟩⟩
  · intro p l ihp ihl n lim h1 h2
    simp only [pszL]
    split
    · rename_i hlt
      obtain ⟨a1, a2, a3⟩ := ihp (lim - n) (by omega)
      obtain ⟨b1, b2, b3⟩ := ihl (n + psz p (lim - n)) lim (by omega) (by omega)
      refine ⟨by omega, b2, fun hlt2 => ?_⟩
      obtain ⟨b4, b5⟩ := b3 hlt2
      refine ⟨by simp only [List.length_cons]; omega, fun N hN q hq => ?_⟩
      rcases List.mem_cons.1 hq with rfl | hq
      · exact a3 (by omega) N (by omega)
      · exact b5 N hN q hq
    · exact ⟨by omega, by omega, fun h => by omega⟩
theorem pszL_app (l : List Prd) (p : Prd) (lim : Int) : ∀ n, pszL (l ++ [p]) n lim = if pszL l n lim < lim then pszL l n lim + psz p (lim - pszL l n lim) else pszL l n lim := by
  induction l with
  | nil => intro n; by_cases h : n < lim <;> simp [pszL, h]
  | cons q l ih =>
    intro n
    simp only [List.cons_append, pszL]
    by_cases h : n < lim
    · simp only [if_pos h]; exact ih _
    · simp only [if_neg h]
/-- Behind the limit nothing is counted. -/
theorem pszL_stop (l k : List Prd) (lim : Int) : ∀ n, ¬ pszL l n lim < lim → pszL (l ++ k) n lim = pszL l n lim := by
  induction l with
  | nil =>
    intro n h
    simp only [pszL, List.nil_append] at h ⊢
    cases k with
    | nil => rfl
    | cons q k => simp only [pszL]; rw [if_neg h]
  | cons q l ih =>
    intro n h
    simp only [List.cons_append, pszL] at h ⊢
    split
    · rename_i h1; rw [if_pos h1] at h; exact ih _ h
    · rfl
theorem ref06_Size (p : Prd) (lim : Int) (h1 : 1 ≤ lim) (h2 : lim ≤ 1000) (hp : p.small 9223372036854775808) : Fn Try.prog 23 [p.av, .i64 lim] (.i64 (psz p lim)) := by
  induction p using Prd.induct generalizing lim with
  | h k t o a b ps ih =>
    refine Does.fn (fun _ => false) (flC (Prd.flat _) (flC (.atom _) flN)) ?_; refine Does.of_slim mix fn_23 ok_23 (by rfl) ?_; simp -implicitDefEqProofs only [go_sem, Try.f23]
    rw [small_mk] at hp
    have hpl := hp.1
    have bound : ∀ j, 1 ≤ pszL (ps.take j) 1 lim ∧ pszL (ps.take j) 1 lim ≤ lim := by
      intro j
      have := psz_bound (.mk k t o a b (ps.take j)) lim h1
      simp only [psz] at this
      exact ⟨this.1, this.2.1⟩
    refine SLoop.induct mix fn_23 (by kernel_rfl) (fun n e m' => ∃ (j : Nat), e = [(1, .i64 lim), (2, .ptr 0 0), (5, .i64 (pszL (ps.take j) 1 lim)), (6, .i64 j)] ∧ m' = ⟨[.cells (prdC k t o a b ps)], [], fun _ => false⟩ ∧ j ≤ ps.length ∧ n = ps.length - j) ps.length ⟨0, rfl, rfl, by omega, by omega⟩ (by simp -implicitDefEqProofs only [go_sem] <;> repeat' (first | rfl | apply And.intro)) ?_
    rintro n e m' ⟨j, rfl, rfl, hj, hn⟩ ih2
    simp -implicitDefEqProofs only [go_sem, Try.f23]
    obtain ⟨b1, b2⟩ := bound j
    by_cases hjl : j < ps.length
    · simp -implicitDefEqProofs only [go_sem, decide_eq_true (show (j : Int) < (ps.length : Int) by omega)]
      refine SCond_dec (fun h => ?_) fun h => ?_
      · simp -implicitDefEqProofs only [go_sem, getL hjl, wrap64 (n := lim - pszL (ps.take j) 1 lim) (by omega) (by omega)]
        refine DoesV.fn (ih _ (List.getElem_mem hjl) _ (by omega) (by omega) (hp.2 _ (List.getElem_mem hjl))) ?_
        obtain ⟨c1, c2, _⟩ := psz_bound ps[j] (lim - pszL (ps.take j) 1 lim) (by omega)
        simp -implicitDefEqProofs only [go_sem, wrap64 (n := pszL (ps.take j) 1 lim + psz ps[j] (lim - pszL (ps.take j) 1 lim)) (by omega) (by omega), inc64 j (by omega)]
        refine ih2 (ps.length - (j + 1)) _ _ _ (by omega) ⟨j + 1, rfl, rfl, by omega, rfl⟩ ?_
        have e1 : pszL (ps.take (j + 1)) 1 lim = pszL (ps.take j) 1 lim + psz ps[j] (lim - pszL (ps.take j) 1 lim) := by
          rw [List.take_succ_eq_append_getElem hjl, pszL_app, if_pos h]
        rw [e1]
        simp -implicitDefEqProofs only [go_sem]
      · simp -implicitDefEqProofs only [go_sem]
        have : psz (.mk k t o a b ps) lim = pszL (ps.take j) 1 lim := by
          simp only [psz]
          conv => lhs; rw [← List.take_append_drop j ps]
          exact pszL_stop _ _ _ _ h
        rw [this]
        exact .atom _
    · simp -implicitDefEqProofs only [go_sem, decide_eq_false (show ¬ (j : Int) < (ps.length : Int) by omega)]
      have : j = ps.length := by omega
      subst this
      rw [List.take_length]
      exact .atom _
end Go.Proofs.Ytakmilmckdllfaa.G
