/-
GraphTells: the law returns true whatever the input.
-/
import Derived.Test.YtdnnmopncndebaaDoorGraphTells4
import Derived.WalkKit
import Derived.ProofKit
import Derived.OpenShut
import Derived.ChangeOld
import Derived.Below
import Derived.Carry
import Derived.SizedLaws
import Derived.KernelRfl
import Derived.LaidMore
import Derived.Test.YtdnnmopncndebaaDoorRows
import Derived.Test.YtdnnmopncndebaaDoorCards
import Derived.Test.YtdnnmopncndebaaDoorTie
import Derived.Stop.Joined
import Derived.SevenTiedAt
set_option linter.unusedVariables false
set_option linter.unusedSimpArgs false
namespace Go.Proofs.YtdnnmopncndebaaDoor.G
open Classical

theorem ex_step {n : Nat} {Q : Nat → Prop} : (∃ j, n ≤ j ∧ Q j) ↔ Q n ∨ ∃ j, n + 1 ≤ j ∧ Q j := by
  constructor
  · rintro ⟨j, h1, h2⟩
    by_cases h : j = n
    · subst h; exact .inl h2
    · exact .inr ⟨j, by omega, h2⟩
  · rintro (h | ⟨j, h1, h2⟩)
    · exact ⟨n, Nat.le_refl _, h⟩
    · exact ⟨j, by omega, h2⟩
theorem dec_yes {n : Nat} {Q : Nat → Prop} {y : Bool} (h : Q n) : (y || decide (∃ j, n ≤ j ∧ Q j)) = true := by
  rw [decide_eq_true (ex_step.2 (.inl h)), Bool.or_true]
theorem dec_no {n : Nat} {Q : Nat → Prop} {y : Bool} (h : ¬ Q n) : (y || decide (∃ j, n ≤ j ∧ Q j)) = (y || decide (∃ j, n + 1 ≤ j ∧ Q j)) := by
  congr 1
  exact decide_eq_decide.2 (ex_step.trans ⟨fun k => k.resolve_left h, .inr⟩)
section
variable (l : List T_api_Edge) (P : List Set64)
noncomputable def isL (i : Nat) : List Bool := (P.take i).map fun p => decide (Conn l p)
theorem isL_len (i : Nat) (h : i ≤ P.length) : (isL l P i).length = i := by unfold isL; rw [List.length_map, List.length_take]; omega
theorem isL_get (i j : Nat) (h : i ≤ P.length) (hj : j < i) : getI (isL l P i) (j : Int) = some (decide (Conn l (P[j]'(by omega)))) := by
  rw [getI_nat (by rw [isL_len l P i h]; exact hj)]
  congr 1
  unfold isL
  rw [List.getElem_map, List.getElem_take]
def Q2 (i k : Nat) (rest : Set64) (hi : i ≤ P.length) (hk : k < P.length) (j : Nat) : Prop := ∃ h : j < i, P[j] = rest ∧ Conn l P[j] ∧ linkB l P[k] rest = true
theorem all_l2 (hl : l.length ≤ 1000000) (i k : Nat) (rest : Set64) (hi : i ≤ P.length) (hk : k < P.length) (hP : P.length ≤ 1000) : ∀ d n (yes : Bool), i - n = d → n ≤ i →
    M_ref21_All.l2 (l, P, isL l P i, (i : Int), yes, (k : Int), rest, (n : Int)) = some (yes || decide (∃ j, n ≤ j ∧ Q2 l P i k rest hi hk j)) := by
  intro d
  induction d with
  | zero =>
    intro n yes h1 h2
    rw [M_ref21_All.l2, if_neg (dge (by dsimp only; omega))]
    rw [decide_eq_false (by rintro ⟨j, h3, h4, _⟩; omega), Bool.or_false]
  | succ d ih =>
    intro n yes h1 h2
    have hn : n < i := by omega
    rw [M_ref21_All.l2, if_pos (dlt (by dsimp only; omega))]
    dsimp only
    rw [getI_nat (show n < P.length by omega), isL_get l P i n hi hn, getI_nat hk, w64_succ (by omega)]
    simp -implicitDefEqProofs only [Option.bind_eq_bind, Option.bind_some]
    rw [ref21_Linked_eq _ _ _ hl]
    simp -implicitDefEqProofs only [Option.bind_some]
    by_cases a1 : P[n] = rest
    · rw [if_pos (by simp [a1])]
      by_cases a2 : Conn l P[n]
      · rw [if_pos (decide_eq_true a2)]
        by_cases a3 : linkB l P[k] rest = true
        · rw [if_pos a3, ih (n + 1) true (by omega) (by omega), dec_yes (n := n) ⟨hn, a1, a2, a3⟩]; rfl
        · rw [if_neg a3, ih (n + 1) yes (by omega) (by omega), dec_no (n := n) (by rintro ⟨_, _, _, h⟩; exact a3 h)]
      · rw [if_neg (by simpa using a2), ih (n + 1) yes (by omega) (by omega), dec_no (n := n) (by rintro ⟨_, _, h, _⟩; exact a2 h)]
    · rw [if_neg (by simpa using a1), ih (n + 1) yes (by omega) (by omega), dec_no (n := n) (by rintro ⟨_, h, _, _⟩; exact a1 h)]
def Q1 (i : Nat) (hi : i < P.length) (k : Nat) : Prop := ∃ h : k < i, Conn l (P[k]'(by omega)) ∧ inS (P[k]'(by omega)) P[i] = true ∧ ∃ j, 0 ≤ j ∧ Q2 l P i k (P[i] &&& ~~~(P[k]'(by omega))) (by omega) (by omega) j
theorem all_l1 (hl : l.length ≤ 1000000) (i : Nat) (hi : i < P.length) (hP : P.length ≤ 1000) : ∀ d k (yes : Bool), i - k = d → k ≤ i →
    M_ref21_All.l1 (l, P, isL l P i, (i : Int), yes, (k : Int)) = some (yes || decide (∃ j, k ≤ j ∧ Q1 l P i hi j)) := by
  intro d
  induction d with
  | zero =>
    intro k yes h1 h2
    rw [M_ref21_All.l1, if_neg (dge (by dsimp only; omega))]
    rw [decide_eq_false (by rintro ⟨j, h3, h4, _⟩; omega), Bool.or_false]
  | succ d ih =>
    intro k yes h1 h2
    have hk : k < i := by omega
    rw [M_ref21_All.l1, if_pos (dlt (by dsimp only; omega))]
    dsimp only
    cases yes with
    | true => rw [if_pos rfl]; rfl
    | false =>
      rw [if_neg (by simp), isL_get l P i k (by omega) hk, getI_nat hi, getI_nat (show k < P.length by omega), w64_succ (by omega)]
      simp -implicitDefEqProofs only [Option.bind_eq_bind, Option.bind_some]
      rw [ref01_In_eq]
      simp -implicitDefEqProofs only [Option.bind_some]
      have h2 := all_l2 l P hl i k (P[i] &&& ~~~P[k]) (by omega) (by omega) hP i 0 false (by omega) (by omega)
      rw [show ((0 : Nat) : Int) = 0 from rfl] at h2
      by_cases a1 : Conn l P[k]
      · rw [if_pos (decide_eq_true a1)]
        by_cases a2 : inS P[k] P[i] = true
        · rw [if_pos a2, h2]
          simp -implicitDefEqProofs only [Option.bind_some]
          rw [ih (k + 1) _ (by omega) (by omega)]
          by_cases a3 : ∃ j, 0 ≤ j ∧ Q2 l P i k (P[i] &&& ~~~P[k]) (by omega) (by omega) j
          · rw [decide_eq_true a3, dec_yes (n := k) ⟨hk, a1, a2, a3⟩]; rfl
          · rw [decide_eq_false a3, dec_no (n := k) (by rintro ⟨_, _, _, h⟩; exact a3 h)]; rfl
        · rw [if_neg a2, ih (k + 1) _ (by omega) (by omega), dec_no (n := k) (by rintro ⟨_, _, h, _⟩; exact a2 h)]
      · rw [if_neg (by simpa using a1), ih (k + 1) _ (by omega) (by omega), dec_no (n := k) (by rintro ⟨_, h, _, _⟩; exact a1 h)]
end
theorem cut_or {a b : Set64} (h : inS a b = true) : b = a ||| (b &&& ~~~a) := by
  rw [inS_hasI] at h
  refine set_ext fun n => ?_
  rw [hasI_or', hasI_cut]
  cases ha : hasI a n with
  | true => rw [h n ha]; rfl
  | false => cases hasI b n <;> rfl
theorem cut_apart (a b : Set64) : a &&& (b &&& ~~~a) = 0#64 := by
  rw [apart_iff]
  intro n hn
  rw [hasI_cut, hn]; simp
theorem or_cut {a b : Set64} (h : a &&& b = 0#64) : (a ||| b) &&& ~~~a = b := by
  rw [apart_iff] at h
  refine set_ext fun n => ?_
  rw [hasI_cut, hasI_or']
  cases ha : hasI a n with
  | true => rw [h n ha]; simp
  | false => simp
theorem sub_lt {a b : Set64} (h : inS a b = true) (hne : a ≠ b) : a.toNat < b.toNat := by
  have h1 : a &&& b = a := by
    rw [inS_hasI] at h
    refine set_ext fun n => ?_
    rw [hasI_and']
    cases ha : hasI a n with
    | true => rw [h n ha]; rfl
    | false => rfl
  have h2 : a.toNat ≤ b.toNat := by
    rw [← h1, BitVec.toNat_and]
    exact Nat.and_le_right
  rcases Nat.lt_or_ge a.toNat b.toNat with h3 | h3
  · exact h3
  · exact absurd (BitVec.eq_of_toNat_eq (by omega)) hne
/-- A part of a part lies ahead of it. -/
theorem parts_ahead {s a : Set64} {i : Nat} (hi : i < (partsL s).length) (h0 : a ≠ 0#64) (h1 : inS a (partsL s)[i] = true) (h2 : a ≠ (partsL s)[i]) : ∃ k, ∃ h : k < i, (partsL s)[k] = a := by
  have hs := ((partsL_mem s _).1 (List.getElem_mem hi)).2
  have ha : a ∈ partsL s := (partsL_mem s a).2 ⟨h0, inS_mono h1 hs⟩
  obtain ⟨k, hk, rfl⟩ := List.getElem_of_mem ha
  have hlt := sub_lt h1 h2
  rcases Nat.lt_trichotomy k i with h3 | h3 | h3
  · exact ⟨k, h3, rfl⟩
  · subst h3; omega
  · have := List.pairwise_iff_getElem.1 (partsL_lt s) i k hi hk h3
    omega
theorem conn_part (l : List T_api_Edge) (s : Set64) (i : Nat) (hi : i < (partsL s).length) : (((memb (partsL s)[i]).length : Int) == 1 || decide (∃ j, 0 ≤ j ∧ Q1 l (partsL s) i hi j)) = decide (Conn l (partsL s)[i]) := by
  have iff : ((memb (partsL s)[i]).length = 1 ∨ ∃ j, 0 ≤ j ∧ Q1 l (partsL s) i hi j) ↔ Conn l (partsL s)[i] := by
    constructor
    · rintro (h | ⟨k, _, hk, h1, h2, j, _, hj, h3, h4, h5⟩)
      · exact .one _ h
      · rw [h3] at h4
        have := Conn.join (l := l) _ _ h1 h4 (cut_apart _ _) h5
        rwa [← cut_or h2] at this
    · intro h
      generalize hx : (partsL s)[i] = x at h ⊢
      cases h with
      | one _ h => exact .inl h
      | join a b ha hb hab hl =>
        right
        have ha1 : inS a (partsL s)[i] = true := by rw [hx, inS_hasI]; intro n hn; rw [hasI_or', hn]; rfl
        have hb1 : inS b (partsL s)[i] = true := by rw [hx, inS_hasI]; intro n hn; rw [hasI_or', hn, Bool.or_true]
        have ha2 : a ≠ (partsL s)[i] := by
          intro e
          obtain ⟨n, hn⟩ := nz_has hb.nz
          have h1 := (inS_hasI _ _).1 hb1 n hn
          rw [← e] at h1
          rw [(apart_iff _ _).1 hab n h1] at hn; cases hn
        have hb2 : b ≠ (partsL s)[i] := by
          intro e
          obtain ⟨n, hn⟩ := nz_has ha.nz
          have h1 := (inS_hasI _ _).1 ha1 n hn
          rw [← e] at h1
          rw [(apart_iff _ _).1 hab n hn] at h1; cases h1
        obtain ⟨k, hk, hka⟩ := parts_ahead hi ha.nz ha1 ha2
        obtain ⟨j, hj, hjb⟩ := parts_ahead hi hb.nz hb1 hb2
        have hc : (partsL s)[i] &&& ~~~(partsL s)[k] = b := by rw [hx, hka]; exact or_cut hab
        exact ⟨k, Nat.zero_le _, hk, by rw [hka]; exact ha, by rw [hka]; exact ha1, j, Nat.zero_le _, hj, by rw [hc]; exact hjb, by rw [hjb]; exact hb, by rw [hc, hka]; exact hl⟩
  rw [Bool.eq_iff_iff, Bool.or_eq_true, decide_eq_true_eq, decide_eq_true_eq, ← iff]
  refine or_congr ?_ Iff.rfl
  rw [beq_iff_eq]; omega
theorem ref21_All_eq (l : List T_api_Edge) (s : Set64) (hl : l.length ≤ 1000000) (hc : (memb s).length ≤ 7) : M_ref21_All (l, s) = some (partsL s, (partsL s).map fun p => decide (Conn l p)) := by
  have hP : (partsL s).length ≤ 1000 := by
    rw [partsL_len]
    have := Nat.pow_le_pow_right (show 0 < 2 by omega) hc
    omega
  have l0 : ∀ d i, (partsL s).length - i = d → i ≤ (partsL s).length → M_ref21_All.l0 (l, partsL s, isL l (partsL s) i, (i : Int)) = some ((partsL s).map fun p => decide (Conn l p)) := by
    intro d
    induction d with
    | zero =>
      intro i h1 h2
      have : i = (partsL s).length := by omega
      subst this
      rw [M_ref21_All.l0, if_neg (dge (by dsimp only; omega))]
      unfold isL; rw [List.take_length]
    | succ d ih =>
      intro i h1 h2
      have hi : i < (partsL s).length := by omega
      rw [M_ref21_All.l0, if_pos (dlt (by dsimp only; omega))]
      dsimp only
      rw [getI_nat hi]
      simp -implicitDefEqProofs only [Option.bind_eq_bind, Option.bind_some]
      rw [ref01_Count_memb]
      simp -implicitDefEqProofs only [Option.bind_some]
      have h3 := all_l1 l (partsL s) hl i hi hP i 0 (((memb (partsL s)[i]).length : Int) == 1) (by omega) (by omega)
      rw [show ((0 : Nat) : Int) = 0 from rfl] at h3
      rw [h3]
      simp -implicitDefEqProofs only [Option.bind_some]
      rw [conn_part, room_of (by rw [isL_len _ _ _ h2]; simp only [List.length_cons, List.length_nil]; omega), w64_succ (by omega)]
      simp -implicitDefEqProofs only [Option.bind_some]
      have e : isL l (partsL s) i ++ [decide (Conn l (partsL s)[i])] = isL l (partsL s) (i + 1) := by
        unfold isL; rw [List.take_succ_eq_append_getElem hi, List.map_append]; rfl
      rw [e]
      exact ih (i + 1) (by omega) (by omega)
  unfold M_ref21_All
  dsimp only
  rw [ref01_Parts_eq s (by omega)]
  simp -implicitDefEqProofs only [Option.bind_eq_bind, Option.bind_some]
  have := l0 _ 0 rfl (Nat.zero_le _)
  rw [show isL l (partsL s) 0 = [] from rfl, show ((0 : Nat) : Int) = 0 from rfl] at this
  rw [this]; rfl
theorem ref21_Connected_eq (l : List T_api_Edge) (s : Set64) (hl : l.length ≤ 100000) (hc : (memb s).length ≤ 7) : M_ref21_Connected (l, s) = some (decide (Conn (l.filter fullE) s)) := by
  have hfl : (l.filter fullE).length ≤ 1000000 := Nat.le_trans (List.length_filter_le _ _) (by omega)
  generalize hm : l.filter fullE = m at hfl
  have hP : (partsL s).length ≤ 1000 := by
    rw [partsL_len]
    have := Nat.pow_le_pow_right (show 0 < 2 by omega) hc
    omega
  have l0 : ∀ d i, (partsL s).length - i = d → i ≤ (partsL s).length → (M_ref21_Connected.l0 (s, partsL s, (partsL s).map (fun p => decide (Conn m p)), (i : Int)) = some (.ret (decide (Conn m s)))) ∨ (M_ref21_Connected.l0 (s, partsL s, (partsL s).map (fun p => decide (Conn m p)), (i : Int)) = some (.brk ()) ∧ ∀ j (h : j < (partsL s).length), i ≤ j → (partsL s)[j] ≠ s) := by
    intro d
    induction d with
    | zero =>
      intro i h1 h2
      right
      rw [M_ref21_Connected.l0, if_neg (dge (by dsimp only; omega))]
      exact ⟨rfl, fun j h h3 => by omega⟩
    | succ d ih =>
      intro i h1 h2
      have hi : i < (partsL s).length := by omega
      rw [M_ref21_Connected.l0, if_pos (dlt (by dsimp only; omega))]
      dsimp only
      rw [getI_nat hi, getI_nat (show i < ((partsL s).map fun p => decide (Conn m p)).length by rw [List.length_map]; exact hi), w64_succ (by omega)]
      simp -implicitDefEqProofs only [Option.bind_eq_bind, Option.bind_some]
      by_cases h3 : (partsL s)[i] = s
      · left
        rw [if_pos (by simp [h3]), List.getElem_map, h3]
      · rw [if_neg (by simpa using h3)]
        rcases ih (i + 1) (by omega) (by omega) with h4 | ⟨h4, h5⟩
        · exact .inl h4
        · refine .inr ⟨h4, fun j h h6 => ?_⟩
          by_cases h7 : j = i
          · subst h7; exact h3
          · exact h5 j h (by omega)
  unfold M_ref21_Connected
  dsimp only
  rw [ref21_Full_eq l hl, hm]
  simp -implicitDefEqProofs only [Option.bind_eq_bind, Option.bind_some]
  rw [ref21_All_eq m s hfl hc]
  simp -implicitDefEqProofs only [Option.bind_some]
  have h0 := l0 _ 0 rfl (Nat.zero_le _)
  rw [show ((0 : Nat) : Int) = 0 from rfl] at h0
  rcases h0 with h0 | ⟨h0, h1⟩
  · rw [h0]; rfl
  · rw [h0]
    have : ¬ Conn m s := fun h => by
      have hs : s ∈ partsL s := (partsL_mem s s).2 ⟨h.nz, (inS_hasI _ _).2 fun n hn => hn⟩
      obtain ⟨j, hj, he⟩ := List.getElem_of_mem hs
      exact h1 j hj (Nat.zero_le _) he
    rw [decide_eq_false this]; rfl
theorem GraphTells_plain (l : List T_api_Edge) (a b : Set64) : M_law21_GraphTells (l, a, b) = some true := by
  unfold M_law21_GraphTells
  dsimp only
  by_cases h1 : (l.length : Int) > 40
  · rw [if_pos (decide_eq_true h1)]
  rw [if_neg (by simpa using h1), graph_Linked_eq _ _ _ (by omega), ref21_Linked_eq _ _ _ (by omega), graph_Near_eq _ _ _ (by omega), ref21_Near_eq _ _ _ (by omega), ref01_Count_memb]
  simp -implicitDefEqProofs only [Option.bind_eq_bind, Option.bind_some]
  by_cases h2 : ((memb a).length : Int) > 6
  · simp -implicitDefEqProofs only [decide_eq_true h2, if_true, bne_self_eq_false, Bool.false_eq_true, if_false]
    cases linkB l a b <;> rfl
  · rw [graph_Connected_eq _ _ (by omega), ref21_Connected_eq _ _ (by omega) (by omega)]
    simp -implicitDefEqProofs only [Option.bind_some, decide_eq_false h2, bne_self_eq_false, Bool.false_eq_true, if_false]
    cases linkB l a b <;> cases decide (Conn (l.filter fullE) a) <;> rfl
end Go.Proofs.YtdnnmopncndebaaDoor.G
set_option linter.unusedVariables false
set_option linter.unusedSimpArgs false
namespace Go.Proofs.YtdnnmopncndebaaDoor.G
open Go.ChangeShapes Go.WideShapes Go.ChangeAt Go.RowKit

theorem memOk0 (μ : TypeId → Bool) (w : World) (ht : TabOk gE w) : MemOk gE (mE μ) w := by
  constructor <;> first | exact ht | (intros; simp_all [gE, mE])
theorem imm0 (b n : Nat) : Imm gE b n := ⟨fun l h => by simp [gE] at h, fun id h => by simp [gE] at h⟩

/-- **A law's function that tells true: a call's fact.** -/
theorem Fn.law {P : Program} {f : FuncId} {args : List AV} {vs : Array Value} {w : World} (h : Fn P f args (.bool true)) (ht : TabOk gE w) (hr : Reps gE w args vs) :
    Calls P f vs w fun e w' => e = .returned (.bool true) ∧ Below w.heap.size w w' := by
  have h0 := h (mE fun _ => false)
  refine (callsIn_wide.1 (h0.2.2 gE w vs ⟨fun _ _ _ => rfl, fun _ _ _ => rfl⟩ (memOk0 _ w ht) hr)).mono ?_
  rintro e w' ⟨v, g', rfl, hs, hm, hv⟩
  rw [hv.atom_inv]
  exact ⟨rfl, hs.os, hs.tape, hs.output, hs.size, fun b hb => hs.same b hb (fun l h => by simp [mE] at h) (fun l h => by simp [mE] at h)⟩

theorem Reps.nil {g : Gh} {w : World} : Reps g w [] #[] := ⟨rfl, fun j c v h => by cases h⟩
theorem Reps.cons {g : Gh} {w : World} {a : AV} {v : Value} {as_ : List AV} {vs : List Value} (h : Rep g w a v) (hs : Reps g w as_ vs.toArray) : Reps g w (a :: as_) (v :: vs).toArray := by
  refine ⟨by have := hs.1; simp at this ⊢; omega, fun j c x hc hx => ?_⟩
  cases j with
  | zero => simp at hc hx; subst hc hx; exact h
  | succ j => simp at hc hx; exact hs.2 j c x hc (by simpa using hx)

/-- A type's value out of its cells. -/
def ofCells (P : Program) (t : TypeId) (cs : List AV) : Option AV :=
  match aggT P t with
  | some true => some (.agg cs)
  | some false => match cs with
    | [c] => some c
    | _ => none
  | none => none
/-- Data of a type: numbers, truths, texts; rows and structs of these. -/
inductive Wt (P : Program) : TypeId → List AV → Prop
  | bool (t : TypeId) (b : Bool) (ht : P.underlying t = some .bool) : Wt P t [.atom (.bool b)]
  | int (t : TypeId) (k : IntKind) (n : Int) (ht : P.underlying t = some (.int k)) (h : k.min ≤ n ∧ n ≤ k.max) : Wt P t [.atom (.int k n)]
  | string (t : TypeId) (s : ByteArray) (ht : P.underlying t = some .string) (h : s.size ≤ maxLen) : Wt P t [.atom (.string s)]
  | slice (t e : TypeId) (es : List AV) (ht : P.underlying t = some (.slice e)) (hl : es.length ≤ maxLen) (h : ∀ x ∈ es, Wt P e x.cells) (hf : ∀ x ∈ es, ofCells P e x.cells = some x) : Wt P t [.slice .foreign es]
  | struct (t : TypeId) (fs : Array Field) (cs : List AV) (ht : P.underlying t = some (.struct fs)) (hl : cs.length = P.cellsOf t) (h : ∀ (i : Nat) (f : Field), fs[i]? = some f → Wt P f.type ((cs.drop f.offset).take (P.cellsOf f.type))) : Wt P t cs
  | array (t e : TypeId) (n : Nat) (cs : List AV) (ht : P.underlying t = some (.array n e)) (hl : cs.length = P.cellsOf t) (h : ∀ i, i < n → Wt P e ((cs.drop (i * P.cellsOf e)).take (P.cellsOf e))) : Wt P t cs

/-- Parts one behind the other. -/
def tiles : Nat → List (Nat × Nat) → Option Nat
  | k, [] => some k
  | k, (o, s) :: l => if o = k then tiles (k + s) l else none
/-- Types of data, and all that are within. -/
def plainT (P : Program) (S : List TypeId) : Bool := S.all fun t => match P.underlying t with
  | some .bool | some (.int _) | some .string => P.cellsOf t == 1
  | some (.slice e) => S.contains e && decide (0 < P.cellsOf e) && P.cellsOf t == 1
  | some (.struct fs) => (fs.all fun f => S.contains f.type) && tiles 0 (fs.toList.map fun f => (f.offset, P.cellsOf f.type)) == some (P.cellsOf t)
  | some (.array n e) => S.contains e && tiles 0 ((List.range n).map fun i => (i * P.cellsOf e, P.cellsOf e)) == some (P.cellsOf t)
  | _ => false

section
variable {H : Type} {enc : TypeId × Value → H} {P : Program} {W : World} {base b0 : Nat} {spare : Nat → Bool} {held : Bool} {r : Reach}

theorem cells?_get {w : World} {a : Addr} {n : Nat} {cs : List Value} (h : w.cells? base a n = some cs) : cs.length = n ∧ ∀ (j : Nat) (v : Value), cs[j]? = some v → w.cell? (a.add j) = some v := by
  unfold World.cells? at h
  split at h
  · have h1 := mapM_some_length h
    refine ⟨by simpa using h1, fun j v hj => ?_⟩
    have hlt : j < n := by rw [← List.length_range (n := n), ← h1]; exact (List.getElem?_eq_some_iff.1 hj).1
    rw [mapM_some_get h j j (by simp [hlt])]; exact hj
  · cases h

/-- Each part of cells that stand for values. -/
def CellsRep (w : World) (as_ : List AV) (cs : List Value) : Prop := as_.length = cs.length ∧ (∀ c ∈ as_, c.one = true) ∧ ∀ (j : Nat) (a : AV) (v : Value), as_[j]? = some a → cs[j]? = some v → Rep gE w a v

theorem tiles_le : ∀ {l : List (Nat × Nat)} {k n : Nat}, tiles k l = some n → k ≤ n := by
  intro l
  induction l with
  | nil => intro k n h; simp [tiles] at h; omega
  | cons x l ih =>
    intro k n h
    obtain ⟨o, s⟩ := x
    simp only [tiles] at h
    split at h
    · have := ih h; omega
    · cases h
theorem tile {w : World} {cs : List Value} {n : Nat} (hn : cs.length = n) : ∀ (l : List (Nat × Nat)) (k : Nat) (Q : Nat → List AV → Prop), tiles k l = some n → (∀ (i o s : Nat), l[i]? = some (o, s) → ∃ as_, CellsRep w as_ ((cs.drop o).take s) ∧ Q i as_) →
    ∃ as_, CellsRep w as_ (cs.drop k) ∧ ∀ (i o s : Nat), l[i]? = some (o, s) → k ≤ o ∧ Q i ((as_.drop (o - k)).take s) := by
  intro l
  induction l with
  | nil =>
    intro k Q h _
    simp [tiles] at h
    subst h
    exact ⟨[], ⟨by simp; omega, by simp, fun j a v h => by simp at h⟩, fun i o s h => by simp at h⟩
  | cons x l ih =>
    intro k Q h hp
    obtain ⟨o, s⟩ := x
    simp only [tiles] at h
    split at h
    · rename_i hok
      subst hok
      have hle := tiles_le h
      obtain ⟨as0, ⟨h1, h2, h3⟩, hq⟩ := hp 0 o s rfl
      obtain ⟨as1, ⟨h4, h5, h6⟩, hq1⟩ := ih (o + s) (fun i => Q (i + 1)) h (fun i o' s' hi => hp (i + 1) o' s' (by simpa using hi))
      have hl0 : as0.length = s := by rw [h1]; simp; omega
      refine ⟨as0 ++ as1, ⟨by simp [hl0, h4]; omega, fun c hc => (List.mem_append.1 hc).elim (h2 c) (h5 c), fun j a v ha hv => ?_⟩, fun i o' s' hi => ?_⟩
      · rw [List.getElem?_drop] at hv
        by_cases hj : j < s
        · rw [List.getElem?_append_left (by omega)] at ha
          exact h3 j a v ha (by rw [List.getElem?_take_of_lt hj, List.getElem?_drop]; exact hv)
        · rw [List.getElem?_append_right (by omega), hl0] at ha
          exact h6 (j - s) a v ha (by rw [List.getElem?_drop, ← hv]; congr 1; omega)
      · cases i with
        | zero =>
          simp at hi
          obtain ⟨rfl, rfl⟩ := hi
          refine ⟨Nat.le_refl _, ?_⟩
          rw [Nat.sub_self, List.drop_zero, List.take_append_of_le_length (by omega), List.take_of_length_le (by omega)]
          exact hq
        | succ i =>
          obtain ⟨h7, h8⟩ := hq1 i o' s' (by simpa using hi)
          refine ⟨by omega, ?_⟩
          have : o' - o = s + (o' - (o + s)) := by omega
          have hd : List.drop (s + (o' - (o + s))) as0 = [] := List.drop_eq_nil_of_le (by omega)
          rw [this, List.drop_append, hd, hl0, List.nil_append, show s + (o' - (o + s)) - s = o' - (o + s) from by omega]
          exact h8
    · cases h

theorem ofCells_cells {t : TypeId} {cs : List AV} {x : AV} (h : ofCells P t cs = some x) (ho : ∀ c ∈ cs, c.one = true) : x.cells = cs := by
  unfold ofCells at h
  split at h
  · injection h with h; subst h; rfl
  · split at h
    · injection h with h; subst h
      rename_i c
      have := ho c (by simp)
      cases c <;> first | rfl | (simp [AV.one] at this)
    · cases h
  · cases h

/-- **What the caller's data is.** -/
theorem reads {S : List TypeId} (hS : plainT P S = true) : ∀ (fuel : Nat) (t : TypeId) (cs : List Value) (x : DataW H × List MemPlace), t ∈ S → DataW.trod enc P W base spare held fuel t cs = some x → ∃ as_, CellsRep W as_ cs ∧ Wt P t as_ ∧ cs.length = P.cellsOf t := by
  intro fuel
  induction fuel with
  | zero => intro t cs x _ h; simp [DataW.trod] at h
  | succ fuel ih =>
    intro t cs x ht h
    have hp := List.all_eq_true.1 hS t ht
    have one1 : ∀ (a : AV) (v : Value), a.one = true → Rep gE W a v → CellsRep W [a] [v] := fun a v ho hr => ⟨rfl, by simpa using ho, fun j a' v' h1 h2 => by
      cases j with
      | zero => simp at h1 h2; subst h1 h2; exact hr
      | succ j => simp at h1⟩
    split at hp
    · rename_i hu
      obtain ⟨b, rfl, _⟩ := DataW.trod_bool hu h
      exact ⟨_, one1 _ _ rfl (.atom (.bool b) rfl), .bool t b hu, by simp at hp ⊢; exact hp.symm⟩
    · rename_i k hu
      obtain ⟨n, rfl, _, hw⟩ := DataW.trod_int hu h
      exact ⟨_, one1 _ _ rfl (.atom (.int k n) rfl), .int t k n hu (by simpa [Lit.wf] using hw), by simp at hp ⊢; exact hp.symm⟩
    · rename_i hu
      obtain ⟨s, rfl, _, hw⟩ := DataW.trod_string hu h
      exact ⟨_, one1 _ _ rfl (.atom (.string s) rfl), .string t s hu hw, by simp at hp ⊢; exact hp.symm⟩
    · rename_i e hu
      simp only [Bool.and_eq_true, decide_eq_true_eq, List.contains_iff_mem, beq_iff_eq] at hp
      obtain ⟨⟨he, hz⟩, hct⟩ := hp
      rcases DataW.trod_slice hu h with ⟨rfl, _⟩ | ⟨a, len, cap, elems, rest, n, hn, rfl, _, hb, hl, hm, hlen, hel, _, _⟩
      · exact ⟨_, one1 _ _ rfl (.nil .foreign none 0 (fun id h => by cases h) (fun h => by cases h)), .slice t e [] hu (by simp) (by simp) (by simp), by simp [hct]⟩
      · obtain rfl : fuel = n := by omega
        -- the elements
        have each : ∀ i, i < len → ∃ (cs : List Value) (as_ : List AV), W.cells? base (a.add (i * P.cellsOf e)) (P.cellsOf e) = some cs ∧ CellsRep W as_ cs ∧ Wt P e as_ ∧ cs.length = P.cellsOf e := by
          intro i hi
          have h1 := hel i hi
          obtain ⟨y, hy⟩ : ∃ y, elems[i]? = some y := ⟨_, List.getElem?_eq_getElem (by omega)⟩
          rw [hy, Option.bind_eq_some_iff] at h1
          obtain ⟨cs, h2, h3⟩ := h1
          obtain ⟨as_, h4, h5, h6⟩ := ih e cs y he h3
          exact ⟨cs, as_, h2, h4, h5, h6⟩
        have fm : ∀ cs, Wt P e cs → ∃ x, ofCells P e cs = some x := by
          intro cs hw
          unfold ofCells aggT
          cases hw with
          | bool t b ht => rw [ht]; exact ⟨_, rfl⟩
          | int t k n ht _ => rw [ht]; exact ⟨_, rfl⟩
          | string t s ht _ => rw [ht]; exact ⟨_, rfl⟩
          | slice t e es ht _ _ _ => rw [ht]; exact ⟨_, rfl⟩
          | struct t fs cs ht _ _ => rw [ht]; exact ⟨_, rfl⟩
          | array t e n cs ht _ _ => rw [ht]; exact ⟨_, rfl⟩
        have each2 : ∀ i, ∃ x : AV, i < len → ∃ cs, W.cells? base (a.add (i * P.cellsOf e)) (P.cellsOf e) = some cs ∧ CellsRep W x.cells cs ∧ Wt P e x.cells ∧ ofCells P e x.cells = some x ∧ x.cells.length = P.cellsOf e := by
          intro i
          by_cases hi : i < len
          · obtain ⟨cs, as_, h1, h2, h3, h4⟩ := each i hi
            obtain ⟨x, hx⟩ := fm as_ h3
            have hxc := ofCells_cells hx h2.2.1
            exact ⟨x, fun _ => ⟨cs, h1, by rw [hxc]; exact h2, by rw [hxc]; exact h3, by rw [hxc]; exact hx, by rw [hxc, h2.1, h4]⟩⟩
          · exact ⟨.undef, fun h => absurd h hi⟩
        obtain ⟨el, hel2⟩ := Classical.axiomOfChoice each2
        have hes : ∀ (i : Nat) (x : AV), ((List.range len).map el)[i]? = some x → i < len ∧ x = el i := by
          intro i x hx
          rw [List.getElem?_map] at hx
          cases hr : (List.range len)[i]? with
          | none => rw [hr] at hx; cases hx
          | some j =>
            rw [hr] at hx; injection hx with hx
            obtain ⟨h1, h2⟩ := List.getElem?_eq_some_iff.1 hr
            simp at h1 h2; subst h2; exact ⟨h1, hx.symm⟩
        have hmem : ∀ x ∈ (List.range len).map el, ∃ i, i < len ∧ x = el i := by
          intro x hx
          obtain ⟨i, hi, rfl⟩ := List.mem_map.1 hx
          exact ⟨i, by simpa using hi, rfl⟩
        refine ⟨[.slice .foreign ((List.range len).map el)], one1 _ _ rfl ?_, .slice t e _ hu (by simp; omega) (fun x hx => ?_) (fun x hx => ?_), by simp [hct]⟩
        · by_cases h0 : len = 0
          · subst h0; exact .nil .foreign _ _ (fun id h => by cases h) (fun h => by cases h)
          · have hspot : a.spot = none := by
              obtain ⟨cs, h1, h2, _, _, h3⟩ := hel2 0 (by omega)
              have hcl : 0 < cs.length := by rw [← h2.1, h3]; exact hz
              have h4 := (cells?_get h1).2 0 _ (List.getElem?_eq_getElem hcl)
              unfold World.cell? at h4
              split at h4
              · split at h4
                · cases h4
                · rename_i hs
                  obtain ⟨b, o, sp⟩ := a
                  cases sp with
                  | none => rfl
                  | some s => simp [Addr.add] at hs
              · cases h4
            obtain ⟨b, o, sp⟩ := a
            dsimp only at hspot
            subst hspot
            have hlm : ((List.range len).map el).length = len := by simp
            have key : Rep gE W (.slice .foreign ((List.range len).map el)) (.slice (some ⟨b, o, none⟩) ((List.range len).map el).length cap) := by
              refine Rep.slice_mk hz (fun x hx => ?_) (fun _ => imm0 _ _) (fun i x hx => ?_) (by rw [hlm]; exact hl) trivial
              · obtain ⟨i, hi, rfl⟩ := hmem x hx
                obtain ⟨cs, _, _, _, _, h3⟩ := hel2 i hi
                exact h3
              · obtain ⟨hi, rfl⟩ := hes i x hx
                obtain ⟨cs, h1, h2, _, _, h3⟩ := hel2 i hi
                refine ⟨h2.2.1, fun j c hj => ?_⟩
                have hlt : j < cs.length := by rw [← h2.1]; exact (List.getElem?_eq_some_iff.1 hj).1
                have h4 := (cells?_get h1).2 j _ (List.getElem?_eq_getElem hlt)
                rw [add_plain, add_plain] at h4
                exact ⟨_, h4, h2.2.2 j c _ hj (List.getElem?_eq_getElem hlt)⟩
            rw [hlm] at key
            exact key
        · obtain ⟨i, hi, rfl⟩ := hmem x hx
          obtain ⟨cs, _, _, h3, _, _⟩ := hel2 i hi
          exact h3
        · obtain ⟨i, hi, rfl⟩ := hmem x hx
          obtain ⟨cs, _, _, _, h3, _⟩ := hel2 i hi
          exact h3
    · rename_i fs hu
      simp only [Bool.and_eq_true, beq_iff_eq] at hp
      obtain ⟨hp1, hp2⟩ := hp
      obtain ⟨xs, n, hn, _, hl, hxl, hf⟩ := DataW.trod_struct hu h
      obtain rfl : fuel = n := by omega
      obtain ⟨as_, h1, h2⟩ := tile (w := W) hl _ 0 (fun i as_ => ∀ f, fs[i]? = some f → Wt P f.type as_) hp2 (fun i o s hi => by
        rw [List.getElem?_map] at hi
        cases hfi : fs.toList[i]? with
        | none => rw [hfi] at hi; cases hi
        | some f =>
          rw [hfi] at hi; injection hi with hi; injection hi with e1 e2; subst e1 e2
          have hfi' : fs[i]? = some f := by simpa using hfi
          have h3 := hf i f hfi'
          obtain ⟨y, hy⟩ : ∃ y, xs[i]? = some y := ⟨_, List.getElem?_eq_getElem (by rw [hxl]; exact (Array.getElem?_eq_some_iff.1 hfi').1)⟩
          rw [hy] at h3
          have hmem : f.type ∈ S := by
            rw [← Array.all_toList] at hp1
            simpa using List.all_eq_true.1 hp1 f (List.mem_of_getElem? hfi)
          obtain ⟨as_, h4, h5, h6⟩ := ih _ _ _ hmem h3
          exact ⟨as_, h4, fun f' hf' => by rw [hfi'] at hf'; injection hf' with hf'; subst hf'; exact h5⟩)
      refine ⟨as_, by simpa using h1, .struct t fs as_ hu (by rw [h1.1]; simpa using hl) (fun i f hfi => ?_), hl⟩
      have := (h2 i f.offset (P.cellsOf f.type) (by simp [hfi])).2 f hfi
      simpa using this
    · rename_i m e hu
      simp only [Bool.and_eq_true, beq_iff_eq, List.contains_iff_mem] at hp
      obtain ⟨hp1, hp2⟩ := hp
      obtain ⟨xs, n, hn, _, hl, hxl, hf⟩ := DataW.trod_array hu h
      obtain rfl : fuel = n := by omega
      obtain ⟨as_, h1, h2⟩ := tile (w := W) hl _ 0 (fun i as_ => Wt P e as_) hp2 (fun i o s hi => by
        rw [List.getElem?_map] at hi
        cases hfi : (List.range m)[i]? with
        | none => rw [hfi] at hi; cases hi
        | some j =>
          rw [hfi] at hi; injection hi with hi; injection hi with e1 e2; subst e1 e2
          obtain ⟨q1, q2⟩ := List.getElem?_eq_some_iff.1 hfi
          simp at q1 q2; subst q2
          have h3 := hf i q1
          obtain ⟨y, hy⟩ : ∃ y, xs[i]? = some y := ⟨_, List.getElem?_eq_getElem (by omega)⟩
          rw [hy] at h3
          obtain ⟨as_, h4, h5, h6⟩ := ih _ _ _ hp1 h3
          exact ⟨as_, h4, h5⟩)
      refine ⟨as_, by simpa using h1, .array t e m as_ hu (by rw [h1.1]; simpa using hl) (fun i hi => ?_), hl⟩
      have := (h2 i (i * P.cellsOf e) (P.cellsOf e) (by simp [hi])).2
      simpa using this
    · cases hp

/-- A parameter. -/
theorem reads_param {S : List TypeId} (hS : plainT P S = true) {t : TypeId} {v : Value} {d : DataW H} {ps : List MemPlace} (ht : t ∈ S) (hval : Value.okWide P W r b0 t v) (hd : DataW.Trod enc P W base spare held t v d ps) : ∃ a as_, Rep gE W a v ∧ Wt P t as_ ∧ ofCells P t as_ = some a := by
  obtain ⟨fuel, hf⟩ := hd
  obtain ⟨as_, ⟨h1, h2, h3⟩, h4, h5⟩ := reads hS fuel t _ _ ht hf
  have single : (∀ cs, v ≠ .agg cs) → (∀ cs, v ≠ .tuple cs) → v.cells = #[v] := by
    intro ha hb
    cases v <;> first | rfl | (exact absurd rfl (ha _)) | (exact absurd rfl (hb _))
  have hp := List.all_eq_true.1 hS t ht
  unfold Value.okWide at hval
  cases hu : P.underlying t with
  | none => rw [hu] at hp; cases hp
  | some dsc =>
    have agg : (∃ cs, v = .agg cs ∧ cs.size = P.cellsOf t ∧ Row.okWide P W r b0 t cs) → aggT P t = some true → ∃ a as_, Rep gE W a v ∧ Wt P t as_ ∧ ofCells P t as_ = some a := by
      rintro ⟨cs, rfl, hsz, _⟩ hag
      refine ⟨.agg as_, as_, .agg as_ cs (by rw [h1]; simp [Value.cells]) h2 (fun j c u hj hu => h3 j c u hj (by simpa [Value.cells] using hu)), h4, ?_⟩
      unfold ofCells
      rw [hag]
    have one1 : aggT P t = some false → P.cellsOf t = 1 → (∃ u, v.cells = #[u] ∧ u = v) → ∃ a as_, Rep gE W a v ∧ Wt P t as_ ∧ ofCells P t as_ = some a := by
      rintro hag hct ⟨u, hu, rfl⟩
      have hl : as_.length = 1 := by rw [h1, hu]; rfl
      obtain ⟨a, rfl⟩ : ∃ a, as_ = [a] := by
        match as_, hl with
        | [a], _ => exact ⟨a, rfl⟩
      refine ⟨a, [a], h3 0 a u rfl (by rw [hu]; rfl), h4, ?_⟩
      unfold ofCells
      rw [hag]
    have scal : aggT P t = some false → Cell.okWide P W r b0 t v → P.cellsOf t = 1 → ∃ a as_, Rep gE W a v ∧ Wt P t as_ ∧ ofCells P t as_ = some a := by
      intro hag hc hct
      have no : ∀ cs, v ≠ .agg cs ∧ v ≠ .tuple cs := by
        intro cs
        refine ⟨fun e => ?_, fun e => ?_⟩ <;>
        · subst e
          simp only [Cell.okWide, Cell.ok, hu] at hc
      exact one1 hag hct ⟨v, single (fun cs => (no cs).1) (fun cs => (no cs).2), rfl⟩
    rw [hu] at hval hp
    have hs : ∀ b, (match dsc with | .struct _ => true | .array _ _ => true | _ => false) = b → aggT P t = some b := by
      intro b hb
      unfold aggT
      simp only [hu]
      cases dsc <;> simp_all
    cases dsc <;> first | (cases hp; done) | (exact agg hval (hs _ rfl)) | skip
    · exact scal (hs _ rfl) hval (by simpa using hp)
    · exact scal (hs _ rfl) hval (by simpa using hp)
    · exact scal (hs _ rfl) hval (by simpa using hp)
    · simp only [Bool.and_eq_true, beq_iff_eq] at hp; exact scal (hs _ rfl) hval hp.2
end
end Go.Proofs.YtdnnmopncndebaaDoor.G
set_option linter.unusedVariables false
set_option linter.unusedSimpArgs false
namespace Go.Proofs.YtdnnmopncndebaaDoor.G

def structT (P : Program) (t : TypeId) : Option (List (TypeId × Nat × Nat)) := match P.underlying t with
  | some (.struct fs) => some (fs.toList.map fun f => (f.type, f.offset, P.cellsOf f.type))
  | _ => none
theorem Wt.int_inv {P : Program} {t : TypeId} {k : IntKind} {cs : List AV} (ht : P.underlying t = some (.int k)) (h : Wt P t cs) : ∃ n, cs = [.atom (.int k n)] ∧ k.min ≤ n ∧ n ≤ k.max := by
  cases h <;> rename_i h1 <;> simp_all
theorem Wt.bool_inv {P : Program} {t : TypeId} {cs : List AV} (ht : P.underlying t = some .bool) (h : Wt P t cs) : ∃ b, cs = [.bool b] := by
  cases h <;> rename_i h1 <;> simp_all
theorem Wt.slice_inv {P : Program} {t e : TypeId} {cs : List AV} (ht : P.underlying t = some (.slice e)) (h : Wt P t cs) : ∃ es, cs = [.slice .foreign es] ∧ es.length ≤ maxLen ∧ (∀ x ∈ es, Wt P e x.cells) ∧ ∀ x ∈ es, ofCells P e x.cells = some x := by
  cases h <;> rename_i h1 <;> simp_all
theorem Wt.struct_inv {P : Program} {t : TypeId} {cs : List AV} {l : List (TypeId × Nat × Nat)} (ht : structT P t = some l) (h : Wt P t cs) : cs.length = P.cellsOf t ∧ ∀ (i : Nat) (ty off sz : Nat), l[i]? = some (ty, off, sz) → Wt P ty ((cs.drop off).take sz) := by
  unfold structT at ht
  split at ht
  · rename_i fs hu
    injection ht with ht; subst ht
    cases h <;> rename_i h1 <;> simp_all
    rename_i h2
    intro i ty off sz x hx e1 e2 e3
    subst e1 e2 e3
    exact h2 i x hx
  · cases ht
theorem uncons {α : Type} {cs : List α} {n : Nat} (h : cs.length = n + 1) : ∃ c tl, cs = c :: tl ∧ tl.length = n := by
  cases cs with
  | nil => simp at h
  | cons c tl => exact ⟨c, tl, rfl, by simpa using h⟩
theorem Wt.i64 {P : Program} {t : TypeId} {c : AV} (ht : P.underlying t = some (.int .i64)) (h : Wt P t [c]) : ∃ n, c = .i64 n := by
  obtain ⟨n, hn, _⟩ := h.int_inv ht
  injection hn with hn; exact ⟨n, hn⟩
theorem Wt.b {P : Program} {t : TypeId} {c : AV} (ht : P.underlying t = some .bool) (h : Wt P t [c]) : ∃ n, c = .bool n := by
  obtain ⟨n, hn⟩ := h.bool_inv ht
  injection hn with hn; exact ⟨n, hn⟩
theorem rowsOf {P : Program} {e : TypeId} {α : Type} {f : α → AV} {G : α → Prop} (hagg : ∀ x, ofCells P e (f x).cells = some (f x)) {es : List AV} (h2 : ∀ x ∈ es, ∃ y, x.cells = (f y).cells ∧ G y) (h3 : ∀ x ∈ es, ofCells P e x.cells = some x) : ∃ l : List α, es = l.map f ∧ ∀ x ∈ l, G x := by
  induction es with
  | nil => exact ⟨[], rfl, by simp⟩
  | cons e es ih =>
    obtain ⟨l, rfl, hl⟩ := ih (fun x hx => h2 x (List.mem_cons_of_mem _ hx)) fun x hx => h3 x (List.mem_cons_of_mem _ hx)
    obtain ⟨x, hx, gx⟩ := h2 e (by simp)
    have := h3 e (by simp)
    rw [hx, hagg] at this
    injection this with this
    exact ⟨x :: l, by rw [← this]; rfl, fun y hy => (List.mem_cons.1 hy).elim (fun h => h ▸ gx) (hl y)⟩
theorem structT_field {P : Program} {t : TypeId} {fs : Array Field} {l : List (TypeId × Nat × Nat)} {i ty off sz : Nat} (ht : structT P t = some l) (hu : P.underlying t = some (.struct fs)) (hi : l[i]? = some (ty, off, sz)) : ∃ f, fs[i]? = some f ∧ f.type = ty ∧ f.offset = off ∧ P.cellsOf f.type = sz := by
  unfold structT at ht
  rw [hu] at ht
  injection ht with ht; subst ht
  simp at hi
  obtain ⟨f, hf, h1, h2, h3⟩ := hi
  exact ⟨f, hf, h1, h2, h3⟩
theorem structT_u {P : Program} {t : TypeId} {l : List (TypeId × Nat × Nat)} (ht : structT P t = some l) : ∃ fs, P.underlying t = some (.struct fs) := by
  unfold structT at ht
  split at ht
  · exact ⟨_, by assumption⟩
  · cases ht
theorem u64_mk {n : Int} (h1 : IntKind.u64.min ≤ n) (h2 : n ≤ IntKind.u64.max) : AV.u64 n = .w (BitVec.ofNat 64 n.toNat) := by
  have e1 : IntKind.u64.min = 0 := by decide
  have e2 : IntKind.u64.max = 18446744073709551615 := by decide
  rw [e1] at h1; rw [e2] at h2
  simp only [AV.w, BitVec.toNat_ofNat]
  congr 2; omega
theorem Wt.w {P : Program} {t : TypeId} {c : AV} (ht : P.underlying t = some (.int .u64)) (h : Wt P t [c]) : ∃ s, c = .w s := by
  obtain ⟨n, hn, h1, h2⟩ := h.int_inv ht
  injection hn with hn; subst hn
  exact ⟨_, u64_mk h1 h2⟩
/-- A type with one cell. -/
theorem one_cell {P : Program} {t : TypeId} {cs : List AV} {a : AV} (h1 : aggT P t = some false) (h2 : ofCells P t cs = some a) : cs = [a] := by
  unfold ofCells at h2
  rw [h1] at h2
  simp only at h2
  split at h2
  · injection h2 with h2; rw [h2]
  · cases h2
theorem agg_of {P : Program} {t : TypeId} {cs : List AV} (h : aggT P t = some true) : ofCells P t (AV.agg cs).cells = some (.agg cs) := by
  unfold ofCells
  rw [h]; rfl
end Go.Proofs.YtdnnmopncndebaaDoor.G
set_option linter.unusedVariables false
set_option linter.unusedSimpArgs false
set_option maxRecDepth 100000
namespace Go.Proofs.YtdnnmopncndebaaDoor.G
theorem st_T_api_Value : structT Tryd.prog 72 = some [(4, 0, 1), (2, 1, 1)] := by kernel_rfl
theorem wt_T_api_Value {cs : List AV} (h : Wt Tryd.prog 72 cs) : ∃ x : T_api_Value, cs = x.C := by
  obtain ⟨hl, hf⟩ := h.struct_inv st_T_api_Value
  rw [show Tryd.prog.cellsOf 72 = 2 by kernel_rfl] at hl
  obtain ⟨c0, d0, rfl, hn0⟩ := uncons hl
  obtain ⟨c1, d1, rfl, hn1⟩ := uncons hn0
  obtain rfl := List.length_eq_zero_iff.1 hn1
  obtain ⟨v0, rfl⟩ := Wt.b (show Tryd.prog.underlying 4 = some (.bool) by kernel_rfl) (show Wt Tryd.prog 4 [c0] from hf 0 _ _ _ rfl)
  obtain ⟨v1, rfl⟩ := Wt.i64 (show Tryd.prog.underlying 2 = some (.int .i64) by kernel_rfl) (show Wt Tryd.prog 2 [c1] from hf 1 _ _ _ rfl)
  exact ⟨⟨v0, v1⟩, rfl⟩
theorem st_T_api_Term : structT Tryd.prog 74 = some [(3, 0, 1), (3, 1, 1), (3, 2, 1), (72, 3, 2)] := by kernel_rfl
theorem wt_T_api_Term {cs : List AV} (h : Wt Tryd.prog 74 cs) : ∃ x : T_api_Term, cs = x.C := by
  obtain ⟨hl, hf⟩ := h.struct_inv st_T_api_Term
  rw [show Tryd.prog.cellsOf 74 = 5 by kernel_rfl] at hl
  obtain ⟨c0, d0, rfl, hn0⟩ := uncons hl
  obtain ⟨c1, d1, rfl, hn1⟩ := uncons hn0
  obtain ⟨c2, d2, rfl, hn2⟩ := uncons hn1
  obtain ⟨c3, d3, rfl, hn3⟩ := uncons hn2
  obtain ⟨c4, d4, rfl, hn4⟩ := uncons hn3
  obtain rfl := List.length_eq_zero_iff.1 hn4
  obtain ⟨v0, rfl⟩ := Wt.i64 (show Tryd.prog.underlying 3 = some (.int .i64) by kernel_rfl) (show Wt Tryd.prog 3 [c0] from hf 0 _ _ _ rfl)
  obtain ⟨v1, rfl⟩ := Wt.i64 (show Tryd.prog.underlying 3 = some (.int .i64) by kernel_rfl) (show Wt Tryd.prog 3 [c1] from hf 1 _ _ _ rfl)
  obtain ⟨v2, rfl⟩ := Wt.i64 (show Tryd.prog.underlying 3 = some (.int .i64) by kernel_rfl) (show Wt Tryd.prog 3 [c2] from hf 2 _ _ _ rfl)
  obtain ⟨v3, hv3⟩ := wt_T_api_Value (show Wt Tryd.prog 72 [c3, c4] from hf 3 _ _ _ rfl); simp only [T_api_Value.C, List.cons.injEq, and_true] at hv3; obtain ⟨rfl, rfl⟩ := hv3
  exact ⟨⟨v0, v1, v2, v3⟩, rfl⟩
theorem st_T_api_Pred : structT Tryd.prog 76 = some [(3, 0, 1), (3, 1, 1), (3, 2, 1), (74, 3, 5), (74, 8, 5), (32, 13, 1)] := by kernel_rfl
theorem wt_T_api_Pred' {t : TypeId} {cs : List AV} (h : Wt Tryd.prog t cs) : (t = 76 → ∃ x : T_api_Pred, cs = x.C) ∧ (t = 32 → ∃ xs : List T_api_Pred, cs = [.slice .foreign (xs.map T_api_Pred.av)] ∧ xs.length < 9223372036854775808) := by
  obtain ⟨fs, hfs⟩ := structT_u st_T_api_Pred
  have hs32 : Tryd.prog.underlying 32 = some (.slice 76) := by kernel_rfl
  induction h with
  | bool t b ht => exact ⟨fun h => by (subst h; rw [hfs] at ht; cases ht), fun h => by (subst h; rw [hs32] at ht; cases ht)⟩
  | int t b n ht => exact ⟨fun h => by (subst h; rw [hfs] at ht; cases ht), fun h => by (subst h; rw [hs32] at ht; cases ht)⟩
  | string t b ht => exact ⟨fun h => by (subst h; rw [hfs] at ht; cases ht), fun h => by (subst h; rw [hs32] at ht; cases ht)⟩
  | array t b n cs ht => exact ⟨fun h => by (subst h; rw [hfs] at ht; cases ht), fun h => by (subst h; rw [hs32] at ht; cases ht)⟩
  | slice t e es ht hl h hf ih =>
    refine ⟨fun h => by (subst h; rw [hfs] at ht; cases ht), fun h => ?_⟩
    · subst h
      rw [hs32] at ht
      injection ht with ht; injection ht with ht; subst ht
      obtain ⟨l, rfl, _⟩ := rowsOf (P := Tryd.prog) (f := T_api_Pred.av) (G := fun _ => True) (fun x => by rw [T_api_Pred.av_eq]; exact agg_of (by kernel_rfl)) (fun x hx => let ⟨y, hy⟩ := (ih x hx).1 rfl; ⟨y, by rw [hy, T_api_Pred.av_eq]; rfl, trivial⟩) hf
      exact ⟨l, rfl, by simp [maxLen] at hl; omega⟩
  | struct t fs' cs ht hl h ih =>
    refine ⟨fun e => ?_, fun h => by (subst h; rw [hs32] at ht; cases ht)⟩
    subst e
    obtain ⟨_, hf⟩ := (Wt.struct _ _ _ ht hl h).struct_inv st_T_api_Pred
    obtain ⟨f5, g1, g2, g3, g4⟩ := structT_field (i := 5) st_T_api_Pred ht rfl
    have hr5 := (ih 5 f5 g1).2 g2
    rw [g3, g4] at hr5
    clear g1 g2 g3 g4
    clear ih h
    rw [show Tryd.prog.cellsOf 76 = 14 by kernel_rfl] at hl
    obtain ⟨c0, d0, rfl, hn0⟩ := uncons hl
    obtain ⟨c1, d1, rfl, hn1⟩ := uncons hn0
    obtain ⟨c2, d2, rfl, hn2⟩ := uncons hn1
    obtain ⟨c3, d3, rfl, hn3⟩ := uncons hn2
    obtain ⟨c4, d4, rfl, hn4⟩ := uncons hn3
    obtain ⟨c5, d5, rfl, hn5⟩ := uncons hn4
    obtain ⟨c6, d6, rfl, hn6⟩ := uncons hn5
    obtain ⟨c7, d7, rfl, hn7⟩ := uncons hn6
    obtain ⟨c8, d8, rfl, hn8⟩ := uncons hn7
    obtain ⟨c9, d9, rfl, hn9⟩ := uncons hn8
    obtain ⟨c10, d10, rfl, hn10⟩ := uncons hn9
    obtain ⟨c11, d11, rfl, hn11⟩ := uncons hn10
    obtain ⟨c12, d12, rfl, hn12⟩ := uncons hn11
    obtain ⟨c13, d13, rfl, hn13⟩ := uncons hn12
    obtain rfl := List.length_eq_zero_iff.1 hn13
    obtain ⟨v0, rfl⟩ := Wt.i64 (show Tryd.prog.underlying 3 = some (.int .i64) by kernel_rfl) (show Wt Tryd.prog 3 [c0] from hf 0 _ _ _ rfl)
    obtain ⟨v1, rfl⟩ := Wt.i64 (show Tryd.prog.underlying 3 = some (.int .i64) by kernel_rfl) (show Wt Tryd.prog 3 [c1] from hf 1 _ _ _ rfl)
    obtain ⟨v2, rfl⟩ := Wt.i64 (show Tryd.prog.underlying 3 = some (.int .i64) by kernel_rfl) (show Wt Tryd.prog 3 [c2] from hf 2 _ _ _ rfl)
    obtain ⟨v3, hv3⟩ := wt_T_api_Term (show Wt Tryd.prog 74 [c3, c4, c5, c6, c7] from hf 3 _ _ _ rfl); simp only [T_api_Term.C, List.cons.injEq, and_true] at hv3; obtain ⟨rfl, rfl, rfl, rfl, rfl⟩ := hv3
    obtain ⟨v4, hv4⟩ := wt_T_api_Term (show Wt Tryd.prog 74 [c8, c9, c10, c11, c12] from hf 4 _ _ _ rfl); simp only [T_api_Term.C, List.cons.injEq, and_true] at hv4; obtain ⟨rfl, rfl, rfl, rfl, rfl⟩ := hv4
    obtain ⟨v5, ev5, _⟩ := hr5
    have ev5 : [c13] = _ := ev5
    injection ev5 with ev5; subst ev5
    exact ⟨⟨v0, v1, v2, v3, v4, v5⟩, rfl⟩
theorem wt_s32 {cs : List AV} (h : Wt Tryd.prog 32 cs) : ∃ l : List T_api_Pred, cs = [.slice .foreign (l.map T_api_Pred.av)] ∧ l.length < 9223372036854775808 := (wt_T_api_Pred' h).2 rfl
theorem st_T_api_Edge : structT Tryd.prog 34 = some [(3, 0, 1), (32, 1, 1), (23, 2, 1), (23, 3, 1), (23, 4, 1)] := by kernel_rfl
theorem wt_T_api_Edge {cs : List AV} (h : Wt Tryd.prog 34 cs) : ∃ x : T_api_Edge, cs = x.C := by
  obtain ⟨hl, hf⟩ := h.struct_inv st_T_api_Edge
  rw [show Tryd.prog.cellsOf 34 = 5 by kernel_rfl] at hl
  obtain ⟨c0, d0, rfl, hn0⟩ := uncons hl
  obtain ⟨c1, d1, rfl, hn1⟩ := uncons hn0
  obtain ⟨c2, d2, rfl, hn2⟩ := uncons hn1
  obtain ⟨c3, d3, rfl, hn3⟩ := uncons hn2
  obtain ⟨c4, d4, rfl, hn4⟩ := uncons hn3
  obtain rfl := List.length_eq_zero_iff.1 hn4
  obtain ⟨v0, rfl⟩ := Wt.i64 (show Tryd.prog.underlying 3 = some (.int .i64) by kernel_rfl) (show Wt Tryd.prog 3 [c0] from hf 0 _ _ _ rfl)
  obtain ⟨v1, e, _⟩ := wt_s32 (show Wt Tryd.prog 32 [c1] from hf 1 _ _ _ rfl); injection e with e; subst e
  obtain ⟨v2, rfl⟩ := Wt.w (show Tryd.prog.underlying 23 = some (.int .u64) by kernel_rfl) (show Wt Tryd.prog 23 [c2] from hf 2 _ _ _ rfl)
  obtain ⟨v3, rfl⟩ := Wt.w (show Tryd.prog.underlying 23 = some (.int .u64) by kernel_rfl) (show Wt Tryd.prog 23 [c3] from hf 3 _ _ _ rfl)
  obtain ⟨v4, rfl⟩ := Wt.w (show Tryd.prog.underlying 23 = some (.int .u64) by kernel_rfl) (show Wt Tryd.prog 23 [c4] from hf 4 _ _ _ rfl)
  exact ⟨⟨v0, v1, v2, v3, v4⟩, rfl⟩
theorem wt_s22 {cs : List AV} (h : Wt Tryd.prog 22 cs) : ∃ l : List T_api_Edge, cs = [.slice .foreign (l.map T_api_Edge.av)] ∧ l.length < 9223372036854775808 := by
  obtain ⟨es, hn, h1, h2, h3⟩ := h.slice_inv (show Tryd.prog.underlying 22 = some (.slice 34) by kernel_rfl)
  subst hn
  have hd : ∀ cs, Wt Tryd.prog 34 cs → ∃ y, cs = (T_api_Edge.av y).cells ∧ True := fun cs hc => let ⟨x, hx⟩ := wt_T_api_Edge hc; ⟨x, by first | (rw [hx, T_api_Edge.av_eq]; rfl) | (rw [hx]; rfl), trivial⟩
  obtain ⟨l, rfl, _⟩ := rowsOf (P := Tryd.prog) (f := T_api_Edge.av) (G := fun _ => True) (fun x => by first | (rw [T_api_Edge.av_eq]; exact agg_of (by kernel_rfl)) | exact agg_of (cs := T_api_Edge.C x) (by kernel_rfl)) (fun x hx => hd _ (h2 x hx)) h3
  exact ⟨l, rfl, by simp [maxLen] at h1; omega⟩
end Go.Proofs.YtdnnmopncndebaaDoor.G
set_option linter.unusedVariables false
set_option linter.unusedSimpArgs false
namespace Go.Proofs.YtdnnmopncndebaaDoor.G
open Go.ChangeShapes Go.WideShapes Go.ChangeAt Go.WideMaps Go.WideElems Go.RowKit

theorem tabOk_of_laid {P : Program} {n : String} {g t e len : Nat} {kd : IntKind} {vals : List Int} {laid : List (String × DataW Unit)} {W : World} (hlaid : laid = [(n, .agg (vals.map fun v => .lit (.int kd v)))]) (hg : P.globalNamed n = some g) (ht : (P.globals[g]?).map (·.type) = some t)
    (hu : P.underlying t = some (.array len e)) (he : P.underlying e = some (.int kd)) (hc : P.cellsOf e = 1) (hct : P.cellsOf t = len) (hn : vals.length = len) (h0 : 0 < len) (htab : tabs = [(g, vals.map fun v => .int kd v)]) (h : laidMetH P laid W) : TabOk gE W := by
  subst hlaid
  rw [MakeChecks.laidMetH_plain _ _ _ (by simp [DataW.handleName?])] at h
  obtain ⟨ps, ⟨g0, t0, cs, f, p, q, hg0, ht0, hv, hd, _, hps⟩, _, hfr⟩ := h
  obtain rfl := Option.some.inj (hg.symm.trans hg0)
  obtain rfl := Option.some.inj (ht.symm.trans ht0)
  obtain ⟨xs, m, _, hx, hlen, hxn, hel⟩ := DataW.trod_array hu hd
  rw [hct] at hlen
  have hcs : cs.toList = vals.map fun v => Value.int kd v := by
    apply List.ext_getElem (by rw [hlen, List.length_map, hn])
    intro i h1 h2
    have hi : i < len := by omega
    have h3 := hel i hi
    rw [hc, Nat.mul_one, List.getElem?_eq_getElem (show i < xs.length by omega)] at h3
    obtain ⟨k, e1, e2, _⟩ := DataW.trod_int he h3
    have e3 : ((cs.toList.drop i).take 1)[0]? = some (.int kd k) := by rw [e1]; rfl
    rw [List.getElem?_take_of_lt (by omega), List.getElem?_drop, Nat.add_zero, List.getElem?_eq_getElem h1] at e3
    injection e3 with e3
    rw [e3, List.getElem_map]
    injection hx with hx1 hx2
    injection hx1 with hx1
    have e4 : (xs.map (·.1))[i]? = (vals.map fun v => (DataW.lit (.int kd v) : DataW Unit))[i]? := by rw [← hx1]
    rw [List.getElem?_map, List.getElem?_map, List.getElem?_eq_getElem (show i < xs.length by omega), List.getElem?_eq_getElem (show i < vals.length by omega), Option.map_some, Option.map_some, e2] at e4
    injection e4 with e4
    injection e4 with e4
    injection e4 with e4 e5
    rw [e5]
  have hsz : cs.size = len := by rw [← hlen]; simp
  obtain ⟨⟨c, ty, hheap⟩, _⟩ := hfr g 0 (by rw [hps]; exact List.mem_append_left _ (List.mem_append_left _ (by simp [MemPlace.row, h0, hsz])))
  have hc2 : c = cs := by
    simp only [World.var?, hg, Option.bind_some, hheap] at hv
    injection hv
  subst hc2
  intro q hq
  rw [htab, List.mem_singleton] at hq
  subst hq
  exact ⟨⟨c, ty, hheap, hcs⟩, (fun l h => by cases h), (fun id h => by cases h)⟩
end Go.Proofs.YtdnnmopncndebaaDoor.G
namespace Go.Proofs.YtdnnmopncndebaaDoor.GraphTells
open Go.ChangeShapes Go.WideShapes Go.ChangeAt Go.WideMaps Go.WideElems Go.RowKit Go.Proofs.YtdnnmopncndebaaDoor.G
set_option linter.unusedVariables false
theorem own : ownKnob Tryd.prog.godebug = none := by kernel_rfl
theorem laidOut : laidOutB Tryd.prog = true := by kernel_rfl
set_option maxRecDepth 100000
theorem door_met (os : Os) (args : Array Value) : laidMetH Tryd.prog [("math/bits.deBruijn64tab", Rows.laid_math_bits_deBruijn64tab)] ((World.doorLaid Tryd.prog 400 os).forCall (fun _ _ => 0) ⟨#[], args, []⟩).memory :=
  laidMetH_of_parts3 (fuel := 8) (laidMet_of_run' 8 (by kernel_rfl) (by kernel_rfl)) (by kernel_rfl) (by kernel_rfl)
theorem tabLies {W : World} (h : laidMetH Tryd.prog [("math/bits.deBruijn64tab", Rows.laid_math_bits_deBruijn64tab)] W) : TabOk gE W :=
  tabOk_of_laid (e := 5) (len := 64) (kd := .u8) (vals := [0, 1, 56, 2, 57, 49, 28, 3, 61, 58, 42, 50, 38, 29, 17, 4, 62, 47, 59, 36, 45, 43, 51, 22, 53, 39, 33, 30, 24, 18, 12, 5, 63, 55, 48, 27, 60, 41, 37, 16, 46, 35, 44, 21, 52, 32, 23, 11, 54, 26, 40, 15, 34, 20, 31, 10, 25, 14, 19, 9, 13, 8, 7, 6]) rfl (show Tryd.prog.globalNamed "math/bits.deBruijn64tab" = some 0 by kernel_rfl) (show (Tryd.prog.globals[0]?).map (·.type) = some 53 by kernel_rfl) (show Tryd.prog.underlying 53 = some (.array 64 5) by kernel_rfl) (show Tryd.prog.underlying 5 = some (.int .u8) by kernel_rfl) (by kernel_rfl) (by kernel_rfl) rfl (by omega) rfl h
theorem lifted (os : Os) (started : os.Started) (H : Type) (enc : TypeId × Value → H) :
    ReturnsInHanded {} Tryd.checked os 3 .any (fun w args => (Rows.graphTellsSpec.pre enc Tryd.prog Tryd.f3 [] false w args ∧ laidMetH Tryd.prog [("math/bits.deBruijn64tab", Rows.laid_math_bits_deBruijn64tab)] w) ∧ sizedMet enc Tryd.prog Tryd.f3 (OpenSpec.ofChange Rows.graphTellsSpec) false w args) (Rows.graphTellsSpec.post enc Tryd.prog Tryd.f3 false true false false) := by
  refine returnsInHanded_of_change_and (C := Tryd.checked) (X := fun w _ => laidMetH Tryd.prog [("math/bits.deBruijn64tab", Rows.laid_math_bits_deBruijn64tab)] w) (fun _ _ _ hh h => h.of_heap hh) own started (by kernel_rfl) Tryd.func3
    (ChangeSpec.witness_shaped (enc := enc) (C := Tryd.checked) (os := os) (X := fun w _ => laidMetH Tryd.prog [("math/bits.deBruijn64tab", Rows.laid_math_bits_deBruijn64tab)] w) false (World.doorLaid Tryd.prog 400 os) #[.slice none 0 0, .int .u64 0, .int .u64 0] 30 rfl (World.shaped_of_RefB (by kernel_rfl) (by kernel_rfl)) (by kernel_rfl) (by kernel_rfl) (by kernel_rfl) (door_met os _)) ?_
  intro W base args ds gs before hval0 hW _ _ hL _
  have hval : ∀ (j : Nat) t v, Tryd.f3.params[j]? = some t → args[j]? = some v → Value.okWide Tryd.prog W .any base t v := hval0
  have hW' := hW
  obtain ⟨p, q, hA0, hV, rfl, hfz, hnd⟩ := hW
  have hA : DataW.TrodAll enc Tryd.prog W 0 (fun _ => true) true Tryd.f3.params.toList args.toList ds p := hA0
  rw [Tryd.params3] at hA hval
  obtain ⟨u0, vs0, d0, ds0, p0, q0, hargs, rfl, rfl, h0, r0⟩ := trodAll_cons hA
  obtain ⟨u1, vs1, d1, ds1, p1, q1, rfl, rfl, rfl, h1, r1⟩ := trodAll_cons r0
  obtain ⟨u2, vs2, d2, ds2, p2, q2, rfl, rfl, rfl, h2, r2⟩ := trodAll_cons r1
  obtain ⟨rfl, rfl, rfl⟩ := trodAll_nil r2
  obtain rfl : args = #[u0, u1, u2] := by cases args; simp_all
  obtain ⟨rfl, rfl⟩ := trodVars_none hV
  have lt0 : ∀ x ∈ p0, x.block < W.heap.size := by obtain ⟨m, hm⟩ := h0; exact DataW.trod_lt m _ _ _ hm
  have lt1 : ∀ x ∈ p1, x.block < W.heap.size := by obtain ⟨m, hm⟩ := h1; exact DataW.trod_lt m _ _ _ hm
  have lt2 : ∀ x ∈ p2, x.block < W.heap.size := by obtain ⟨m, hm⟩ := h2; exact DataW.trod_lt m _ _ _ hm
  have hS : plainT Tryd.prog [22, 34, 3, 32, 76, 74, 72, 4, 2, 23] = true := by kernel_rfl
  obtain ⟨a0, as0, rep0, wt0, of0⟩ := reads_param hS (by simp) (hval 0 22 u0 rfl rfl) h0
  obtain ⟨a1, as1, rep1, wt1, of1⟩ := reads_param hS (by simp) (hval 1 23 u1 rfl rfl) h1
  obtain ⟨a2, as2, rep2, wt2, of2⟩ := reads_param hS (by simp) (hval 2 23 u2 rfl rfl) h2
  obtain rfl := one_cell (by kernel_rfl) of0
  obtain ⟨x0, e0, _⟩ := wt_s22 wt0; injection e0 with e0; subst e0
  obtain rfl := one_cell (by kernel_rfl) of1
  obtain ⟨x1, rfl⟩ := Wt.w (show Tryd.prog.underlying 23 = some (.int .u64) by kernel_rfl) wt1
  obtain rfl := one_cell (by kernel_rfl) of2
  obtain ⟨x2, rfl⟩ := Wt.w (show Tryd.prog.underlying 23 = some (.int .u64) by kernel_rfl) wt2
  refine ((M_law21_GraphTells.w (x0, x1, x2) true (GraphTells_plain x0 x1 x2)).law (tabLies hL) (.cons rep0 (.cons rep1 (.cons rep2 .nil)))).mono fun e W' ⟨he, bel⟩ => ?_
  subst he
  exact ⟨_, rfl, _, _, _, [], _, [], hW', trodAll_mk1 (shut_bool Tryd.underlying4 _), (trodAll_cons_mk (Below.trod laidOut (by kernel_rfl) (of_decide_eq_true (by kernel_rfl)) h0 bel lt0) (trodAll_cons_mk (Below.trod laidOut (by kernel_rfl) (of_decide_eq_true (by kernel_rfl)) h1 bel lt1) (trodAll_cons_mk (Below.trod laidOut (by kernel_rfl) (of_decide_eq_true (by kernel_rfl)) h2 bel lt2) trodAll_mk0))), rfl, bel.frame _, fun h => by cases h⟩
theorem over : Rows.graphTellsRow.holds Tryd.pinned (OpenSpec.ofChange Rows.graphTellsSpec) :=
  OpenClaim.holds_of_wide 3 Tryd.f3 rfl rfl rfl rfl rfl rfl rfl ⟨rfl, rfl, rfl, rfl, rfl⟩ rfl rfl rfl rfl rfl (by kernel_rfl) Tryd.func3 (by kernel_rfl)
    (of_decide_eq_true (by kernel_rfl)) (by unfold Func.isWrapper; first | (rw [if_pos (by decide +kernel)]; kernel_rfl) | (rw [if_neg (by decide +kernel)]; exact ⟨rfl, rfl⟩))
    (fun os started H enc _ => lifted os started H enc)
theorem row_holds : Rows.GraphTellsSaid := over
theorem card : Claim7.holds Tryd.pinned (.plain (OpenSpec.ofChange Rows.graphTellsSpec)) Rows.graphTellsCard :=
  Claim7.holds_tied_plain_at .later [] [.data] true (true, "f309ebfd6d6ac6391f86a97be9aa96cbfc6bfe48896e8164a217139c3fe06fc5") false
    row_holds (fun _ h => by cases h) (by kernel_rfl) (fun _ h => by cases h) graphTells_row_tie rfl ⟨rfl, rfl⟩ (by kernel_rfl) rfl
    (fun f fn hf hfn => by
      obtain rfl : f = 3 := Option.some.inj ((show Tryd.prog.funcNamed "watersmeet/watersmeetlaw21.GraphTells" = some 3 by kernel_rfl).symm.trans hf) |>.symm
      obtain rfl : fn = Tryd.f3 := (Option.some.inj (Tryd.func3.symm.trans hfn)).symm
      exact ⟨by kernel_rfl, fun j t ht => by
        rw [Tryd.params3] at ht
        have hm : t ∈ [22, 23, 23] := by simpa using Array.mem_of_getElem? ht
        have hall : ([22, 23, 23].all fun u => !Tryd.prog.wantsStandIn u) = true := by kernel_rfl
        exact (show Tryd.prog.wantsStandIn t = false by simpa using List.all_eq_true.1 hall t hm)⟩)
    (by kernel_rfl)
end Go.Proofs.YtdnnmopncndebaaDoor.GraphTells
namespace Go.Proofs.YtdnnmopncndebaaDoor
/-- The card, under a short name, for the claim. -/
theorem graphTells_holds : Rows.GraphTellsCardSaid := GraphTells.card
end Go.Proofs.YtdnnmopncndebaaDoor
