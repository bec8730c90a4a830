/-
LevelsTells: the law returns true whatever the input.
-/
import Derived.Test.YtakmilmckdllfaaLevelsTells5
import Derived.WalkKit
import Derived.ProofKit
import Derived.OpenShut
import Derived.ChangeOld
import Derived.Below
import Derived.Carry
import Derived.SizedLaws
import Derived.KernelRfl
import Derived.Test.YtakmilmckdllfaaRows
set_option linter.unusedVariables false
set_option linter.unusedSimpArgs false
namespace Go.Proofs.Ytakmilmckdllfaa.G
open Classical

theorem term_tab (t : T_api_Term) : M_term_Tables t = some (ttab t) := by
  unfold M_term_Tables ttab
  by_cases h : t.Kind = 1
  · rw [if_pos (by simpa using h), if_pos h, sets_Of_eq _ (by simp)]
    simp -implicitDefEqProofs only [Option.bind_eq_bind, Option.bind_some]
    rw [ofL_cons, ofL_nil, BitVec.or_zero]
  · rw [if_neg (by simpa using h), if_neg h]
/-- The sets that a walk over a predicate gathers. -/
def T_api_Pred.sets : T_api_Pred → List Set64
  | ⟨_, _, _, a, b, ps⟩ => (ttab a ||| ttab b) :: setsL ps
where setsL : List T_api_Pred → List Set64
  | [] => []
  | x :: l => x.sets ++ setsL l
theorem psets_eq (p : T_api_Pred) : p.sets = (ttab p.A ||| ttab p.B) :: T_api_Pred.sets.setsL p.Parts := by
  obtain ⟨a, b, c, d, e, ps⟩ := p
  simp only [T_api_Pred.sets]
theorem psets_len (p : T_api_Pred) : p.sets.length = p.size := by
  induction p using T_api_Pred.induct with
  | h p ih =>
    have hl : ∀ l : List T_api_Pred, (∀ x ∈ l, x.sets.length = x.size) → (T_api_Pred.sets.setsL l).length = (l.map T_api_Pred.size).sum := by
      intro l
      induction l with
      | nil => intro _; simp [T_api_Pred.sets.setsL]
      | cons x l ih2 =>
        intro h
        have h1 := h x List.mem_cons_self
        have h2 := ih2 fun y hy => h y (List.mem_cons_of_mem _ hy)
        simp only [T_api_Pred.sets.setsL, List.length_append, List.map_cons, List.sum_cons]; omega
    have := hl p.Parts ih
    rw [psets_eq, psize_eq, List.length_cons]; omega
theorem orL_append (l l' : List Set64) (s : Set64) : (l ++ l').foldl (fun a b => a ||| b) s = l'.foldl (fun a b => a ||| b) (l.foldl (fun a b => a ||| b) s) := List.foldl_append
theorem orL_out (l : List Set64) : ∀ s : Set64, l.foldl (fun a b => a ||| b) s = s ||| l.foldl (fun a b => a ||| b) 0#64 := by
  induction l with
  | nil => intro s; simp
  | cons x l ih => intro s; simp only [List.foldl_cons]; rw [ih, ih (0#64 ||| x), BitVec.zero_or, BitVec.or_assoc]
theorem psets_or (p : T_api_Pred) : p.sets.foldl (fun a b => a ||| b) 0#64 = p.tabs := by
  induction p using T_api_Pred.induct with
  | h p ih =>
    have hl : ∀ l : List T_api_Pred, (∀ x ∈ l, x.sets.foldl (fun a b => a ||| b) 0#64 = x.tabs) → (T_api_Pred.sets.setsL l).foldl (fun a b => a ||| b) 0#64 = T_api_Pred.tabs.tabsL l := by
      intro l
      induction l with
      | nil => intro _; rfl
      | cons x l ih2 =>
        intro h
        have h1 := h x List.mem_cons_self
        have h2 := ih2 fun y hy => h y (List.mem_cons_of_mem _ hy)
        rw [T_api_Pred.sets.setsL, T_api_Pred.tabs.tabsL, orL_append, orL_out, h1, h2]
    have := hl p.Parts ih
    rw [psets_eq, ptabs_eq, List.foldl_cons, orL_out, BitVec.zero_or, this]
theorem gather_eq (p : T_api_Pred) : p.size ≤ 1000000 → M_pred_gather_uint64__pred_Tables_1 p = some p.sets := by
  induction p using T_api_Pred.induct with
  | h p ih =>
    intro hsz
    have hpl := parts_len p
    have key : ∀ n i (s : List Set64), p.Parts.length - i = n → i ≤ p.Parts.length → s.length + ((p.Parts.drop i).map T_api_Pred.size).sum ≤ 1000000 →
        M_pred_gather_uint64__pred_Tables_1.l0 (s, p.Parts, (p.Parts.length : Int), (i : Int)) = some (s ++ T_api_Pred.sets.setsL (p.Parts.drop i)) := by
      intro n
      induction n with
      | zero =>
        intro i s h1 h2 _
        obtain rfl : i = p.Parts.length := by omega
        rw [M_pred_gather_uint64__pred_Tables_1.l0, if_neg (dge (by dsimp only; omega)), List.drop_length]
        simp [T_api_Pred.sets.setsL]
      | succ n ihn =>
        intro i s h1 h2 hs
        have hi : i < p.Parts.length := by omega
        rw [List.drop_eq_getElem_cons hi] at hs ⊢
        rw [List.map_cons, List.sum_cons] at hs
        rw [M_pred_gather_uint64__pred_Tables_1.l0, if_pos (dlt (by dsimp only; omega))]
        dsimp only
        rw [getI_nat hi]
        simp -implicitDefEqProofs only [Option.bind_eq_bind, Option.bind_some]
        have hm := List.getElem_mem hi
        have hsz2 := part_size hm
        rw [ih _ hm (by omega)]
        simp -implicitDefEqProofs only [Option.bind_some]
        have hl := psets_len p.Parts[i]
        rw [room_of (by omega), w64_succ (by omega)]
        simp -implicitDefEqProofs only [Option.bind_some]
        rw [ihn (i + 1) _ (by omega) (by omega) (by rw [List.length_append]; omega), T_api_Pred.sets.setsL, List.append_assoc]
    rw [M_pred_gather_uint64__pred_Tables_1, M_pred_Tables_1_R, term_tab, term_tab]
    simp -implicitDefEqProofs only [Option.bind_eq_bind, Option.bind_some]
    have h0 := key p.Parts.length 0 [(ttab p.A ||| ttab p.B)] (by omega) (by omega) (by
      rw [List.drop_zero]
      have := psize_eq p
      simp only [List.length_cons, List.length_nil]; omega)
    rw [show ((0 : Nat) : Int) = 0 from rfl] at h0
    rw [h0, List.drop_zero, psets_eq]
    rfl
theorem pred_Tables_eq (p : T_api_Pred) (h : p.size ≤ 1000000) : M_pred_Tables p = some p.tabs := by
  unfold M_pred_Tables
  rw [gather_eq p h]
  simp -implicitDefEqProofs only [Option.bind_eq_bind, Option.bind_some]
  have hl := psets_len p
  have key := loop_all p.sets (fun i (s : Set64) => M_pred_Tables.l0 (s, p.sets, (p.sets.length : Int), (i : Int))) (fun s l => some (l.foldl (fun a b => a ||| b) s)) (fun s => by
      show M_pred_Tables.l0 _ = _
      rw [M_pred_Tables.l0, if_neg (dge (by dsimp only; omega))]; rfl)
    (fun i s h ih => by
      show M_pred_Tables.l0 _ = _
      rw [M_pred_Tables.l0, if_pos (dlt (by dsimp only; omega))]
      dsimp only
      rw [getI_nat h, w64_succ (by omega)]
      simp -implicitDefEqProofs only [Option.bind_eq_bind, Option.bind_some]
      exact ih _) 0#64
  have key' : M_pred_Tables.l0 (0#64, p.sets, (p.sets.length : Int), 0) = _ := key
  rw [key', psets_or]; rfl
theorem pred_Copy_eq (p : T_api_Pred) : p.size ≤ 1000000 → M_pred_Copy p = some p := by
  induction p using T_api_Pred.induct with
  | h p ih =>
    intro hsz
    have hpl := parts_len p
    have key : ∀ (q : T_api_Pred) n i (s : List T_api_Pred), p.Parts.length - i = n → i ≤ p.Parts.length → s.length ≤ i →
        M_pred_Copy.l0 (s, p.Parts, (p.Parts.length : Int), (i : Int), p, q) = some (s ++ p.Parts.drop i) := by
      intro q n
      induction n with
      | zero =>
        intro i s h1 h2 _
        obtain rfl : i = p.Parts.length := by omega
        rw [M_pred_Copy.l0, if_neg (dge (by dsimp only; omega)), List.drop_length, List.append_nil]
      | succ n ihn =>
        intro i s h1 h2 hs
        have hi : i < p.Parts.length := by omega
        rw [List.drop_eq_getElem_cons hi]
        rw [M_pred_Copy.l0, if_pos (dlt (by dsimp only; omega))]
        dsimp only
        rw [getI_nat hi]
        simp -implicitDefEqProofs only [Option.bind_eq_bind, Option.bind_some]
        have hm := List.getElem_mem hi
        have hsz2 := part_size hm
        rw [ih _ hm (by omega)]
        simp -implicitDefEqProofs only [Option.bind_some]
        rw [room_of (by simp only [List.length_cons, List.length_nil]; omega), w64_succ (by omega)]
        simp -implicitDefEqProofs only [Option.bind_some]
        rw [ihn (i + 1) _ (by omega) (by omega) (by rw [List.length_append]; simp only [List.length_cons, List.length_nil]; omega), List.append_assoc]; rfl
    rw [M_pred_Copy]
    have h0 := key ⟨0, 0, 0, ⟨0, 0, 0, ⟨false, 0⟩⟩, ⟨0, 0, 0, ⟨false, 0⟩⟩, []⟩ p.Parts.length 0 [] (by omega) (by omega) (by simp)
    rw [show ((0 : Nat) : Int) = 0 from rfl] at h0
    rw [h0, List.drop_zero, List.nil_append]
    obtain ⟨a, b, c, d, e, f⟩ := p
    rfl

/- Equality. -/
theorem lenne {α β : Type} {l : List α} {l' : List β} (h : ¬ l.length = l'.length) : ((l.length : Int) != (l'.length : Int)) = true := by
  simp only [bne_iff_ne, ne_eq]; omega
theorem leneq {α β : Type} {l : List α} {l' : List β} (h : l.length = l'.length) : ¬ ((l.length : Int) != (l'.length : Int)) = true := by
  simp only [bne_iff_ne, ne_eq]; omega
theorem term_ext {a b : T_api_Term} (h : ((a.Kind == b.Kind) && ((a.Table == b.Table) && ((a.Col == b.Col) && ((a.Value.Null == b.Value.Null) && (a.Value.N == b.Value.N))))) = true) : a = b := by
  obtain ⟨a1, a2, a3, a4, a5⟩ := a
  obtain ⟨b1, b2, b3, b4, b5⟩ := b
  simpa using h
theorem term_same (a b : T_api_Term) : ((a.Kind == b.Kind) && ((a.Table == b.Table) && ((a.Col == b.Col) && ((a.Value.Null == b.Value.Null) && (a.Value.N == b.Value.N))))) = decide (a = b) := by
  rw [Bool.eq_iff_iff]
  constructor
  · intro h; simpa using term_ext h
  · intro h; have : a = b := by simpa using h
    subst this; simp
theorem pred_eq_iff (p q : T_api_Pred) : p = q ↔ p.Kind = q.Kind ∧ p.Truth = q.Truth ∧ p.Op = q.Op ∧ p.A = q.A ∧ p.B = q.B ∧ p.Parts = q.Parts := by
  obtain ⟨a, b, c, d, e, f⟩ := p
  obtain ⟨a', b', c', d', e', f'⟩ := q
  simp
/-- A loop that compares two lists place by place. -/
theorem loop_eq {α : Type} (l l' : List α) (hlen : l.length = l'.length) (F : Nat → Option (Lp Unit Bool)) (P : α → Prop)
    (h0 : F l.length = some (.brk ()))
    (hs : ∀ i (h : i < l.length), F i = if l[i] = l'[i]'(hlen ▸ h) then F (i + 1) else some (.ret false)) : F 0 = if l = l' then some (.brk ()) else some (.ret false) := by
  have key : ∀ n i, l.length - i = n → i ≤ l.length → F i = if l.drop i = l'.drop i then some (.brk ()) else some (.ret false) := by
    intro n
    induction n with
    | zero =>
      intro i h1 h2
      obtain rfl : i = l.length := by omega
      rw [h0, if_pos (by rw [List.drop_length, hlen, List.drop_length])]
    | succ n ih =>
      intro i h1 h2
      have hi : i < l.length := by omega
      have hi' : i < l'.length := hlen ▸ hi
      rw [hs i hi, List.drop_eq_getElem_cons hi, List.drop_eq_getElem_cons hi', ih (i + 1) (by omega) (by omega)]
      by_cases e : l[i] = l'[i]
      · rw [if_pos e, e]
        by_cases e2 : l.drop (i + 1) = l'.drop (i + 1)
        · rw [if_pos e2, if_pos (by rw [e2])]
        · rw [if_neg e2, if_neg (fun h => e2 (List.cons.inj h).2)]
      · rw [if_neg e, if_neg (fun h => e (List.cons.inj h).1)]
  have := key l.length 0 (by omega) (by omega)
  rwa [List.drop_zero, List.drop_zero] at this
theorem ref06_Same_eq (p : T_api_Pred) : ∀ q : T_api_Pred, p.size ≤ 1000000 → M_ref06_Same (p, q) = some (decide (p = q)) := by
  induction p using T_api_Pred.induct with
  | h p ih =>
    intro q hsz
    have hpl := parts_len p
    rw [M_ref06_Same]
    dsimp only
    rw [term_same, term_same]
    by_cases h1 : p.Kind = q.Kind
    case neg => rw [if_pos (by simpa using h1)]; congr 1; exact (decide_eq_false (fun h => h1 (by rw [h]))).symm
    rw [if_neg (by simpa using h1)]
    by_cases h2 : p.Truth = q.Truth
    case neg => rw [if_pos (by simpa using h2)]; congr 1; exact (decide_eq_false (fun h => h2 (by rw [h]))).symm
    rw [if_neg (by simpa using h2)]
    by_cases h3 : p.Op = q.Op
    case neg => rw [if_pos (by simpa using h3)]; congr 1; exact (decide_eq_false (fun h => h3 (by rw [h]))).symm
    rw [if_neg (by simpa using h3)]
    by_cases h4 : p.A = q.A
    case neg => rw [if_neg (by simpa using h4)]; congr 1; exact (decide_eq_false (fun h => h4 (by rw [h]))).symm
    rw [if_pos (by simpa using h4)]
    by_cases h5 : p.B = q.B
    case neg => rw [if_neg (by simpa using h5)]; congr 1; exact (decide_eq_false (fun h => h5 (by rw [h]))).symm
    rw [if_pos (by simpa using h5)]
    by_cases h6 : p.Parts.length = q.Parts.length
    case neg => rw [if_pos (lenne h6)]; congr 1; exact (decide_eq_false (fun h => h6 (by rw [h]))).symm
    rw [if_neg (leneq h6)]
    have key := loop_eq p.Parts q.Parts h6 (fun i => M_ref06_Same.l0 ((i : Int), p, q)) (fun _ => True) (by
      show M_ref06_Same.l0 _ = _
      rw [M_ref06_Same.l0, if_neg (dge (by dsimp only; omega))]) (fun i h => by
      show M_ref06_Same.l0 _ = _
      rw [M_ref06_Same.l0, if_pos (dlt (by dsimp only; omega))]
      dsimp only
      rw [getI_nat h, getI_nat (h6 ▸ h), w64_succ (by omega)]
      simp -implicitDefEqProofs only [Option.bind_eq_bind, Option.bind_some]
      have hm := List.getElem_mem h
      have hs := part_size hm
      rw [ih _ hm _ (by omega)]
      simp -implicitDefEqProofs only [Option.bind_some, decide_eq_true_eq])
    have key' : M_ref06_Same.l0 (0, p, q) = _ := key
    rw [key']
    by_cases e : p.Parts = q.Parts
    · rw [if_pos e, decide_eq_true ((pred_eq_iff p q).2 ⟨h1, h2, h3, h4, h5, e⟩)]; rfl
    · rw [if_neg e, decide_eq_false (fun h => e (by rw [h]))]; rfl
theorem ref06_List_eq (l l' : List T_api_Pred) (hlen : l.length ≤ 1000000) (hsz : ∀ p ∈ l, p.size ≤ 1000000) : M_ref06_List (l, l') = some (decide (l = l')) := by
  unfold M_ref06_List
  dsimp only
  by_cases h6 : l.length = l'.length
  case neg => rw [if_pos (lenne h6)]; congr 1; exact (decide_eq_false (fun h => h6 (by rw [h]))).symm
  rw [if_neg (leneq h6)]
  have key := loop_eq l l' h6 (fun i => M_ref06_List.l0 (l, l', (i : Int))) (fun _ => True) (by
    show M_ref06_List.l0 _ = _
    rw [M_ref06_List.l0, if_neg (dge (by dsimp only; omega))]) (fun i h => by
    show M_ref06_List.l0 _ = _
    rw [M_ref06_List.l0, if_pos (dlt (by dsimp only; omega))]
    dsimp only
    rw [getI_nat h, getI_nat (h6 ▸ h), w64_succ (by omega)]
    simp -implicitDefEqProofs only [Option.bind_eq_bind, Option.bind_some]
    rw [ref06_Same_eq _ _ (hsz _ (List.getElem_mem h))]
    simp -implicitDefEqProofs only [Option.bind_some, decide_eq_true_eq])
  have key' : M_ref06_List.l0 (l, l', 0) = _ := key
  rw [key']
  by_cases e : l = l'
  · rw [if_pos e, decide_eq_true e]; rfl
  · rw [if_neg e, decide_eq_false e]; rfl
theorem term_Same_eq (a b : T_api_Term) : M_term_Same (a, b) = some (decide (a = b)) := by
  unfold M_term_Same
  dsimp only
  rw [term_same]
theorem equalFunc_of (l l' : List T_api_Pred) (hlen : l.length ≤ 1000000) (hp : ∀ p ∈ l, ∀ q, M_pred_Same (p, q) = some (decide (p = q))) : M_slices_EqualFunc_api_Pred_api_Pred_api_Pred_api_Pred__pred_Same (l, l') = some (decide (l = l')) := by
  rw [M_slices_EqualFunc_api_Pred_api_Pred_api_Pred_api_Pred__pred_Same]
  dsimp only
  by_cases h6 : l.length = l'.length
  case neg => rw [if_pos (lenne h6)]; congr 1; exact (decide_eq_false (fun h => h6 (by rw [h]))).symm
  rw [if_neg (leneq h6)]
  have key := loop_eq l l' h6 (fun i => M_slices_EqualFunc_api_Pred_api_Pred_api_Pred_api_Pred__pred_Same.l0 (l', l, (l.length : Int), (i : Int))) (fun _ => True) (by
    show M_slices_EqualFunc_api_Pred_api_Pred_api_Pred_api_Pred__pred_Same.l0 _ = _
    rw [M_slices_EqualFunc_api_Pred_api_Pred_api_Pred_api_Pred__pred_Same.l0, if_neg (dge (by dsimp only; omega))]) (fun i h => by
    show M_slices_EqualFunc_api_Pred_api_Pred_api_Pred_api_Pred__pred_Same.l0 _ = _
    rw [M_slices_EqualFunc_api_Pred_api_Pred_api_Pred_api_Pred__pred_Same.l0, if_pos (dlt (by dsimp only; omega))]
    dsimp only
    rw [getI_nat h, getI_nat (h6 ▸ h), w64_succ (by omega)]
    simp -implicitDefEqProofs only [Option.bind_eq_bind, Option.bind_some]
    rw [hp _ (List.getElem_mem h)]
    simp -implicitDefEqProofs only [Option.bind_some, decide_eq_true_eq])
  have key' : M_slices_EqualFunc_api_Pred_api_Pred_api_Pred_api_Pred__pred_Same.l0 (l', l, (l.length : Int), 0) = _ := key
  rw [key']
  by_cases e : l = l'
  · rw [if_pos e, decide_eq_true e]; rfl
  · rw [if_neg e, decide_eq_false e]; rfl
theorem pred_Same_eq (p : T_api_Pred) : ∀ q : T_api_Pred, p.size ≤ 1000000 → M_pred_Same (p, q) = some (decide (p = q)) := by
  induction p using T_api_Pred.induct with
  | h p ih =>
    intro q hsz
    have hpl := parts_len p
    rw [M_pred_Same]
    dsimp only
    rw [term_Same_eq, term_Same_eq]
    simp -implicitDefEqProofs only [Option.bind_eq_bind, Option.bind_some, decide_eq_true_eq]
    by_cases h1 : p.Kind = q.Kind
    case neg => rw [if_neg (by simpa using h1)]; congr 1; exact (decide_eq_false (fun h => h1 (by rw [h]))).symm
    rw [if_pos (by simpa using h1)]
    by_cases h2 : p.Truth = q.Truth
    case neg => rw [if_neg (by simpa using h2)]; congr 1; exact (decide_eq_false (fun h => h2 (by rw [h]))).symm
    rw [if_pos (by simpa using h2)]
    by_cases h3 : p.Op = q.Op
    case neg => rw [if_neg (by simpa using h3)]; congr 1; exact (decide_eq_false (fun h => h3 (by rw [h]))).symm
    rw [if_pos (by simpa using h3)]
    by_cases h4 : p.A = q.A
    case neg => rw [if_neg h4]; congr 1; exact (decide_eq_false (fun h => h4 (by rw [h]))).symm
    rw [if_pos h4]
    by_cases h5 : p.B = q.B
    case neg => rw [if_neg h5]; congr 1; exact (decide_eq_false (fun h => h5 (by rw [h]))).symm
    rw [if_pos h5, equalFunc_of p.Parts q.Parts (by omega) (fun x hx y => ih x hx y (by have := part_size hx; omega))]
    simp -implicitDefEqProofs only [Option.bind_some]
    congr 1
    exact decide_eq_decide.2 ⟨fun e => (pred_eq_iff p q).2 ⟨h1, h2, h3, h4, h5, e⟩, fun e => by rw [e]⟩
theorem equalFunc_eq (l l' : List T_api_Pred) (hlen : l.length ≤ 1000000) (hsz : ∀ p ∈ l, p.size ≤ 1000000) : M_slices_EqualFunc_api_Pred_api_Pred_api_Pred_api_Pred__pred_Same (l, l') = some (decide (l = l')) :=
  equalFunc_of l l' hlen fun p hp q => pred_Same_eq p q (hsz p hp)
end Go.Proofs.Ytakmilmckdllfaa.G
set_option linter.unusedVariables false
set_option linter.unusedSimpArgs false
namespace Go.Proofs.Ytakmilmckdllfaa.G

/-- The number of a set's members. -/
def cnt (s : Set64) : Nat := (List.range 64).countP fun j => s.getLsbD j
theorem ref01_Count_eq (s : Set64) : M_ref01_Count s = some (cnt s : Int) := by
  unfold M_ref01_Count M_ref01_List
  have key := loop_inv (List.range 64) (fun i (acc : List Int) => acc.length ≤ i) (fun i acc => M_ref01_List.l0 (s, acc, (i : Int))) (fun acc l => some (acc ++ (l.filter fun j => s.getLsbD j).map fun (j : Nat) => (j : Int)))
    (fun acc _ => by
      show M_ref01_List.l0 _ = _
      rw [M_ref01_List.l0, if_neg (by simp)]
      simp)
    (fun i acc h hacc ih => by
      have hi : i < 64 := by simpa using h
      show M_ref01_List.l0 _ = _
      rw [M_ref01_List.l0, if_pos (by simp; omega)]
      dsimp only
      rw [ref01_Has_eq, hasI_nat _ _ hi, w64_succ (by omega), List.getElem_range]
      simp -implicitDefEqProofs only [Option.bind_eq_bind, Option.bind_some]
      by_cases hb : s.getLsbD i = true
      · rw [if_pos hb, room_of (by simp only [List.length_cons, List.length_nil]; omega)]
        simp -implicitDefEqProofs only [Option.bind_some]
        have := ih (acc ++ [(i : Int)]) (by rw [List.length_append]; simp only [List.length_cons, List.length_nil]; omega)
        rw [this, List.filter_cons_of_pos hb, List.map_cons, List.append_assoc]; rfl
      · rw [if_neg hb]
        have := ih acc (by omega)
        rw [this, List.filter_cons_of_neg hb]) 0 [] (by simp) (by simp)
  have key' : M_ref01_List.l0 (s, [], 0) = _ := key
  rw [key']
  simp -implicitDefEqProofs only [Option.bind_eq_bind, Option.bind_some]
  rw [List.drop_zero, List.nil_append, List.length_map, cnt, List.countP_eq_length_filter]
theorem countP_lt {α : Type} (p q : α → Bool) : ∀ (l : List α), (∀ x ∈ l, p x = true → q x = true) → (∃ x ∈ l, q x = true ∧ ¬ p x = true) → l.countP p < l.countP q := by
  intro l
  induction l with
  | nil => intro _ ⟨x, hx, _⟩; cases hx
  | cons x l ih =>
    intro h1 ⟨y, hy, hq, hp⟩
    have hle : l.countP p ≤ l.countP q := List.countP_mono_left fun z hz => h1 z (List.mem_cons_of_mem _ hz)
    rw [List.countP_cons, List.countP_cons]
    rcases List.mem_cons.1 hy with rfl | hy
    · rw [if_neg hp, if_pos hq]; omega
    · have := ih (fun z hz => h1 z (List.mem_cons_of_mem _ hz)) ⟨y, hy, hq, hp⟩
      have hx := h1 x List.mem_cons_self
      by_cases e : p x = true
      · rw [if_pos e, if_pos (hx e)]; omega
      · rw [if_neg e]; split <;> omega
theorem hasI_lt {s : Set64} {n : Int} (h : hasI s n = true) : ∃ j : Nat, j < 64 ∧ n = (j : Int) ∧ s.getLsbD j = true := by
  unfold hasI at h
  rw [Bool.and_eq_true, decide_eq_true_eq] at h
  exact ⟨n.toNat, by omega, by omega, h.2⟩
theorem inS_has (a b : Set64) : inS a b = true ↔ ∀ n, hasI a n = true → hasI b n = true := by
  rw [inS_iff]
  constructor
  · intro h n hn
    obtain ⟨j, hj, rfl, hb⟩ := hasI_lt hn
    rw [hasI_nat _ _ hj]; exact h j hj hb
  · intro h j hj hb
    have := h (j : Int) (by rw [hasI_nat _ _ hj]; exact hb)
    rwa [hasI_nat _ _ hj] at this
theorem cnt_lt {a b : Set64} (h : ∀ n, hasI a n = true → hasI b n = true) (h2 : ∃ n, hasI b n = true ∧ ¬ hasI a n = true) : cnt a < cnt b := by
  unfold cnt
  refine countP_lt _ _ _ (fun j hj hb => ?_) ?_
  · have hj : j < 64 := by simpa using hj
    have := h (j : Int) (by rw [hasI_nat _ _ hj]; exact hb)
    rwa [hasI_nat _ _ hj] at this
  · obtain ⟨n, hb, ha⟩ := h2
    obtain ⟨j, hj, rfl, hb2⟩ := hasI_lt hb
    rw [hasI_nat _ _ hj] at ha
    exact ⟨j, by simpa using hj, hb2, ha⟩
theorem hasI_or (a b : Set64) (n : Int) : hasI (a ||| b) n = (hasI a n || hasI b n) := by
  unfold hasI
  rw [BitVec.getLsbD_or]
  cases decide (0 ≤ n ∧ n < 64) <;> simp
theorem hasI_ofL (l : List Int) (n : Int) : hasI (ofL l) n = true ↔ 0 ≤ n ∧ n < 64 ∧ n ∈ l := by
  constructor
  · intro h
    obtain ⟨j, hj, rfl, hb⟩ := hasI_lt h
    rw [ofL_lsb _ _ hj, List.any_eq_true] at hb
    obtain ⟨x, hx, hxj⟩ := hb
    have : x = (j : Int) := by simpa using hxj
    exact ⟨by omega, by omega, this ▸ hx⟩
  · intro ⟨h0, h1, h2⟩
    obtain ⟨j, rfl⟩ : ∃ j : Nat, n = j := ⟨n.toNat, by omega⟩
    rw [hasI_nat _ _ (by omega), ofL_lsb _ _ (by omega), List.any_eq_true]
    exact ⟨_, h2, by simp⟩

/- A tree whose nodes are leaves or have two kids. -/
inductive BinN (cols : List Int) (t : T_api_Tree) : Prop
  | leaf (hk : t.Kind = 0) (hks : t.Kids = []) (hc : t.Conj = []) (h0 : 0 ≤ t.Table) (h1 : t.Table < (cols.length : Int))
  | op (a b : T_api_Tree) (hk1 : 1 ≤ t.Kind) (hk2 : t.Kind ≤ 4) (hks : t.Kids = [a, b])
abbrev OkT (cols : List Int) (t : T_api_Tree) : Prop := ∀ y ∈ t.tour, BinN cols y
theorem OkNode.bin {cols : List Int} {t : T_api_Tree} (h : OkNode cols t) : BinN cols t := by
  cases h with
  | leaf hk hks hc hh h0 h1 => exact .leaf hk hks hc h0 h1
  | op a b hk1 hk2 hks => exact .op a b hk1 hk2 hks
theorem okT {cols : List Int} {t : T_api_Tree} (h : ∀ y ∈ t.tour, OkNode cols y) : OkT cols t := fun y hy => (h y hy).bin
theorem OkT.kid {cols : List Int} {t y : T_api_Tree} (h : OkT cols t) (hy : y ∈ t.Kids) : OkT cols y := fun z hz => h z (tour_kid hy z hz)
theorem OkT.self {cols : List Int} {t : T_api_Tree} (h : OkT cols t) : BinN cols t := h t (tour_self t)
theorem tour2 {t a b : T_api_Tree} (h : t.Kids = [a, b]) : t.tour = a.tour ++ b.tour ++ [t] := by
  rw [tour_eq, h]; simp
theorem tour0 {t : T_api_Tree} (h : t.Kids = []) : t.tour = [t] := by
  rw [tour_eq, h]; simp
/-- Outer nodes. -/
def outs (l : List T_api_Tree) : List T_api_Tree := l.filter fun y => decide (1 < y.Kind)
theorem outs_append (l l' : List T_api_Tree) : outs (l ++ l') = outs l ++ outs l' := List.filter_append _ _
abbrev nOut (t : T_api_Tree) : Nat := (outs t.tour).length
/-- Each node of a tree, as_ it is walked, with its home: the outer node that it lies under on the right. -/
def tagged (t : T_api_Tree) (off : Nat) (home : Int) : List (T_api_Tree × Int) :=
  match h : t.Kids with
  | [a, b] => tagged a off home ++ tagged b (off + nOut a) (if 1 < t.Kind then ((off + nOut a + nOut b : Nat) : Int) else home) ++ [(t, home)]
  | _ => [(t, home)]
termination_by t.size
decreasing_by
  · exact kid_size (by rw [h]; simp)
  · exact kid_size (by rw [h]; simp)
theorem tagged2 {t a b : T_api_Tree} (h : t.Kids = [a, b]) (off : Nat) (home : Int) : tagged t off home = tagged a off home ++ tagged b (off + nOut a) (if 1 < t.Kind then ((off + nOut a + nOut b : Nat) : Int) else home) ++ [(t, home)] := by
  rw [tagged]
  split
  · rename_i x y e
    rw [h] at e
    injection e with e1 e2
    injection e2 with e2 _
    subst e1; subst e2; rfl
  · rename_i e; exact absurd h (e _ _)
theorem tagged0 {t : T_api_Tree} (h : t.Kids = []) (off : Nat) (home : Int) : tagged t off home = [(t, home)] := by
  rw [tagged]
  split
  · rename_i x y e
    rw [h] at e; cases e
  · rfl
def ctabs (l : List T_api_Pred) : Set64 := l.foldl (fun s p => s ||| p.tabs) 0#64
theorem ctabs_out (l : List T_api_Pred) : ∀ s : Set64, l.foldl (fun s p => s ||| p.tabs) s = s ||| ctabs l := by
  unfold ctabs
  induction l with
  | nil => intro s; simp
  | cons x l ih => intro s; simp only [List.foldl_cons]; rw [ih, ih (0#64 ||| x.tabs), BitVec.zero_or, BitVec.or_assoc]
theorem ctabs_cons (x : T_api_Pred) (l : List T_api_Pred) : ctabs (x :: l) = x.tabs ||| ctabs l := by
  rw [ctabs, List.foldl_cons, ctabs_out, BitVec.zero_or]
def kid0 (t : T_api_Tree) : Set64 := match t.Kids with | a :: _ => tabs a | _ => 0#64
def kid1 (t : T_api_Tree) : Set64 := match t.Kids with | _ :: b :: _ => tabs b | _ => 0#64
theorem kid0_eq {t a b : T_api_Tree} (h : t.Kids = [a, b]) : kid0 t = tabs a := by unfold kid0; rw [h]
theorem kid1_eq {t a b : T_api_Tree} (h : t.Kids = [a, b]) : kid1 t = tabs b := by unfold kid1; rw [h]
def mkOp (x : T_api_Tree × Int) : T_levels_Op := ⟨x.1.Kind, x.1.Conj, ctabs x.1.Conj &&& kid0 x.1, ctabs x.1.Conj &&& kid1 x.1, kid1 x.1, x.2⟩
def mkJ (x : T_api_Tree × Int) : List T_levels_Join := x.1.Conj.map fun p => ⟨p, p.tabs &&& kid0 x.1, p.tabs &&& kid1 x.1, x.2⟩
def opsT (l : List (T_api_Tree × Int)) : List T_levels_Op := (l.filter fun x => decide (1 < x.1.Kind)).map mkOp
def joinsT (l : List (T_api_Tree × Int)) : List T_levels_Join := l.flatMap fun x => if x.1.Kind = 1 then mkJ x else []
theorem opsT_append (l l' : List (T_api_Tree × Int)) : opsT (l ++ l') = opsT l ++ opsT l' := by unfold opsT; rw [List.filter_append, List.map_append]
theorem joinsT_append (l l' : List (T_api_Tree × Int)) : joinsT (l ++ l') = joinsT l ++ joinsT l' := by unfold joinsT; rw [List.flatMap_append]
theorem tagged_fst {cols : List Int} (t : T_api_Tree) : OkT cols t → ∀ off home, (tagged t off home).map Prod.fst = t.tour := by
  induction t using T_api_Tree.induct with
  | h t ih =>
    intro ok off home
    cases ok.self with
    | leaf hk hks => rw [tagged0 hks, tour0 hks]; rfl
    | op a b hk1 hk2 hks =>
      rw [tagged2 hks, tour2 hks, List.map_append, List.map_append, ih a (by rw [hks]; simp) (ok.kid (by rw [hks]; simp)), ih b (by rw [hks]; simp) (ok.kid (by rw [hks]; simp))]; rfl
theorem opsT_len {cols : List Int} {t : T_api_Tree} (ok : OkT cols t) (off : Nat) (home : Int) : (opsT (tagged t off home)).length = nOut t := by
  unfold opsT nOut outs
  rw [List.length_map, ← tagged_fst t ok off home, List.filter_map, List.length_map]; rfl
theorem joinsT_len {cols : List Int} {t : T_api_Tree} (ok : OkT cols t) (off : Nat) (home : Int) : (joinsT (tagged t off home)).length ≤ nconj t.tour := by
  rw [← tagged_fst t ok off home]
  generalize tagged t off home = l
  induction l with
  | nil => simp [joinsT]
  | cons x l ih =>
    have : joinsT (x :: l) = (if x.1.Kind = 1 then mkJ x else []) ++ joinsT l := rfl
    rw [this, List.length_append, List.map_cons, nconj_cons]
    split
    · unfold mkJ; rw [List.length_map]; omega
    · simp only [List.length_nil]; omega
/- Adopting. -/
def setT (h : Int) (x : T_api_Tree × Int) : T_api_Tree × Int := if x.2 = -1 then (x.1, h) else x
def setJ (h : Int) (x : T_levels_Join) : T_levels_Join := if x.Home = -1 then ⟨x.Pred, x.Left, x.Right, h⟩ else x
def setO (h : Int) (x : T_levels_Op) : T_levels_Op := if x.Home = -1 then ⟨x.Kind, x.Conj, x.Left, x.Right, x.Own, h⟩ else x
theorem setT_fst (h : Int) (x : T_api_Tree × Int) : (setT h x).1 = x.1 := by unfold setT; split <;> rfl
theorem mkOp_set (h : Int) (x : T_api_Tree × Int) : mkOp (setT h x) = setO h (mkOp x) := by
  by_cases e : x.2 = -1
  · rw [setT, if_pos e, setO, if_pos (by exact e)]; rfl
  · rw [setT, if_neg e, setO, if_neg (by exact e)]
theorem mkJ_set (h : Int) (x : T_api_Tree × Int) : mkJ (setT h x) = (mkJ x).map (setJ h) := by
  by_cases e : x.2 = -1
  · rw [setT, if_pos e, mkJ, mkJ, List.map_map]
    refine List.map_congr_left fun p _ => ?_
    rw [Function.comp_apply, setJ, if_pos e]
  · rw [setT, if_neg e, mkJ, List.map_map]
    refine List.map_congr_left fun p _ => ?_
    rw [Function.comp_apply, setJ, if_neg e]
theorem opsT_set (h : Int) (l : List (T_api_Tree × Int)) : opsT (l.map (setT h)) = (opsT l).map (setO h) := by
  induction l with
  | nil => rfl
  | cons x l ih =>
    have e1 : opsT (x :: l) = opsT [x] ++ opsT l := opsT_append [x] l
    have e2 : opsT (setT h x :: l.map (setT h)) = opsT [setT h x] ++ opsT (l.map (setT h)) := opsT_append [setT h x] _
    rw [List.map_cons, e1, e2, ih, List.map_append]
    congr 1
    unfold opsT
    by_cases e : 1 < x.1.Kind
    · rw [List.filter_cons_of_pos (by rw [setT_fst]; simpa using e), List.filter_cons_of_pos (by simpa using e)]
      simp only [List.filter_nil, List.map_cons, List.map_nil, mkOp_set]
    · rw [List.filter_cons_of_neg (by rw [setT_fst]; simpa using e), List.filter_cons_of_neg (by simpa using e)]; rfl
theorem joinsT_set (h : Int) (l : List (T_api_Tree × Int)) : joinsT (l.map (setT h)) = (joinsT l).map (setJ h) := by
  induction l with
  | nil => rfl
  | cons x l ih =>
    have e1 : joinsT (x :: l) = (if x.1.Kind = 1 then mkJ x else []) ++ joinsT l := rfl
    have e2 : joinsT (setT h x :: l.map (setT h)) = (if (setT h x).1.Kind = 1 then mkJ (setT h x) else []) ++ joinsT (l.map (setT h)) := rfl
    rw [List.map_cons, e1, e2, ih, List.map_append, setT_fst, mkJ_set]
    congr 1
    split <;> rfl
theorem tagged_set {cols : List Int} (t : T_api_Tree) : OkT cols t → ∀ off (home h : Int), (tagged t off home).map (setT h) = tagged t off (if home = -1 then h else home) := by
  induction t using T_api_Tree.induct with
  | h t ih =>
    intro ok off home h
    have hs : setT h (t, home) = (t, if home = -1 then h else home) := by
      unfold setT; dsimp only; split <;> rfl
    cases ok.self with
    | leaf hk hks => rw [tagged0 hks, tagged0 hks, List.map_cons, hs]; rfl
    | op a b hk1 hk2 hks =>
      rw [tagged2 hks, tagged2 hks, List.map_append, List.map_append, ih a (by rw [hks]; simp) (ok.kid (by rw [hks]; simp)), ih b (by rw [hks]; simp) (ok.kid (by rw [hks]; simp)), List.map_cons, hs]
      by_cases e : 1 < t.Kind
      · rw [if_pos e, if_pos e, if_neg (show ¬ ((off + nOut a + nOut b : Nat) : Int) = -1 by omega)]; rfl
      · rw [if_neg e, if_neg e]; rfl
end Go.Proofs.Ytakmilmckdllfaa.G
set_option linter.unusedVariables false
set_option linter.unusedSimpArgs false
namespace Go.Proofs.Ytakmilmckdllfaa.G

theorem getI_mid {α : Type} (pre : List α) (x : α) (post : List α) : getI (pre ++ x :: post) (pre.length : Int) = some x := by
  have h : pre.length < (pre ++ x :: post).length := by rw [List.length_append, List.length_cons]; omega
  rw [getI_nat h]
  congr 1
  rw [List.getElem_append_right (Nat.le_refl _)]; simp
theorem set_mid {α : Type} (pre : List α) (x y : α) (post : List α) : (pre ++ x :: post).set pre.length y = pre ++ y :: post := by
  rw [List.set_append_right _ _ (Nat.le_refl _)]; simp
theorem snoc_len {α : Type} (pre : List α) (x : α) : (pre ++ [x]).length = pre.length + 1 := by rw [List.length_append]; rfl
theorem count_eq {cols : List Int} {t : T_api_Tree} (ok : OkT cols t) (hsz : t.size ≤ 1000000) : M_levels_count t = some (nOut t : Int) := by
  have htl := tour_len t
  have key : ∀ (l : List T_api_Tree) (n : Nat), (∀ y ∈ l, BinN cols y) → n + l.length ≤ 1000000 → M_levels_count.r0 (l, (n : Int)) = some ((n + (outs l).length : Nat) : Int) := by
    intro l
    induction l with
    | nil => intro n _ _; rw [M_levels_count.r0]; rfl
    | cons x l ih =>
      intro n h hn
      rw [List.length_cons] at hn
      have hl := fun y hy => h y (List.mem_cons_of_mem _ hy)
      rw [M_levels_count.r0]
      dsimp only
      unfold outs
      cases h x List.mem_cons_self with
      | leaf hk hks =>
        rw [if_neg (by simp [hk]), ih n hl (by omega), List.filter_cons_of_neg (by simp [hk])]; rfl
      | op a b hk1 hk2 hks =>
        rw [if_pos (by simp; omega)]
        by_cases e : x.Kind = 1
        · rw [if_neg (by simp [e]), ih n hl (by omega), List.filter_cons_of_neg (by simp [e])]; rfl
        · rw [if_pos (by simpa using e), w64_succ (by omega), ih (n + 1) hl (by omega), List.filter_cons_of_pos (by simp; omega), List.length_cons]
          congr 2
          show n + 1 + (outs l).length = n + ((outs l).length + 1)
          omega
  unfold M_levels_count
  rw [tree_Walk_eq t (by omega)]
  have h0 := key t.tour 0 ok (by omega)
  rw [show ((0 : Nat) : Int) = 0 from rfl] at h0
  simp -implicitDefEqProofs only [Option.bind_eq_bind, Option.bind_some]
  rw [h0, Nat.zero_add]; rfl
theorem adoptJ (os home : Int) (O : List T_levels_Op) : ∀ (post pre : List T_levels_Join), pre.length + post.length ≤ 1000000 →
    M_levels_Levels_adopt.l0 (os, home, (pre.length : Int), ⟨pre ++ post, O⟩) = some ⟨pre ++ post.map (setJ home), O⟩ := by
  intro post
  induction post with
  | nil => intro pre h; rw [M_levels_Levels_adopt.l0, if_neg (dge (by simp))]; simp
  | cons x post ih =>
    intro pre h
    rw [List.length_cons] at h
    rw [M_levels_Levels_adopt.l0, if_pos (dlt (by simp; omega))]
    dsimp only
    rw [getI_mid, w64_succ (by omega), Int.toNat_natCast]
    simp -implicitDefEqProofs only [Option.bind_eq_bind, Option.bind_some, set_mid]
    have h2 : ∀ y : T_levels_Join, M_levels_Levels_adopt.l0 (os, home, ((pre.length + 1 : Nat) : Int), ⟨pre ++ y :: post, O⟩) = some ⟨pre ++ (y :: post.map (setJ home)), O⟩ := by
      intro y
      have := ih (pre ++ [y]) (by rw [snoc_len]; omega)
      rw [snoc_len, List.append_assoc, List.append_assoc] at this
      exact this
    rw [List.map_cons]
    by_cases e : x.Home = -1
    · rw [if_pos (by simpa using e), h2, setJ, if_pos e]
    · rw [if_neg (by simpa using e), h2, setJ, if_neg e]
theorem adoptO (os home : Int) (J : List T_levels_Join) : ∀ (post pre : List T_levels_Op), pre.length + post.length ≤ 1000000 →
    M_levels_Levels_adopt.l1 (home, (pre.length : Int), ⟨J, pre ++ post⟩) = some ⟨J, pre ++ post.map (setO home)⟩ := by
  intro post
  induction post with
  | nil => intro pre h; rw [M_levels_Levels_adopt.l1, if_neg (dge (by simp))]; simp
  | cons x post ih =>
    intro pre h
    rw [List.length_cons] at h
    rw [M_levels_Levels_adopt.l1, if_pos (dlt (by simp; omega))]
    dsimp only
    rw [getI_mid, w64_succ (by omega), Int.toNat_natCast]
    simp -implicitDefEqProofs only [Option.bind_eq_bind, Option.bind_some, set_mid]
    have h2 : ∀ y : T_levels_Op, M_levels_Levels_adopt.l1 (home, ((pre.length + 1 : Nat) : Int), ⟨J, pre ++ y :: post⟩) = some ⟨J, pre ++ (y :: post.map (setO home))⟩ := by
      intro y
      have := ih (pre ++ [y]) (by rw [snoc_len]; omega)
      rw [snoc_len, List.append_assoc, List.append_assoc] at this
      exact this
    rw [List.map_cons]
    by_cases e : x.Home = -1
    · rw [if_pos (by simpa using e), h2, setO, if_pos e]
    · rw [if_neg (by simpa using e), h2, setO, if_neg e]
theorem adopt_eq (home : Int) (J J' : List T_levels_Join) (O O' : List T_levels_Op) (hJ : J.length + J'.length ≤ 1000000) (hO : O.length + O'.length ≤ 1000000) :
    M_levels_Levels_adopt ((J.length : Int), (O.length : Int), home, ⟨J ++ J', O ++ O'⟩) = some ⟨J ++ J'.map (setJ home), O ++ O'.map (setO home)⟩ := by
  unfold M_levels_Levels_adopt
  dsimp only
  rw [adoptJ _ _ _ _ _ hJ]
  simp -implicitDefEqProofs only [Option.bind_eq_bind, Option.bind_some]
  rw [adoptO 0 _ _ _ _ hO]; rfl
theorem and_or_l (a b c : Set64) : (a ||| b) &&& c = a &&& c ||| b &&& c := by
  apply BitVec.eq_of_getLsbD_eq
  intro i _
  simp only [BitVec.getLsbD_and, BitVec.getLsbD_or]
  cases a.getLsbD i <;> cases b.getLsbD i <;> cases c.getLsbD i <;> rfl
theorem addO (l r : Set64) (g : T_levels_Levels) : ∀ (post pre : List T_api_Pred) (op : T_levels_Op), op.Conj.length ≤ pre.length → pre.length + post.length ≤ 1000000 → (∀ p ∈ post, p.size ≤ 1000000) →
    M_levels_Levels_add.l0 (l, r, pre ++ post, ((pre ++ post).length : Int), (pre.length : Int), op, g) = some (⟨op.Kind, op.Conj ++ post, op.Left ||| (ctabs post &&& l), op.Right ||| (ctabs post &&& r), op.Own, op.Home⟩, g) := by
  intro post
  induction post with
  | nil =>
    intro pre op _ h _
    rw [M_levels_Levels_add.l0, if_neg (dge (by simp))]
    simp [ctabs]
  | cons x post ih =>
    intro pre op hop h hs
    rw [List.length_cons] at h
    have hx := hs x List.mem_cons_self
    rw [M_levels_Levels_add.l0, if_pos (dlt (by simp; omega))]
    dsimp only
    rw [getI_mid, w64_succ (by omega)]
    simp -implicitDefEqProofs only [Option.bind_eq_bind, Option.bind_some]
    rw [pred_Tables_eq _ hx]
    simp -implicitDefEqProofs only [Option.bind_some]
    rw [pred_Copy_eq _ hx]
    simp -implicitDefEqProofs only [Option.bind_some]
    rw [room_of (by simp only [List.length_cons, List.length_nil]; omega)]
    simp -implicitDefEqProofs only [Option.bind_some]
    have := ih (pre ++ [x]) ⟨op.Kind, op.Conj ++ [x], op.Left ||| (x.tabs &&& l), op.Right ||| (x.tabs &&& r), op.Own, op.Home⟩ (by rw [snoc_len, snoc_len]; omega) (by rw [snoc_len]; omega) (fun p hp => hs p (List.mem_cons_of_mem _ hp))
    rw [snoc_len, List.append_assoc] at this
    rw [show (pre ++ x :: post) = pre ++ ([x] ++ post) from rfl, this]
    dsimp only
    rw [List.append_assoc, ctabs_cons, and_or_l, and_or_l, BitVec.or_assoc, BitVec.or_assoc]; rfl
theorem addJ (l r : Set64) (O : List T_levels_Op) : ∀ (post pre : List T_api_Pred) (J : List T_levels_Join), J.length + post.length ≤ 1000000 → pre.length + post.length ≤ 1000000 → (∀ p ∈ post, p.size ≤ 1000000) →
    M_levels_Levels_add.l1 (l, r, pre ++ post, ((pre ++ post).length : Int), (pre.length : Int), ⟨J, O⟩) = some ⟨J ++ post.map fun p => ⟨p, p.tabs &&& l, p.tabs &&& r, -1⟩, O⟩ := by
  intro post
  induction post with
  | nil =>
    intro pre J _ h _
    rw [M_levels_Levels_add.l1, if_neg (dge (by simp))]
    simp
  | cons x post ih =>
    intro pre J hJ h hs
    rw [List.length_cons] at h hJ
    have hx := hs x List.mem_cons_self
    rw [M_levels_Levels_add.l1, if_pos (dlt (by simp; omega))]
    dsimp only
    rw [getI_mid, w64_succ (by omega)]
    simp -implicitDefEqProofs only [Option.bind_eq_bind, Option.bind_some]
    rw [pred_Tables_eq _ hx]
    simp -implicitDefEqProofs only [Option.bind_some]
    rw [pred_Copy_eq _ hx]
    simp -implicitDefEqProofs only [Option.bind_some]
    rw [room_of (by simp only [List.length_cons, List.length_nil]; omega)]
    simp -implicitDefEqProofs only [Option.bind_some]
    have := ih (pre ++ [x]) (J ++ [⟨x, x.tabs &&& l, x.tabs &&& r, -1⟩]) (by rw [snoc_len]; omega) (by rw [snoc_len]; omega) (fun p hp => hs p (List.mem_cons_of_mem _ hp))
    rw [snoc_len, List.append_assoc] at this
    rw [show (pre ++ x :: post) = pre ++ ([x] ++ post) from rfl, this, List.append_assoc]; rfl
theorem add_eq {cols : List Int} (t : T_api_Tree) : OkT cols t → t.size ≤ 100000 → ∀ (J : List T_levels_Join) (O : List T_levels_Op), J.length + nconj t.tour ≤ 1000000 → O.length + t.tour.length ≤ 1000000 →
    M_levels_Levels_add (t, ⟨J, O⟩) = some ⟨J ++ joinsT (tagged t O.length (-1)), O ++ opsT (tagged t O.length (-1))⟩ := by
  induction t using T_api_Tree.induct with
  | h t ih =>
    intro ok hsz J O hJ hO
    rw [M_levels_Levels_add]
    dsimp only
    cases ok.self with
    | leaf hk hks hc =>
      rw [if_pos (by simpa using hk), tagged0 hks]
      have e1 : joinsT [(t, -1)] = [] := by simp [joinsT, hk]
      have e2 : opsT [(t, -1)] = [] := by simp [opsT, hk]
      rw [e1, e2, List.append_nil, List.append_nil]
    | op a b hk1 hk2 hks =>
      have oka : OkT cols a := ok.kid (by rw [hks]; simp)
      have okb : OkT cols b := ok.kid (by rw [hks]; simp)
      have sa : a.size < t.size := kid_size (by rw [hks]; simp)
      have sb : b.size < t.size := kid_size (by rw [hks]; simp)
      have ht2 := tour2 hks
      have hl : t.tour.length = a.tour.length + b.tour.length + 1 := by rw [ht2, snoc_len, List.length_append]
      have hn : nconj t.tour = nconj a.tour + nconj b.tour + t.Conj.length := by
        rw [ht2, nconj_append, nconj_append]
        have : nconj [t] = t.Conj.length := by simp [nconj]
        omega
      have hna : nOut a ≤ a.tour.length := List.length_filter_le _ _
      have hnb : nOut b ≤ b.tour.length := List.length_filter_le _ _
      rw [if_neg (by simp; omega), if_neg (by rw [hks]; simp)]
      rw [hks]
      have g0 : ([a, b] : List T_api_Tree)[0]? = some a := rfl
      have g1 : ([a, b] : List T_api_Tree)[1]? = some b := rfl
      rw [g0, g1]
      simp -implicitDefEqProofs only [Option.bind_eq_bind, Option.bind_some]
      rw [tree_Tables_eq a (by omega), tree_Tables_eq b (by omega)]
      simp -implicitDefEqProofs only [Option.bind_some]
      rw [ih a (by rw [hks]; simp) oka (by omega) J O (by omega) (by omega)]
      simp -implicitDefEqProofs only [Option.bind_some]
      have lJa := joinsT_len oka O.length (-1)
      have lOa := opsT_len oka O.length (-1)
      have eO : (O ++ opsT (tagged a O.length (-1))).length = O.length + nOut a := by rw [List.length_append, lOa]
      have eJ : (J ++ joinsT (tagged a O.length (-1))).length ≤ J.length + nconj a.tour := by rw [List.length_append]; omega
      rw [ih b (by rw [hks]; simp) okb (by omega) _ _ (by omega) (by omega), eO]
      simp -implicitDefEqProofs only [Option.bind_some]
      have lJb := joinsT_len okb (O.length + nOut a) (-1)
      have lOb := opsT_len okb (O.length + nOut a) (-1)
      have hcs : ∀ p ∈ t.Conj, p.size ≤ 1000000 := fun p hp => by have := conj_size hp; omega
      have hcl := conj_len t
      by_cases e1 : t.Kind = 1
      · rw [if_neg (by simpa using e1)]
        have := addJ (tabs a) (tabs b) (O ++ opsT (tagged a O.length (-1)) ++ opsT (tagged b (O.length + nOut a) (-1))) t.Conj [] (J ++ joinsT (tagged a O.length (-1)) ++ joinsT (tagged b (O.length + nOut a) (-1))) (by rw [List.length_append]; omega) (by simp; omega) hcs
        rw [List.nil_append] at this
        have t0 : (([] : List T_api_Pred).length : Int) = 0 := rfl
        rw [t0] at this
        rw [this]
        simp -implicitDefEqProofs only [Option.bind_some]
        rw [tagged2 hks, if_neg (by omega), joinsT_append, joinsT_append, opsT_append, opsT_append]
        have k1 : joinsT [(t, -1)] = t.Conj.map fun p => ⟨p, p.tabs &&& tabs a, p.tabs &&& tabs b, -1⟩ := by
          simp [joinsT, e1, mkJ, kid0_eq hks, kid1_eq hks]
        have k2 : opsT [(t, -1)] = [] := by simp [opsT, e1]
        rw [k1, k2, List.append_nil]
        simp only [List.append_assoc]
      · rw [if_pos (by simpa using e1), count_eq okb (by omega)]
        simp -implicitDefEqProofs only [Option.bind_some]
        rw [w64_of (by omega) (by omega)]
        have e3 : ((O.length + nOut a : Nat) : Int) + (nOut b : Int) = ((O.length + nOut a + nOut b : Nat) : Int) := by omega
        rw [e3]
        have had := adopt_eq ((O.length + nOut a + nOut b : Nat) : Int) (J ++ joinsT (tagged a O.length (-1))) (joinsT (tagged b (O.length + nOut a) (-1))) (O ++ opsT (tagged a O.length (-1))) (opsT (tagged b (O.length + nOut a) (-1))) (by omega) (by omega)
        rw [eO] at had
        rw [had]
        simp -implicitDefEqProofs only [Option.bind_some]
        have := addO (tabs a) (tabs b) ⟨J ++ joinsT (tagged a O.length (-1)) ++ (joinsT (tagged b (O.length + nOut a) (-1))).map (setJ ((O.length + nOut a + nOut b : Nat) : Int)), O ++ opsT (tagged a O.length (-1)) ++ (opsT (tagged b (O.length + nOut a) (-1))).map (setO ((O.length + nOut a + nOut b : Nat) : Int))⟩ t.Conj [] ⟨t.Kind, [], 0#64, 0#64, tabs b, -1⟩ (by simp) (by simp; omega) hcs
        rw [List.nil_append] at this
        have t0 : (([] : List T_api_Pred).length : Int) = 0 := rfl
        rw [t0] at this
        rw [this]
        simp -implicitDefEqProofs only [Option.bind_some]
        rw [room_of (by rw [List.length_append, List.length_map]; simp only [List.length_cons, List.length_nil]; omega)]
        simp -implicitDefEqProofs only [Option.bind_some]
        rw [tagged2 hks, if_pos (by omega), joinsT_append, joinsT_append, opsT_append, opsT_append, ← joinsT_set, ← opsT_set, tagged_set b okb, if_pos rfl]
        have k1 : joinsT [(t, -1)] = [] := by simp [joinsT, e1]
        have k2 : opsT [(t, -1)] = [⟨t.Kind, t.Conj, ctabs t.Conj &&& tabs a, ctabs t.Conj &&& tabs b, tabs b, -1⟩] := by
          have : (1 : Int) < t.Kind := by omega
          simp [opsT, this, mkOp, kid0_eq hks, kid1_eq hks]
        rw [k1, k2, List.append_nil, BitVec.zero_or, BitVec.zero_or]
        simp only [List.append_assoc]
/-- What the program tells. -/
def levOf (t : T_api_Tree) : T_levels_Levels := ⟨joinsT (tagged t 0 (-1)), opsT (tagged t 0 (-1))⟩
theorem levels_Of_eq {cols : List Int} {t : T_api_Tree} (ok : OkT cols t) (hsz : t.size ≤ 100000) : M_levels_Of t = some (levOf t) := by
  unfold M_levels_Of
  have h1 := tour_len t
  have h2 := nconj_tour t
  rw [add_eq t ok hsz [] [] (by simp; omega) (by simp; omega)]
  simp -implicitDefEqProofs only [Option.bind_eq_bind, Option.bind_some, List.nil_append, List.length_nil]
  rfl
end Go.Proofs.Ytakmilmckdllfaa.G
set_option linter.unusedVariables false
set_option linter.unusedSimpArgs false
namespace Go.Proofs.Ytakmilmckdllfaa.G

/-- The home of what reads the set `S`: the only least of the sets that hold it. -/
def Scan (owns : List Set64) (S : Set64) (home : Int) : Prop :=
  (home = -1 ∧ ∀ k (h : k < owns.length), ¬ inS S owns[k] = true) ∨
  (∃ j, ∃ h : j < owns.length, home = (j : Int) ∧ inS S owns[j] = true ∧ ∀ k (hk : k < owns.length), k ≠ j → inS S owns[k] = true → cnt owns[j] < cnt owns[k])
theorem scan_eq {all : List T_api_Tree} {owns : List Set64} {i : Int} {l r : Set64} {g0 g : T_ref18_Levels} {t : T_api_Tree} {home : Int} (hlen : owns.length ≤ 1000000) (hs : Scan owns (l ||| r) home) :
    M_ref18_Of.l2 (all, owns, i, l, r, -1, 0, g0, g, t) = some home := by
  have key : ∀ n k (cur : Int), owns.length - k = n → k ≤ owns.length → (cur = -1 ∨ ∃ c, ∃ h : c < owns.length, c < k ∧ cur = (c : Int) ∧ inS (l ||| r) owns[c] = true) → (∀ j : Nat, home = (j : Int) → j < k → cur = home) →
      M_ref18_Of.l2 (all, owns, i, l, r, cur, (k : Int), g0, g, t) = some home := by
    intro n
    induction n with
    | zero =>
      intro k cur h1 h2 hc hj
      obtain rfl : k = owns.length := by omega
      rw [M_ref18_Of.l2, if_neg (dge (by dsimp only; omega))]
      dsimp only
      rcases hs with ⟨rfl, hn⟩ | ⟨j, hjl, rfl, _, _⟩
      · rcases hc with rfl | ⟨c, hcl, _, _, hin⟩
        · rfl
        · exact absurd hin (hn c hcl)
      · rw [hj j rfl hjl]
    | succ n ih =>
      intro k cur h1 h2
      have hk : k < owns.length := by omega
      have hA : owns.length - (k + 1) = n := by omega
      have hB : k + 1 ≤ owns.length := by omega
      have hC : k + 1 < 9223372036854775808 := by omega
      have hk' : (k : Int) < (owns.length : Int) := by omega
      intro hc hj
      rw [M_ref18_Of.l2, if_pos (dlt hk')]
      dsimp only
      rw [getI_nat hk, w64_succ hC]
      simp -implicitDefEqProofs only [Option.bind_eq_bind, Option.bind_some]
      rw [ref01_In_eq]
      simp -implicitDefEqProofs only [Option.bind_some]
      by_cases hin : inS (l ||| r) owns[k] = true
      · rw [if_pos hin]
        have new : ∀ hh : (∀ j : Nat, home = (j : Int) → j < k → False), M_ref18_Of.l2 (all, owns, i, l, r, (k : Int), ((k + 1 : Nat) : Int), g0, g, t) = some home := by
          intro hh
          refine ih (k + 1) (k : Int) hA hB (.inr ⟨k, hk, Nat.lt_succ_self k, rfl, hin⟩) fun j e hlt => ?_
          rcases Nat.lt_or_ge j k with h | h
          · exact (hh j e h).elim
          · have : j = k := by omega
            rw [e, this]
        rcases hc with rfl | ⟨c, hcl, hck, rfl, hcin⟩
        · rw [if_pos (by simp)]
          refine new fun j e h => ?_
          have := hj j e h; omega
        · rw [if_neg (by simp), ref01_Count_eq, getI_nat hcl]
          simp -implicitDefEqProofs only [Option.bind_some]
          rw [ref01_Count_eq]
          simp -implicitDefEqProofs only [Option.bind_some]
          by_cases hlt : cnt owns[k] < cnt owns[c]
          · rw [if_pos (by simpa using hlt)]
            refine new fun j e h => ?_
            have h5 := hj j e h
            rcases hs with ⟨e0, _⟩ | ⟨j', hjl, e', _, hmin⟩
            · omega
            · obtain rfl : j' = j := by omega
              obtain rfl : c = j' := by omega
              have := hmin k hk (by omega) hin
              omega
          · rw [if_neg (by simpa using hlt)]
            refine ih (k + 1) (c : Int) hA hB (.inr ⟨c, hcl, by omega, rfl, hcin⟩) fun j e h => ?_
            rcases Nat.lt_or_ge j k with h5 | h5
            · exact hj j e h5
            · obtain rfl : j = k := by omega
              rcases hs with ⟨e0, _⟩ | ⟨j', hjl, e', _, hmin⟩
              · omega
              · obtain rfl : j' = j := by omega
                have := hmin c hcl (by omega) hcin
                omega
      · rw [if_neg hin]
        refine ih (k + 1) cur hA hB ?_ fun j e h => ?_
        · rcases hc with h | ⟨c, hcl, hck, e, hcin⟩
          · exact .inl h
          · exact .inr ⟨c, hcl, by omega, e, hcin⟩
        · rcases Nat.lt_or_ge j k with h5 | h5
          · exact hj j e h5
          · obtain rfl : j = k := by omega
            rcases hs with ⟨e0, _⟩ | ⟨j', hjl, e', hin', hmin⟩
            · omega
            · obtain rfl : j' = j := by omega
              exact absurd hin' hin
  have := key owns.length 0 (-1) (by omega) (by omega) (.inl rfl) (fun j _ h => by omega)
  exact this

/- The sets of a right tree. -/
theorem tabs2 {t a b : T_api_Tree} (h : t.Kids = [a, b]) (hk : 1 ≤ t.Kind) (n : Int) : hasI (tabs t) n = true ↔ hasI (tabs a) n = true ∨ hasI (tabs b) n = true := by
  have : tabs t = tabs a ||| tabs b := by
    unfold tabs
    rw [tour2 h, leafTabs_append, leafTabs_append, leafTabs_neg [] (by omega)]
    have : leafTabs [] = [] := rfl
    rw [this, List.append_nil, ofL_append]
  rw [this, hasI_or, Bool.or_eq_true]
theorem leafTabs_ok' {cols : List Int} {l : List T_api_Tree} (h : ∀ y ∈ l, BinN cols y) : ∀ n ∈ leafTabs l, 0 ≤ n ∧ n < (cols.length : Int) := by
  intro n hn
  unfold leafTabs at hn
  obtain ⟨y, hy, rfl⟩ := List.mem_map.1 hn
  obtain ⟨hy, hk⟩ := List.mem_filter.1 hy
  cases h y hy with
  | leaf _ _ _ h0 h1 => exact ⟨h0, h1⟩
  | op a b hk1 => simp only [beq_iff_eq] at hk; omega
theorem tabs_has {cols : List Int} (hc : cols.length ≤ 64) {t : T_api_Tree} (ok : OkT cols t) (n : Int) : hasI (tabs t) n = true ↔ n ∈ leafTabs t.tour := by
  unfold tabs
  rw [hasI_ofL]
  constructor
  · exact fun h => h.2.2
  · intro h
    have := leafTabs_ok' ok n h
    exact ⟨by omega, by omega, h⟩
theorem tabs_ne {cols : List Int} (hc : cols.length ≤ 64) (t : T_api_Tree) : OkT cols t → ∃ n, hasI (tabs t) n = true := by
  induction t using T_api_Tree.induct with
  | h t ih =>
    intro ok
    cases ok.self with
    | leaf hk hks =>
      refine ⟨t.Table, (tabs_has hc ok _).2 ?_⟩
      rw [tour0 hks, leafTabs_pos [] hk]; exact List.mem_cons_self
    | op a b hk1 hk2 hks =>
      obtain ⟨n, hn⟩ := ih a (by rw [hks]; simp) (ok.kid (by rw [hks]; simp))
      exact ⟨n, (tabs2 hks hk1 n).2 (.inl hn)⟩
theorem nodup2 {t a b : T_api_Tree} (h : t.Kids = [a, b]) (hk : 1 ≤ t.Kind) (hnd : (leafTabs t.tour).Nodup) : (leafTabs a.tour).Nodup ∧ (leafTabs b.tour).Nodup ∧ ∀ n, n ∈ leafTabs a.tour → n ∈ leafTabs b.tour → False := by
  rw [tour2 h, leafTabs_append, leafTabs_append, leafTabs_neg [] (by omega)] at hnd
  have e : leafTabs [] = [] := rfl
  rw [e, List.append_nil] at hnd
  obtain ⟨h1, h2, h3⟩ := List.nodup_append.1 hnd
  exact ⟨h1, h2, fun n ha hb => h3 n ha n hb rfl⟩
def ownsL (l : List T_api_Tree) : List Set64 := (outs l).map kid1
theorem ownsL_append (l l' : List T_api_Tree) : ownsL (l ++ l') = ownsL l ++ ownsL l' := by unfold ownsL; rw [outs_append, List.map_append]
theorem ownsL_len (t : T_api_Tree) : (ownsL t.tour).length = nOut t := List.length_map _
theorem ownsL1 {t a b : T_api_Tree} (h : t.Kids = [a, b]) : ownsL [t] = if 1 < t.Kind then [tabs b] else [] := by
  unfold ownsL outs
  by_cases e : 1 < t.Kind
  · rw [List.filter_cons_of_pos (by simpa using e), if_pos e]; simp [kid1_eq h]
  · rw [List.filter_cons_of_neg (by simpa using e), if_neg e]; rfl
theorem own_in {cols : List Int} (hc : cols.length ≤ 64) (t : T_api_Tree) : OkT cols t → (leafTabs t.tour).Nodup → ∀ s ∈ ownsL t.tour, (∀ n, hasI s n = true → hasI (tabs t) n = true) ∧ ∃ n, hasI (tabs t) n = true ∧ ¬ hasI s n = true := by
  induction t using T_api_Tree.induct with
  | h t ih =>
    intro ok hnd s hs
    cases ok.self with
    | leaf hk hks =>
      rw [tour0 hks] at hs
      simp [ownsL, outs, hk] at hs
    | op a b hk1 hk2 hks =>
      have oka : OkT cols a := ok.kid (by rw [hks]; simp)
      have okb : OkT cols b := ok.kid (by rw [hks]; simp)
      obtain ⟨na, nb, hd⟩ := nodup2 hks hk1 hnd
      obtain ⟨xa, hxa⟩ := tabs_ne hc a oka
      obtain ⟨xb, hxb⟩ := tabs_ne hc b okb
      rw [tour2 hks, ownsL_append, ownsL_append, List.mem_append, List.mem_append] at hs
      rcases hs with (hs | hs) | hs
      · obtain ⟨h1, _⟩ := ih a (by rw [hks]; simp) oka na s hs
        refine ⟨fun n hn => (tabs2 hks hk1 n).2 (.inl (h1 n hn)), xb, (tabs2 hks hk1 xb).2 (.inr hxb), fun hn => hd xb ((tabs_has hc oka _).1 (h1 xb hn)) ((tabs_has hc okb _).1 hxb)⟩
      · obtain ⟨h1, _⟩ := ih b (by rw [hks]; simp) okb nb s hs
        refine ⟨fun n hn => (tabs2 hks hk1 n).2 (.inr (h1 n hn)), xa, (tabs2 hks hk1 xa).2 (.inl hxa), fun hn => hd xa ((tabs_has hc oka _).1 hxa) ((tabs_has hc okb _).1 (h1 xa hn))⟩
      · rw [ownsL1 hks] at hs
        split at hs
        · have : s = tabs b := by simpa using hs
          subst this
          exact ⟨fun n hn => (tabs2 hks hk1 n).2 (.inr hn), xa, (tabs2 hks hk1 xa).2 (.inl hxa), fun hn => hd xa ((tabs_has hc oka _).1 hxa) ((tabs_has hc okb _).1 hn)⟩
        · cases hs
/-- What is known of the sets outside a part of the tree. -/
structure Around (owns : List Set64) (off n : Nat) (S : Set64) (home : Int) : Prop where
  at_ : home = -1 ∨ ∃ j, ∃ h : j < owns.length, home = (j : Int) ∧ (j < off ∨ off + n ≤ j) ∧ ∀ m, hasI S m = true → hasI owns[j] m = true
  off_ : ∀ k (h : k < owns.length), (k < off ∨ off + n ≤ k) → (k : Int) ≠ home → (∀ m, hasI S m = true → ¬ hasI owns[k] m = true) ∨
    ((∀ m, hasI S m = true → hasI owns[k] m = true) ∧ ∃ j, ∃ hj : j < owns.length, home = (j : Int) ∧ cnt owns[j] < cnt owns[k])
theorem drop_get {α : Type} {l l' r : List α} {off : Nat} (h : l.drop off = l' ++ r) {k : Nat} (h1 : off ≤ k) (h2 : k < off + l'.length) (hk : k < l.length) : l[k] ∈ l' := by
  have e : (l.drop off)[k - off]'(by rw [List.length_drop]; omega) = l[k] := by
    rw [List.getElem_drop]
    congr 1; omega
  rw [← e]
  have e2 : (l.drop off)[k - off]'(by rw [List.length_drop]; omega) = (l' ++ r)[k - off]'(by rw [List.length_append]; omega) := by
    congr 1
  rw [e2, List.getElem_append_left (by omega)]
  exact List.getElem_mem _
theorem homes_ok {cols : List Int} (hc : cols.length ≤ 64) (owns : List Set64) (t : T_api_Tree) : OkT cols t → (leafTabs t.tour).Nodup → ∀ (off : Nat) (home : Int) (rest : List Set64), owns.drop off = ownsL t.tour ++ rest → Around owns off (nOut t) (tabs t) home →
    ∀ x ∈ tagged t off home, x.1.Kind ≠ 0 → Scan owns (tabs x.1) x.2 := by
  induction t using T_api_Tree.induct with
  | h t ih =>
    intro ok hnd off home rest hdrop har
    cases hself : ok.self with
    | leaf hk hks =>
      rw [tagged0 hks]
      intro x hx hk'
      have : x = (t, home) := by simpa using hx
      subst this
      exact absurd hk hk'
    | op a b hk1 hk2 hks =>
      have oka : OkT cols a := ok.kid (by rw [hks]; simp)
      have okb : OkT cols b := ok.kid (by rw [hks]; simp)
      obtain ⟨na, nb, hd⟩ := nodup2 hks hk1 hnd
      have hdis : ∀ n, hasI (tabs a) n = true → hasI (tabs b) n = true → False := fun n h1 h2 => hd n ((tabs_has hc oka _).1 h1) ((tabs_has hc okb _).1 h2)
      obtain ⟨xa, hxa⟩ := tabs_ne hc a oka
      obtain ⟨xb, hxb⟩ := tabs_ne hc b okb
      obtain ⟨xt, hxt⟩ := tabs_ne hc t ok
      have ht := tabs2 hks hk1
      have hn1 : (ownsL [t]).length = if 1 < t.Kind then 1 else 0 := by rw [ownsL1 hks]; split <;> rfl
      have hnt : nOut t = nOut a + nOut b + (ownsL [t]).length := by
        rw [← ownsL_len, ← ownsL_len, ← ownsL_len, tour2 hks, ownsL_append, ownsL_append, List.length_append, List.length_append]
      have hlen : off + nOut t ≤ owns.length ∨ nOut t = 0 := by
        have := congrArg List.length hdrop
        rw [List.length_drop, List.length_append, ownsL_len] at this
        omega
      have dt : ∀ k, off ≤ k → k < off + nOut t → ∀ hk : k < owns.length, owns[k] ∈ ownsL t.tour := fun k h1 h2 hk => drop_get hdrop h1 (by rw [ownsL_len]; exact h2) hk
      have dropa : owns.drop off = ownsL a.tour ++ (ownsL b.tour ++ (ownsL [t] ++ rest)) := by
        rw [hdrop, tour2 hks, ownsL_append, ownsL_append, List.append_assoc, List.append_assoc]
      have dropb : owns.drop (off + nOut a) = ownsL b.tour ++ (ownsL [t] ++ rest) := by
        rw [← List.drop_drop, dropa, ← ownsL_len a, List.drop_left]
      have drops : owns.drop (off + nOut a + nOut b) = ownsL [t] ++ rest := by
        rw [← List.drop_drop, dropb, ← ownsL_len b, List.drop_left]
      have da : ∀ k, off ≤ k → k < off + nOut a → ∀ hk : k < owns.length, owns[k] ∈ ownsL a.tour := fun k h1 h2 hk => drop_get dropa h1 (by rw [ownsL_len]; exact h2) hk
      have db : ∀ k, off + nOut a ≤ k → k < off + nOut a + nOut b → ∀ hk : k < owns.length, owns[k] ∈ ownsL b.tour := fun k h1 h2 hk => drop_get dropb h1 (by rw [ownsL_len]; exact h2) hk
      have ds : ∀ k, off + nOut a + nOut b ≤ k → k < off + nOut t → ∀ hk : k < owns.length, owns[k] = tabs b := fun k h1 h2 hk => by
        have := drop_get drops h1 (by omega) hk
        rw [ownsL1 hks] at this
        split at this
        · simpa using this
        · cases this
      -- the part on the left
      have ara : Around owns off (nOut a) (tabs a) home := by
        refine ⟨?_, fun k hk hout hne => ?_⟩
        · rcases har.at_ with h | ⟨j, hj, e, ho, hin⟩
          · exact .inl h
          · exact .inr ⟨j, hj, e, by omega, fun m hm => hin m ((ht m).2 (.inl hm))⟩
        · by_cases hin : k < off ∨ off + nOut t ≤ k
          · rcases har.off_ k hk hin hne with h | ⟨h, h'⟩
            · exact .inl fun m hm => h m ((ht m).2 (.inl hm))
            · exact .inr ⟨fun m hm => h m ((ht m).2 (.inl hm)), h'⟩
          · left
            intro m hm hko
            rcases Nat.lt_or_ge k (off + nOut a + nOut b) with h | h
            · exact hdis m hm ((own_in hc b okb nb _ (db k (by omega) h hk)).1 m hko)
            · rw [ds k h (by omega) hk] at hko
              exact hdis m hm hko
      -- the part on the right
      have arb : Around owns (off + nOut a) (nOut b) (tabs b) (if 1 < t.Kind then ((off + nOut a + nOut b : Nat) : Int) else home) := by
        by_cases e : 1 < t.Kind
        · rw [if_pos e]
          rw [if_pos e] at hn1
          have hj : off + nOut a + nOut b < owns.length := by omega
          have ej := ds (off + nOut a + nOut b) (Nat.le_refl _) (by omega) hj
          refine ⟨.inr ⟨off + nOut a + nOut b, hj, rfl, by omega, fun m hm => by rw [ej]; exact hm⟩, fun k hk hout hne => ?_⟩
          have hbig : (∀ m, hasI (tabs t) m = true → hasI owns[k] m = true) → (∀ m, hasI (tabs b) m = true → hasI owns[k] m = true) ∧ ∃ j, ∃ hj : j < owns.length, ((off + nOut a + nOut b : Nat) : Int) = (j : Int) ∧ cnt owns[j] < cnt owns[k] := by
            intro h
            refine ⟨fun m hm => h m ((ht m).2 (.inr hm)), off + nOut a + nOut b, hj, rfl, ?_⟩
            rw [ej]
            exact cnt_lt (fun m hm => h m ((ht m).2 (.inr hm))) ⟨xa, h xa ((ht xa).2 (.inl hxa)), fun hb => hdis xa hxa hb⟩
          by_cases hin : k < off ∨ off + nOut t ≤ k
          · by_cases hh : (k : Int) = home
            · rcases har.at_ with h | ⟨j, hj', e', ho, hin'⟩
              · omega
              · obtain rfl : j = k := by omega
                exact .inr (hbig hin')
            · rcases har.off_ k hk hin hh with h | ⟨h, h'⟩
              · exact .inl fun m hm => h m ((ht m).2 (.inr hm))
              · exact .inr (hbig h)
          · left
            intro m hm hko
            exact hdis m ((own_in hc a oka na _ (da k (by omega) (by omega) hk)).1 m hko) hm
        · rw [if_neg e]
          rw [if_neg e] at hn1
          refine ⟨?_, fun k hk hout hne => ?_⟩
          · rcases har.at_ with h | ⟨j, hj, e, ho, hin⟩
            · exact .inl h
            · exact .inr ⟨j, hj, e, by omega, fun m hm => hin m ((ht m).2 (.inr hm))⟩
          · by_cases hin : k < off ∨ off + nOut t ≤ k
            · rcases har.off_ k hk hin hne with h | ⟨h, h'⟩
              · exact .inl fun m hm => h m ((ht m).2 (.inr hm))
              · exact .inr ⟨fun m hm => h m ((ht m).2 (.inr hm)), h'⟩
            · left
              intro m hm hko
              exact hdis m ((own_in hc a oka na _ (da k (by omega) (by omega) hk)).1 m hko) hm
      rw [tagged2 hks]
      intro x hx hkx
      rw [List.mem_append, List.mem_append] at hx
      rcases hx with (hx | hx) | hx
      · exact ih a (by rw [hks]; simp) oka na off home _ dropa ara x hx hkx
      · exact ih b (by rw [hks]; simp) okb nb (off + nOut a) _ _ dropb arb x hx hkx
      · have : x = (t, home) := by simpa using hx
        subst this
        dsimp only
        have inr : ∀ k (hk : k < owns.length), inS (tabs t) owns[k] = true → (k < off ∨ off + nOut t ≤ k) := by
          intro k hk hin
          rcases Nat.lt_or_ge k off with h | h
          · exact .inl h
          rcases Nat.lt_or_ge k (off + nOut t) with h' | h'
          · obtain ⟨_, m, hm, hm'⟩ := own_in hc t ok hnd _ (dt k h h' hk)
            exact absurd ((inS_has _ _).1 hin m hm) hm'
          · exact .inr h'
        rcases har.at_ with rfl | ⟨j, hj, rfl, ho, hin⟩
        · refine .inl ⟨rfl, fun k hk hin => ?_⟩
          rcases har.off_ k hk (inr k hk hin) (by omega) with h | ⟨_, j, hj, e, _⟩
          · exact h xt hxt ((inS_has _ _).1 hin xt hxt)
          · omega
        · refine .inr ⟨j, hj, rfl, (inS_has _ _).2 hin, fun k hk hne hin' => ?_⟩
          rcases har.off_ k hk (inr k hk hin') (by omega) with h | ⟨_, j', hj', e, hlt⟩
          · exact absurd ((inS_has _ _).1 hin' xt hxt) (h xt hxt)
          · obtain rfl : j = j' := by omega
            exact hlt
end Go.Proofs.Ytakmilmckdllfaa.G
set_option linter.unusedVariables false
set_option linter.unusedSimpArgs false
namespace Go.Proofs.Ytakmilmckdllfaa.G
open Classical

def asJ (x : T_levels_Join) : T_ref18_Join := ⟨x.Pred, x.Left, x.Right, x.Home⟩
def asO (x : T_levels_Op) : T_ref18_Op := ⟨x.Kind, x.Conj, x.Left, x.Right, x.Own, x.Home⟩
def as18 (g : T_levels_Levels) : T_ref18_Levels := ⟨g.Joins.map asJ, g.Ops.map asO⟩
theorem law18_As_eq (g : T_levels_Levels) (hJ : g.Joins.length ≤ 1000000) (hO : g.Ops.length ≤ 1000000) : M_law18_As g = some (as18 g) := by
  obtain ⟨J, O⟩ := g
  dsimp only at hJ hO
  have k0 : ∀ (post pre : List T_levels_Join) (g0 g1 : T_ref18_Levels), pre ++ post = J → g1.Joins.length ≤ pre.length →
      M_law18_As.l0 ((pre.length : Int), ⟨J, O⟩, g0, g1) = some ⟨g1.Joins ++ post.map asJ, g1.Ops⟩ := by
    intro post
    induction post with
    | nil =>
      intro pre g0 g1 e h
      rw [List.append_nil] at e; subst e
      rw [M_law18_As.l0, if_neg (dge (by simp))]; simp
    | cons x post ih =>
      intro pre g0 g1 e h
      have hl : pre.length + (post.length + 1) = J.length := by rw [← e, List.length_append]; rfl
      rw [M_law18_As.l0, if_pos (dlt (by dsimp only; omega))]
      dsimp only
      rw [← e, getI_mid, w64_succ (by omega)]
      simp -implicitDefEqProofs only [Option.bind_eq_bind, Option.bind_some]
      rw [room_of (by simp only [List.length_cons, List.length_nil]; omega)]
      simp -implicitDefEqProofs only [Option.bind_some]
      have := ih (pre ++ [x]) g0 ⟨g1.Joins ++ [asJ x], g1.Ops⟩ (by rw [← e, List.append_assoc]; rfl) (by rw [snoc_len, snoc_len]; omega)
      rw [snoc_len, ← e] at this
      have e2 : (⟨x.Pred, x.Left, x.Right, x.Home⟩ : T_ref18_Join) = asJ x := rfl
      rw [e2, this]
      dsimp only
      rw [List.append_assoc]; rfl
  have k1 : ∀ (post pre : List T_levels_Op) (g0 g1 : T_ref18_Levels), pre ++ post = O → g1.Ops.length ≤ pre.length →
      M_law18_As.l1 ((pre.length : Int), ⟨J, O⟩, g0, g1) = some ⟨g1.Joins, g1.Ops ++ post.map asO⟩ := by
    intro post
    induction post with
    | nil =>
      intro pre g0 g1 e h
      rw [List.append_nil] at e; subst e
      rw [M_law18_As.l1, if_neg (dge (by simp))]; simp
    | cons x post ih =>
      intro pre g0 g1 e h
      have hl : pre.length + (post.length + 1) = O.length := by rw [← e, List.length_append]; rfl
      rw [M_law18_As.l1, if_pos (dlt (by dsimp only; omega))]
      dsimp only
      rw [← e, getI_mid, w64_succ (by omega)]
      simp -implicitDefEqProofs only [Option.bind_eq_bind, Option.bind_some]
      rw [room_of (by simp only [List.length_cons, List.length_nil]; omega)]
      simp -implicitDefEqProofs only [Option.bind_some]
      have := ih (pre ++ [x]) g0 ⟨g1.Joins, g1.Ops ++ [asO x]⟩ (by rw [← e, List.append_assoc]; rfl) (by rw [snoc_len, snoc_len]; omega)
      rw [snoc_len, ← e] at this
      have e2 : (⟨x.Kind, x.Conj, x.Left, x.Right, x.Own, x.Home⟩ : T_ref18_Op) = asO x := rfl
      rw [e2, this]
      dsimp only
      rw [List.append_assoc]; rfl
  unfold M_law18_As
  have a0 := k0 J [] ⟨[], []⟩ ⟨[], []⟩ (List.nil_append _) (by simp)
  have t0 : (([] : List T_levels_Join).length : Int) = 0 := rfl
  rw [t0] at a0
  rw [a0]
  simp -implicitDefEqProofs only [Option.bind_eq_bind, Option.bind_some]
  have a1 := k1 O [] ⟨[], []⟩ ⟨[] ++ J.map asJ, []⟩ (List.nil_append _) (by simp)
  have t1 : (([] : List T_levels_Op).length : Int) = 0 := rfl
  rw [t1] at a1
  rw [a1]
  rfl
/-- The loop over a node's conjunction. -/
theorem ref18_l3 {all : List T_api_Tree} {owns : List Set64} {i : Int} {l r : Set64} {home : Int} {g0 : T_ref18_Levels} (t : T_api_Tree) : ∀ (post pre : List T_api_Pred) (s : Set64) (g : T_ref18_Levels), pre ++ post = t.Conj → g.Joins.length + post.length ≤ 1000000 → pre.length + post.length ≤ 1000000 → (∀ p ∈ post, p.size ≤ 1000000) →
    M_ref18_Of.l3 (all, owns, i, l, r, home, s, (pre.length : Int), g0, g, t) = some (s ||| ctabs post, ⟨g.Joins ++ (if t.Kind = 1 then post.map fun p => ⟨p, p.tabs &&& l, p.tabs &&& r, home⟩ else []), g.Ops⟩) := by
  intro post
  induction post with
  | nil =>
    intro pre s g e h h2 _
    rw [List.append_nil] at e; subst e
    rw [M_ref18_Of.l3, if_neg (dge (by simp))]
    simp [ctabs]
  | cons x post ih =>
    intro pre s g e h h2 hs
    rw [List.length_cons] at h h2
    have hl : pre.length + (post.length + 1) = t.Conj.length := by rw [← e, List.length_append]; rfl
    have hx := hs x List.mem_cons_self
    rw [M_ref18_Of.l3, if_pos (dlt (by dsimp only; omega))]
    dsimp only
    have hg : getI t.Conj (pre.length : Int) = some x := by rw [← e]; exact getI_mid _ _ _
    rw [hg, w64_succ (by omega)]
    simp -implicitDefEqProofs only [Option.bind_eq_bind, Option.bind_some]
    rw [ref06_Tables_eq x (by omega)]
    simp -implicitDefEqProofs only [Option.bind_some]
    have hs' : ∀ p ∈ post, p.size ≤ 1000000 := fun p hp => hs p (List.mem_cons_of_mem _ hp)
    by_cases k : t.Kind = 1
    · rw [if_pos (by simpa using k), room_of (by simp only [List.length_cons, List.length_nil]; omega)]
      simp -implicitDefEqProofs only [Option.bind_some]
      have := ih (pre ++ [x]) (s ||| x.tabs) ⟨g.Joins ++ [⟨x, x.tabs &&& l, x.tabs &&& r, home⟩], g.Ops⟩ (by rw [← e, List.append_assoc]; rfl) (by rw [snoc_len]; omega) (by rw [snoc_len]; omega) hs'
      rw [snoc_len] at this
      rw [this, if_pos k, if_pos k, ctabs_cons, BitVec.or_assoc]
      dsimp only
      rw [List.append_assoc]; rfl
    · rw [if_neg (by simpa using k)]
      have := ih (pre ++ [x]) (s ||| x.tabs) g (by rw [← e, List.append_assoc]; rfl) (by omega) (by rw [snoc_len]; omega) hs'
      rw [snoc_len] at this
      rw [this, if_neg k, if_neg k, ctabs_cons, BitVec.or_assoc]
theorem ref18_owns {cols : List Int} {all : List T_api_Tree} {g0 g1 : T_ref18_Levels} (hlen : all.length ≤ 1000000) (ok : ∀ y ∈ all, BinN cols y) (hsz : ∀ y ∈ all, y.size ≤ 1000000) : ∀ (post pre : List T_api_Tree) (s : List Set64), pre ++ post = all → s.length ≤ pre.length →
    M_ref18_Of.l0 (all, s, (pre.length : Int), g0, g1) = some (s ++ ownsL post) := by
  intro post
  induction post with
  | nil =>
    intro pre s e h
    rw [List.append_nil] at e; subst e
    rw [M_ref18_Of.l0, if_neg (dge (by simp))]
    simp [ownsL, outs]
  | cons x post ih =>
    intro pre s e h
    have hl : pre.length + (post.length + 1) = all.length := by rw [← e, List.length_append]; rfl
    have hx : x ∈ all := by rw [← e]; simp
    rw [M_ref18_Of.l0, if_pos (dlt (by dsimp only; omega))]
    dsimp only
    have hg : getI all (pre.length : Int) = some x := by rw [← e]; exact getI_mid _ _ _
    rw [hg, w64_succ (by omega)]
    simp -implicitDefEqProofs only [Option.bind_eq_bind, Option.bind_some]
    by_cases k : 1 < x.Kind
    · rw [if_pos (by simpa using k)]
      cases ok x hx with
      | leaf hk => omega
      | op a b hk1 hk2 hks =>
        have g1' : x.Kids[1]? = some b := by rw [hks]; rfl
        have sb : b.size < x.size := kid_size (by rw [hks]; simp)
        have := hsz x hx
        rw [g1']
        simp -implicitDefEqProofs only [Option.bind_some]
        rw [ref10_Tables_eq b (by omega)]
        simp -implicitDefEqProofs only [Option.bind_some]
        rw [room_of (by simp only [List.length_cons, List.length_nil]; omega)]
        simp -implicitDefEqProofs only [Option.bind_some]
        have := ih (pre ++ [x]) (s ++ [tabs b]) (by rw [← e, List.append_assoc]; rfl) (by rw [snoc_len, snoc_len]; omega)
        rw [snoc_len] at this
        have e2 : ownsL (x :: post) = tabs b :: ownsL post := by
          unfold ownsL outs
          rw [List.filter_cons_of_pos (by simpa using k), List.map_cons, kid1_eq hks]
        rw [this, e2, List.append_assoc]; rfl
    · rw [if_neg (by simpa using k)]
      have := ih (pre ++ [x]) s (by rw [← e, List.append_assoc]; rfl) (by rw [snoc_len]; omega)
      rw [snoc_len] at this
      have e2 : ownsL (x :: post) = ownsL post := by
        unfold ownsL outs
        rw [List.filter_cons_of_neg (by simpa using k)]
      rw [this, e2]
theorem ref18_l1 {cols : List Int} {all : List T_api_Tree} {owns : List Set64} {g0 : T_ref18_Levels} (hlen : all.length ≤ 100000) (holen : owns.length ≤ 1000000) (ok : ∀ y ∈ all, BinN cols y) (hsz : ∀ y ∈ all, y.size ≤ 100000) : ∀ (post pre : List (T_api_Tree × Int)) (g : T_ref18_Levels), (pre ++ post).map Prod.fst = all → (∀ x ∈ post, x.1.Kind ≠ 0 → Scan owns (tabs x.1) x.2) → g.Joins.length + nconj (post.map Prod.fst) ≤ 1000000 → g.Ops.length ≤ pre.length →
    M_ref18_Of.l1 (all, owns, (pre.length : Int), g0, g) = some ⟨g.Joins ++ (joinsT post).map asJ, g.Ops ++ (opsT post).map asO⟩ := by
  intro post
  induction post with
  | nil =>
    intro pre g e _ h h2
    rw [List.append_nil] at e
    have hl : pre.length = all.length := by rw [← e, List.length_map]
    rw [M_ref18_Of.l1, if_neg (dge (by dsimp only; omega))]
    simp [joinsT, opsT]
  | cons x post ih =>
    intro pre g e hsc h h2
    have hl : pre.length + (post.length + 1) = all.length := by rw [← e, List.length_map, List.length_append]; rfl
    have hx : x.1 ∈ all := by rw [← e]; simp
    rw [List.map_cons, nconj_cons] at h
    rw [M_ref18_Of.l1, if_pos (dlt (by dsimp only; omega))]
    dsimp only
    have hg : getI all (pre.length : Int) = some x.1 := by
      have h5 := getI_mid (pre.map Prod.fst) x.1 (post.map Prod.fst)
      rw [List.length_map] at h5
      rw [← e, List.map_append, List.map_cons]; exact h5
    rw [hg, w64_succ (by omega)]
    simp -implicitDefEqProofs only [Option.bind_eq_bind, Option.bind_some]
    have hs' : ∀ x ∈ post, x.1.Kind ≠ 0 → Scan owns (tabs x.1) x.2 := fun y hy => hsc y (List.mem_cons_of_mem _ hy)
    have hxs := hsz x.1 hx
    have e1 : joinsT (x :: post) = joinsT [x] ++ joinsT post := joinsT_append [x] post
    have e2 : opsT (x :: post) = opsT [x] ++ opsT post := opsT_append [x] post
    have next : ∀ g' : T_ref18_Levels, g'.Joins.length + nconj (post.map Prod.fst) ≤ 1000000 → g'.Ops.length ≤ pre.length + 1 → M_ref18_Of.l1 (all, owns, ((pre.length + 1 : Nat) : Int), g0, g') = some ⟨g'.Joins ++ (joinsT post).map asJ, g'.Ops ++ (opsT post).map asO⟩ := by
      intro g' h1 h2
      have := ih (pre ++ [x]) g' (by rw [← e, List.append_assoc]; rfl) hs' h1 (by rw [snoc_len]; exact h2)
      rw [snoc_len] at this
      exact this
    cases hself : ok x.1 hx with
    | leaf hk hks hc =>
      rw [if_pos (by simpa using hk), next g (by omega) (by omega), e1, e2]
      have k1 : joinsT [x] = [] := by simp [joinsT, hk]
      have k2 : opsT [x] = [] := by simp [opsT, hk]
      rw [k1, k2]; rfl
    | op a b hk1 hk2 hks =>
      have sa : a.size < x.1.size := kid_size (by rw [hks]; simp)
      have sb : b.size < x.1.size := kid_size (by rw [hks]; simp)
      have hcl := conj_len x.1
      have g0' : x.1.Kids[0]? = some a := by rw [hks]; rfl
      have g1' : x.1.Kids[1]? = some b := by rw [hks]; rfl
      rw [if_neg (by simp; omega), g0', g1']
      simp -implicitDefEqProofs only [Option.bind_some]
      rw [ref10_Tables_eq a (by omega), ref10_Tables_eq b (by omega)]
      simp -implicitDefEqProofs only [Option.bind_some]
      have hsx := hsc x List.mem_cons_self (by omega)
      have ht : tabs x.1 = tabs a ||| tabs b := by
        unfold tabs
        rw [tour2 hks, leafTabs_append, leafTabs_append, leafTabs_neg [] (by omega)]
        have : leafTabs [] = [] := rfl
        rw [this, List.append_nil, ofL_append]
      rw [ht] at hsx
      rw [scan_eq holen hsx]
      simp -implicitDefEqProofs only [Option.bind_some]
      have h3 := ref18_l3 (all := all) (owns := owns) (i := (pre.length : Int)) (l := tabs a) (r := tabs b) (home := x.2) (g0 := g0) x.1 x.1.Conj [] 0#64 g (List.nil_append _) (by omega) (by simp; omega) (fun p hp => by have := conj_size hp; omega)
      have t0 : (([] : List T_api_Pred).length : Int) = 0 := rfl
      rw [t0] at h3
      rw [h3]
      simp -implicitDefEqProofs only [Option.bind_some]
      rw [BitVec.zero_or]
      by_cases k : 1 < x.1.Kind
      · have k' : ¬ x.1.Kind = 1 := by omega
        rw [if_pos (by simpa using k), if_neg k', List.append_nil, room_of (by simp only [List.length_cons, List.length_nil]; omega)]
        simp -implicitDefEqProofs only [Option.bind_some]
        rw [next _ (by dsimp only; omega) (by dsimp only; rw [snoc_len]; omega), e1, e2]
        have k1 : joinsT [x] = [] := by simp [joinsT, k']
        have k2 : opsT [x] = [mkOp x] := by simp [opsT, k]
        have k3 : (⟨x.1.Kind, x.1.Conj, ctabs x.1.Conj &&& tabs a, ctabs x.1.Conj &&& tabs b, tabs b, x.2⟩ : T_ref18_Op) = asO (mkOp x) := by
          unfold asO mkOp
          rw [kid0_eq hks, kid1_eq hks]
        rw [k1, k2, k3]
        dsimp only
        rw [List.append_assoc]; rfl
      · have k' : x.1.Kind = 1 := by omega
        rw [if_neg (by simpa using k), if_pos k', next _ (by dsimp only; rw [List.length_append, List.length_map]; omega) (by dsimp only; omega), e1, e2]
        have k1 : joinsT [x] = mkJ x := by simp [joinsT, k']
        have k2 : opsT [x] = [] := by simp [opsT, k]
        have k3 : (x.1.Conj.map fun p => (⟨p, p.tabs &&& tabs a, p.tabs &&& tabs b, x.2⟩ : T_ref18_Join)) = (mkJ x).map asJ := by
          unfold mkJ
          rw [List.map_map, kid0_eq hks, kid1_eq hks]; rfl
        rw [k1, k2, k3]
        dsimp only
        rw [List.map_append, List.append_assoc]; rfl
theorem ref18_Of_eq {cols : List Int} (hc : cols.length ≤ 64) {t : T_api_Tree} (ok : OkT cols t) (hnd : (leafTabs t.tour).Nodup) (hsz : t.size ≤ 100000) : M_ref18_Of t = some (as18 (levOf t)) := by
  have h1 := tour_len t
  have h2 := nconj_tour t
  have hsy : ∀ y ∈ t.tour, y.size ≤ 100000 := fun y hy => by have := tour_size t y hy; omega
  have holen : (ownsL t.tour).length ≤ t.tour.length := by rw [ownsL_len]; exact List.length_filter_le _ _
  unfold M_ref18_Of
  rw [ref10_All_eq t (by omega)]
  simp -implicitDefEqProofs only [Option.bind_eq_bind, Option.bind_some]
  have a0 := ref18_owns (cols := cols) (g0 := ⟨[], []⟩) (g1 := ⟨[], []⟩) (all := t.tour) (by omega) ok (fun y hy => by have := hsy y hy; omega) t.tour [] [] (List.nil_append _) (Nat.le_refl _)
  have t0 : (([] : List T_api_Tree).length : Int) = 0 := rfl
  rw [t0] at a0
  rw [a0]
  simp -implicitDefEqProofs only [Option.bind_some, List.nil_append]
  have hsc := homes_ok hc (ownsL t.tour) t ok hnd 0 (-1) [] (by rw [List.drop_zero, List.append_nil]) ⟨.inl rfl, fun k hk ho => by rw [ownsL_len] at hk; omega⟩
  have a1 := ref18_l1 (cols := cols) (g0 := ⟨[], []⟩) (owns := ownsL t.tour) (all := t.tour) (by omega) (by omega) ok hsy (tagged t 0 (-1)) [] ⟨[], []⟩ (by rw [List.nil_append]; exact tagged_fst t ok _ _) hsc (by rw [tagged_fst t ok]; simp; omega) (Nat.le_refl _)
  have t1 : (([] : List (T_api_Tree × Int)).length : Int) = 0 := rfl
  rw [t1] at a1
  rw [a1]
  rfl
end Go.Proofs.Ytakmilmckdllfaa.G
set_option linter.unusedVariables false
set_option linter.unusedSimpArgs false
namespace Go.Proofs.Ytakmilmckdllfaa.G
open Classical

/-- The homes of a list of outer nodes that begins at the place `i`. -/
def HF : List T_levels_Op → Nat → Int → Nat → Prop
  | [], _, _, _ => True
  | x :: l, i, home, top => (x.Home = home ∨ ((i : Int) < x.Home ∧ x.Home < (top : Int))) ∧ HF l (i + 1) home top
theorem HF_append : ∀ (l l' : List T_levels_Op) (i : Nat) (home : Int) (top : Nat), HF l i home top → HF l' (i + l.length) home top → HF (l ++ l') i home top := by
  intro l
  induction l with
  | nil => intro l' i home top _ h; exact h
  | cons x l ih =>
    intro l' i home top h h'
    refine ⟨h.1, ih l' (i + 1) home top h.2 ?_⟩
    rw [List.length_cons] at h'
    rw [show i + 1 + l.length = i + (l.length + 1) by omega]; exact h'
theorem HF_up : ∀ (l : List T_levels_Op) (i : Nat) (home home' : Int) (top top' : Nat), HF l i home top → top ≤ top' → (home = home' ∨ (((i + l.length : Nat) : Int) ≤ home ∧ home < (top' : Int))) → HF l i home' top' := by
  intro l
  induction l with
  | nil => intro i home home' top top' _ _ _; trivial
  | cons x l ih =>
    intro i home home' top top' h h2 h3
    rw [List.length_cons] at h3
    refine ⟨?_, ih (i + 1) home home' top top' h.2 h2 (by omega)⟩
    rcases h.1 with h | h
    · rcases h3 with h3 | h3
      · exact .inl (h.trans h3)
      · exact .inr (by omega)
    · exact .inr (by omega)
theorem HF_get : ∀ (l : List T_levels_Op) (i : Nat) (home : Int) (top : Nat), HF l i home top → ∀ k (h : k < l.length), l[k].Home = home ∨ (((i + k : Nat) : Int) < l[k].Home ∧ l[k].Home < (top : Int)) := by
  intro l
  induction l with
  | nil => intro i home top _ k h; cases h
  | cons x l ih =>
    intro i home top h k hk
    cases k with
    | zero => exact h.1
    | succ k =>
      rw [List.getElem_cons_succ]
      have := ih (i + 1) home top h.2 k (by rw [List.length_cons] at hk; omega)
      rw [show i + (k + 1) = i + 1 + k by omega]; exact this
theorem nOut2 {t a b : T_api_Tree} (h : t.Kids = [a, b]) : nOut t = nOut a + nOut b + if 1 < t.Kind then 1 else 0 := by
  rw [← ownsL_len, ← ownsL_len, ← ownsL_len, tour2 h, ownsL_append, ownsL_append, List.length_append, List.length_append, ownsL1 h]
  congr 1
  split <;> rfl
theorem tagged_homes {cols : List Int} (t : T_api_Tree) : OkT cols t → ∀ off home, HF (opsT (tagged t off home)) off home (off + nOut t) ∧ ∀ x ∈ tagged t off home, x.2 = home ∨ ((off : Int) ≤ x.2 ∧ x.2 < ((off + nOut t : Nat) : Int)) := by
  induction t using T_api_Tree.induct with
  | h t ih =>
    intro ok off home
    cases hself : ok.self with
    | leaf hk hks =>
      rw [tagged0 hks]
      refine ⟨?_, fun x hx => ?_⟩
      · have k2 : opsT [(t, home)] = [] := by simp [opsT, hk]
        rw [k2]; trivial
      · have : x = (t, home) := by simpa using hx
        rw [this]; exact .inl rfl
    | op a b hk1 hk2 hks =>
      have oka : OkT cols a := ok.kid (by rw [hks]; simp)
      have okb : OkT cols b := ok.kid (by rw [hks]; simp)
      have hn := nOut2 hks
      obtain ⟨a1, a2⟩ := ih a (by rw [hks]; simp) oka off home
      obtain ⟨b1, b2⟩ := ih b (by rw [hks]; simp) okb (off + nOut a) (if 1 < t.Kind then ((off + nOut a + nOut b : Nat) : Int) else home)
      have la := opsT_len oka off home
      have lb := opsT_len okb (off + nOut a) (if 1 < t.Kind then ((off + nOut a + nOut b : Nat) : Int) else home)
      rw [tagged2 hks, opsT_append, opsT_append]
      refine ⟨HF_append _ _ _ _ _ (HF_append _ _ _ _ _ (HF_up _ _ _ _ _ _ a1 (by omega) (.inl rfl)) ?_) ?_, fun x hx => ?_⟩
      · rw [la]
        refine HF_up _ _ _ _ _ _ b1 (by omega) ?_
        rw [lb]
        by_cases e : 1 < t.Kind
        · rw [if_pos e]; rw [if_pos e] at hn; right; omega
        · rw [if_neg e]; exact .inl rfl
      · by_cases e : 1 < t.Kind
        · have k2 : opsT [(t, home)] = [mkOp (t, home)] := by simp [opsT, e]
          rw [k2]; exact ⟨.inl rfl, trivial⟩
        · have k2 : opsT [(t, home)] = [] := by simp [opsT, e]
          rw [k2]; trivial
      · rw [List.mem_append, List.mem_append] at hx
        rcases hx with (hx | hx) | hx
        · rcases a2 x hx with h | h
          · exact .inl h
          · right; omega
        · rcases b2 x hx with h | h
          · by_cases e : 1 < t.Kind
            · rw [if_pos e] at h hn; right; omega
            · rw [if_neg e] at h; exact .inl h
          · right; omega
        · have : x = (t, home) := by simpa using hx
          rw [this]; exact .inl rfl
/-- Levels as_ Of makes them. -/
structure WellG (g : T_levels_Levels) : Prop where
  jl : g.Joins.length ≤ 1000000
  ol : g.Ops.length ≤ 1000000
  jp : ∀ j ∈ g.Joins, j.Pred.size ≤ 1000000
  ol2 : ∀ o ∈ g.Ops, o.Conj.length ≤ 1000000
  op : ∀ o ∈ g.Ops, ∀ p ∈ o.Conj, p.size ≤ 1000000
  jh : ∀ j ∈ g.Joins, j.Home < (g.Ops.length : Int)
  oh : ∀ i (h : i < g.Ops.length), g.Ops[i].Home = -1 ∨ ((i : Int) < g.Ops[i].Home ∧ g.Ops[i].Home < (g.Ops.length : Int))
theorem WellG.oh2 {g : T_levels_Levels} (w : WellG g) : ∀ o ∈ g.Ops, o.Home < (g.Ops.length : Int) := by
  intro o ho
  obtain ⟨i, hi, rfl⟩ := List.getElem_of_mem ho
  rcases w.oh i hi with h | h <;> omega
theorem tagged_mem {cols : List Int} {t : T_api_Tree} (ok : OkT cols t) {off : Nat} {home : Int} {x : T_api_Tree × Int} (hx : x ∈ tagged t off home) : x.1 ∈ t.tour := by
  rw [← tagged_fst t ok off home]; exact List.mem_map_of_mem hx
theorem levOf_well {cols : List Int} {t : T_api_Tree} (ok : OkT cols t) (hsz : t.size ≤ 100000) : WellG (levOf t) := by
  have h1 := tour_len t
  have h2 := nconj_tour t
  have lJ := joinsT_len ok 0 (-1)
  have lO := opsT_len ok 0 (-1)
  have hno : nOut t ≤ t.tour.length := List.length_filter_le _ _
  obtain ⟨hf, hh⟩ := tagged_homes t ok 0 (-1)
  have mJ : ∀ j ∈ joinsT (tagged t 0 (-1)), ∃ x ∈ tagged t 0 (-1), j.Pred ∈ x.1.Conj ∧ j.Home = x.2 := by
    intro j hj
    obtain ⟨x, hx, hj⟩ := List.mem_flatMap.1 hj
    split at hj
    · obtain ⟨p, hp, rfl⟩ := List.mem_map.1 hj
      exact ⟨x, hx, hp, rfl⟩
    · cases hj
  have mO : ∀ o ∈ opsT (tagged t 0 (-1)), ∃ x ∈ tagged t 0 (-1), o.Conj = x.1.Conj := by
    intro o ho
    obtain ⟨x, hx, rfl⟩ := List.mem_map.1 ho
    exact ⟨x, (List.mem_filter.1 hx).1, rfl⟩
  refine ⟨by show (joinsT _).length ≤ _; omega, by show (opsT _).length ≤ _; omega, fun j hj => ?_, fun o ho => ?_, fun o ho p hp => ?_, fun j hj => ?_, fun i hi => ?_⟩
  · obtain ⟨x, hx, hp, _⟩ := mJ j hj
    have := conj_size hp
    have := tour_size t x.1 (tagged_mem ok hx); omega
  · obtain ⟨x, hx, e⟩ := mO o ho
    have := conj_len x.1
    have := tour_size t x.1 (tagged_mem ok hx)
    rw [e]; omega
  · obtain ⟨x, hx, e⟩ := mO o ho
    rw [e] at hp
    have := conj_size hp
    have := tour_size t x.1 (tagged_mem ok hx); omega
  · obtain ⟨x, hx, hp, e⟩ := mJ j hj
    have e2 : (levOf t).Ops.length = nOut t := lO
    rw [e, e2]
    rcases hh x hx with h | h <;> omega
  · have e2 : (levOf t).Ops.length = nOut t := lO
    have := HF_get _ _ _ _ hf i hi
    rw [Nat.zero_add, Nat.zero_add] at this
    rw [e2]
    exact this

/- Homes' tables. -/
def ownOf (g : T_levels_Levels) (h : Int) : Set64 := if h < 0 then 0#64 else match g.Ops[h.toNat]? with | some e => e.Own | none => 0#64
theorem levels_own_eq (g : T_levels_Levels) (h : Int) : M_levels_Levels_own (g, h) = some (ownOf g h) := by
  unfold M_levels_Levels_own ownOf
  dsimp only
  by_cases h0 : h < 0
  · rw [if_pos (by simpa using h0), if_pos h0]
  rw [if_neg (by simpa using h0), if_neg h0]
  obtain ⟨k, rfl⟩ : ∃ k : Nat, h = k := ⟨h.toNat, by omega⟩
  rw [Int.toNat_natCast]
  by_cases h1 : k < g.Ops.length
  · rw [if_neg (by simp; omega), getI_nat h1, List.getElem?_eq_getElem h1]; rfl
  · rw [if_pos (by simp; omega), List.getElem?_eq_none (by omega)]
theorem ref18_own_eq (g : T_levels_Levels) (h : Int) (hl : h < (g.Ops.length : Int)) : M_ref18_own (as18 g, h) = some (ownOf g h) := by
  unfold M_ref18_own ownOf
  dsimp only
  by_cases h0 : h < 0
  · rw [if_pos (by simpa using h0), if_pos h0]
  rw [if_neg (by simpa using h0), if_neg h0]
  obtain ⟨k, rfl⟩ : ∃ k : Nat, h = k := ⟨h.toNat, by omega⟩
  rw [Int.toNat_natCast]
  have h1 : k < g.Ops.length := by omega
  have h2 : k < (as18 g).Ops.length := by show k < (g.Ops.map asO).length; rw [List.length_map]; exact h1
  rw [getI_nat h2, List.getElem?_eq_getElem h1]
  have : (as18 g).Ops[k] = asO g.Ops[k] := List.getElem_map asO
  rw [this]; rfl
/- Counting loops. -/
theorem getI_map {α β : Type} (f : α → β) (pre : List α) (x : α) (post : List α) : getI ((pre ++ x :: post).map f) (pre.length : Int) = some (f x) := by
  have h5 := getI_mid (pre.map f) (f x) (post.map f)
  rw [List.length_map] at h5
  rw [List.map_append, List.map_cons]; exact h5
def matchO (g o : T_levels_Levels) (e e2 : T_levels_Op) : Prop := e2.Kind = e.Kind ∧ e2.Own = e.Own ∧ ownOf o e2.Home = ownOf g e.Home ∧ e2.Conj = e.Conj
theorem same1_eq (g o : T_levels_Levels) (wo : WellG o) (e e2 : T_levels_Op) (h2 : e2 ∈ o.Ops) : M_levels_Same_1 (e2, o, g, e) = some (decide (matchO g o e e2)) := by
  unfold M_levels_Same_1 M_levels_Levels_place
  dsimp only
  rw [levels_own_eq, levels_own_eq]
  simp -implicitDefEqProofs only [Option.bind_eq_bind, Option.bind_some]
  rw [equalFunc_eq _ _ (wo.ol2 e2 h2) (wo.op e2 h2)]
  simp -implicitDefEqProofs only [Option.bind_some]
  by_cases hm : e2.Kind = e.Kind ∧ e2.Own = e.Own ∧ ownOf o e2.Home = ownOf g e.Home
  · rw [if_pos (by simp only [Bool.and_eq_true, beq_iff_eq]; exact hm)]
    congr 1
    exact decide_eq_decide.2 ⟨fun h => ⟨hm.1, hm.2.1, hm.2.2, h⟩, fun h => h.2.2.2⟩
  · rw [if_neg (by simp only [Bool.and_eq_true, beq_iff_eq]; exact hm)]
    congr 1
    exact (decide_eq_false fun h => hm ⟨h.1, h.2.1, h.2.2.1⟩).symm
theorem timesO_eq (g o : T_levels_Levels) (wo : WellG o) (e : T_levels_Op) : M_levels_times_levels_Op__levels_Same_1 (o.Ops, o, g, e) = some ((o.Ops.countP fun e2 => decide (matchO g o e e2) : Nat) : Int) := by
  have key : ∀ (post pre : List T_levels_Op) (n : Nat), pre ++ post = o.Ops → n ≤ pre.length →
      M_levels_times_levels_Op__levels_Same_1.l0 ((n : Int), o.Ops, (o.Ops.length : Int), (pre.length : Int), o, g, e) = some ((n + post.countP fun e2 => decide (matchO g o e e2) : Nat) : Int) := by
    intro post
    induction post with
    | nil =>
      intro pre n he hn
      rw [List.append_nil] at he
      rw [M_levels_times_levels_Op__levels_Same_1.l0, if_neg (dge (by dsimp only; rw [he]; omega))]; rfl
    | cons x post ih =>
      intro pre n he hn
      have hl : pre.length + (post.length + 1) = o.Ops.length := by rw [← he, List.length_append]; rfl
      have hol := wo.ol
      have hx : x ∈ o.Ops := by rw [← he]; simp
      rw [M_levels_times_levels_Op__levels_Same_1.l0, if_pos (dlt (by dsimp only; omega))]
      dsimp only
      have hg : getI o.Ops (pre.length : Int) = some x := by rw [← he]; exact getI_mid _ _ _
      rw [hg, w64_succ (i := pre.length) (by omega), w64_succ (i := n) (by omega)]
      simp -implicitDefEqProofs only [Option.bind_eq_bind, Option.bind_some]
      rw [same1_eq g o wo e x hx]
      simp -implicitDefEqProofs only [Option.bind_some, decide_eq_true_eq]
      rw [List.countP_cons]
      by_cases hm : matchO g o e x
      · rw [if_pos hm, if_pos (by simpa using hm)]
        have := ih (pre ++ [x]) (n + 1) (by rw [← he, List.append_assoc]; rfl) (by rw [snoc_len]; omega)
        rw [snoc_len] at this
        rw [this]; congr 2; omega
      · rw [if_neg hm, if_neg (by simpa using hm)]
        have := ih (pre ++ [x]) n (by rw [← he, List.append_assoc]; rfl) (by rw [snoc_len]; omega)
        rw [snoc_len] at this
        rw [this]; rfl
  unfold M_levels_times_levels_Op__levels_Same_1
  have h0 := key o.Ops [] 0 (List.nil_append _) (Nat.le_refl _)
  have t0 : (([] : List T_levels_Op).length : Int) = 0 := rfl
  rw [t0, show ((0 : Nat) : Int) = 0 from rfl] at h0
  dsimp only
  rw [h0, Nat.zero_add]; rfl
theorem levels_same0 (g o : T_levels_Levels) (wg : WellG g) (wo : WellG o) : M_levels_Same.l0 (g.Ops, (g.Ops.length : Int), 0, g, o) = if ∀ e ∈ g.Ops, ∃ e2 ∈ o.Ops, matchO g o e e2 then some (.brk (g, o)) else some (.ret false) := by
  have key : ∀ (post pre : List T_levels_Op), pre ++ post = g.Ops →
      M_levels_Same.l0 (g.Ops, (g.Ops.length : Int), (pre.length : Int), g, o) = if ∀ e ∈ post, ∃ e2 ∈ o.Ops, matchO g o e e2 then some (.brk (g, o)) else some (.ret false) := by
    intro post
    induction post with
    | nil =>
      intro pre he
      rw [List.append_nil] at he
      rw [M_levels_Same.l0, if_neg (dge (by dsimp only; rw [he]; omega)), if_pos (by simp)]
    | cons x post ih =>
      intro pre he
      have hl : pre.length + (post.length + 1) = g.Ops.length := by rw [← he, List.length_append]; rfl
      have hol := wg.ol
      rw [M_levels_Same.l0, if_pos (dlt (by dsimp only; omega))]
      dsimp only
      have hg : getI g.Ops (pre.length : Int) = some x := by rw [← he]; exact getI_mid _ _ _
      rw [hg, w64_succ (by omega)]
      simp -implicitDefEqProofs only [Option.bind_eq_bind, Option.bind_some]
      rw [timesO_eq g o wo x]
      simp -implicitDefEqProofs only [Option.bind_some]
      by_cases hm : ∃ e2 ∈ o.Ops, matchO g o x e2
      · have hp : 0 < o.Ops.countP fun e2 => decide (matchO g o x e2) := by
          rw [List.countP_pos_iff]
          obtain ⟨e2, h1, h2⟩ := hm
          exact ⟨e2, h1, by simpa using h2⟩
        rw [if_neg (by simp only [beq_iff_eq]; omega)]
        have := ih (pre ++ [x]) (by rw [← he, List.append_assoc]; rfl)
        rw [snoc_len] at this
        rw [this]
        by_cases hh : ∀ e ∈ post, ∃ e2 ∈ o.Ops, matchO g o e e2
        · rw [if_pos hh, if_pos (fun e he => (List.mem_cons.1 he).elim (fun h => h ▸ hm) (hh e))]
        · rw [if_neg hh, if_neg (fun h => hh fun e he => h e (List.mem_cons_of_mem _ he))]
      · have hp : o.Ops.countP (fun e2 => decide (matchO g o x e2)) = 0 := by
          rw [List.countP_eq_zero]
          intro e2 h1 h2
          exact hm ⟨e2, h1, by simpa using h2⟩
        rw [hp, if_pos (by rfl), if_neg (fun h => hm (h x List.mem_cons_self))]
  have := key g.Ops [] (List.nil_append _)
  have t0 : (([] : List T_levels_Op).length : Int) = 0 := rfl
  rwa [t0] at this
def matchJ (x g : T_levels_Levels) (e e2 : T_levels_Join) : Prop := e2.Pred = e.Pred ∧ ownOf x e2.Home = ownOf g e.Home
theorem same2_eq (x g : T_levels_Levels) (wx : WellG x) (e : T_levels_Join) : M_levels_Same_2 (x, e, g) = some ((x.Joins.countP fun e2 => decide (matchJ x g e e2) : Nat) : Int) := by
  have h1 : ∀ e2 ∈ x.Joins, M_levels_Same_2_1 (e2, e, x, g) = some (decide (matchJ x g e e2)) := by
    intro e2 h2
    unfold M_levels_Same_2_1
    dsimp only
    rw [pred_Same_eq _ _ (wx.jp e2 h2), levels_own_eq, levels_own_eq]
    simp -implicitDefEqProofs only [Option.bind_eq_bind, Option.bind_some, decide_eq_true_eq]
    by_cases hm : e2.Pred = e.Pred
    · rw [if_pos hm]
      congr 1
      rw [Bool.eq_iff_iff, beq_iff_eq, decide_eq_true_eq]
      exact ⟨fun h => ⟨hm, h⟩, fun h => h.2⟩
    · rw [if_neg hm]
      congr 1
      exact (decide_eq_false fun h => hm h.1).symm
  have key : ∀ (post pre : List T_levels_Join) (n : Nat), pre ++ post = x.Joins → n ≤ pre.length →
      M_levels_times_levels_Join__levels_Same_2_1.l0 ((n : Int), x.Joins, (x.Joins.length : Int), (pre.length : Int), e, x, g) = some ((n + post.countP fun e2 => decide (matchJ x g e e2) : Nat) : Int) := by
    intro post
    induction post with
    | nil =>
      intro pre n he hn
      rw [List.append_nil] at he
      rw [M_levels_times_levels_Join__levels_Same_2_1.l0, if_neg (dge (by dsimp only; rw [he]; omega))]; rfl
    | cons y post ih =>
      intro pre n he hn
      have hl : pre.length + (post.length + 1) = x.Joins.length := by rw [← he, List.length_append]; rfl
      have hol := wx.jl
      have hy : y ∈ x.Joins := by rw [← he]; simp
      rw [M_levels_times_levels_Join__levels_Same_2_1.l0, if_pos (dlt (by dsimp only; omega))]
      dsimp only
      have hg : getI x.Joins (pre.length : Int) = some y := by rw [← he]; exact getI_mid _ _ _
      rw [hg, w64_succ (i := pre.length) (by omega), w64_succ (i := n) (by omega)]
      simp -implicitDefEqProofs only [Option.bind_eq_bind, Option.bind_some]
      rw [h1 y hy]
      simp -implicitDefEqProofs only [Option.bind_some, decide_eq_true_eq]
      rw [List.countP_cons]
      by_cases hm : matchJ x g e y
      · rw [if_pos hm, if_pos (by simpa using hm)]
        have := ih (pre ++ [y]) (n + 1) (by rw [← he, List.append_assoc]; rfl) (by rw [snoc_len]; omega)
        rw [snoc_len] at this
        rw [this]; congr 2; omega
      · rw [if_neg hm, if_neg (by simpa using hm)]
        have := ih (pre ++ [y]) n (by rw [← he, List.append_assoc]; rfl) (by rw [snoc_len]; omega)
        rw [snoc_len] at this
        rw [this]; rfl
  unfold M_levels_Same_2 M_levels_times_levels_Join__levels_Same_2_1
  have h0 := key x.Joins [] 0 (List.nil_append _) (Nat.le_refl _)
  have t0 : (([] : List T_levels_Join).length : Int) = 0 := rfl
  rw [t0, show ((0 : Nat) : Int) = 0 from rfl] at h0
  dsimp only
  rw [h0, Nat.zero_add]; rfl
noncomputable abbrev cntJ (x g : T_levels_Levels) (e : T_levels_Join) : Nat := x.Joins.countP fun e2 => decide (matchJ x g e e2)
theorem levels_same1 (g o : T_levels_Levels) (wg : WellG g) (wo : WellG o) : M_levels_Same.l1 (g.Joins, (g.Joins.length : Int), 0, g, o) = if ∀ e ∈ g.Joins, cntJ g g e = cntJ o g e then some (.brk ()) else some (.ret false) := by
  have key : ∀ (post pre : List T_levels_Join), pre ++ post = g.Joins →
      M_levels_Same.l1 (g.Joins, (g.Joins.length : Int), (pre.length : Int), g, o) = if ∀ e ∈ post, cntJ g g e = cntJ o g e then some (.brk ()) else some (.ret false) := by
    intro post
    induction post with
    | nil =>
      intro pre he
      rw [List.append_nil] at he
      rw [M_levels_Same.l1, if_neg (dge (by dsimp only; rw [he]; omega)), if_pos (by simp)]
    | cons x post ih =>
      intro pre he
      have hl : pre.length + (post.length + 1) = g.Joins.length := by rw [← he, List.length_append]; rfl
      have hol := wg.jl
      rw [M_levels_Same.l1, if_pos (dlt (by dsimp only; omega))]
      dsimp only
      have hg : getI g.Joins (pre.length : Int) = some x := by rw [← he]; exact getI_mid _ _ _
      rw [hg, w64_succ (by omega)]
      simp -implicitDefEqProofs only [Option.bind_eq_bind, Option.bind_some]
      rw [same2_eq g g wg x, same2_eq o g wo x]
      simp -implicitDefEqProofs only [Option.bind_some]
      by_cases hm : cntJ g g x = cntJ o g x
      · rw [if_neg (by simp only [bne_iff_ne, ne_eq]; unfold cntJ at hm; omega)]
        have := ih (pre ++ [x]) (by rw [← he, List.append_assoc]; rfl)
        rw [snoc_len] at this
        rw [this]
        by_cases hh : ∀ e ∈ post, cntJ g g e = cntJ o g e
        · rw [if_pos hh, if_pos (fun e he => (List.mem_cons.1 he).elim (fun h => h ▸ hm) (hh e))]
        · rw [if_neg hh, if_neg (fun h => hh fun e he => h e (List.mem_cons_of_mem _ he))]
      · rw [if_pos (by simp only [bne_iff_ne, ne_eq]; unfold cntJ at hm; omega), if_neg (fun h => hm (h x List.mem_cons_self))]
  have := key g.Joins [] (List.nil_append _)
  have t0 : (([] : List T_levels_Join).length : Int) = 0 := rfl
  rwa [t0] at this
def sameG (g o : T_levels_Levels) : Prop := g.Joins.length = o.Joins.length ∧ g.Ops.length = o.Ops.length ∧ (∀ e ∈ g.Ops, ∃ e2 ∈ o.Ops, matchO g o e e2) ∧ ∀ e ∈ g.Joins, cntJ g g e = cntJ o g e
theorem levels_Same_eq (g o : T_levels_Levels) (wg : WellG g) (wo : WellG o) : M_levels_Same (g, o) = some (decide (sameG g o)) := by
  unfold M_levels_Same
  dsimp only
  by_cases h1 : g.Joins.length = o.Joins.length
  case neg => rw [if_pos (lenne h1)]; congr 1; exact (decide_eq_false fun h => h1 h.1).symm
  rw [if_neg (leneq h1)]
  by_cases h2 : g.Ops.length = o.Ops.length
  case neg => rw [if_pos (lenne h2)]; congr 1; exact (decide_eq_false fun h => h2 h.2.1).symm
  rw [if_neg (leneq h2), levels_same0 g o wg wo]
  by_cases h3 : ∀ e ∈ g.Ops, ∃ e2 ∈ o.Ops, matchO g o e e2
  case neg => rw [if_neg h3]; simp -implicitDefEqProofs only [Option.bind_eq_bind, Option.bind_some]; congr 1; exact (decide_eq_false fun h => h3 h.2.2.1).symm
  rw [if_pos h3]
  simp -implicitDefEqProofs only [Option.bind_eq_bind, Option.bind_some]
  rw [levels_same1 g o wg wo]
  by_cases h4 : ∀ e ∈ g.Joins, cntJ g g e = cntJ o g e
  case neg => rw [if_neg h4]; simp -implicitDefEqProofs only [Option.bind_some]; congr 1; exact (decide_eq_false fun h => h4 h.2.2.2).symm
  rw [if_pos h4]
  simp -implicitDefEqProofs only [Option.bind_some]
  congr 1
  exact (decide_eq_true (show sameG g o from ⟨h1, h2, h3, h4⟩)).symm
end Go.Proofs.Ytakmilmckdllfaa.G
set_option linter.unusedVariables false
set_option linter.unusedSimpArgs false
namespace Go.Proofs.Ytakmilmckdllfaa.G
open Classical

theorem ref18_same1 (g o : T_levels_Levels) (wg : WellG g) (wo : WellG o) (i : Nat) (hi : i < g.Ops.length) : M_ref18_Same.l1 ((i : Int), false, 0, as18 g, as18 o) = some (decide (∃ e2 ∈ o.Ops, matchO g o g.Ops[i] e2)) := by
  have hol := wo.ol
  have hoo : (as18 o).Ops.length = o.Ops.length := List.length_map _
  have key : ∀ (post pre : List T_levels_Op) (b : Bool), pre ++ post = o.Ops →
      M_ref18_Same.l1 ((i : Int), b, (pre.length : Int), as18 g, as18 o) = some (b || decide (∃ e2 ∈ post, matchO g o g.Ops[i] e2)) := by
    intro post
    induction post with
    | nil =>
      intro pre b he
      rw [List.append_nil] at he
      rw [M_ref18_Same.l1, if_neg (dge (by dsimp only; rw [hoo, he]; omega))]
      simp
    | cons x post ih =>
      intro pre b he
      have hl : pre.length + (post.length + 1) = o.Ops.length := by rw [← he, List.length_append]; rfl
      have hx : x ∈ o.Ops := by rw [← he]; simp
      rw [M_ref18_Same.l1, if_pos (dlt (by dsimp only; omega))]
      dsimp only
      have hg : getI (as18 o).Ops (pre.length : Int) = some (asO x) := by
        show getI (o.Ops.map asO) _ = _
        rw [← he]; exact getI_map _ _ _ _
      have hgi : i < (as18 g).Ops.length := by show i < (g.Ops.map asO).length; rw [List.length_map]; exact hi
      have hgi2 : (as18 g).Ops[i] = asO g.Ops[i] := List.getElem_map asO
      have hm := List.getElem_mem hi
      rw [getI_nat hgi, hgi2, hg, w64_succ (by omega)]
      simp -implicitDefEqProofs only [Option.bind_eq_bind, Option.bind_some]
      have next : ∀ b : Bool, M_ref18_Same.l1 ((i : Int), b, ((pre.length + 1 : Nat) : Int), as18 g, as18 o) = some (b || decide (∃ e2 ∈ post, matchO g o g.Ops[i] e2)) := by
        intro b
        have := ih (pre ++ [x]) b (by rw [← he, List.append_assoc]; rfl)
        rw [snoc_len] at this
        exact this
      have hex : ∀ P : T_levels_Op → Prop, (∃ e2 ∈ x :: post, P e2) ↔ P x ∨ ∃ e2 ∈ post, P e2 := by
        intro P
        constructor
        · rintro ⟨e2, h, hp⟩
          rcases List.mem_cons.1 h with rfl | h
          · exact .inl hp
          · exact .inr ⟨e2, h, hp⟩
        · rintro (h | ⟨e2, h, hp⟩)
          · exact ⟨x, List.mem_cons_self, h⟩
          · exact ⟨e2, List.mem_cons_of_mem _ h, hp⟩
      cases b with
      | true => rw [if_pos rfl, next]; simp
      | false =>
        rw [if_neg (by decide), Bool.false_or]
        have fin : ∀ c : Bool, (c = true ↔ matchO g o g.Ops[i] x) → M_ref18_Same.l1 ((i : Int), c, ((pre.length + 1 : Nat) : Int), as18 g, as18 o) = some (decide (∃ e2 ∈ x :: post, matchO g o g.Ops[i] e2)) := by
          intro c hc
          rw [next]
          congr 1
          rw [Bool.eq_iff_iff, Bool.or_eq_true, decide_eq_true_eq, decide_eq_true_eq, hex, hc]
        have e1 : (asO g.Ops[i]).Kind = g.Ops[i].Kind := rfl
        have e2 : (asO g.Ops[i]).Own = g.Ops[i].Own := rfl
        have e3 : (asO g.Ops[i]).Conj = g.Ops[i].Conj := rfl
        have e4 : (asO g.Ops[i]).Home = g.Ops[i].Home := rfl
        have f1 : (asO x).Kind = x.Kind := rfl
        have f2 : (asO x).Own = x.Own := rfl
        have f3 : (asO x).Conj = x.Conj := rfl
        have f4 : (asO x).Home = x.Home := rfl
        rw [e1, e2, e3, e4, f1, f2, f3, f4]
        by_cases h1 : g.Ops[i].Kind = x.Kind
        case neg => rw [if_neg (by simpa using h1)]; exact fin false ⟨fun h => (by cases h), fun h => absurd h.1.symm h1⟩
        rw [if_pos (by simpa using h1)]
        by_cases h2 : g.Ops[i].Own = x.Own
        case neg => rw [if_neg (by simpa using h2)]; exact fin false ⟨fun h => (by cases h), fun h => absurd h.2.1.symm h2⟩
        rw [if_pos (by simpa using h2), ref06_List_eq _ _ (wg.ol2 _ hm) (wg.op _ hm)]
        simp -implicitDefEqProofs only [Option.bind_some, decide_eq_true_eq]
        by_cases h3 : g.Ops[i].Conj = x.Conj
        case neg => rw [if_neg h3]; exact fin false ⟨fun h => (by cases h), fun h => absurd h.2.2.2.symm h3⟩
        rw [if_pos h3, ref18_own_eq g _ (wg.oh2 _ hm), ref18_own_eq o _ (wo.oh2 _ hx)]
        simp -implicitDefEqProofs only [Option.bind_some]
        refine fin _ ?_
        rw [beq_iff_eq]
        exact ⟨fun h => ⟨h1.symm, h2.symm, h.symm, h3.symm⟩, fun h => h.2.2.1.symm⟩
  have := key o.Ops [] false (List.nil_append _)
  have t0 : (([] : List T_levels_Op).length : Int) = 0 := rfl
  rw [t0, Bool.false_or] at this
  exact this
theorem ref18_same0 (g o : T_levels_Levels) (wg : WellG g) (wo : WellG o) : M_ref18_Same.l0 (0, as18 g, as18 o) = if ∀ e ∈ g.Ops, ∃ e2 ∈ o.Ops, matchO g o e e2 then some (.brk ()) else some (.ret false) := by
  have hol := wg.ol
  have hgg : (as18 g).Ops.length = g.Ops.length := List.length_map _
  have key : ∀ (post pre : List T_levels_Op), pre ++ post = g.Ops →
      M_ref18_Same.l0 ((pre.length : Int), as18 g, as18 o) = if ∀ e ∈ post, ∃ e2 ∈ o.Ops, matchO g o e e2 then some (.brk ()) else some (.ret false) := by
    intro post
    induction post with
    | nil =>
      intro pre he
      rw [List.append_nil] at he
      rw [M_ref18_Same.l0, if_neg (dge (by dsimp only; rw [hgg, he]; omega)), if_pos (by simp)]
    | cons x post ih =>
      intro pre he
      have hl : pre.length + (post.length + 1) = g.Ops.length := by rw [← he, List.length_append]; rfl
      have hi : pre.length < g.Ops.length := by omega
      have hx : g.Ops[pre.length] = x := by
        have h5 := getI_mid pre x post
        rw [he, getI_nat hi] at h5
        exact Option.some.inj h5
      rw [M_ref18_Same.l0, if_pos (dlt (by dsimp only; omega))]
      dsimp only
      rw [ref18_same1 g o wg wo _ hi, hx, w64_succ (by omega)]
      simp -implicitDefEqProofs only [Option.bind_eq_bind, Option.bind_some, decide_eq_true_eq]
      by_cases hm : ∃ e2 ∈ o.Ops, matchO g o x e2
      · rw [if_pos hm]
        have := ih (pre ++ [x]) (by rw [← he, List.append_assoc]; rfl)
        rw [snoc_len] at this
        rw [this]
        by_cases hh : ∀ e ∈ post, ∃ e2 ∈ o.Ops, matchO g o e e2
        · rw [if_pos hh, if_pos (fun e he => (List.mem_cons.1 he).elim (fun h => h ▸ hm) (hh e))]
        · rw [if_neg hh, if_neg (fun h => hh fun e he => h e (List.mem_cons_of_mem _ he))]
      · rw [if_neg hm, if_neg (fun h => hm (h x List.mem_cons_self))]
  have := key g.Ops [] (List.nil_append _)
  have t0 : (([] : List T_levels_Op).length : Int) = 0 := rfl
  rwa [t0] at this
theorem ref18_joins_eq (x g : T_levels_Levels) (wx : WellG x) (e : T_levels_Join) : M_ref18_joins (as18 x, e.Pred, ownOf g e.Home) = some (cntJ x g e : Int) := by
  have hol := wx.jl
  have hxx : (as18 x).Joins.length = x.Joins.length := List.length_map _
  have key : ∀ (post pre : List T_levels_Join) (n : Nat), pre ++ post = x.Joins → n ≤ pre.length →
      M_ref18_joins.l0 (ownOf g e.Home, (n : Int), (pre.length : Int), as18 x, e.Pred) = some ((n + post.countP fun e2 => decide (matchJ x g e e2) : Nat) : Int) := by
    intro post
    induction post with
    | nil =>
      intro pre n he hn
      rw [List.append_nil] at he
      rw [M_ref18_joins.l0, if_neg (dge (by dsimp only; rw [hxx, he]; omega))]; rfl
    | cons y post ih =>
      intro pre n he hn
      have hl : pre.length + (post.length + 1) = x.Joins.length := by rw [← he, List.length_append]; rfl
      have hy : y ∈ x.Joins := by rw [← he]; simp
      rw [M_ref18_joins.l0, if_pos (dlt (by dsimp only; omega))]
      dsimp only
      have hg : getI (as18 x).Joins (pre.length : Int) = some (asJ y) := by
        show getI (x.Joins.map asJ) _ = _
        rw [← he]; exact getI_map _ _ _ _
      rw [hg, w64_succ (i := pre.length) (by omega), w64_succ (i := n) (by omega)]
      simp -implicitDefEqProofs only [Option.bind_eq_bind, Option.bind_some]
      have e1 : (asJ y).Pred = y.Pred := rfl
      have e4 : (asJ y).Home = y.Home := rfl
      rw [e1, e4, ref06_Same_eq _ _ (wx.jp y hy)]
      simp -implicitDefEqProofs only [Option.bind_some, decide_eq_true_eq]
      rw [List.countP_cons]
      have no : ¬ matchJ x g e y → M_ref18_joins.l0 (ownOf g e.Home, (n : Int), ((pre.length + 1 : Nat) : Int), as18 x, e.Pred) = some ((n + (post.countP (fun e2 => decide (matchJ x g e e2)) + if decide (matchJ x g e y) = true then 1 else 0) : Nat) : Int) := by
        intro hm
        rw [if_neg (by simpa using hm)]
        have := ih (pre ++ [y]) n (by rw [← he, List.append_assoc]; rfl) (by rw [snoc_len]; omega)
        rw [snoc_len] at this
        rw [this]; rfl
      by_cases hp : y.Pred = e.Pred
      · rw [if_pos hp, ref18_own_eq x _ (wx.jh y hy)]
        simp -implicitDefEqProofs only [Option.bind_some]
        by_cases ho : ownOf x y.Home = ownOf g e.Home
        · rw [if_pos (by simpa using ho), if_pos (by simpa using (show matchJ x g e y from ⟨hp, ho⟩))]
          have := ih (pre ++ [y]) (n + 1) (by rw [← he, List.append_assoc]; rfl) (by rw [snoc_len]; omega)
          rw [snoc_len] at this
          rw [this]; congr 2; omega
        · rw [if_neg (by simpa using ho)]
          exact no fun h => ho h.2
      · rw [if_neg hp]
        exact no fun h => hp h.1
  unfold M_ref18_joins
  have h0 := key x.Joins [] 0 (List.nil_append _) (Nat.le_refl _)
  have t0 : (([] : List T_levels_Join).length : Int) = 0 := rfl
  rw [t0, show ((0 : Nat) : Int) = 0 from rfl] at h0
  dsimp only
  rw [h0, Nat.zero_add]; rfl
theorem ref18_same2 (g o : T_levels_Levels) (wg : WellG g) (wo : WellG o) : M_ref18_Same.l2 (0, as18 g, as18 o) = if ∀ e ∈ g.Joins, cntJ g g e = cntJ o g e then some (.brk ()) else some (.ret false) := by
  have hol := wg.jl
  have hgg : (as18 g).Joins.length = g.Joins.length := List.length_map _
  have key : ∀ (post pre : List T_levels_Join), pre ++ post = g.Joins →
      M_ref18_Same.l2 ((pre.length : Int), as18 g, as18 o) = if ∀ e ∈ post, cntJ g g e = cntJ o g e then some (.brk ()) else some (.ret false) := by
    intro post
    induction post with
    | nil =>
      intro pre he
      rw [List.append_nil] at he
      rw [M_ref18_Same.l2, if_neg (dge (by dsimp only; rw [hgg, he]; omega)), if_pos (by simp)]
    | cons x post ih =>
      intro pre he
      have hl : pre.length + (post.length + 1) = g.Joins.length := by rw [← he, List.length_append]; rfl
      have hx : x ∈ g.Joins := by rw [← he]; simp
      rw [M_ref18_Same.l2, if_pos (dlt (by dsimp only; omega))]
      dsimp only
      have hg : getI (as18 g).Joins (pre.length : Int) = some (asJ x) := by
        show getI (g.Joins.map asJ) _ = _
        rw [← he]; exact getI_map _ _ _ _
      have e1 : (asJ x).Pred = x.Pred := rfl
      have e4 : (asJ x).Home = x.Home := rfl
      rw [hg, w64_succ (by omega)]
      simp -implicitDefEqProofs only [Option.bind_eq_bind, Option.bind_some]
      rw [e1, e4, ref18_own_eq g _ (wg.jh x hx)]
      simp -implicitDefEqProofs only [Option.bind_some]
      rw [ref18_joins_eq g g wg x, ref18_joins_eq o g wo x]
      simp -implicitDefEqProofs only [Option.bind_some]
      by_cases hm : cntJ g g x = cntJ o g x
      · rw [if_neg (by simp only [bne_iff_ne, ne_eq]; omega)]
        have := ih (pre ++ [x]) (by rw [← he, List.append_assoc]; rfl)
        rw [snoc_len] at this
        rw [this]
        by_cases hh : ∀ e ∈ post, cntJ g g e = cntJ o g e
        · rw [if_pos hh, if_pos (fun e he => (List.mem_cons.1 he).elim (fun h => h ▸ hm) (hh e))]
        · rw [if_neg hh, if_neg (fun h => hh fun e he => h e (List.mem_cons_of_mem _ he))]
      · rw [if_pos (by simp only [bne_iff_ne, ne_eq]; omega), if_neg (fun h => hm (h x List.mem_cons_self))]
  have := key g.Joins [] (List.nil_append _)
  have t0 : (([] : List T_levels_Join).length : Int) = 0 := rfl
  rwa [t0] at this
theorem ref18_Same_eq (g o : T_levels_Levels) (wg : WellG g) (wo : WellG o) : M_ref18_Same (as18 g, as18 o) = some (decide (sameG g o)) := by
  unfold M_ref18_Same
  dsimp only
  have hg1 : (as18 g).Joins.length = g.Joins.length := List.length_map _
  have hg2 : (as18 g).Ops.length = g.Ops.length := List.length_map _
  have ho1 : (as18 o).Joins.length = o.Joins.length := List.length_map _
  have ho2 : (as18 o).Ops.length = o.Ops.length := List.length_map _
  rw [hg1, hg2, ho1, ho2]
  by_cases h1 : g.Joins.length = o.Joins.length
  case neg => rw [if_pos (lenne h1)]; congr 1; exact (decide_eq_false fun h => h1 h.1).symm
  rw [if_neg (leneq h1)]
  by_cases h2 : g.Ops.length = o.Ops.length
  case neg => rw [if_pos (lenne h2)]; congr 1; exact (decide_eq_false fun h => h2 h.2.1).symm
  rw [if_neg (leneq h2), ref18_same0 g o wg wo]
  by_cases h3 : ∀ e ∈ g.Ops, ∃ e2 ∈ o.Ops, matchO g o e e2
  case neg => rw [if_neg h3]; simp -implicitDefEqProofs only [Option.bind_eq_bind, Option.bind_some]; congr 1; exact (decide_eq_false fun h => h3 h.2.2.1).symm
  rw [if_pos h3]
  simp -implicitDefEqProofs only [Option.bind_eq_bind, Option.bind_some]
  rw [ref18_same2 g o wg wo]
  by_cases h4 : ∀ e ∈ g.Joins, cntJ g g e = cntJ o g e
  case neg => rw [if_neg h4]; simp -implicitDefEqProofs only [Option.bind_some]; congr 1; exact (decide_eq_false fun h => h4 h.2.2.2).symm
  rw [if_pos h4]
  simp -implicitDefEqProofs only [Option.bind_some]
  congr 1
  exact (decide_eq_true (show sameG g o from ⟨h1, h2, h3, h4⟩)).symm
/- The same list. -/
theorem ref18_List_self (x : T_ref18_Levels) (hJ : x.Joins.length ≤ 1000000) (hO : x.Ops.length ≤ 1000000) (hp : ∀ j ∈ x.Joins, j.Pred.size ≤ 1000000) (hl : ∀ o ∈ x.Ops, o.Conj.length ≤ 1000000) (hc : ∀ o ∈ x.Ops, ∀ p ∈ o.Conj, p.size ≤ 1000000) : M_ref18_List (x, x) = some true := by
  have k0 : ∀ n i, x.Joins.length - i = n → i ≤ x.Joins.length → M_ref18_List.l0 ((i : Int), x, x) = some (.brk ()) := by
    intro n
    induction n with
    | zero => intro i h1 h2; rw [M_ref18_List.l0, if_neg (dge (by dsimp only; omega))]
    | succ n ih =>
      intro i h1 h2
      have hi : i < x.Joins.length := by omega
      rw [M_ref18_List.l0, if_pos (dlt (by dsimp only; omega))]
      dsimp only
      rw [getI_nat hi, w64_succ (by omega)]
      simp -implicitDefEqProofs only [Option.bind_eq_bind, Option.bind_some]
      rw [ref06_Same_eq _ _ (hp _ (List.getElem_mem hi))]
      simp -implicitDefEqProofs only [Option.bind_some, decide_true, if_true, bne_self_eq_false, Bool.false_eq_true, if_false]
      exact ih (i + 1) (by omega) (by omega)
  have k1 : ∀ n i, x.Ops.length - i = n → i ≤ x.Ops.length → M_ref18_List.l1 ((i : Int), x, x) = some (.brk ()) := by
    intro n
    induction n with
    | zero => intro i h1 h2; rw [M_ref18_List.l1, if_neg (dge (by dsimp only; omega))]
    | succ n ih =>
      intro i h1 h2
      have hi : i < x.Ops.length := by omega
      rw [M_ref18_List.l1, if_pos (dlt (by dsimp only; omega))]
      dsimp only
      rw [getI_nat hi, w64_succ (by omega)]
      simp -implicitDefEqProofs only [Option.bind_eq_bind, Option.bind_some]
      rw [ref06_List_eq _ _ (hl _ (List.getElem_mem hi)) (hc _ (List.getElem_mem hi))]
      simp -implicitDefEqProofs only [Option.bind_some, decide_true, if_true, bne_self_eq_false, Bool.false_eq_true, if_false]
      exact ih (i + 1) (by omega) (by omega)
  unfold M_ref18_List
  have a0 := k0 _ 0 rfl (Nat.zero_le _)
  have a1 := k1 _ 0 rfl (Nat.zero_le _)
  rw [show ((0 : Nat) : Int) = 0 from rfl] at a0 a1
  simp -implicitDefEqProofs only [bne_self_eq_false, Bool.false_eq_true, if_false, a0, a1, Option.bind_eq_bind, Option.bind_some]
/- Lying within. -/
theorem within_agree (g : T_levels_Levels) (wg : WellG g) (h : Int) : ∀ (n k : Nat) (i : Int), ((g.Ops.length : Int) - i).toNat = n → k ≤ g.Ops.length → (0 ≤ i → i < (g.Ops.length : Int) → (k : Int) ≤ i) →
    ∃ b, M_ref18_Within (as18 g, i, h) = some b ∧ (M_levels_Within.l0 (i, h, (g.Ops.length : Int), (k : Int), g) >>= fun (o7 : Lp (Unit) (Bool)) => match o7 with | .brk _ => some false | .ret r9 => some r9) = some b := by
  have hgg : (as18 g).Ops.length = g.Ops.length := List.length_map _
  have hol := wg.ol
  intro n
  induction n using Nat.strongRecOn with
  | ind n ih =>
    intro k i hn hk hki
    by_cases h0 : i < 0
    · refine ⟨false, ?_, ?_⟩
      · rw [M_ref18_Within, if_pos (dlt h0)]
      · rw [M_levels_Within.l0]
        dsimp only
        rw [if_pos (dlt h0)]
        by_cases hlt : (k : Int) < (g.Ops.length : Int)
        · rw [if_pos (dlt hlt)]; rfl
        · rw [if_neg (dge hlt)]; rfl
    by_cases h1 : i ≥ (g.Ops.length : Int)
    · refine ⟨false, ?_, ?_⟩
      · rw [M_ref18_Within, if_neg (dge h0)]
        dsimp only
        rw [hgg, if_pos (by simpa using h1)]
      · rw [M_levels_Within.l0]
        dsimp only
        rw [if_neg (dge h0), if_pos (decide_eq_true h1)]
        by_cases hlt : (k : Int) < (g.Ops.length : Int)
        · rw [if_pos (dlt hlt)]; rfl
        · rw [if_neg (dge hlt)]; rfl
    obtain ⟨j, rfl⟩ : ∃ j : Nat, i = j := ⟨i.toNat, by omega⟩
    have hj : j < g.Ops.length := by omega
    have hj2 : j < (as18 g).Ops.length := by rw [hgg]; exact hj
    have e1 : (as18 g).Ops[j] = asO g.Ops[j] := List.getElem_map asO
    have hkj := hki (by omega) (by omega)
    have e2 : (asO g.Ops[j]).Home = g.Ops[j].Home := rfl
    rw [M_ref18_Within, M_levels_Within.l0]
    dsimp only
    have h1' : ¬ decide ((j : Int) ≥ (g.Ops.length : Int)) = true := by simp only [decide_eq_true_eq]; exact h1
    have hkl : (k : Int) < (g.Ops.length : Int) := by omega
    rw [hgg, if_pos (dlt hkl), if_neg (dge h0), if_neg (dge h0), if_neg h1', if_neg h1', getI_nat hj, getI_nat hj2, e1, w64_succ (by omega)]
    simp -implicitDefEqProofs only [Option.bind_eq_bind, Option.bind_some]
    rw [e2]
    by_cases hh : g.Ops[j].Home = h
    · rw [if_pos (by simpa using hh), if_pos (by simpa using hh)]
      exact ⟨true, rfl, rfl⟩
    · rw [if_neg (by simpa using hh), if_neg (by simpa using hh)]
      have hw := wg.oh j hj
      rcases hw with hw | hw
      · rw [hw]
        refine ⟨false, ?_, ?_⟩
        · rw [M_ref18_Within, if_pos (dlt (show (-1 : Int) < 0 by decide))]; rfl
        · rw [M_levels_Within.l0]
          dsimp only
          rw [if_pos (dlt (show (-1 : Int) < 0 by decide))]
          by_cases hlt : ((k + 1 : Nat) : Int) < (g.Ops.length : Int)
          · rw [if_pos (dlt hlt)]; rfl
          · rw [if_neg (dge hlt)]; rfl
      · obtain ⟨b, hb1, hb2⟩ := ih _ (by omega) (k + 1) g.Ops[j].Home rfl (by omega) (fun _ _ => by omega)
        refine ⟨b, ?_, hb2⟩
        rw [hb1]; rfl
theorem within_eq (g : T_levels_Levels) (wg : WellG g) (i h : Int) : ∃ b, M_ref18_Within (as18 g, i, h) = some b ∧ M_levels_Within (g, i, h) = some b := by
  obtain ⟨b, h1, h2⟩ := within_agree g wg h _ 0 i rfl (Nat.zero_le _) (fun h _ => h)
  refine ⟨b, h1, ?_⟩
  unfold M_levels_Within
  rw [← h2]
  rfl
theorem tells_l1 (g : T_levels_Levels) (wg : WellG g) (i : Int) : ∀ (n : Nat) (h : Int), ((g.Ops.length : Int) - h).toNat = n → -1 ≤ h → M_law18_LevelsTells.l1 (i, h, g, as18 g) = some (.brk ()) := by
  have hgg : (as18 g).Ops.length = g.Ops.length := List.length_map _
  have hol := wg.ol
  intro n
  induction n using Nat.strongRecOn with
  | ind n ih =>
    intro h hn h1
    rw [M_law18_LevelsTells.l1]
    dsimp only
    rw [hgg]
    by_cases hlt : h < (g.Ops.length : Int)
    · rw [if_pos (dlt hlt)]
      obtain ⟨b, b1, b2⟩ := within_eq g wg i h
      rw [b1, b2]
      simp -implicitDefEqProofs only [Option.bind_eq_bind, Option.bind_some]
      have := ih _ (by omega) (h + 1) rfl (by omega)
      rw [w64_of (by omega) (by omega), this]
      cases b <;> rfl
    · rw [if_neg (dge hlt)]
theorem tells_l0 (g : T_levels_Levels) (wg : WellG g) : ∀ (n : Nat) (i : Int), ((g.Ops.length : Int) + 1 - i).toNat = n → -1 ≤ i → M_law18_LevelsTells.l0 (i, g, as18 g) = some (.brk ()) := by
  have hgg : (as18 g).Ops.length = g.Ops.length := List.length_map _
  have hol := wg.ol
  intro n
  induction n using Nat.strongRecOn with
  | ind n ih =>
    intro i hn h1
    rw [M_law18_LevelsTells.l0]
    dsimp only
    rw [hgg]
    by_cases hlt : i ≤ (g.Ops.length : Int)
    · rw [if_pos (decide_eq_true hlt), tells_l1 g wg i _ (-1) rfl (by omega)]
      simp -implicitDefEqProofs only [Option.bind_eq_bind, Option.bind_some]
      have := ih _ (by omega) (i + 1) rfl (by omega)
      rw [w64_of (by omega) (by omega), this]
    · rw [if_neg (by simp only [decide_eq_true_eq]; exact hlt)]
theorem levelsTells_plain (q p : T_api_Query) : M_law18_LevelsTells (q, p) = some true := by
  unfold M_law18_LevelsTells
  dsimp only
  rw [law11_Few_eq, law11_Few_eq]
  simp -implicitDefEqProofs only [Option.bind_eq_bind, Option.bind_some, decide_eq_true_eq]
  by_cases s1 : q.Root.size ≤ 600
  case neg => rw [if_neg s1]
  rw [if_pos s1]
  by_cases s2 : p.Root.size ≤ 600
  case neg => rw [if_neg s2]
  rw [if_pos s2]
  obtain ⟨b1, r1, h1⟩ := ref11_Right_eq q s1
  rw [r1]
  simp -implicitDefEqProofs only [Option.bind_some]
  cases b1 with
  | false => rfl
  | true =>
  rw [if_pos rfl]
  obtain ⟨b2, r2, h2⟩ := ref11_Right_eq p s2
  rw [r2]
  simp -implicitDefEqProofs only [Option.bind_some]
  cases b2 with
  | false => rfl
  | true =>
  rw [if_pos rfl]
  have R1 := h1 rfl
  have R2 := h2 rfl
  have O1 := okT R1.node
  have O2 := okT R2.node
  rw [levels_Of_eq O1 (by omega), levels_Of_eq O2 (by omega)]
  simp -implicitDefEqProofs only [Option.bind_some]
  rw [ref18_Of_eq R1.ncols O1 R1.nodup (by omega), ref18_Of_eq R2.ncols O2 R2.nodup (by omega)]
  simp -implicitDefEqProofs only [Option.bind_some]
  have w1 := levOf_well O1 (show q.Root.size ≤ 100000 by omega)
  have w2 := levOf_well O2 (show p.Root.size ≤ 100000 by omega)
  generalize levOf q.Root = g at w1 ⊢
  generalize levOf p.Root = o at w2 ⊢
  rw [law18_As_eq g w1.jl w1.ol]
  simp -implicitDefEqProofs only [Option.bind_some]
  have hs : M_ref18_List (as18 g, as18 g) = some true := by
    refine ref18_List_self _ (by rw [show (as18 g).Joins.length = g.Joins.length from List.length_map _]; exact w1.jl) (by rw [show (as18 g).Ops.length = g.Ops.length from List.length_map _]; exact w1.ol) (fun j hj => ?_) (fun o ho => ?_) (fun o ho => ?_)
    · obtain ⟨y, hy, rfl⟩ := List.mem_map.1 hj; exact w1.jp y hy
    · obtain ⟨y, hy, rfl⟩ := List.mem_map.1 ho; exact w1.ol2 y hy
    · obtain ⟨y, hy, rfl⟩ := List.mem_map.1 ho; exact w1.op y hy
  rw [hs]
  simp -implicitDefEqProofs only [Option.bind_some, if_true]
  rw [levels_Same_eq g o w1 w2, ref18_Same_eq g o w1 w2, levels_Same_eq g g w1 w1, ref18_Same_eq g g w1 w1, tells_l0 g w1 _ (-1) rfl (by omega)]
  simp -implicitDefEqProofs only [Option.bind_some]
  cases decide (sameG g o) <;> cases decide (sameG g g) <;> rfl
end Go.Proofs.Ytakmilmckdllfaa.G
set_option linter.unusedVariables false
set_option linter.unusedSimpArgs false
namespace Go.Proofs.Ytakmilmckdllfaa.G
open Go.ChangeShapes Go.WideShapes Go.ChangeAt Go.RowKit

theorem memOk0 (μ : TypeId → Bool) (w : World) : MemOk gE (mE μ) w := by
  constructor <;> intros <;> simp_all [gE, mE]
theorem imm0 (b n : Nat) : Imm gE b n := ⟨fun l h => by simp [gE] at h, fun id h => by simp [gE] at h⟩

/-- **A law's function that tells true: a call's fact.** -/
theorem Fn.law {P : Program} {f : FuncId} {args : List AV} {vs : Array Value} {w : World} (h : Fn P f args (.bool true)) (hr : Reps gE w args vs) :
    Calls P f vs w fun e w' => e = .returned (.bool true) ∧ Below w.heap.size w w' := by
  have h0 := h (mE fun _ => false)
  refine (callsIn_wide.1 (h0.2.2 gE w vs ⟨fun _ _ _ => rfl, fun _ _ _ => rfl⟩ (memOk0 _ w) hr)).mono ?_
  rintro e w' ⟨v, g', rfl, hs, hm, hv⟩
  rw [hv.atom_inv]
  exact ⟨rfl, hs.os, hs.tape, hs.output, hs.size, fun b hb => hs.same b hb (fun l h => by simp [mE] at h) (fun l h => by simp [mE] at h)⟩

theorem Reps.nil {g : Gh} {w : World} : Reps g w [] #[] := ⟨rfl, fun j c v h => by cases h⟩
theorem Reps.cons {g : Gh} {w : World} {a : AV} {v : Value} {as_ : List AV} {vs : List Value} (h : Rep g w a v) (hs : Reps g w as_ vs.toArray) : Reps g w (a :: as_) (v :: vs).toArray := by
  refine ⟨by have := hs.1; simp at this ⊢; omega, fun j c x hc hx => ?_⟩
  cases j with
  | zero => simp at hc hx; subst hc hx; exact h
  | succ j => simp at hc hx; exact hs.2 j c x hc (by simpa using hx)

/-- A type's value out of its cells. -/
def ofCells (P : Program) (t : TypeId) (cs : List AV) : Option AV :=
  match aggT P t with
  | some true => some (.agg cs)
  | some false => match cs with
    | [c] => some c
    | _ => none
  | none => none
/-- Data of a type: numbers, truths, texts; rows and structs of these. -/
inductive Wt (P : Program) : TypeId → List AV → Prop
  | bool (t : TypeId) (b : Bool) (ht : P.underlying t = some .bool) : Wt P t [.atom (.bool b)]
  | int (t : TypeId) (k : IntKind) (n : Int) (ht : P.underlying t = some (.int k)) (h : k.min ≤ n ∧ n ≤ k.max) : Wt P t [.atom (.int k n)]
  | string (t : TypeId) (s : ByteArray) (ht : P.underlying t = some .string) (h : s.size ≤ maxLen) : Wt P t [.atom (.string s)]
  | slice (t e : TypeId) (es : List AV) (ht : P.underlying t = some (.slice e)) (hl : es.length ≤ maxLen) (h : ∀ x ∈ es, Wt P e x.cells) (hf : ∀ x ∈ es, ofCells P e x.cells = some x) : Wt P t [.slice .foreign es]
  | struct (t : TypeId) (fs : Array Field) (cs : List AV) (ht : P.underlying t = some (.struct fs)) (hl : cs.length = P.cellsOf t) (h : ∀ (i : Nat) (f : Field), fs[i]? = some f → Wt P f.type ((cs.drop f.offset).take (P.cellsOf f.type))) : Wt P t cs
  | array (t e : TypeId) (n : Nat) (cs : List AV) (ht : P.underlying t = some (.array n e)) (hl : cs.length = P.cellsOf t) (h : ∀ i, i < n → Wt P e ((cs.drop (i * P.cellsOf e)).take (P.cellsOf e))) : Wt P t cs

/-- Parts one behind the other. -/
def tiles : Nat → List (Nat × Nat) → Option Nat
  | k, [] => some k
  | k, (o, s) :: l => if o = k then tiles (k + s) l else none
/-- Types of data, and all that are within. -/
def plainT (P : Program) (S : List TypeId) : Bool := S.all fun t => match P.underlying t with
  | some .bool | some (.int _) | some .string => P.cellsOf t == 1
  | some (.slice e) => S.contains e && decide (0 < P.cellsOf e) && P.cellsOf t == 1
  | some (.struct fs) => (fs.all fun f => S.contains f.type) && tiles 0 (fs.toList.map fun f => (f.offset, P.cellsOf f.type)) == some (P.cellsOf t)
  | some (.array n e) => S.contains e && tiles 0 ((List.range n).map fun i => (i * P.cellsOf e, P.cellsOf e)) == some (P.cellsOf t)
  | _ => false

section
variable {H : Type} {enc : TypeId × Value → H} {P : Program} {W : World} {base b0 : Nat} {spare : Nat → Bool} {held : Bool} {r : Reach}

theorem cells?_get {w : World} {a : Addr} {n : Nat} {cs : List Value} (h : w.cells? base a n = some cs) : cs.length = n ∧ ∀ (j : Nat) (v : Value), cs[j]? = some v → w.cell? (a.add j) = some v := by
  unfold World.cells? at h
  split at h
  · have h1 := mapM_some_length h
    refine ⟨by simpa using h1, fun j v hj => ?_⟩
    have hlt : j < n := by rw [← List.length_range (n := n), ← h1]; exact (List.getElem?_eq_some_iff.1 hj).1
    rw [mapM_some_get h j j (by simp [hlt])]; exact hj
  · cases h

/-- Each part of cells that stand for values. -/
def CellsRep (w : World) (as_ : List AV) (cs : List Value) : Prop := as_.length = cs.length ∧ (∀ c ∈ as_, c.one = true) ∧ ∀ (j : Nat) (a : AV) (v : Value), as_[j]? = some a → cs[j]? = some v → Rep gE w a v

theorem tiles_le : ∀ {l : List (Nat × Nat)} {k n : Nat}, tiles k l = some n → k ≤ n := by
  intro l
  induction l with
  | nil => intro k n h; simp [tiles] at h; omega
  | cons x l ih =>
    intro k n h
    obtain ⟨o, s⟩ := x
    simp only [tiles] at h
    split at h
    · have := ih h; omega
    · cases h
theorem tile {w : World} {cs : List Value} {n : Nat} (hn : cs.length = n) : ∀ (l : List (Nat × Nat)) (k : Nat) (Q : Nat → List AV → Prop), tiles k l = some n → (∀ (i o s : Nat), l[i]? = some (o, s) → ∃ as_, CellsRep w as_ ((cs.drop o).take s) ∧ Q i as_) →
    ∃ as_, CellsRep w as_ (cs.drop k) ∧ ∀ (i o s : Nat), l[i]? = some (o, s) → k ≤ o ∧ Q i ((as_.drop (o - k)).take s) := by
  intro l
  induction l with
  | nil =>
    intro k Q h _
    simp [tiles] at h
    subst h
    exact ⟨[], ⟨by simp; omega, by simp, fun j a v h => by simp at h⟩, fun i o s h => by simp at h⟩
  | cons x l ih =>
    intro k Q h hp
    obtain ⟨o, s⟩ := x
    simp only [tiles] at h
    split at h
    · rename_i hok
      subst hok
      have hle := tiles_le h
      obtain ⟨as0, ⟨h1, h2, h3⟩, hq⟩ := hp 0 o s rfl
      obtain ⟨as1, ⟨h4, h5, h6⟩, hq1⟩ := ih (o + s) (fun i => Q (i + 1)) h (fun i o' s' hi => hp (i + 1) o' s' (by simpa using hi))
      have hl0 : as0.length = s := by rw [h1]; simp; omega
      refine ⟨as0 ++ as1, ⟨by simp [hl0, h4]; omega, fun c hc => (List.mem_append.1 hc).elim (h2 c) (h5 c), fun j a v ha hv => ?_⟩, fun i o' s' hi => ?_⟩
      · rw [List.getElem?_drop] at hv
        by_cases hj : j < s
        · rw [List.getElem?_append_left (by omega)] at ha
          exact h3 j a v ha (by rw [List.getElem?_take_of_lt hj, List.getElem?_drop]; exact hv)
        · rw [List.getElem?_append_right (by omega), hl0] at ha
          exact h6 (j - s) a v ha (by rw [List.getElem?_drop, ← hv]; congr 1; omega)
      · cases i with
        | zero =>
          simp at hi
          obtain ⟨rfl, rfl⟩ := hi
          refine ⟨Nat.le_refl _, ?_⟩
          rw [Nat.sub_self, List.drop_zero, List.take_append_of_le_length (by omega), List.take_of_length_le (by omega)]
          exact hq
        | succ i =>
          obtain ⟨h7, h8⟩ := hq1 i o' s' (by simpa using hi)
          refine ⟨by omega, ?_⟩
          have : o' - o = s + (o' - (o + s)) := by omega
          have hd : List.drop (s + (o' - (o + s))) as0 = [] := List.drop_eq_nil_of_le (by omega)
          rw [this, List.drop_append, hd, hl0, List.nil_append, show s + (o' - (o + s)) - s = o' - (o + s) from by omega]
          exact h8
    · cases h

theorem ofCells_cells {t : TypeId} {cs : List AV} {x : AV} (h : ofCells P t cs = some x) (ho : ∀ c ∈ cs, c.one = true) : x.cells = cs := by
  unfold ofCells at h
  split at h
  · injection h with h; subst h; rfl
  · split at h
    · injection h with h; subst h
      rename_i c
      have := ho c (by simp)
      cases c <;> first | rfl | (simp [AV.one] at this)
    · cases h
  · cases h

/-- **What the caller's data is.** -/
theorem reads {S : List TypeId} (hS : plainT P S = true) : ∀ (fuel : Nat) (t : TypeId) (cs : List Value) (x : DataW H × List MemPlace), t ∈ S → DataW.trod enc P W base spare held fuel t cs = some x → ∃ as_, CellsRep W as_ cs ∧ Wt P t as_ ∧ cs.length = P.cellsOf t := by
  intro fuel
  induction fuel with
  | zero => intro t cs x _ h; simp [DataW.trod] at h
  | succ fuel ih =>
    intro t cs x ht h
    have hp := List.all_eq_true.1 hS t ht
    have one1 : ∀ (a : AV) (v : Value), a.one = true → Rep gE W a v → CellsRep W [a] [v] := fun a v ho hr => ⟨rfl, by simpa using ho, fun j a' v' h1 h2 => by
      cases j with
      | zero => simp at h1 h2; subst h1 h2; exact hr
      | succ j => simp at h1⟩
    split at hp
    · rename_i hu
      obtain ⟨b, rfl, _⟩ := DataW.trod_bool hu h
      exact ⟨_, one1 _ _ rfl (.atom (.bool b) rfl), .bool t b hu, by simp at hp ⊢; exact hp.symm⟩
    · rename_i k hu
      obtain ⟨n, rfl, _, hw⟩ := DataW.trod_int hu h
      exact ⟨_, one1 _ _ rfl (.atom (.int k n) rfl), .int t k n hu (by simpa [Lit.wf] using hw), by simp at hp ⊢; exact hp.symm⟩
    · rename_i hu
      obtain ⟨s, rfl, _, hw⟩ := DataW.trod_string hu h
      exact ⟨_, one1 _ _ rfl (.atom (.string s) rfl), .string t s hu hw, by simp at hp ⊢; exact hp.symm⟩
    · rename_i e hu
      simp only [Bool.and_eq_true, decide_eq_true_eq, List.contains_iff_mem, beq_iff_eq] at hp
      obtain ⟨⟨he, hz⟩, hct⟩ := hp
      rcases DataW.trod_slice hu h with ⟨rfl, _⟩ | ⟨a, len, cap, elems, rest, n, hn, rfl, _, hb, hl, hm, hlen, hel, _, _⟩
      · exact ⟨_, one1 _ _ rfl (.nil .foreign none 0 (fun id h => by cases h) (fun h => by cases h)), .slice t e [] hu (by simp) (by simp) (by simp), by simp [hct]⟩
      · obtain rfl : fuel = n := by omega
        -- the elements
        have each : ∀ i, i < len → ∃ (cs : List Value) (as_ : List AV), W.cells? base (a.add (i * P.cellsOf e)) (P.cellsOf e) = some cs ∧ CellsRep W as_ cs ∧ Wt P e as_ ∧ cs.length = P.cellsOf e := by
          intro i hi
          have h1 := hel i hi
          obtain ⟨y, hy⟩ : ∃ y, elems[i]? = some y := ⟨_, List.getElem?_eq_getElem (by omega)⟩
          rw [hy, Option.bind_eq_some_iff] at h1
          obtain ⟨cs, h2, h3⟩ := h1
          obtain ⟨as_, h4, h5, h6⟩ := ih e cs y he h3
          exact ⟨cs, as_, h2, h4, h5, h6⟩
        have fm : ∀ cs, Wt P e cs → ∃ x, ofCells P e cs = some x := by
          intro cs hw
          unfold ofCells aggT
          cases hw with
          | bool t b ht => rw [ht]; exact ⟨_, rfl⟩
          | int t k n ht _ => rw [ht]; exact ⟨_, rfl⟩
          | string t s ht _ => rw [ht]; exact ⟨_, rfl⟩
          | slice t e es ht _ _ _ => rw [ht]; exact ⟨_, rfl⟩
          | struct t fs cs ht _ _ => rw [ht]; exact ⟨_, rfl⟩
          | array t e n cs ht _ _ => rw [ht]; exact ⟨_, rfl⟩
        have each2 : ∀ i, ∃ x : AV, i < len → ∃ cs, W.cells? base (a.add (i * P.cellsOf e)) (P.cellsOf e) = some cs ∧ CellsRep W x.cells cs ∧ Wt P e x.cells ∧ ofCells P e x.cells = some x ∧ x.cells.length = P.cellsOf e := by
          intro i
          by_cases hi : i < len
          · obtain ⟨cs, as_, h1, h2, h3, h4⟩ := each i hi
            obtain ⟨x, hx⟩ := fm as_ h3
            have hxc := ofCells_cells hx h2.2.1
            exact ⟨x, fun _ => ⟨cs, h1, by rw [hxc]; exact h2, by rw [hxc]; exact h3, by rw [hxc]; exact hx, by rw [hxc, h2.1, h4]⟩⟩
          · exact ⟨.undef, fun h => absurd h hi⟩
        obtain ⟨el, hel2⟩ := Classical.axiomOfChoice each2
        have hes : ∀ (i : Nat) (x : AV), ((List.range len).map el)[i]? = some x → i < len ∧ x = el i := by
          intro i x hx
          rw [List.getElem?_map] at hx
          cases hr : (List.range len)[i]? with
          | none => rw [hr] at hx; cases hx
          | some j =>
            rw [hr] at hx; injection hx with hx
            obtain ⟨h1, h2⟩ := List.getElem?_eq_some_iff.1 hr
            simp at h1 h2; subst h2; exact ⟨h1, hx.symm⟩
        have hmem : ∀ x ∈ (List.range len).map el, ∃ i, i < len ∧ x = el i := by
          intro x hx
          obtain ⟨i, hi, rfl⟩ := List.mem_map.1 hx
          exact ⟨i, by simpa using hi, rfl⟩
        refine ⟨[.slice .foreign ((List.range len).map el)], one1 _ _ rfl ?_, .slice t e _ hu (by simp; omega) (fun x hx => ?_) (fun x hx => ?_), by simp [hct]⟩
        · by_cases h0 : len = 0
          · subst h0; exact .nil .foreign _ _ (fun id h => by cases h) (fun h => by cases h)
          · have hspot : a.spot = none := by
              obtain ⟨cs, h1, h2, _, _, h3⟩ := hel2 0 (by omega)
              have hcl : 0 < cs.length := by rw [← h2.1, h3]; exact hz
              have h4 := (cells?_get h1).2 0 _ (List.getElem?_eq_getElem hcl)
              unfold World.cell? at h4
              split at h4
              · split at h4
                · cases h4
                · rename_i hs
                  obtain ⟨b, o, sp⟩ := a
                  cases sp with
                  | none => rfl
                  | some s => simp [Addr.add] at hs
              · cases h4
            obtain ⟨b, o, sp⟩ := a
            dsimp only at hspot
            subst hspot
            have hlm : ((List.range len).map el).length = len := by simp
            have key : Rep gE W (.slice .foreign ((List.range len).map el)) (.slice (some ⟨b, o, none⟩) ((List.range len).map el).length cap) := by
              refine Rep.slice_mk hz (fun x hx => ?_) (fun _ => imm0 _ _) (fun i x hx => ?_) (by rw [hlm]; exact hl) trivial
              · obtain ⟨i, hi, rfl⟩ := hmem x hx
                obtain ⟨cs, _, _, _, _, h3⟩ := hel2 i hi
                exact h3
              · obtain ⟨hi, rfl⟩ := hes i x hx
                obtain ⟨cs, h1, h2, _, _, h3⟩ := hel2 i hi
                refine ⟨h2.2.1, fun j c hj => ?_⟩
                have hlt : j < cs.length := by rw [← h2.1]; exact (List.getElem?_eq_some_iff.1 hj).1
                have h4 := (cells?_get h1).2 j _ (List.getElem?_eq_getElem hlt)
                rw [add_plain, add_plain] at h4
                exact ⟨_, h4, h2.2.2 j c _ hj (List.getElem?_eq_getElem hlt)⟩
            rw [hlm] at key
            exact key
        · obtain ⟨i, hi, rfl⟩ := hmem x hx
          obtain ⟨cs, _, _, h3, _, _⟩ := hel2 i hi
          exact h3
        · obtain ⟨i, hi, rfl⟩ := hmem x hx
          obtain ⟨cs, _, _, _, h3, _⟩ := hel2 i hi
          exact h3
    · rename_i fs hu
      simp only [Bool.and_eq_true, beq_iff_eq] at hp
      obtain ⟨hp1, hp2⟩ := hp
      obtain ⟨xs, n, hn, _, hl, hxl, hf⟩ := DataW.trod_struct hu h
      obtain rfl : fuel = n := by omega
      obtain ⟨as_, h1, h2⟩ := tile (w := W) hl _ 0 (fun i as_ => ∀ f, fs[i]? = some f → Wt P f.type as_) hp2 (fun i o s hi => by
        rw [List.getElem?_map] at hi
        cases hfi : fs.toList[i]? with
        | none => rw [hfi] at hi; cases hi
        | some f =>
          rw [hfi] at hi; injection hi with hi; injection hi with e1 e2; subst e1 e2
          have hfi' : fs[i]? = some f := by simpa using hfi
          have h3 := hf i f hfi'
          obtain ⟨y, hy⟩ : ∃ y, xs[i]? = some y := ⟨_, List.getElem?_eq_getElem (by rw [hxl]; exact (Array.getElem?_eq_some_iff.1 hfi').1)⟩
          rw [hy] at h3
          have hmem : f.type ∈ S := by
            rw [← Array.all_toList] at hp1
            simpa using List.all_eq_true.1 hp1 f (List.mem_of_getElem? hfi)
          obtain ⟨as_, h4, h5, h6⟩ := ih _ _ _ hmem h3
          exact ⟨as_, h4, fun f' hf' => by rw [hfi'] at hf'; injection hf' with hf'; subst hf'; exact h5⟩)
      refine ⟨as_, by simpa using h1, .struct t fs as_ hu (by rw [h1.1]; simpa using hl) (fun i f hfi => ?_), hl⟩
      have := (h2 i f.offset (P.cellsOf f.type) (by simp [hfi])).2 f hfi
      simpa using this
    · rename_i m e hu
      simp only [Bool.and_eq_true, beq_iff_eq, List.contains_iff_mem] at hp
      obtain ⟨hp1, hp2⟩ := hp
      obtain ⟨xs, n, hn, _, hl, hxl, hf⟩ := DataW.trod_array hu h
      obtain rfl : fuel = n := by omega
      obtain ⟨as_, h1, h2⟩ := tile (w := W) hl _ 0 (fun i as_ => Wt P e as_) hp2 (fun i o s hi => by
        rw [List.getElem?_map] at hi
        cases hfi : (List.range m)[i]? with
        | none => rw [hfi] at hi; cases hi
        | some j =>
          rw [hfi] at hi; injection hi with hi; injection hi with e1 e2; subst e1 e2
          obtain ⟨q1, q2⟩ := List.getElem?_eq_some_iff.1 hfi
          simp at q1 q2; subst q2
          have h3 := hf i q1
          obtain ⟨y, hy⟩ : ∃ y, xs[i]? = some y := ⟨_, List.getElem?_eq_getElem (by omega)⟩
          rw [hy] at h3
          obtain ⟨as_, h4, h5, h6⟩ := ih _ _ _ hp1 h3
          exact ⟨as_, h4, h5⟩)
      refine ⟨as_, by simpa using h1, .array t e m as_ hu (by rw [h1.1]; simpa using hl) (fun i hi => ?_), hl⟩
      have := (h2 i (i * P.cellsOf e) (P.cellsOf e) (by simp [hi])).2
      simpa using this
    · cases hp

/-- A parameter. -/
theorem reads_param {S : List TypeId} (hS : plainT P S = true) {t : TypeId} {v : Value} {d : DataW H} {ps : List MemPlace} (ht : t ∈ S) (hval : Value.okWide P W r b0 t v) (hd : DataW.Trod enc P W base spare held t v d ps) : ∃ a as_, Rep gE W a v ∧ Wt P t as_ ∧ ofCells P t as_ = some a := by
  obtain ⟨fuel, hf⟩ := hd
  obtain ⟨as_, ⟨h1, h2, h3⟩, h4, h5⟩ := reads hS fuel t _ _ ht hf
  have single : (∀ cs, v ≠ .agg cs) → (∀ cs, v ≠ .tuple cs) → v.cells = #[v] := by
    intro ha hb
    cases v <;> first | rfl | (exact absurd rfl (ha _)) | (exact absurd rfl (hb _))
  have hp := List.all_eq_true.1 hS t ht
  unfold Value.okWide at hval
  cases hu : P.underlying t with
  | none => rw [hu] at hp; cases hp
  | some dsc =>
    have agg : (∃ cs, v = .agg cs ∧ cs.size = P.cellsOf t ∧ Row.okWide P W r b0 t cs) → aggT P t = some true → ∃ a as_, Rep gE W a v ∧ Wt P t as_ ∧ ofCells P t as_ = some a := by
      rintro ⟨cs, rfl, hsz, _⟩ hag
      refine ⟨.agg as_, as_, .agg as_ cs (by rw [h1]; simp [Value.cells]) h2 (fun j c u hj hu => h3 j c u hj (by simpa [Value.cells] using hu)), h4, ?_⟩
      unfold ofCells
      rw [hag]
    have one1 : aggT P t = some false → P.cellsOf t = 1 → (∃ u, v.cells = #[u] ∧ u = v) → ∃ a as_, Rep gE W a v ∧ Wt P t as_ ∧ ofCells P t as_ = some a := by
      rintro hag hct ⟨u, hu, rfl⟩
      have hl : as_.length = 1 := by rw [h1, hu]; rfl
      obtain ⟨a, rfl⟩ : ∃ a, as_ = [a] := by
        match as_, hl with
        | [a], _ => exact ⟨a, rfl⟩
      refine ⟨a, [a], h3 0 a u rfl (by rw [hu]; rfl), h4, ?_⟩
      unfold ofCells
      rw [hag]
    have scal : aggT P t = some false → Cell.okWide P W r b0 t v → P.cellsOf t = 1 → ∃ a as_, Rep gE W a v ∧ Wt P t as_ ∧ ofCells P t as_ = some a := by
      intro hag hc hct
      have no : ∀ cs, v ≠ .agg cs ∧ v ≠ .tuple cs := by
        intro cs
        refine ⟨fun e => ?_, fun e => ?_⟩ <;>
        · subst e
          simp only [Cell.okWide, Cell.ok, hu] at hc
      exact one1 hag hct ⟨v, single (fun cs => (no cs).1) (fun cs => (no cs).2), rfl⟩
    rw [hu] at hval hp
    have hs : ∀ b, (match dsc with | .struct _ => true | .array _ _ => true | _ => false) = b → aggT P t = some b := by
      intro b hb
      unfold aggT
      simp only [hu]
      cases dsc <;> simp_all
    cases dsc <;> first | (cases hp; done) | (exact agg hval (hs _ rfl)) | skip
    · exact scal (hs _ rfl) hval (by simpa using hp)
    · exact scal (hs _ rfl) hval (by simpa using hp)
    · exact scal (hs _ rfl) hval (by simpa using hp)
    · simp only [Bool.and_eq_true, beq_iff_eq] at hp; exact scal (hs _ rfl) hval hp.2
end
end Go.Proofs.Ytakmilmckdllfaa.G
set_option linter.unusedVariables false
set_option linter.unusedSimpArgs false
namespace Go.Proofs.Ytakmilmckdllfaa.G

def structT (P : Program) (t : TypeId) : Option (List (TypeId × Nat × Nat)) := match P.underlying t with
  | some (.struct fs) => some (fs.toList.map fun f => (f.type, f.offset, P.cellsOf f.type))
  | _ => none
theorem Wt.int_inv {P : Program} {t : TypeId} {k : IntKind} {cs : List AV} (ht : P.underlying t = some (.int k)) (h : Wt P t cs) : ∃ n, cs = [.atom (.int k n)] ∧ k.min ≤ n ∧ n ≤ k.max := by
  cases h <;> rename_i h1 <;> simp_all
theorem Wt.bool_inv {P : Program} {t : TypeId} {cs : List AV} (ht : P.underlying t = some .bool) (h : Wt P t cs) : ∃ b, cs = [.bool b] := by
  cases h <;> rename_i h1 <;> simp_all
theorem Wt.slice_inv {P : Program} {t e : TypeId} {cs : List AV} (ht : P.underlying t = some (.slice e)) (h : Wt P t cs) : ∃ es, cs = [.slice .foreign es] ∧ es.length ≤ maxLen ∧ (∀ x ∈ es, Wt P e x.cells) ∧ ∀ x ∈ es, ofCells P e x.cells = some x := by
  cases h <;> rename_i h1 <;> simp_all
theorem Wt.struct_inv {P : Program} {t : TypeId} {cs : List AV} {l : List (TypeId × Nat × Nat)} (ht : structT P t = some l) (h : Wt P t cs) : cs.length = P.cellsOf t ∧ ∀ (i : Nat) (ty off sz : Nat), l[i]? = some (ty, off, sz) → Wt P ty ((cs.drop off).take sz) := by
  unfold structT at ht
  split at ht
  · rename_i fs hu
    injection ht with ht; subst ht
    cases h <;> rename_i h1 <;> simp_all
    rename_i h2
    intro i ty off sz x hx e1 e2 e3
    subst e1 e2 e3
    exact h2 i x hx
  · cases ht
theorem uncons {α : Type} {cs : List α} {n : Nat} (h : cs.length = n + 1) : ∃ c tl, cs = c :: tl ∧ tl.length = n := by
  cases cs with
  | nil => simp at h
  | cons c tl => exact ⟨c, tl, rfl, by simpa using h⟩
theorem Wt.i64 {P : Program} {t : TypeId} {c : AV} (ht : P.underlying t = some (.int .i64)) (h : Wt P t [c]) : ∃ n, c = .i64 n := by
  obtain ⟨n, hn, _⟩ := h.int_inv ht
  injection hn with hn; exact ⟨n, hn⟩
theorem Wt.b {P : Program} {t : TypeId} {c : AV} (ht : P.underlying t = some .bool) (h : Wt P t [c]) : ∃ n, c = .bool n := by
  obtain ⟨n, hn⟩ := h.bool_inv ht
  injection hn with hn; exact ⟨n, hn⟩
theorem rowsOf {P : Program} {e : TypeId} {α : Type} {f : α → AV} {G : α → Prop} (hagg : ∀ x, ofCells P e (f x).cells = some (f x)) {es : List AV} (h2 : ∀ x ∈ es, ∃ y, x.cells = (f y).cells ∧ G y) (h3 : ∀ x ∈ es, ofCells P e x.cells = some x) : ∃ l : List α, es = l.map f ∧ ∀ x ∈ l, G x := by
  induction es with
  | nil => exact ⟨[], rfl, by simp⟩
  | cons e es ih =>
    obtain ⟨l, rfl, hl⟩ := ih (fun x hx => h2 x (List.mem_cons_of_mem _ hx)) fun x hx => h3 x (List.mem_cons_of_mem _ hx)
    obtain ⟨x, hx, gx⟩ := h2 e (by simp)
    have := h3 e (by simp)
    rw [hx, hagg] at this
    injection this with this
    exact ⟨x :: l, by rw [← this]; rfl, fun y hy => (List.mem_cons.1 hy).elim (fun h => h ▸ gx) (hl y)⟩
theorem structT_field {P : Program} {t : TypeId} {fs : Array Field} {l : List (TypeId × Nat × Nat)} {i ty off sz : Nat} (ht : structT P t = some l) (hu : P.underlying t = some (.struct fs)) (hi : l[i]? = some (ty, off, sz)) : ∃ f, fs[i]? = some f ∧ f.type = ty ∧ f.offset = off ∧ P.cellsOf f.type = sz := by
  unfold structT at ht
  rw [hu] at ht
  injection ht with ht; subst ht
  simp at hi
  obtain ⟨f, hf, h1, h2, h3⟩ := hi
  exact ⟨f, hf, h1, h2, h3⟩
theorem structT_u {P : Program} {t : TypeId} {l : List (TypeId × Nat × Nat)} (ht : structT P t = some l) : ∃ fs, P.underlying t = some (.struct fs) := by
  unfold structT at ht
  split at ht
  · exact ⟨_, by assumption⟩
  · cases ht
theorem all_cells {P : Program} {t : TypeId} {cs : List AV} {a : AV} (h1 : aggT P t = some true) (h2 : ofCells P t cs = some a) : a = .agg cs := by
  unfold ofCells at h2
  rw [h1] at h2
  injection h2 with h2; exact h2.symm
theorem agg_of {P : Program} {t : TypeId} {cs : List AV} (h : aggT P t = some true) : ofCells P t (AV.agg cs).cells = some (.agg cs) := by
  unfold ofCells
  rw [h]; rfl
theorem one_of {P : Program} {t : TypeId} {a : AV} (h : aggT P t = some false) (hc : a.cells = [a]) : ofCells P t a.cells = some a := by
  unfold ofCells
  rw [h, hc]
end Go.Proofs.Ytakmilmckdllfaa.G
set_option linter.unusedVariables false
set_option linter.unusedSimpArgs false
set_option maxRecDepth 100000
namespace Go.Proofs.Ytakmilmckdllfaa.G
theorem wt_s22 {cs : List AV} (h : Wt Try.prog 22 cs) : ∃ l : List Int, cs = [.slice .foreign (l.map AV.i64)] ∧ l.length < 9223372036854775808 := by
  obtain ⟨es, hn, h1, h2, h3⟩ := h.slice_inv (show Try.prog.underlying 22 = some (.slice 3) by kernel_rfl)
  subst hn
  have hd : ∀ cs, Wt Try.prog 3 cs → ∃ y, cs = (AV.i64 y).cells ∧ True := fun cs hc => let ⟨x, hx, _⟩ := hc.int_inv (show Try.prog.underlying 3 = some (.int .i64) by kernel_rfl); ⟨x, hx, trivial⟩
  obtain ⟨l, rfl, _⟩ := rowsOf (P := Try.prog) (f := AV.i64) (G := fun _ => True) (fun x => one_of (by kernel_rfl) rfl) (fun x hx => hd _ (h2 x hx)) h3
  exact ⟨l, rfl, by simp [maxLen] at h1; omega⟩
theorem st_T_api_Value : structT Try.prog 38 = some [(4, 0, 1), (2, 1, 1)] := by kernel_rfl
theorem wt_T_api_Value {cs : List AV} (h : Wt Try.prog 38 cs) : ∃ x : T_api_Value, cs = x.C := by
  obtain ⟨hl, hf⟩ := h.struct_inv st_T_api_Value
  rw [show Try.prog.cellsOf 38 = 2 by kernel_rfl] at hl
  obtain ⟨c0, d0, rfl, hn0⟩ := uncons hl
  obtain ⟨c1, d1, rfl, hn1⟩ := uncons hn0
  obtain rfl := List.length_eq_zero_iff.1 hn1
  obtain ⟨v0, rfl⟩ := Wt.b (show Try.prog.underlying 4 = some (.bool) by kernel_rfl) (show Wt Try.prog 4 [c0] from hf 0 _ _ _ rfl)
  obtain ⟨v1, rfl⟩ := Wt.i64 (show Try.prog.underlying 2 = some (.int .i64) by kernel_rfl) (show Wt Try.prog 2 [c1] from hf 1 _ _ _ rfl)
  exact ⟨⟨v0, v1⟩, rfl⟩
theorem st_T_api_Term : structT Try.prog 40 = some [(3, 0, 1), (3, 1, 1), (3, 2, 1), (38, 3, 2)] := by kernel_rfl
theorem wt_T_api_Term {cs : List AV} (h : Wt Try.prog 40 cs) : ∃ x : T_api_Term, cs = x.C := by
  obtain ⟨hl, hf⟩ := h.struct_inv st_T_api_Term
  rw [show Try.prog.cellsOf 40 = 5 by kernel_rfl] at hl
  obtain ⟨c0, d0, rfl, hn0⟩ := uncons hl
  obtain ⟨c1, d1, rfl, hn1⟩ := uncons hn0
  obtain ⟨c2, d2, rfl, hn2⟩ := uncons hn1
  obtain ⟨c3, d3, rfl, hn3⟩ := uncons hn2
  obtain ⟨c4, d4, rfl, hn4⟩ := uncons hn3
  obtain rfl := List.length_eq_zero_iff.1 hn4
  obtain ⟨v0, rfl⟩ := Wt.i64 (show Try.prog.underlying 3 = some (.int .i64) by kernel_rfl) (show Wt Try.prog 3 [c0] from hf 0 _ _ _ rfl)
  obtain ⟨v1, rfl⟩ := Wt.i64 (show Try.prog.underlying 3 = some (.int .i64) by kernel_rfl) (show Wt Try.prog 3 [c1] from hf 1 _ _ _ rfl)
  obtain ⟨v2, rfl⟩ := Wt.i64 (show Try.prog.underlying 3 = some (.int .i64) by kernel_rfl) (show Wt Try.prog 3 [c2] from hf 2 _ _ _ rfl)
  obtain ⟨v3, hv3⟩ := wt_T_api_Value (show Wt Try.prog 38 [c3, c4] from hf 3 _ _ _ rfl); simp only [T_api_Value.C, List.cons.injEq, and_true] at hv3; obtain ⟨rfl, rfl⟩ := hv3
  exact ⟨⟨v0, v1, v2, v3⟩, rfl⟩
theorem st_T_api_Pred : structT Try.prog 42 = some [(3, 0, 1), (3, 1, 1), (3, 2, 1), (40, 3, 5), (40, 8, 5), (33, 13, 1)] := by kernel_rfl
theorem wt_T_api_Pred' {t : TypeId} {cs : List AV} (h : Wt Try.prog t cs) : (t = 42 → ∃ x : T_api_Pred, cs = x.C) ∧ (t = 33 → ∃ xs : List T_api_Pred, cs = [.slice .foreign (xs.map T_api_Pred.av)] ∧ xs.length < 9223372036854775808) := by
  obtain ⟨fs, hfs⟩ := structT_u st_T_api_Pred
  have hs33 : Try.prog.underlying 33 = some (.slice 42) := by kernel_rfl
  induction h with
  | bool t b ht => exact ⟨fun h => by (subst h; rw [hfs] at ht; cases ht), fun h => by (subst h; rw [hs33] at ht; cases ht)⟩
  | int t b n ht => exact ⟨fun h => by (subst h; rw [hfs] at ht; cases ht), fun h => by (subst h; rw [hs33] at ht; cases ht)⟩
  | string t b ht => exact ⟨fun h => by (subst h; rw [hfs] at ht; cases ht), fun h => by (subst h; rw [hs33] at ht; cases ht)⟩
  | array t b n cs ht => exact ⟨fun h => by (subst h; rw [hfs] at ht; cases ht), fun h => by (subst h; rw [hs33] at ht; cases ht)⟩
  | slice t e es ht hl h hf ih =>
    refine ⟨fun h => by (subst h; rw [hfs] at ht; cases ht), fun h => ?_⟩
    · subst h
      rw [hs33] at ht
      injection ht with ht; injection ht with ht; subst ht
      obtain ⟨l, rfl, _⟩ := rowsOf (P := Try.prog) (f := T_api_Pred.av) (G := fun _ => True) (fun x => by rw [T_api_Pred.av_eq]; exact agg_of (by kernel_rfl)) (fun x hx => let ⟨y, hy⟩ := (ih x hx).1 rfl; ⟨y, by rw [hy, T_api_Pred.av_eq]; rfl, trivial⟩) hf
      exact ⟨l, rfl, by simp [maxLen] at hl; omega⟩
  | struct t fs' cs ht hl h ih =>
    refine ⟨fun e => ?_, fun h => by (subst h; rw [hs33] at ht; cases ht)⟩
    subst e
    obtain ⟨_, hf⟩ := (Wt.struct _ _ _ ht hl h).struct_inv st_T_api_Pred
    obtain ⟨f5, g1, g2, g3, g4⟩ := structT_field (i := 5) st_T_api_Pred ht rfl
    have hr5 := (ih 5 f5 g1).2 g2
    rw [g3, g4] at hr5
    clear g1 g2 g3 g4
    clear ih h
    rw [show Try.prog.cellsOf 42 = 14 by kernel_rfl] at hl
    obtain ⟨c0, d0, rfl, hn0⟩ := uncons hl
    obtain ⟨c1, d1, rfl, hn1⟩ := uncons hn0
    obtain ⟨c2, d2, rfl, hn2⟩ := uncons hn1
    obtain ⟨c3, d3, rfl, hn3⟩ := uncons hn2
    obtain ⟨c4, d4, rfl, hn4⟩ := uncons hn3
    obtain ⟨c5, d5, rfl, hn5⟩ := uncons hn4
    obtain ⟨c6, d6, rfl, hn6⟩ := uncons hn5
    obtain ⟨c7, d7, rfl, hn7⟩ := uncons hn6
    obtain ⟨c8, d8, rfl, hn8⟩ := uncons hn7
    obtain ⟨c9, d9, rfl, hn9⟩ := uncons hn8
    obtain ⟨c10, d10, rfl, hn10⟩ := uncons hn9
    obtain ⟨c11, d11, rfl, hn11⟩ := uncons hn10
    obtain ⟨c12, d12, rfl, hn12⟩ := uncons hn11
    obtain ⟨c13, d13, rfl, hn13⟩ := uncons hn12
    obtain rfl := List.length_eq_zero_iff.1 hn13
    obtain ⟨v0, rfl⟩ := Wt.i64 (show Try.prog.underlying 3 = some (.int .i64) by kernel_rfl) (show Wt Try.prog 3 [c0] from hf 0 _ _ _ rfl)
    obtain ⟨v1, rfl⟩ := Wt.i64 (show Try.prog.underlying 3 = some (.int .i64) by kernel_rfl) (show Wt Try.prog 3 [c1] from hf 1 _ _ _ rfl)
    obtain ⟨v2, rfl⟩ := Wt.i64 (show Try.prog.underlying 3 = some (.int .i64) by kernel_rfl) (show Wt Try.prog 3 [c2] from hf 2 _ _ _ rfl)
    obtain ⟨v3, hv3⟩ := wt_T_api_Term (show Wt Try.prog 40 [c3, c4, c5, c6, c7] from hf 3 _ _ _ rfl); simp only [T_api_Term.C, List.cons.injEq, and_true] at hv3; obtain ⟨rfl, rfl, rfl, rfl, rfl⟩ := hv3
    obtain ⟨v4, hv4⟩ := wt_T_api_Term (show Wt Try.prog 40 [c8, c9, c10, c11, c12] from hf 4 _ _ _ rfl); simp only [T_api_Term.C, List.cons.injEq, and_true] at hv4; obtain ⟨rfl, rfl, rfl, rfl, rfl⟩ := hv4
    obtain ⟨v5, ev5, _⟩ := hr5
    have ev5 : [c13] = _ := ev5
    injection ev5 with ev5; subst ev5
    exact ⟨⟨v0, v1, v2, v3, v4, v5⟩, rfl⟩
theorem wt_s33 {cs : List AV} (h : Wt Try.prog 33 cs) : ∃ l : List T_api_Pred, cs = [.slice .foreign (l.map T_api_Pred.av)] ∧ l.length < 9223372036854775808 := (wt_T_api_Pred' h).2 rfl
theorem st_T_api_Tree : structT Try.prog 55 = some [(3, 0, 1), (3, 1, 1), (53, 2, 1), (33, 3, 1), (4, 4, 1)] := by kernel_rfl
theorem wt_T_api_Tree' {t : TypeId} {cs : List AV} (h : Wt Try.prog t cs) : (t = 55 → ∃ x : T_api_Tree, cs = x.C) ∧ (t = 53 → ∃ xs : List T_api_Tree, cs = [.slice .foreign (xs.map T_api_Tree.av)] ∧ xs.length < 9223372036854775808) := by
  obtain ⟨fs, hfs⟩ := structT_u st_T_api_Tree
  have hs53 : Try.prog.underlying 53 = some (.slice 55) := by kernel_rfl
  induction h with
  | bool t b ht => exact ⟨fun h => by (subst h; rw [hfs] at ht; cases ht), fun h => by (subst h; rw [hs53] at ht; cases ht)⟩
  | int t b n ht => exact ⟨fun h => by (subst h; rw [hfs] at ht; cases ht), fun h => by (subst h; rw [hs53] at ht; cases ht)⟩
  | string t b ht => exact ⟨fun h => by (subst h; rw [hfs] at ht; cases ht), fun h => by (subst h; rw [hs53] at ht; cases ht)⟩
  | array t b n cs ht => exact ⟨fun h => by (subst h; rw [hfs] at ht; cases ht), fun h => by (subst h; rw [hs53] at ht; cases ht)⟩
  | slice t e es ht hl h hf ih =>
    refine ⟨fun h => by (subst h; rw [hfs] at ht; cases ht), fun h => ?_⟩
    · subst h
      rw [hs53] at ht
      injection ht with ht; injection ht with ht; subst ht
      obtain ⟨l, rfl, _⟩ := rowsOf (P := Try.prog) (f := T_api_Tree.av) (G := fun _ => True) (fun x => by rw [T_api_Tree.av_eq]; exact agg_of (by kernel_rfl)) (fun x hx => let ⟨y, hy⟩ := (ih x hx).1 rfl; ⟨y, by rw [hy, T_api_Tree.av_eq]; rfl, trivial⟩) hf
      exact ⟨l, rfl, by simp [maxLen] at hl; omega⟩
  | struct t fs' cs ht hl h ih =>
    refine ⟨fun e => ?_, fun h => by (subst h; rw [hs53] at ht; cases ht)⟩
    subst e
    obtain ⟨_, hf⟩ := (Wt.struct _ _ _ ht hl h).struct_inv st_T_api_Tree
    obtain ⟨f2, g1, g2, g3, g4⟩ := structT_field (i := 2) st_T_api_Tree ht rfl
    have hr2 := (ih 2 f2 g1).2 g2
    rw [g3, g4] at hr2
    clear g1 g2 g3 g4
    clear ih h
    rw [show Try.prog.cellsOf 55 = 5 by kernel_rfl] at hl
    obtain ⟨c0, d0, rfl, hn0⟩ := uncons hl
    obtain ⟨c1, d1, rfl, hn1⟩ := uncons hn0
    obtain ⟨c2, d2, rfl, hn2⟩ := uncons hn1
    obtain ⟨c3, d3, rfl, hn3⟩ := uncons hn2
    obtain ⟨c4, d4, rfl, hn4⟩ := uncons hn3
    obtain rfl := List.length_eq_zero_iff.1 hn4
    obtain ⟨v0, rfl⟩ := Wt.i64 (show Try.prog.underlying 3 = some (.int .i64) by kernel_rfl) (show Wt Try.prog 3 [c0] from hf 0 _ _ _ rfl)
    obtain ⟨v1, rfl⟩ := Wt.i64 (show Try.prog.underlying 3 = some (.int .i64) by kernel_rfl) (show Wt Try.prog 3 [c1] from hf 1 _ _ _ rfl)
    obtain ⟨v2, ev2, _⟩ := hr2
    have ev2 : [c2] = _ := ev2
    injection ev2 with ev2; subst ev2
    obtain ⟨v3, e, _⟩ := wt_s33 (show Wt Try.prog 33 [c3] from hf 3 _ _ _ rfl); injection e with e; subst e
    obtain ⟨v4, rfl⟩ := Wt.b (show Try.prog.underlying 4 = some (.bool) by kernel_rfl) (show Wt Try.prog 4 [c4] from hf 4 _ _ _ rfl)
    exact ⟨⟨v0, v1, v2, v3, v4⟩, rfl⟩
theorem wt_T_api_Tree {cs : List AV} (h : Wt Try.prog 55 cs) : ∃ x : T_api_Tree, cs = x.C := (wt_T_api_Tree' h).1 rfl
theorem st_T_api_Query : structT Try.prog 57 = some [(22, 0, 1), (55, 1, 5)] := by kernel_rfl
theorem wt_T_api_Query {cs : List AV} (h : Wt Try.prog 57 cs) : ∃ x : T_api_Query, cs = x.C := by
  obtain ⟨hl, hf⟩ := h.struct_inv st_T_api_Query
  rw [show Try.prog.cellsOf 57 = 6 by kernel_rfl] at hl
  obtain ⟨c0, d0, rfl, hn0⟩ := uncons hl
  obtain ⟨c1, d1, rfl, hn1⟩ := uncons hn0
  obtain ⟨c2, d2, rfl, hn2⟩ := uncons hn1
  obtain ⟨c3, d3, rfl, hn3⟩ := uncons hn2
  obtain ⟨c4, d4, rfl, hn4⟩ := uncons hn3
  obtain ⟨c5, d5, rfl, hn5⟩ := uncons hn4
  obtain rfl := List.length_eq_zero_iff.1 hn5
  obtain ⟨v0, e, _⟩ := wt_s22 (show Wt Try.prog 22 [c0] from hf 0 _ _ _ rfl); injection e with e; subst e
  obtain ⟨v1, hv1⟩ := wt_T_api_Tree (show Wt Try.prog 55 [c1, c2, c3, c4, c5] from hf 1 _ _ _ rfl); simp only [T_api_Tree.C, List.cons.injEq, and_true] at hv1; obtain ⟨rfl, rfl, rfl, rfl, rfl⟩ := hv1
  exact ⟨⟨v0, v1⟩, rfl⟩
end Go.Proofs.Ytakmilmckdllfaa.G
namespace Go.Proofs.Ytakmilmckdllfaa.LevelsTells
open Go.ChangeShapes Go.WideShapes Go.ChangeAt Go.RowKit Go.Proofs.Ytakmilmckdllfaa.G
set_option linter.unusedVariables false
theorem own : ownKnob Try.prog.godebug = none := by kernel_rfl
theorem laidOut : laidOutB Try.prog = true := by kernel_rfl
set_option maxRecDepth 100000 in
theorem lifted (os : Os) (started : os.Started) (H : Type) (enc : TypeId × Value → H) :
    ReturnsInHanded {} Try.checked os 6 .any (Rows.levelsTellsSpec.pre6 enc Try.prog Try.f6 Rows.levelsTellsRow.domain false) (Rows.levelsTellsSpec.post enc Try.prog Try.f6 false true false false) := by
  refine returnsInHanded_of_change_sized (C := Try.checked) own started (by kernel_rfl) Try.func6
    (ChangeSpec.witness6 (enc := enc) (C := Try.checked) false ⟨#[], #[.agg #[.slice none 0 0, .int .i64 0, .int .i64 0, .slice none 0 0, .slice none 0 0, .bool false], .agg #[.slice none 0 0, .int .i64 0, .int .i64 0, .slice none 0 0, .slice none 0 0, .bool false]], []⟩ 30 (by kernel_rfl) (by kernel_rfl) (by kernel_rfl) (by kernel_rfl)) ?_
  intro W base args ds gs before hval0 hW hcnd hsz0 _
  have hval : ∀ (j : Nat) t v, Try.f6.params[j]? = some t → args[j]? = some v → Value.okWide Try.prog W .any base t v := hval0
  have hW' := hW
  obtain ⟨p, q, hA0, hV, rfl, hfz, hnd⟩ := hW
  have hA : DataW.TrodAll enc Try.prog W 0 (fun _ => true) true Try.f6.params.toList args.toList ds p := hA0
  rw [Try.params6] at hA hval
  obtain ⟨u0, vs0, d0, ds0, p0, q0, hargs, rfl, rfl, h0, r0⟩ := trodAll_cons hA
  obtain ⟨u1, vs1, d1, ds1, p1, q1, rfl, rfl, rfl, h1, r1⟩ := trodAll_cons r0
  obtain ⟨rfl, rfl, rfl⟩ := trodAll_nil r1
  obtain rfl : args = #[u0, u1] := by cases args; simp_all
  obtain ⟨rfl, rfl⟩ := trodVars_none hV
  have lt0 : ∀ x ∈ p0, x.block < W.heap.size := by obtain ⟨m, hm⟩ := h0; exact DataW.trod_lt m _ _ _ hm
  have lt1 : ∀ x ∈ p1, x.block < W.heap.size := by obtain ⟨m, hm⟩ := h1; exact DataW.trod_lt m _ _ _ hm
  have hS : plainT Try.prog [57, 22, 3, 55, 53, 33, 42, 40, 38, 4, 2] = true := by kernel_rfl
  obtain ⟨a0, as0, rep0, wt0, of0⟩ := reads_param hS (by simp) (hval 0 57 u0 rfl rfl) h0
  obtain ⟨a1, as1, rep1, wt1, of1⟩ := reads_param hS (by simp) (hval 1 57 u1 rfl rfl) h1
  obtain rfl := all_cells (by kernel_rfl) of0
  obtain ⟨x0, rfl⟩ := wt_T_api_Query wt0
  obtain rfl := all_cells (by kernel_rfl) of1
  obtain ⟨x1, rfl⟩ := wt_T_api_Query wt1
  refine ((M_law18_LevelsTells.w (x0, x1) true (levelsTells_plain x0 x1)).law (.cons rep0 (.cons rep1 .nil))).mono fun e W' ⟨he, bel⟩ => ?_
  subst he
  exact ⟨_, rfl, _, _, _, [], _, [], hW', trodAll_mk1 (shut_bool Try.underlying4 _), (trodAll_cons_mk (Below.trod laidOut (by kernel_rfl) (of_decide_eq_true (by kernel_rfl)) h0 bel lt0) (trodAll_cons_mk (Below.trod laidOut (by kernel_rfl) (of_decide_eq_true (by kernel_rfl)) h1 bel lt1) trodAll_mk0)), rfl, bel.frame _, fun h => by cases h⟩
theorem over : Rows.levelsTellsRow.holds Try.pinned (OpenSpec.ofChange Rows.levelsTellsSpec) :=
  OpenClaim.holds_of_wide 6 Try.f6 rfl rfl rfl rfl rfl rfl rfl ⟨rfl, rfl, rfl, rfl, rfl⟩ rfl rfl rfl rfl rfl (by kernel_rfl) Try.func6 (by kernel_rfl)
    (of_decide_eq_true (by kernel_rfl)) (by unfold Func.isWrapper; first | (rw [if_pos (by decide +kernel)]; kernel_rfl) | (rw [if_neg (by decide +kernel)]; exact ⟨rfl, rfl⟩))
    (fun os started H enc _ => lifted os started H enc)
end Go.Proofs.Ytakmilmckdllfaa.LevelsTells
namespace Go.Proofs.Ytakmilmckdllfaa
/-- The row, under a short name, for the claim. -/
theorem levelsTells_holds : Rows.LevelsTellsSaid := LevelsTells.over
end Go.Proofs.Ytakmilmckdllfaa
