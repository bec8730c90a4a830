/-
Part 5 of the proof of CostTells: merged by mkclaim.py (a program of this repo) out of texts of wip/g and printed models.
-/
import Derived.Test.YtcfekacmmfdggaaCostTells4
import Derived.KernelRfl
set_option linter.unusedVariables false
set_option linter.unusedSimpArgs false
namespace Go.Proofs.Ytcfekacmmfdggaa.G

/- Tables that are not seen. -/
def hides (e : T_api_Edge) : Bool := e.Kind == 3 || e.Kind == 4
def hiddenS (l : List T_api_Edge) : Set64 := l.foldl (fun s e => if hides e = true then s ||| e.Right else s) 0#64
theorem foldl_hides (l : List T_api_Edge) : ∀ s, l.foldl (fun s e => if hides e = true then s ||| e.Right else s) s = s ||| hiddenS l := by
  have : ∀ (l : List T_api_Edge) (s : Set64), l.foldl (fun s e => if hides e = true then s ||| e.Right else s) s = s ||| l.foldl (fun s e => if hides e = true then s ||| e.Right else s) 0#64 := by
    intro l
    induction l with
    | nil => intro s; simp
    | cons x l ih =>
      intro s
      simp only [List.foldl_cons]
      split
      · rw [ih (s ||| x.Right), ih (0#64 ||| x.Right), BitVec.zero_or, BitVec.or_assoc]
      · exact ih s
  exact this l
theorem hiddenS_cons (x : T_api_Edge) (l : List T_api_Edge) : hiddenS (x :: l) = (if hides x = true then x.Right else 0#64) ||| hiddenS l := by
  unfold hiddenS
  simp only [List.foldl_cons]
  rw [foldl_hides]
  split <;> simp <;> rfl
theorem hiddenS_lsb (l : List T_api_Edge) (i : Nat) : (hiddenS l).getLsbD i = l.any fun e => hides e && e.Right.getLsbD i := by
  induction l with
  | nil => simp [hiddenS]
  | cons x l ih =>
    rw [hiddenS_cons, BitVec.getLsbD_or, ih, List.any_cons]
    cases hides x <;> simp
theorem guess_Hidden_eq (l : List T_api_Edge) (hl : l.length < 9223372036854775808) : M_guess_Hidden l = some (hiddenS l) := by
  have key := loop_all l (fun i (s : Set64) => M_guess_Hidden.l0 (s, l, (l.length : Int), (i : Int))) (fun s l => some (l.foldl (fun s e => if hides e = true then s ||| e.Right else s) s)) (fun s => by
      show M_guess_Hidden.l0 _ = _
      rw [M_guess_Hidden.l0, if_neg (dge (by dsimp only; omega))]; rfl)
    (fun i s h ih => by
      show M_guess_Hidden.l0 _ = _
      rw [M_guess_Hidden.l0, if_pos (dlt (by dsimp only; omega))]
      dsimp only
      rw [getI_nat h]
      simp only [Option.bind_eq_bind, Option.bind_some, List.foldl_cons]
      rw [w64_succ (by omega)]
      try dsimp only at ih
      rw [ih, ih]
      unfold hides
      cases h3 : l[i].Kind == 3 <;> cases h4 : l[i].Kind == 4 <;> simp) 0#64
  unfold M_guess_Hidden
  have key' : M_guess_Hidden.l0 (0#64, l, (l.length : Int), 0) = some (hiddenS l) := key
  rw [key']; rfl
def found (b : Bool) : Lp Unit Bool := bif b then .ret true else .brk ()
theorem ref27_hidden_eq (l : List T_api_Edge) (hl : l.length < 9223372036854775808) (k : Nat) (hk : k < 64) : M_ref27_hidden (l, (k : Int)) = some ((hiddenS l).getLsbD k) := by
  have key := loop_all l (fun i (_ : Unit) => M_ref27_hidden.l0 (l, (k : Int), (i : Int))) (fun _ l => some (found (l.any fun e => hides e && e.Right.getLsbD k))) (fun s => by
      show M_ref27_hidden.l0 _ = _
      rw [M_ref27_hidden.l0, if_neg (dge (by dsimp only; omega))]; rfl)
    (fun i s h ih => by
      show M_ref27_hidden.l0 _ = _
      rw [M_ref27_hidden.l0, if_pos (dlt (by dsimp only; omega))]
      dsimp only
      rw [getI_nat h]
      simp only [Option.bind_eq_bind, Option.bind_some]
      rw [w64_succ (by omega)]
      have ih := ih ()
      try dsimp only at ih
      rw [ih, ref01_Has_eq, hasI_nat _ _ hk, List.any_cons]
      simp only [Option.bind_some]
      generalize (l.drop (i + 1)).any _ = R
      have e : hides l[i] = (l[i].Kind == 3 || l[i].Kind == 4) := rfl
      rw [e]
      cases (l[i].Kind == 3) <;> cases (l[i].Kind == 4) <;> cases l[i].Right.getLsbD k <;> cases R <;> rfl) ()
  unfold M_ref27_hidden
  have key' : M_ref27_hidden.l0 (l, (k : Int), 0) = _ := key
  dsimp only
  rw [key', ← hiddenS_lsb]
  simp only [Option.bind_eq_bind, Option.bind_some]
  cases (hiddenS l).getLsbD k <;> rfl
theorem ref27_Hidden_eq (l : List T_api_Edge) (hl : l.length < 9223372036854775808) : M_ref27_Hidden l = some (hiddenS l) := by
  have key : ∀ n i, 64 - i = n → i ≤ 64 → M_ref27_Hidden.l0 (l, (((List.range i).filter fun j => (hiddenS l).getLsbD j).map fun (j : Nat) => (j : Int)), (i : Int)) = some (memb (hiddenS l)) := by
    intro n
    induction n with
    | zero =>
      intro i h1 h2
      obtain rfl : i = 64 := by omega
      rw [M_ref27_Hidden.l0, if_neg (dge (by dsimp only; omega))]; rfl
    | succ n ih =>
      intro i h1 h2
      rw [M_ref27_Hidden.l0, if_pos (dlt (by dsimp only; omega))]
      dsimp only
      rw [ref27_hidden_eq l hl i (by omega)]
      simp only [Option.bind_eq_bind, Option.bind_some]
      have ih := ih (i + 1) (by omega) (by omega)
      rw [List.range_succ, List.filter_append] at ih
      rw [w64_succ (by omega)]
      have hlen : (((List.range i).filter fun j => (hiddenS l).getLsbD j).map fun (j : Nat) => (j : Int)).length ≤ 64 := by
        rw [List.length_map]; exact Nat.le_trans (List.length_filter_le _ _) (by simp; omega)
      cases hb : (hiddenS l).getLsbD i with
      | true =>
        rw [if_pos rfl, room_of (by simp only [List.length_cons, List.length_nil]; omega)]
        simp only [Option.bind_some]
        simp [hb] at ih ⊢
        exact ih
      | false =>
        rw [if_neg (by simp)]
        simp [hb] at ih ⊢
        exact ih
  unfold M_ref27_Hidden
  have h := key 64 0 (by omega) (by omega)
  have h' : M_ref27_Hidden.l0 (l, ([] : List Int), 0) = some (memb (hiddenS l)) := h
  rw [h']
  simp only [Option.bind_eq_bind, Option.bind_some]
  have hml : (memb (hiddenS l)).length ≤ 64 := by
    unfold memb
    rw [List.length_map]; exact Nat.le_trans (List.length_filter_le _ _) (by simp)
  rw [ref01_Of_eq _ (by omega)]
  simp only [Option.bind_some]
  congr 1
  apply BitVec.eq_of_getLsbD_eq
  intro j hj
  rw [ofL_lsb _ j hj]
  unfold memb
  rw [Bool.eq_iff_iff, List.any_eq_true]
  constructor
  · rintro ⟨x, hx, he⟩
    obtain ⟨k, hk, rfl⟩ := List.mem_map.1 hx
    have he := of_decide_eq_true he
    obtain rfl : k = j := by omega
    exact (List.mem_filter.1 hk).2
  · intro h
    exact ⟨(j : Int), List.mem_map.2 ⟨j, List.mem_filter.2 ⟨by simpa using hj, h⟩, rfl⟩, by simp⟩

/- How many rows are guessed. -/
def mulStep (rows : List Set64) (s : Set64) (n : Set64) (i : Nat) : Set64 := if s.getLsbD i = true ∧ i < rows.length then satN (n.toNat * (rows.getD i 0#64).toNat) else n
def selStep (set : Set64) (n : Set64) (p : T_api_Edge × Set64) : Set64 := if inS p.1.Uses set = true then satN (n.toNat * p.2.toNat / 65536) else n
def rowsS (l : List T_api_Edge) (st : T_api_Stats) (set : Set64) : Set64 := wmax 1#64 ((l.zip st.Sel).foldl (selStep set) ((List.range 64).foldl (mulStep st.Rows (set &&& ~~~hiddenS l)) 1#64))
theorem sets_List_eq (s : Set64) : M_sets_List s = some (memb s) := by
  have key : ∀ (l acc : List Int), acc.length + l.length ≤ 1000000 → M_sets_List.r0 (l, acc) = some (acc ++ l) := by
    intro l
    induction l with
    | nil => intro acc _; rw [M_sets_List.r0]; simp
    | cons x l ih =>
      intro acc h
      rw [M_sets_List.r0]
      dsimp only
      simp only [List.length_cons] at h
      rw [room_of (by simp only [List.length_cons, List.length_nil]; omega)]
      simp only [Option.bind_eq_bind, Option.bind_some]
      rw [ih _ (by simp; omega)]
      simp
  unfold M_sets_List M_sets_members
  have hml : (memb s).length ≤ 64 := by
    unfold memb
    rw [List.length_map]; exact Nat.le_trans (List.length_filter_le _ _) (by simp)
  simp only [Option.bind_eq_bind, Option.bind_some]
  rw [key _ _ (by simp; omega)]; rfl
theorem guess_product_eq (l : List Set64) (hl : l.length < 9223372036854775808) : M_guess_product l = some (l.foldl (fun n x => satN (n.toNat * x.toNat)) 1#64) := by
  have key := loop_all l (fun i (s : Set64) => M_guess_product.l0 (s, l, (l.length : Int), (i : Int))) (fun s l => some (l.foldl (fun n x => satN (n.toNat * x.toNat)) s)) (fun s => by
      show M_guess_product.l0 _ = _
      rw [M_guess_product.l0, if_neg (dge (by dsimp only; omega))]; rfl)
    (fun i s h ih => by
      show M_guess_product.l0 _ = _
      rw [M_guess_product.l0, if_pos (dlt (by dsimp only; omega))]
      dsimp only
      rw [getI_nat h]
      simp only [Option.bind_eq_bind, Option.bind_some, sat_Mul_eq]
      rw [w64_succ (by omega)]
      exact ih _) 1#64
  unfold M_guess_product
  have key' : M_guess_product.l0 (1#64, l, (l.length : Int), 0) = _ := key
  rw [key']; rfl
def pickRow (rows : List Set64) (e : Int) : Option Set64 := if e < (rows.length : Int) then getI rows e else none
theorem guess_Rows_l0 (l : List T_api_Edge) (st : T_api_Stats) (set : Set64) (ms : List Int) (hm : ∀ e ∈ ms, 0 ≤ e) (hl : ms.length ≤ 1000000) : M_guess_Rows.l0 (([] : List Set64), ms, (ms.length : Int), 0, l, st, set) = some (ms.filterMap (pickRow st.Rows)) := by
  have := loop_inv ms (fun i acc => acc.length ≤ i) (fun i (acc : List Set64) => M_guess_Rows.l0 (acc, ms, (ms.length : Int), (i : Int), l, st, set)) (fun acc l => some (acc ++ l.filterMap (pickRow st.Rows)))
    (fun acc ha => by
      show M_guess_Rows.l0 _ = _
      rw [M_guess_Rows.l0, if_neg (dge (by dsimp only; omega))]
      simp)
    (fun i acc h ha ih2 => by
      show M_guess_Rows.l0 _ = _
      rw [M_guess_Rows.l0, if_pos (dlt (by dsimp only; omega))]
      dsimp only
      rw [getI_nat h]
      simp only [Option.bind_eq_bind, Option.bind_some]
      rw [w64_succ (by omega)]
      have h0 := hm _ (List.getElem_mem h)
      by_cases hx : ms[i] < (st.Rows.length : Int)
      · rw [if_pos (dlt hx)]
        obtain ⟨k, hk⟩ : ∃ k : Nat, ms[i] = k := ⟨ms[i].toNat, by omega⟩
        have hkl : k < st.Rows.length := by omega
        rw [hk, getI_nat hkl]
        simp only [Option.bind_some]
        rw [room_of (by simp; omega)]
        simp only [Option.bind_some]
        have := ih2 (acc ++ [st.Rows[k]]) (by simp; omega)
        try dsimp only at this
        rw [this, List.filterMap_cons]
        have e : pickRow st.Rows (k : Int) = some st.Rows[k] := by unfold pickRow; rw [if_pos (by omega), getI_nat hkl]
        rw [e]; simp
      · rw [if_neg (dge hx)]
        have := ih2 acc (by omega)
        try dsimp only at this
        rw [this, List.filterMap_cons]
        have e : pickRow st.Rows ms[i] = none := by unfold pickRow; rw [if_neg hx]
        rw [e]) 0 [] (Nat.zero_le _) (by simp)
  rw [List.drop_zero, List.nil_append] at this
  exact this
theorem foldl_pick (rows : List Set64) (s : Set64) : ∀ (is : List Nat) (n : Set64), (((is.filter fun i => s.getLsbD i).map fun (i : Nat) => (i : Int)).filterMap (pickRow rows)).foldl (fun n x => satN (n.toNat * x.toNat)) n = is.foldl (mulStep rows s) n := by
  intro is
  induction is with
  | nil => intro n; rfl
  | cons i is ih =>
    intro n
    simp only [List.foldl_cons]
    cases hb : s.getLsbD i with
    | false =>
      rw [List.filter_cons_of_neg (by simp [hb]), ih]
      unfold mulStep; rw [hb]; simp
    | true =>
      rw [List.filter_cons_of_pos hb, List.map_cons, List.filterMap_cons]
      by_cases hl : i < rows.length
      · have e : pickRow rows (i : Int) = some rows[i] := by unfold pickRow; rw [if_pos (by omega), getI_nat hl]
        rw [e]
        simp only [List.foldl_cons, ih]
        have e2 : mulStep rows s n i = satN (n.toNat * rows[i].toNat) := by
          unfold mulStep; rw [if_pos ⟨hb, hl⟩]; simp [List.getD_eq_getElem?_getD, List.getElem?_eq_getElem hl]
        rw [e2]
      · have e : pickRow rows (i : Int) = none := by unfold pickRow; rw [if_neg (by omega)]
        rw [e]
        simp only [ih]
        have e2 : mulStep rows s n i = n := by unfold mulStep; rw [if_neg (fun h => hl h.2)]
        rw [e2]
theorem foldl_sel_past (set : Set64) (l : List T_api_Edge) (sel : List Set64) (i : Nat) (h : sel.length ≤ i) (n : Set64) : ((l.drop i).zip (sel.drop i)).foldl (selStep set) n = n := by
  rw [List.drop_eq_nil_of_le h, List.zip_nil_right]; rfl
theorem guess_Rows_l1 (l : List T_api_Edge) (st : T_api_Stats) (set : Set64) (n : Set64) (hl : l.length < 9223372036854775808) : M_guess_Rows.l1 (n, (l.length : Int), 0, l, st, set) = some ((l.zip st.Sel).foldl (selStep set) n) := by
  have key : ∀ k i n, l.length - i = k → i ≤ l.length → M_guess_Rows.l1 (n, (l.length : Int), (i : Int), l, st, set) = some (((l.drop i).zip (st.Sel.drop i)).foldl (selStep set) n) := by
    intro k
    induction k with
    | zero =>
      intro i n h1 h2
      obtain rfl : i = l.length := by omega
      rw [M_guess_Rows.l1, if_neg (dge (by dsimp only; omega)), List.drop_length]; rfl
    | succ k ih =>
      intro i n h1 h2
      have h : i < l.length := by omega
      rw [M_guess_Rows.l1, if_pos (dlt (by dsimp only; omega))]
      dsimp only
      unfold M_guess_Rows_1
      dsimp only
      rw [getI_nat h, w64_succ (by omega), List.drop_eq_getElem_cons h]
      simp only [Option.bind_eq_bind, Option.bind_some]
      by_cases hs : i < st.Sel.length
      · rw [if_pos (dlt (by omega)), List.drop_eq_getElem_cons hs, getI_nat hs]
        have e : M_sets_In (l[i].Uses, set) = some (inS l[i].Uses set) := rfl
        rw [e]
        simp only [Option.bind_some, sat_Share_eq, List.zip_cons_cons, List.foldl_cons]
        rw [ih (i + 1) _ (by omega) (by omega), ih (i + 1) _ (by omega) (by omega)]
        unfold selStep
        cases inS l[i].Uses set <;> rfl
      · rw [if_neg (dge (by omega))]
        simp only [Option.bind_some]
        rw [if_neg (by simp), ih (i + 1) _ (by omega) (by omega), foldl_sel_past _ _ _ _ (by omega), List.drop_eq_nil_of_le (show st.Sel.length ≤ i by omega), List.zip_nil_right]; rfl
  exact key l.length 0 n (by omega) (by omega)
theorem memb_nonneg (s : Set64) : ∀ e ∈ memb s, 0 ≤ e := by
  intro e he
  obtain ⟨k, _, rfl⟩ := List.mem_map.1 he
  omega
theorem memb_len (s : Set64) : (memb s).length ≤ 64 := by
  unfold memb
  rw [List.length_map]; exact Nat.le_trans (List.length_filter_le _ _) (by simp)
theorem guess_Rows_eq (l : List T_api_Edge) (st : T_api_Stats) (set : Set64) (hl : l.length < 9223372036854775808) : M_guess_Rows (l, st, set) = some (rowsS l st set) := by
  unfold M_guess_Rows
  dsimp only
  rw [guess_Hidden_eq l hl]
  simp only [Option.bind_eq_bind, Option.bind_some, sets_List_eq]
  have hml := memb_len (set &&& ~~~hiddenS l)
  rw [guess_Rows_l0 l st set _ (memb_nonneg _) (by omega)]
  simp only [Option.bind_some]
  have hfl : ((memb (set &&& ~~~hiddenS l)).filterMap (pickRow st.Rows)).length ≤ 64 := Nat.le_trans (List.length_filterMap_le _ _) hml
  rw [guess_product_eq _ (by omega)]
  simp only [Option.bind_some]
  rw [guess_Rows_l1 l st set _ hl]
  simp only [Option.bind_some]
  unfold rowsS memb
  rw [foldl_pick]
theorem ref27_Rows_l0 (l : List T_api_Edge) (st : T_api_Stats) (set : Set64) (hl : l.length < 9223372036854775808) : M_ref27_Rows.l0 (l, set, 1#64, 0, st) = some ((List.range 64).foldl (mulStep st.Rows (set &&& ~~~hiddenS l)) 1#64) := by
  have past : ∀ (k i : Nat) (n : Set64), st.Rows.length ≤ i → (List.range' i k).foldl (mulStep st.Rows (set &&& ~~~hiddenS l)) n = n := by
    intro k
    induction k with
    | zero => intro i n _; rfl
    | succ k ih =>
      intro i n h
      rw [List.range'_succ, List.foldl_cons]
      have : mulStep st.Rows (set &&& ~~~hiddenS l) n i = n := by unfold mulStep; rw [if_neg (by omega)]
      rw [this]; exact ih (i + 1) n (by omega)
  have key : ∀ (k i : Nat) (n : Set64), 64 - i = k → i ≤ 64 → M_ref27_Rows.l0 (l, set, n, (i : Int), st) = some ((List.range' i k).foldl (mulStep st.Rows (set &&& ~~~hiddenS l)) n) := by
    intro k
    induction k with
    | zero =>
      intro i n h1 h2
      obtain rfl : i = 64 := by omega
      rw [M_ref27_Rows.l0, if_neg (dge (by dsimp only; omega))]; rfl
    | succ k ih =>
      intro i n h1 h2
      have hi : i < 64 := by omega
      rw [M_ref27_Rows.l0, if_pos (dlt (by dsimp only; omega))]
      dsimp only
      by_cases hs : i < st.Rows.length
      · rw [if_pos (dlt (by omega)), ref01_Has_eq, hasI_nat _ _ hi, ref27_hidden_eq l hl i hi, getI_nat hs, w64_succ (by omega), List.range'_succ, List.foldl_cons]
        simp only [Option.bind_eq_bind, Option.bind_some, ref02_Mul_eq]
        rw [ih (i + 1) _ (by omega) (by omega), ih (i + 1) _ (by omega) (by omega)]
        have e : mulStep st.Rows (set &&& ~~~hiddenS l) n i = if set.getLsbD i = true then (if (hiddenS l).getLsbD i = true then n else satN (n.toNat * st.Rows[i].toNat)) else n := by
          unfold mulStep
          simp only [BitVec.getLsbD_and, BitVec.getLsbD_not, hi, decide_true, Bool.true_and, hs, and_true]
          have eg : st.Rows.getD i 0#64 = st.Rows[i] := by simp [List.getD_eq_getElem?_getD, List.getElem?_eq_getElem hs]
          rw [eg]
          cases set.getLsbD i <;> cases (hiddenS l).getLsbD i <;> simp
        rw [e]
        cases set.getLsbD i <;> cases (hiddenS l).getLsbD i <;> simp
      · rw [if_neg (dge (by omega)), past _ _ _ (by omega)]
  have := key 64 0 1#64 (by omega) (by omega)
  rw [List.range_eq_range']; exact this
theorem ref27_Rows_l1 (l : List T_api_Edge) (st : T_api_Stats) (set : Set64) (n : Set64) (hl : l.length < 9223372036854775808) : M_ref27_Rows.l1 (l, set, n, 0, st) = some ((l.zip st.Sel).foldl (selStep set) n) := by
  have key : ∀ k i n, l.length - i = k → i ≤ l.length → M_ref27_Rows.l1 (l, set, n, (i : Int), st) = some (((l.drop i).zip (st.Sel.drop i)).foldl (selStep set) n) := by
    intro k
    induction k with
    | zero =>
      intro i n h1 h2
      obtain rfl : i = l.length := by omega
      rw [M_ref27_Rows.l1, if_neg (dge (by dsimp only; omega)), List.drop_length]; rfl
    | succ k ih =>
      intro i n h1 h2
      have h : i < l.length := by omega
      rw [M_ref27_Rows.l1, if_pos (dlt (by dsimp only; omega))]
      dsimp only
      by_cases hs : i < st.Sel.length
      · rw [if_pos (dlt (by omega)), getI_nat h, getI_nat hs, w64_succ (by omega), List.drop_eq_getElem_cons h, List.drop_eq_getElem_cons hs]
        simp only [Option.bind_eq_bind, Option.bind_some, ref01_In_eq, ref02_Share_eq, List.zip_cons_cons, List.foldl_cons]
        rw [ih (i + 1) _ (by omega) (by omega), ih (i + 1) _ (by omega) (by omega)]
        unfold selStep
        cases inS l[i].Uses set <;> rfl
      · rw [if_neg (dge (by omega)), foldl_sel_past _ _ _ _ (by omega)]
  exact key l.length 0 n (by omega) (by omega)
theorem ref27_Rows_eq (l : List T_api_Edge) (st : T_api_Stats) (set : Set64) (hl : l.length < 9223372036854775808) : M_ref27_Rows (l, st, set) = some (rowsS l st set) := by
  unfold M_ref27_Rows rowsS
  dsimp only
  rw [ref27_Rows_l0 l st set hl]
  simp only [Option.bind_eq_bind, Option.bind_some]
  rw [ref27_Rows_l1 l st set _ hl]
  simp only [Option.bind_some]
  generalize List.foldl (selStep set) _ _ = z
  unfold wmax
  by_cases h : z = 0#64
  · subst h; decide
  · rw [if_neg (by simpa using h)]
    by_cases h1 : z > 1#64
    · rw [if_pos h1]
    · rw [if_neg h1]
      congr 1
      apply BitVec.eq_of_toNat_eq
      have h1 : ¬ (1#64).toNat < z.toNat := h1
      have h2 : z.toNat ≠ 0 := fun e => h (BitVec.eq_of_toNat_eq (by simpa using e))
      simp only [BitVec.toNat_ofNat] at h1 ⊢; omega
end Go.Proofs.Ytcfekacmmfdggaa.G
set_option linter.unusedVariables false
set_option linter.unusedSimpArgs false
namespace Go.Proofs.Ytcfekacmmfdggaa.G

def keyOf (a b : Set64) (p : T_api_Pred) : Option A2_T_api_Term :=
  if p.Kind = 2 ∧ p.Op = 1 ∧ p.A.Kind = 1 ∧ p.B.Kind = 1 then
    (if hasI a p.A.Table = true ∧ hasI b p.B.Table = true then some ⟨p.A, p.B⟩ else if hasI a p.B.Table = true ∧ hasI b p.A.Table = true then some ⟨p.B, p.A⟩ else none)
  else none
theorem keyOf_neg {a b : Set64} {p : T_api_Pred} (h : ¬ (p.Kind = 2 ∧ p.Op = 1 ∧ p.A.Kind = 1 ∧ p.B.Kind = 1)) : keyOf a b p = none := if_neg h
theorem keyOf_pos {a b : Set64} {p : T_api_Pred} (h : p.Kind = 2 ∧ p.Op = 1 ∧ p.A.Kind = 1 ∧ p.B.Kind = 1) : keyOf a b p = (bif hasI a p.A.Table && hasI b p.B.Table then some ⟨p.A, p.B⟩ else bif hasI a p.B.Table && hasI b p.A.Table then some ⟨p.B, p.A⟩ else none) := by
  unfold keyOf
  rw [if_pos h]
  cases hasI a p.A.Table <;> cases hasI b p.B.Table <;> cases hasI a p.B.Table <;> cases hasI b p.A.Table <;> simp
def keysS (conj : List T_api_Pred) (a b : Set64) : List A2_T_api_Term := conj.filterMap (keyOf a b)
theorem hash_Keys_eq (conj : List T_api_Pred) (a b : Set64) (hl : conj.length ≤ 1000000000) : M_hash_Keys (conj, a, b) = some (keysS conj a b) := by
  have key := loop_inv conj (fun i acc => acc.length ≤ i) (fun i (acc : List A2_T_api_Term) => M_hash_Keys.l0 (a, b, acc, conj, (conj.length : Int), (i : Int))) (fun acc l => some (acc ++ l.filterMap (keyOf a b)))
    (fun acc ha => by
      show M_hash_Keys.l0 _ = _
      rw [M_hash_Keys.l0, if_neg (dge (by dsimp only; omega))]
      simp)
    (fun i acc h ha ih => by
      show M_hash_Keys.l0 _ = _
      rw [M_hash_Keys.l0, if_pos (dlt (by dsimp only; omega))]
      dsimp only
      rw [getI_nat h, List.filterMap_cons]
      simp only [Option.bind_eq_bind, Option.bind_some, sets_Has_eq]
      rw [w64_succ (by omega)]
      try dsimp only at ih
      have i0 := ih acc (by omega)
      have i1 := fun t => ih (acc ++ [t]) (by simp; omega)
      have rm : ∀ t : A2_T_api_Term, room 80 acc [t] = some (acc ++ [t]) := fun t => room_of (by simp; omega)
      simp only [i0, i1, rm, Option.bind_some]
      by_cases c1 : conj[i].Kind = 2
      · by_cases c2 : conj[i].Op = 1
        · by_cases c3 : conj[i].A.Kind = 1
          · by_cases c4 : conj[i].B.Kind = 1
            · rw [if_neg (by simpa using c1), if_neg (by simpa using c2), if_neg (by simpa using c3), if_neg (by simpa using c4), keyOf_pos ⟨c1, c2, c3, c4⟩]
              cases hasI a conj[i].A.Table <;> cases hasI b conj[i].B.Table <;> cases hasI a conj[i].B.Table <;> cases hasI b conj[i].A.Table <;> simp
            · rw [if_neg (by simpa using c1), if_neg (by simpa using c2), if_neg (by simpa using c3), if_pos (by simpa using c4), keyOf_neg (fun h => c4 h.2.2.2)]
          · rw [if_neg (by simpa using c1), if_neg (by simpa using c2), if_pos (by simpa using c3), keyOf_neg (fun h => c3 h.2.2.1)]
        · rw [if_neg (by simpa using c1), if_pos (by simpa using c2), keyOf_neg (fun h => c2 h.2.1)]
      · rw [if_pos (by simpa using c1), keyOf_neg (fun h => c1 h.1)]) 0 [] (Nat.zero_le _) (by simp)
  unfold M_hash_Keys
  rw [List.drop_zero, List.nil_append] at key
  have key' : M_hash_Keys.l0 (a, b, ([] : List A2_T_api_Term), conj, (conj.length : Int), 0) = some (keysS conj a b) := key
  dsimp only
  rw [key']; rfl
theorem ref15_Keys_eq (conj : List T_api_Pred) (a b : Set64) (hl : conj.length ≤ 1000000000) : M_ref15_Keys (conj, a, b) = some (keysS conj a b) := by
  have key := loop_inv conj (fun i acc => acc.length ≤ i) (fun i (acc : List A2_T_api_Term) => M_ref15_Keys.l0 (conj, a, b, acc, (i : Int))) (fun acc l => some (acc ++ l.filterMap (keyOf a b)))
    (fun acc ha => by
      show M_ref15_Keys.l0 _ = _
      rw [M_ref15_Keys.l0, if_neg (dge (by dsimp only; omega))]
      simp)
    (fun i acc h ha ih => by
      show M_ref15_Keys.l0 _ = _
      rw [M_ref15_Keys.l0, if_pos (dlt (by dsimp only; omega))]
      dsimp only
      rw [getI_nat h, List.filterMap_cons]
      simp only [Option.bind_eq_bind, Option.bind_some, ref01_Has_eq]
      rw [w64_succ (by omega)]
      try dsimp only at ih
      have i0 := ih acc (by omega)
      have i1 := fun t => ih (acc ++ [t]) (by simp; omega)
      have rm : ∀ t : A2_T_api_Term, room 80 acc [t] = some (acc ++ [t]) := fun t => room_of (by simp; omega)
      simp only [i0, i1, rm, Option.bind_some]
      by_cases c1 : conj[i].Kind = 2
      · by_cases c2 : conj[i].Op = 1
        · by_cases c3 : conj[i].A.Kind = 1
          · by_cases c4 : conj[i].B.Kind = 1
            · rw [if_neg (by simpa using c1), if_neg (by simpa using c2), if_neg (by simpa using c3), if_neg (by simpa using c4), keyOf_pos ⟨c1, c2, c3, c4⟩]
              cases hasI a conj[i].A.Table <;> cases hasI b conj[i].B.Table <;> cases hasI a conj[i].B.Table <;> cases hasI b conj[i].A.Table <;> simp
            · rw [if_neg (by simpa using c1), if_neg (by simpa using c2), if_neg (by simpa using c3), if_pos (by simpa using c4), keyOf_neg (fun h => c4 h.2.2.2)]
          · rw [if_neg (by simpa using c1), if_neg (by simpa using c2), if_pos (by simpa using c3), keyOf_neg (fun h => c3 h.2.2.1)]
        · rw [if_neg (by simpa using c1), if_pos (by simpa using c2), keyOf_neg (fun h => c2 h.2.1)]
      · rw [if_pos (by simpa using c1), keyOf_neg (fun h => c1 h.1)]) 0 [] (Nat.zero_le _) (by simp)
  unfold M_ref15_Keys
  rw [List.drop_zero, List.nil_append] at key
  have key' : M_ref15_Keys.l0 (conj, a, b, ([] : List A2_T_api_Term), 0) = some (keysS conj a b) := key
  dsimp only
  rw [key']; rfl

/-- Are two sets joined by keys. -/
def keyedS (k : Int) (l : List T_api_Edge) (a b : Set64) (conj : List T_api_Pred) : Bool := k == 2 && decide (0 < (keysS conj (a &&& ~~~hiddenS l) (b &&& ~~~hiddenS l)).length)
/-- What joining two sets costs. -/
def nodeS (k : Int) (l : List T_api_Edge) (st : T_api_Stats) (a b : Set64) (conj : List T_api_Pred) : Set64 :=
  if k = 2 then (if keyedS k l a b conj = true then satN ((rowsS l st a).toNat + (rowsS l st b).toNat + (rowsS l st (a ||| b)).toNat) else satN ((rowsS l st a).toNat * (rowsS l st b).toNat + (rowsS l st (a ||| b)).toNat)) else rowsS l st (a ||| b)
section
variable (m : T_cost_Model) (r : T_ref28_Model) (a b : Set64) (conj : List T_api_Pred)
theorem cost_Keyed_eq (hE : m.Edges.length < 9223372036854775808) (hl : conj.length ≤ 1000000000) : M_cost_Model_Keyed (m, a, b, conj) = some (keyedS m.Kind m.Edges a b conj) := by
  unfold M_cost_Model_Keyed keyedS
  dsimp only
  rw [guess_Hidden_eq _ hE]
  simp only [Option.bind_eq_bind, Option.bind_some, hash_Keys_eq _ _ _ hl]
  by_cases h : m.Kind = 2
  · rw [if_pos (by simpa using h)]
    simp [h]
  · rw [if_neg (by simpa using h)]
    simp [h]
theorem ref28_Keyed_eq (hE : r.Edges.length < 9223372036854775808) (hl : conj.length ≤ 1000000000) : M_ref28_Model_Keyed (r, a, b, conj) = some (keyedS r.Kind r.Edges a b conj) := by
  unfold M_ref28_Model_Keyed keyedS
  dsimp only
  rw [ref27_Hidden_eq _ hE]
  simp only [Option.bind_eq_bind, Option.bind_some, ref15_Keys_eq _ _ _ hl]
  by_cases h : r.Kind = 2
  · rw [if_pos (by simpa using h)]
    simp [h]
  · rw [if_neg (by simpa using h)]
    simp [h]
theorem satN_add' (m n : Nat) : satN (n + (satN m).toNat) = satN (m + n) := by rw [Nat.add_comm, satN_add]
theorem cost_Node_eq (hE : m.Edges.length < 9223372036854775808) (hl : conj.length ≤ 1000000000) : M_cost_Model_Node (m, a, b, conj) = some (nodeS m.Kind m.Edges m.Stats a b conj) := by
  unfold M_cost_Model_Node M_cost_Model_way M_cost_Model_rows nodeS
  dsimp only
  simp -implicitDefEqProofs only [guess_Rows_eq _ _ _ hE, cost_Keyed_eq m a b conj hE hl, Option.bind_eq_bind, Option.bind_some]
  by_cases h : m.Kind = 2
  · rw [if_neg (by simpa using h), if_pos h]
    cases keyedS m.Kind m.Edges a b conj with
    | true =>
      simp -implicitDefEqProofs only [if_true, Option.bind_some]
      rw [if_pos (by decide), sat_Add_eq _ (by simp)]
      simp -implicitDefEqProofs only [Option.bind_some]
      congr 2; simp [sumN]; omega
    | false =>
      simp -implicitDefEqProofs only [Bool.false_eq_true, if_false, Option.bind_some]
      rw [if_neg (by decide), if_pos (by decide), sat_Mul_eq]
      simp -implicitDefEqProofs only [Option.bind_some]
      rw [sat_Add_eq _ (by simp)]
      simp -implicitDefEqProofs only [Option.bind_some]
      congr 1
      rw [← satN_add]
      simp [sumN]
  · rw [if_pos (by simpa using h), if_neg h]
    simp -implicitDefEqProofs only [Option.bind_some]
    rw [if_neg (by decide), if_neg (by decide)]
theorem ref28_Node_eq (hE : r.Edges.length < 9223372036854775808) (hl : conj.length ≤ 1000000000) : M_ref28_Model_Node (r, a, b, conj) = some (nodeS r.Kind r.Edges r.Stats a b conj) := by
  unfold M_ref28_Model_Node M_ref28_Model_rows nodeS
  dsimp only
  simp -implicitDefEqProofs only [ref27_Rows_eq _ _ _ hE, ref28_Keyed_eq r a b conj hE hl, Option.bind_eq_bind, Option.bind_some]
  by_cases h : r.Kind = 2
  · rw [if_pos (by simpa using h), if_pos h]
    cases keyedS r.Kind r.Edges a b conj with
    | true =>
      simp -implicitDefEqProofs only [if_true, ref02_Add_eq, Option.bind_some, satN_add']
    | false =>
      simp -implicitDefEqProofs only [Bool.false_eq_true, if_false, ref02_Mul_eq, ref02_Add_eq, Option.bind_some, satN_add']
  · rw [if_neg (by simpa using h), if_neg h]
end

/-- What a tree costs, by what a join costs. -/
def costS (f : Set64 → Set64 → List T_api_Pred → Set64) : T_api_Tree → Set64
  | ⟨_, _, [x, y], c, _⟩ => satN ((costS f x).toNat + (costS f y).toNat + (f (tabs x) (tabs y) c).toNat)
  | _ => 0#64
theorem costS_two (f : Set64 → Set64 → List T_api_Pred → Set64) {t x y : T_api_Tree} (h : t.Kids = [x, y]) : costS f t = satN ((costS f x).toNat + (costS f y).toNat + (f (tabs x) (tabs y) t.Conj).toNat) := by
  obtain ⟨a, b, ks, c, d⟩ := t
  dsimp only at h
  subst h
  rw [costS]
theorem costS_else (f : Set64 → Set64 → List T_api_Pred → Set64) {t : T_api_Tree} (h : t.Kids.length ≠ 2) : costS f t = 0#64 := by
  obtain ⟨a, b, ks, c, d⟩ := t
  dsimp only at h
  rw [costS]
  rintro a' b' x y c' d' e
  injection e with _ _ e
  subst e
  simp at h
theorem two_kids {t : T_api_Tree} (h : t.Kids.length = 2) : ∃ x y, t.Kids = [x, y] := by
  match hk : t.Kids with
  | [x, y] => exact ⟨x, y, rfl⟩
  | [] => rw [hk] at h; cases h
  | [_] => rw [hk] at h; cases h
  | _ :: _ :: _ :: _ => rw [hk] at h; simp at h
theorem cost_Tree_eq (m : T_cost_Model) (hE : m.Edges.length < 9223372036854775808) (t : T_api_Tree) : t.size ≤ 1000000000 → M_cost_Model_Tree (m, t) = some (costS (nodeS m.Kind m.Edges m.Stats) t) := by
  induction t using T_api_Tree.induct with
  | h t ih =>
    intro hsz
    rw [M_cost_Model_Tree]
    dsimp only
    by_cases h : t.Kids.length = 2
    · obtain ⟨x, y, hk⟩ := two_kids h
      have hx : x ∈ t.Kids := by rw [hk]; simp
      have hy : y ∈ t.Kids := by rw [hk]; simp
      have hcl := conj_len t
      have hxs := kid_size hx
      have hys := kid_size hy
      rw [if_neg (by simp [h])]
      rw [costS_two _ hk]
      simp -implicitDefEqProofs only [hk, List.getElem?_cons_zero, List.getElem?_cons_succ, Option.bind_eq_bind, Option.bind_some]
      rw [tree_Tables_eq x (by omega), tree_Tables_eq y (by omega)]
      simp -implicitDefEqProofs only [Option.bind_some]
      rw [ih x hx (by omega), ih y hy (by omega)]
      simp -implicitDefEqProofs only [Option.bind_some]
      rw [cost_Node_eq m _ _ _ hE (by omega)]
      simp -implicitDefEqProofs only [Option.bind_some]
      rw [sat_Add_eq _ (by simp)]
      simp -implicitDefEqProofs only [Option.bind_some]
      congr 2; simp [sumN]; omega
    · rw [if_pos (by simp; omega), costS_else _ h]
theorem ref28_Tree_eq (r : T_ref28_Model) (hE : r.Edges.length < 9223372036854775808) (t : T_api_Tree) : t.size ≤ 1000000000 → M_ref28_Model_Tree (r, t) = some (costS (nodeS r.Kind r.Edges r.Stats) t) := by
  induction t using T_api_Tree.induct with
  | h t ih =>
    intro hsz
    rw [M_ref28_Model_Tree]
    dsimp only
    by_cases h : t.Kids.length = 2
    · obtain ⟨x, y, hk⟩ := two_kids h
      have hx : x ∈ t.Kids := by rw [hk]; simp
      have hy : y ∈ t.Kids := by rw [hk]; simp
      have hcl := conj_len t
      have hxs := kid_size hx
      have hys := kid_size hy
      rw [if_neg (by simp [h])]
      rw [costS_two _ hk]
      simp -implicitDefEqProofs only [hk, List.getElem?_cons_zero, List.getElem?_cons_succ, Option.bind_eq_bind, Option.bind_some]
      rw [ref10_Tables_eq x (by omega), ref10_Tables_eq y (by omega)]
      simp -implicitDefEqProofs only [Option.bind_some]
      rw [ref28_Node_eq r _ _ _ hE (by omega)]
      simp -implicitDefEqProofs only [Option.bind_some]
      rw [ih x hx (by omega), ih y hy (by omega)]
      simp -implicitDefEqProofs only [Option.bind_some, ref02_Add_eq]
      rw [satN_add']
    · rw [if_pos (by simp; omega), costS_else _ h]
end Go.Proofs.Ytcfekacmmfdggaa.G
set_option linter.unusedVariables false
set_option linter.unusedSimpArgs false
set_option maxRecDepth 100000
namespace Go.Proofs.Ytcfekacmmfdggaa.G
theorem lok_61 : (Try.f61.body.isSome && !(Try.f61.name == "runtime.NumGoroutine") && okL (bodyF Try.f61) Try.f61.ntmps (bodyF Try.f61)) = true := by kernel_rfl
def M_law06_Equal (x : Int × Int) : Option (T_api_Pred) :=
  some (⟨2, 0, 1, (⟨1, x.1, 0, (⟨false, 0⟩ : T_api_Value)⟩ : T_api_Term), (⟨1, x.2, 0, (⟨false, 0⟩ : T_api_Value)⟩ : T_api_Term), []⟩ : T_api_Pred)
set_option maxHeartbeats 8000000 in
theorem M_law06_Equal.w : ∀ (x : Int × Int) (r : T_api_Pred), M_law06_Equal x = some r → (fun (x : Int × Int) (r : T_api_Pred) => Fn Try.prog 61 [.i64 x.1, .i64 x.2] (.agg (T_api_Pred.C r))) x r := by
  intro x r h
  rw [M_law06_Equal] at h
  try dsimp only
  refine Fn.of_lc mix fn_61 lok_61 (by rfl) (flC (.atom _) (flC (.atom _) (flN))) (T_api_Pred.flatC _) ?_
  simp -implicitDefEqProofs only [go_sem, Try.f61]
  injection h with h; subst h
  first | rfl | simp -implicitDefEqProofs only [go_sem] <;> rfl
end Go.Proofs.Ytcfekacmmfdggaa.G
set_option linter.unusedVariables false
set_option linter.unusedSimpArgs false
set_option maxRecDepth 100000
namespace Go.Proofs.Ytcfekacmmfdggaa.G
theorem lok_60 : (Try.f60.body.isSome && !(Try.f60.name == "runtime.NumGoroutine") && okL (bodyF Try.f60) Try.f60.ntmps (bodyF Try.f60)) = true := by kernel_rfl
def M_ref10_LeafOf (x : Int) : Option (T_api_Tree) :=
  some (⟨0, x, [], [], false⟩ : T_api_Tree)
set_option maxHeartbeats 8000000 in
theorem M_ref10_LeafOf.w : ∀ (x : Int) (r : T_api_Tree), M_ref10_LeafOf x = some r → (fun (x : Int) (r : T_api_Tree) => Fn Try.prog 60 [.i64 x] (.agg (T_api_Tree.C r))) x r := by
  intro x r h
  rw [M_ref10_LeafOf] at h
  try dsimp only
  refine Fn.of_lc mix fn_60 lok_60 (by rfl) (flC (.atom _) (flN)) (T_api_Tree.flatC _) ?_
  simp -implicitDefEqProofs only [go_sem, Try.f60]
  injection h with h; subst h
  first | rfl | simp -implicitDefEqProofs only [go_sem] <;> rfl
end Go.Proofs.Ytcfekacmmfdggaa.G
set_option linter.unusedVariables false
set_option linter.unusedSimpArgs false
set_option maxRecDepth 100000
namespace Go.Proofs.Ytcfekacmmfdggaa.G
theorem lok_59 : (Try.f59.body.isSome && !(Try.f59.name == "runtime.NumGoroutine") && okL (bodyF Try.f59) Try.f59.ntmps (bodyF Try.f59)) = true := by kernel_rfl
def M_ref10_On (x : Int × T_api_Tree × T_api_Tree × List T_api_Pred) : Option (T_api_Tree) :=
  some (⟨x.1, 0, [x.2.1, x.2.2.1], x.2.2.2, false⟩ : T_api_Tree)
set_option maxHeartbeats 8000000 in
theorem M_ref10_On.w : ∀ (x : Int × T_api_Tree × T_api_Tree × List T_api_Pred) (r : T_api_Tree), M_ref10_On x = some r → (fun (x : Int × T_api_Tree × T_api_Tree × List T_api_Pred) (r : T_api_Tree) => Fn Try.prog 59 [.i64 x.1, .agg (T_api_Tree.C x.2.1), .agg (T_api_Tree.C x.2.2.1), .slice .foreign (x.2.2.2.map T_api_Pred.av)] (.agg (T_api_Tree.C r))) x r := by
  intro x r h
  rw [M_ref10_On] at h
  try dsimp only
  refine Fn.of_lc mix fn_59 lok_59 (by rfl) (flC (.atom _) (flC (T_api_Tree.flatC _) (flC (T_api_Tree.flatC _) (flC (flat_slice _ T_api_Pred.flat _) (flN))))) (T_api_Tree.flatC _) ?_
  simp -implicitDefEqProofs only [go_sem, Try.f59]
  injection h with h; subst h
  first | rfl | simp -implicitDefEqProofs only [go_sem] <;> rfl
end Go.Proofs.Ytcfekacmmfdggaa.G
set_option linter.unusedVariables false
set_option linter.unusedSimpArgs false
set_option maxRecDepth 100000
namespace Go.Proofs.Ytcfekacmmfdggaa.G
theorem lok_39 : (Try.f39.body.isSome && !(Try.f39.name == "runtime.NumGoroutine") && okL (bodyF Try.f39) Try.f39.ntmps (bodyF Try.f39)) = true := by kernel_rfl
def M_law10_Two (x : Int) : Option (T_api_Tree) :=
  M_ref10_LeafOf 0 >>= fun r1 =>
  M_ref10_LeafOf 1 >>= fun r3 =>
  M_law06_Equal (0, 1) >>= fun r5 =>
  M_ref10_On (x, r1, r3, [r5]) >>= fun r7 =>
  some r7
set_option maxHeartbeats 8000000 in
theorem M_law10_Two.w : ∀ (x : Int) (r : T_api_Tree), M_law10_Two x = some r → (fun (x : Int) (r : T_api_Tree) => Fn Try.prog 39 [.i64 x] (.agg (T_api_Tree.C r))) x r := by
  intro x r h
  rw [M_law10_Two] at h
  try dsimp only
  refine Fn.of_lc mix fn_39 lok_39 (by rfl) (flC (.atom _) (flN)) (T_api_Tree.flatC _) ?_
  simp -implicitDefEqProofs only [go_sem, Try.f39]
  obtain ⟨r1, h2, h⟩ := bind_some' h
  refine .plain _ _ rfl (M_ref10_LeafOf.w 0 _ h2) ?_
  try simp -implicitDefEqProofs only [go_sem]
  obtain ⟨r3, h4, h⟩ := bind_some' h
  refine .plain _ _ rfl (M_ref10_LeafOf.w 1 _ h4) ?_
  try simp -implicitDefEqProofs only [go_sem]
  obtain ⟨r5, h6, h⟩ := bind_some' h
  refine .plain _ _ rfl (M_law06_Equal.w (0, 1) _ h6) ?_
  try simp -implicitDefEqProofs only [go_sem]
  obtain ⟨r7, h8, h⟩ := bind_some' h
  have hw := M_ref10_On.w (x, r1, r3, [r5]) _ h8
  simp -implicitDefEqProofs only [go_sem] at hw
  refine .plain _ _ rfl hw ?_
  clear hw
  try simp -implicitDefEqProofs only [go_sem]
  injection h with h; subst h
  first | rfl | simp -implicitDefEqProofs only [go_sem] <;> rfl
end Go.Proofs.Ytcfekacmmfdggaa.G
set_option linter.unusedVariables false
set_option linter.unusedSimpArgs false
set_option maxRecDepth 100000
namespace Go.Proofs.Ytcfekacmmfdggaa.G
theorem lok_58 : (Try.f58.body.isSome && !(Try.f58.name == "runtime.NumGoroutine") && okL (bodyF Try.f58) Try.f58.ntmps (bodyF Try.f58)) = true := by kernel_rfl
def M_ref01_Count (x : Set64) : Option (Int) :=
  M_ref01_List x >>= fun r1 =>
  some (r1.length : Int)
set_option maxHeartbeats 8000000 in
theorem M_ref01_Count.w : ∀ (x : Set64) (r : Int), M_ref01_Count x = some r → (fun (x : Set64) (r : Int) => Fn Try.prog 58 [.w x] (.i64 r)) x r := by
  intro x r h
  rw [M_ref01_Count] at h
  try dsimp only
  refine Fn.of_lc mix fn_58 lok_58 (by rfl) (flC (.atom _) (flN)) (.atom _) ?_
  simp -implicitDefEqProofs only [go_sem, Try.f58]
  obtain ⟨r1, h2, h⟩ := bind_some' h
  refine .plain _ _ rfl (M_ref01_List.w x _ h2) ?_
  try simp -implicitDefEqProofs only [go_sem]
  injection h with h; subst h
  first | rfl | simp -implicitDefEqProofs only [go_sem] <;> rfl
end Go.Proofs.Ytcfekacmmfdggaa.G
set_option linter.unusedVariables false
set_option linter.unusedSimpArgs false
set_option maxRecDepth 100000
namespace Go.Proofs.Ytcfekacmmfdggaa.G
theorem lok_134 : (Try.f134.body.isSome && !(Try.f134.name == "runtime.NumGoroutine") && okL (bodyF Try.f134) Try.f134.ntmps (bodyF Try.f134)) = true := by kernel_rfl
def M_ref05_Tables (x : T_api_Term) : Option (Set64) :=
  if (x.Kind != 1) = true then
    some (0#64)
  else
    M_ref01_Of ([x.Table]) >>= fun r2 =>
    some r2
set_option maxHeartbeats 8000000 in
theorem M_ref05_Tables.w : ∀ (x : T_api_Term) (r : Set64), M_ref05_Tables x = some r → (fun (x : T_api_Term) (r : Set64) => Fn Try.prog 134 [.agg (T_api_Term.C x)] (.w r)) x r := by
  intro x r h
  rw [M_ref05_Tables] at h
  try dsimp only
  refine Fn.of_lc mix fn_134 lok_134 (by rfl) (flC (T_api_Term.flatC _) (flN)) (.atom _) ?_
  simp -implicitDefEqProofs only [go_sem, Try.f134]
  by_cases h1 : (x.Kind != 1) = true
  · replace h := ite_some h h1
    try simp -implicitDefEqProofs only [go_sem, h1]
    injection h with h; subst h
    first | rfl | simp -implicitDefEqProofs only [go_sem, h1] <;> rfl
  · replace h := ite_none h h1; replace h1 := bfalse h1
    try simp -implicitDefEqProofs only [go_sem, h1]
    obtain ⟨r2, h3, h⟩ := bind_some' h
    have hw := M_ref01_Of.w ([x.Table]) _ h3
    simp -implicitDefEqProofs only [go_sem] at hw
    refine .plain _ _ rfl hw ?_
    clear hw
    try simp -implicitDefEqProofs only [go_sem, h1]
    injection h with h; subst h
    first | rfl | simp -implicitDefEqProofs only [go_sem, h1] <;> rfl
end Go.Proofs.Ytcfekacmmfdggaa.G
set_option linter.unusedVariables false
set_option linter.unusedSimpArgs false
set_option maxRecDepth 100000
namespace Go.Proofs.Ytcfekacmmfdggaa.G
@[go_sem] theorem lrp_98_1 : lrp Try.prog 98 1 = (8, []) := by kernel_rfl
theorem lok_98 : (Try.f98.body.isSome && !(Try.f98.name == "runtime.NumGoroutine") && okL (bodyF Try.f98) Try.f98.ntmps (bodyF Try.f98)) = true := by kernel_rfl
mutual
def M_ref06_Tables.l0 (x : Set64 × Int × T_api_Pred) : Option (Set64) :=
  if (decide (x.2.1 < (x.2.2.Parts.length : Int))) = true then
    (getI x.2.2.Parts x.2.1) >>= fun (e6 : T_api_Pred) =>
    M_ref06_Tables e6 >>= fun r8 =>
    M_ref06_Tables.l0 ((x.1 ||| r8), (w64 (x.2.1 + 1)), x.2.2)
  else
    some x.1
  partial_fixpoint
def M_ref06_Tables (x : T_api_Pred) : Option (Set64) :=
  M_ref05_Tables x.A >>= fun r1 =>
  M_ref05_Tables x.B >>= fun r3 =>
  M_ref06_Tables.l0 ((r1 ||| r3), 0, x) >>= fun (o10 : Set64) =>
  some o10
  partial_fixpoint
end
theorem M_ref06_Tables.l0.ws : (∀ (x : Set64 × Int × T_api_Pred) (o : Set64), M_ref06_Tables.l0 x = some o → (fun (x : Set64 × Int × T_api_Pred) (o : Set64) => ∀ (lo : Option Nat) (c : LCtx) (Q : Exit → LEnv → Prop) (hb : ∀ s : Set64, o = s → Q (.exit 0) ⟨[(3, .v (.w s))], []⟩), LLoop Try.prog 98 lo c 0 (VQ Q) ⟨[(1, .lref 1 0), (3, .v (.w x.1)), (4, .v (.i64 x.2.1))], [(1, [.v (.i64 x.2.2.Kind), .v (.i64 x.2.2.Truth), .v (.i64 x.2.2.Op), .v (.i64 x.2.2.A.Kind), .v (.i64 x.2.2.A.Table), .v (.i64 x.2.2.A.Col), .v (.bool x.2.2.A.Value.Null), .v (.i64 x.2.2.A.Value.N), .v (.i64 x.2.2.B.Kind), .v (.i64 x.2.2.B.Table), .v (.i64 x.2.2.B.Col), .v (.bool x.2.2.B.Value.Null), .v (.i64 x.2.2.B.Value.N), .v (.slice .foreign (x.2.2.Parts.map T_api_Pred.av))])]⟩) x o) ∧ (∀ (x : T_api_Pred) (o : Set64), M_ref06_Tables x = some o → (fun (x : T_api_Pred) (r : Set64) => Fn Try.prog 98 [.agg (T_api_Pred.C x)] (.w r)) x o) := by
  refine M_ref06_Tables.l0.mutual_partial_correctness _ _ ?_ ?_
  · intro M_M_ref06_Tables_l0 M_M_ref06_Tables ih_M_ref06_Tables_l0 ih_M_ref06_Tables x o h
    intro lo c Q hb
    refine LLoop.step mix fn_98 (by kernel_rfl) ?_
    simp -implicitDefEqProofs only [go_sem, Try.f98]
    by_cases h5 : (decide (x.2.1 < (x.2.2.Parts.length : Int))) = true
    · replace h := ite_some h h5
      try simp -implicitDefEqProofs only [go_sem, h5]
      obtain ⟨e6, h7, h⟩ := bind_some' h; replace h7 := getI_some h7; obtain ⟨h7', h7⟩ := h7
      try simp -implicitDefEqProofs only [go_sem, h5, h7, h7']
      obtain ⟨r8, h9, h⟩ := bind_some' h
      refine .plain _ _ rfl (ih_M_ref06_Tables e6 _ h9) ?_
      try simp -implicitDefEqProofs only [go_sem, h5, h7, h7']
      exact LLoop.view [] (by (first | rfl | simp -implicitDefEqProofs only [go_sem, h5, h7, h7'] <;> rfl)) (ih_M_ref06_Tables_l0 _ _ h lo c Q hb)
    · replace h := ite_none h h5; replace h5 := bfalse h5
      try simp -implicitDefEqProofs only [go_sem, h5]
      injection h with h; subst h
      exact .inr ⟨[], _, by (simp -implicitDefEqProofs only [go_sem, h5] <;> first | done | rfl | trivial), hb _ rfl⟩
  · intro M_M_ref06_Tables_l0 ih_M_ref06_Tables_l0 x r h
    refine Fn.of_lc mix fn_98 lok_98 (by rfl) (flC (T_api_Pred.flatC _) (flN)) (.atom _) ?_
    simp -implicitDefEqProofs only [go_sem, Try.f98]
    obtain ⟨r1, h2, h⟩ := bind_some' h
    refine .plain _ _ rfl (M_ref05_Tables.w x.A _ h2) ?_
    try simp -implicitDefEqProofs only [go_sem]
    obtain ⟨r3, h4, h⟩ := bind_some' h
    refine .plain _ _ rfl (M_ref05_Tables.w x.B _ h4) ?_
    try simp -implicitDefEqProofs only [go_sem]
    obtain ⟨o10, h11, h⟩ := bind_some' h
    refine LLoop.viewQ (LLoop.view [] (by (first | rfl | simp -implicitDefEqProofs only [go_sem] <;> rfl)) (ih_M_ref06_Tables_l0 ((r1 ||| r3), 0, x) _ h11 _ _ _ ?_))
    intro s' hs'; subst hs'
    try simp -implicitDefEqProofs only [go_sem]
    injection h with h; subst h
    first | rfl | simp -implicitDefEqProofs only [go_sem] <;> rfl
theorem M_ref06_Tables.w : type_of% (M_ref06_Tables.l0.ws.2) := (M_ref06_Tables.l0.ws.2)
end Go.Proofs.Ytcfekacmmfdggaa.G
set_option linter.unusedVariables false
set_option linter.unusedSimpArgs false
set_option maxRecDepth 100000
namespace Go.Proofs.Ytcfekacmmfdggaa.G
@[go_sem] theorem lrp_64_14 : lrp Try.prog 64 14 = (12, []) := by kernel_rfl
@[go_sem] theorem lrp_64_19 : lrp Try.prog 64 19 = (25, []) := by kernel_rfl
@[go_sem] theorem lrp_64_28 : lrp Try.prog 64 28 = (16, []) := by kernel_rfl
theorem lok_64 : (Try.f64.body.isSome && !(Try.f64.name == "runtime.NumGoroutine") && okL (bodyF Try.f64) Try.f64.ntmps (bodyF Try.f64)) = true := by kernel_rfl
def M_ref18_Of.l0 (x : List T_api_Tree × List Set64 × Int × T_ref18_Levels × T_ref18_Levels) : Option (List Set64) :=
  if (decide (x.2.2.1 < (x.1.length : Int))) = true then
    (getI x.1 x.2.2.1) >>= fun (e4 : T_api_Tree) =>
    if (decide (e4.Kind > 1)) = true then
      (e4.Kids[1]?) >>= fun (e7 : T_api_Tree) =>
      M_ref10_Tables e7 >>= fun r9 =>
      (room 8 x.2.1 ([r9])) >>= fun (z11 : List Set64) =>
      M_ref18_Of.l0 (x.1, z11, (w64 (x.2.2.1 + 1)), x.2.2.2.1, x.2.2.2.2)
    else
      M_ref18_Of.l0 (x.1, x.2.1, (w64 (x.2.2.1 + 1)), x.2.2.2.1, x.2.2.2.2)
  else
    some x.2.1
  partial_fixpoint
theorem M_ref18_Of.l0.ws : (∀ (x : List T_api_Tree × List Set64 × Int × T_ref18_Levels × T_ref18_Levels) (o : List Set64), M_ref18_Of.l0 x = some o → (fun (x : List T_api_Tree × List Set64 × Int × T_ref18_Levels × T_ref18_Levels) (o : List Set64) => ∀ (lo : Option Nat) (c : LCtx) (Q : Exit → LEnv → Prop) (hb : ∀ s : List Set64, o = s → Q (.exit 0) ⟨[(2, .lref 2 0), (3, .lref 3 0), (4, .v (.slice .foreign (x.1.map T_api_Tree.av))), (5, .own 100500 1 (s.map AV.w))], [(2, [.own 20000200 17 (x.2.2.2.1.Joins.map T_ref18_Join.av), .own 20000201 6 (x.2.2.2.1.Ops.map T_ref18_Op.av)]), (3, [.own 20000300 17 (x.2.2.2.2.Joins.map T_ref18_Join.av), .own 20000301 6 (x.2.2.2.2.Ops.map T_ref18_Op.av)])]⟩), LLoop Try.prog 64 lo c 0 (VQ Q) ⟨[(2, .lref 2 0), (3, .lref 3 0), (4, .v (.slice .foreign (x.1.map T_api_Tree.av))), (5, .own 100500 1 (x.2.1.map AV.w)), (6, .v (.i64 x.2.2.1))], [(2, [.own 20000200 17 (x.2.2.2.1.Joins.map T_ref18_Join.av), .own 20000201 6 (x.2.2.2.1.Ops.map T_ref18_Op.av)]), (3, [.own 20000300 17 (x.2.2.2.2.Joins.map T_ref18_Join.av), .own 20000301 6 (x.2.2.2.2.Ops.map T_ref18_Op.av)])]⟩) x o) := by
  refine M_ref18_Of.l0.partial_correctness _ ?_
  · intro M_M_ref18_Of_l0 ih_M_ref18_Of_l0 x o h
    intro lo c Q hb
    refine LLoop.step mix fn_64 (by kernel_rfl) ?_
    simp -implicitDefEqProofs only [go_sem, Try.f64]
    by_cases h3 : (decide (x.2.2.1 < (x.1.length : Int))) = true
    · replace h := ite_some h h3
      try simp -implicitDefEqProofs only [go_sem, h3]
      obtain ⟨e4, h5, h⟩ := bind_some' h; replace h5 := getI_some h5; obtain ⟨h5', h5⟩ := h5
      try simp -implicitDefEqProofs only [go_sem, h3, h5, h5']
      by_cases h6 : (decide (e4.Kind > 1)) = true
      · replace h := ite_some h h6
        try simp -implicitDefEqProofs only [go_sem, h3, h5, h5', h6]
        obtain ⟨e7, h8, h⟩ := bind_some' h
        try simp -implicitDefEqProofs only [go_sem, h3, h5, h5', h6, h8]
        obtain ⟨r9, h10, h⟩ := bind_some' h
        refine .plain _ _ rfl (M_ref10_Tables.w e7 _ h10) ?_
        try simp -implicitDefEqProofs only [go_sem, h3, h5, h5', h6, h8]
        obtain ⟨z11, h12, h⟩ := bind_some' h; replace h12 := room_some h12; obtain ⟨h12', rfl⟩ := h12
        refine LApp.map (F := AV.w) (xs := x.2.1) (ys := [r9]) t23_elem t32_size t32_bytes t32_zsize rfl (fun _ => rfl) (by (first | rfl | simp -implicitDefEqProofs only [go_sem, h3, h5, h5', h6, h8] <;> rfl)) (by (first | rfl | simp -implicitDefEqProofs only [go_sem, h3, h5, h5', h6, h8] <;> rfl)) h12' ?_
        try simp -implicitDefEqProofs only [go_sem, h3, h5, h5', h6, h8]
        exact LLoop.view [(100500, some 42), (20000200, some 20000200), (20000201, some 20000201), (20000300, some 20000300), (20000301, some 20000301)] (by (first | rfl | simp -implicitDefEqProofs only [go_sem, h3, h5, h5', h6, h8] <;> rfl)) (ih_M_ref18_Of_l0 _ _ h lo c Q hb)
      · replace h := ite_none h h6; replace h6 := bfalse h6
        try simp -implicitDefEqProofs only [go_sem, h3, h5, h5', h6]
        exact LLoop.view [(100500, some 100500), (20000200, some 20000200), (20000201, some 20000201), (20000300, some 20000300), (20000301, some 20000301)] (by (first | rfl | simp -implicitDefEqProofs only [go_sem, h3, h5, h5', h6] <;> rfl)) (ih_M_ref18_Of_l0 _ _ h lo c Q hb)
    · replace h := ite_none h h3; replace h3 := bfalse h3
      try simp -implicitDefEqProofs only [go_sem, h3]
      injection h with h; subst h
      exact .inr ⟨[(100500, some 100500), (20000200, some 20000200), (20000201, some 20000201), (20000300, some 20000300), (20000301, some 20000301)], _, by (simp -implicitDefEqProofs only [go_sem, h3] <;> first | done | rfl | trivial), hb _ rfl⟩
theorem M_ref18_Of.l0.w : type_of% @M_ref18_Of.l0.ws := @M_ref18_Of.l0.ws
def M_ref18_Of.l2 (x : List T_api_Tree × List Set64 × Int × Set64 × Set64 × Int × Int × T_ref18_Levels × T_ref18_Levels × T_api_Tree) : Option (Int) :=
  if (decide (x.2.2.2.2.2.2.1 < (x.2.1.length : Int))) = true then
    (getI x.2.1 x.2.2.2.2.2.2.1) >>= fun (e28 : Set64) =>
    M_ref01_In ((x.2.2.2.1 ||| x.2.2.2.2.1), e28) >>= fun r30 =>
    if r30 = true then
      if (decide (x.2.2.2.2.2.1 < 0)) = true then
        M_ref18_Of.l2 (x.1, x.2.1, x.2.2.1, x.2.2.2.1, x.2.2.2.2.1, x.2.2.2.2.2.2.1, (w64 (x.2.2.2.2.2.2.1 + 1)), x.2.2.2.2.2.2.2.1, x.2.2.2.2.2.2.2.2.1, x.2.2.2.2.2.2.2.2.2)
      else
        M_ref01_Count e28 >>= fun r34 =>
        (getI x.2.1 x.2.2.2.2.2.1) >>= fun (e36 : Set64) =>
        M_ref01_Count e36 >>= fun r38 =>
        if (decide (r34 < r38)) = true then
          M_ref18_Of.l2 (x.1, x.2.1, x.2.2.1, x.2.2.2.1, x.2.2.2.2.1, x.2.2.2.2.2.2.1, (w64 (x.2.2.2.2.2.2.1 + 1)), x.2.2.2.2.2.2.2.1, x.2.2.2.2.2.2.2.2.1, x.2.2.2.2.2.2.2.2.2)
        else
          M_ref18_Of.l2 (x.1, x.2.1, x.2.2.1, x.2.2.2.1, x.2.2.2.2.1, x.2.2.2.2.2.1, (w64 (x.2.2.2.2.2.2.1 + 1)), x.2.2.2.2.2.2.2.1, x.2.2.2.2.2.2.2.2.1, x.2.2.2.2.2.2.2.2.2)
    else
      M_ref18_Of.l2 (x.1, x.2.1, x.2.2.1, x.2.2.2.1, x.2.2.2.2.1, x.2.2.2.2.2.1, (w64 (x.2.2.2.2.2.2.1 + 1)), x.2.2.2.2.2.2.2.1, x.2.2.2.2.2.2.2.2.1, x.2.2.2.2.2.2.2.2.2)
  else
    some x.2.2.2.2.2.1
  partial_fixpoint
theorem M_ref18_Of.l2.ws : (∀ (x : List T_api_Tree × List Set64 × Int × Set64 × Set64 × Int × Int × T_ref18_Levels × T_ref18_Levels × T_api_Tree) (o : Int), M_ref18_Of.l2 x = some o → (fun (x : List T_api_Tree × List Set64 × Int × Set64 × Set64 × Int × Int × T_ref18_Levels × T_ref18_Levels × T_api_Tree) (o : Int) => ∀ (lo : Option Nat) (c : LCtx) (Q : Exit → LEnv → Prop) (hb : ∀ s : Int, o = s → Q (.exit 4) ⟨[(2, .lref 2 0), (3, .lref 3 0), (4, .v (.slice .foreign (x.1.map T_api_Tree.av))), (5, .own 100500 1 (x.2.1.map AV.w)), (7, .v (.i64 x.2.2.1)), (8, .lref 8 0), (9, .v (.w x.2.2.2.1)), (10, .v (.w x.2.2.2.2.1)), (11, .v (.i64 s))], [(2, [.own 20000200 17 (x.2.2.2.2.2.2.2.1.Joins.map T_ref18_Join.av), .own 20000201 6 (x.2.2.2.2.2.2.2.1.Ops.map T_ref18_Op.av)]), (3, [.own 20000300 17 (x.2.2.2.2.2.2.2.2.1.Joins.map T_ref18_Join.av), .own 20000301 6 (x.2.2.2.2.2.2.2.2.1.Ops.map T_ref18_Op.av)]), (8, [.v (.i64 x.2.2.2.2.2.2.2.2.2.Kind), .v (.i64 x.2.2.2.2.2.2.2.2.2.Table), .v (.slice .foreign (x.2.2.2.2.2.2.2.2.2.Kids.map T_api_Tree.av)), .v (.slice .foreign (x.2.2.2.2.2.2.2.2.2.Conj.map T_api_Pred.av)), .v (.bool x.2.2.2.2.2.2.2.2.2.Hash)])]⟩), LLoop Try.prog 64 lo c 2 (VQ Q) ⟨[(2, .lref 2 0), (3, .lref 3 0), (4, .v (.slice .foreign (x.1.map T_api_Tree.av))), (5, .own 100500 1 (x.2.1.map AV.w)), (7, .v (.i64 x.2.2.1)), (8, .lref 8 0), (9, .v (.w x.2.2.2.1)), (10, .v (.w x.2.2.2.2.1)), (11, .v (.i64 x.2.2.2.2.2.1)), (12, .v (.i64 x.2.2.2.2.2.2.1))], [(2, [.own 20000200 17 (x.2.2.2.2.2.2.2.1.Joins.map T_ref18_Join.av), .own 20000201 6 (x.2.2.2.2.2.2.2.1.Ops.map T_ref18_Op.av)]), (3, [.own 20000300 17 (x.2.2.2.2.2.2.2.2.1.Joins.map T_ref18_Join.av), .own 20000301 6 (x.2.2.2.2.2.2.2.2.1.Ops.map T_ref18_Op.av)]), (8, [.v (.i64 x.2.2.2.2.2.2.2.2.2.Kind), .v (.i64 x.2.2.2.2.2.2.2.2.2.Table), .v (.slice .foreign (x.2.2.2.2.2.2.2.2.2.Kids.map T_api_Tree.av)), .v (.slice .foreign (x.2.2.2.2.2.2.2.2.2.Conj.map T_api_Pred.av)), .v (.bool x.2.2.2.2.2.2.2.2.2.Hash)])]⟩) x o) := by
  refine M_ref18_Of.l2.partial_correctness _ ?_
  · intro M_M_ref18_Of_l2 ih_M_ref18_Of_l2 x o h
    intro lo c Q hb
    refine LLoop.step mix fn_64 (by kernel_rfl) ?_
    simp -implicitDefEqProofs only [go_sem, Try.f64]
    by_cases h27 : (decide (x.2.2.2.2.2.2.1 < (x.2.1.length : Int))) = true
    · replace h := ite_some h h27
      try simp -implicitDefEqProofs only [go_sem, h27]
      obtain ⟨e28, h29, h⟩ := bind_some' h; replace h29 := getI_some h29; obtain ⟨h29', h29⟩ := h29
      try simp -implicitDefEqProofs only [go_sem, h27, h29, h29']
      obtain ⟨r30, h31, h⟩ := bind_some' h
      refine .plain _ _ rfl (M_ref01_In.w ((x.2.2.2.1 ||| x.2.2.2.2.1), e28) _ h31) ?_
      try simp -implicitDefEqProofs only [go_sem, h27, h29, h29']
      by_cases h32 : r30 = true
      · replace h := ite_some h h32
        try simp -implicitDefEqProofs only [go_sem, h27, h29, h29', h32]
        by_cases h33 : (decide (x.2.2.2.2.2.1 < 0)) = true
        · replace h := ite_some h h33
          try simp -implicitDefEqProofs only [go_sem, h27, h29, h29', h32, h33]
          exact LLoop.view [(100500, some 100500), (20000200, some 20000200), (20000201, some 20000201), (20000300, some 20000300), (20000301, some 20000301)] (by (first | rfl | simp -implicitDefEqProofs only [go_sem, h27, h29, h29', h32, h33] <;> rfl)) (ih_M_ref18_Of_l2 _ _ h lo c Q hb)
        · replace h := ite_none h h33; replace h33 := bfalse h33
          try simp -implicitDefEqProofs only [go_sem, h27, h29, h29', h32, h33]
          obtain ⟨r34, h35, h⟩ := bind_some' h
          refine .plain _ _ rfl (M_ref01_Count.w e28 _ h35) ?_
          try simp -implicitDefEqProofs only [go_sem, h27, h29, h29', h32, h33]
          obtain ⟨e36, h37, h⟩ := bind_some' h; replace h37 := getI_some h37; obtain ⟨h37', h37⟩ := h37
          try simp -implicitDefEqProofs only [go_sem, h27, h29, h29', h32, h33, h37, h37']
          obtain ⟨r38, h39, h⟩ := bind_some' h
          refine .plain _ _ rfl (M_ref01_Count.w e36 _ h39) ?_
          try simp -implicitDefEqProofs only [go_sem, h27, h29, h29', h32, h33, h37, h37']
          by_cases h40 : (decide (r34 < r38)) = true
          · replace h := ite_some h h40
            try simp -implicitDefEqProofs only [go_sem, h27, h29, h29', h32, h33, h37, h37', h40]
            exact LLoop.view [(100500, some 100500), (20000200, some 20000200), (20000201, some 20000201), (20000300, some 20000300), (20000301, some 20000301)] (by (first | rfl | simp -implicitDefEqProofs only [go_sem, h27, h29, h29', h32, h33, h37, h37', h40] <;> rfl)) (ih_M_ref18_Of_l2 _ _ h lo c Q hb)
          · replace h := ite_none h h40; replace h40 := bfalse h40
            try simp -implicitDefEqProofs only [go_sem, h27, h29, h29', h32, h33, h37, h37', h40]
            exact LLoop.view [(100500, some 100500), (20000200, some 20000200), (20000201, some 20000201), (20000300, some 20000300), (20000301, some 20000301)] (by (first | rfl | simp -implicitDefEqProofs only [go_sem, h27, h29, h29', h32, h33, h37, h37', h40] <;> rfl)) (ih_M_ref18_Of_l2 _ _ h lo c Q hb)
      · replace h := ite_none h h32; replace h32 := bfalse h32
        try simp -implicitDefEqProofs only [go_sem, h27, h29, h29', h32]
        exact LLoop.view [(100500, some 100500), (20000200, some 20000200), (20000201, some 20000201), (20000300, some 20000300), (20000301, some 20000301)] (by (first | rfl | simp -implicitDefEqProofs only [go_sem, h27, h29, h29', h32] <;> rfl)) (ih_M_ref18_Of_l2 _ _ h lo c Q hb)
    · replace h := ite_none h h27; replace h27 := bfalse h27
      try simp -implicitDefEqProofs only [go_sem, h27]
      injection h with h; subst h
      exact .inr ⟨[(100500, some 100500), (20000200, some 20000200), (20000201, some 20000201), (20000300, some 20000300), (20000301, some 20000301)], _, by (simp -implicitDefEqProofs only [go_sem, h27] <;> first | done | rfl | trivial), hb _ rfl⟩
theorem M_ref18_Of.l2.w : type_of% @M_ref18_Of.l2.ws := @M_ref18_Of.l2.ws
def M_ref18_Of.l3 (x : List T_api_Tree × List Set64 × Int × Set64 × Set64 × Int × Set64 × Int × T_ref18_Levels × T_ref18_Levels × T_api_Tree) : Option (Set64 × T_ref18_Levels) :=
  if (decide (x.2.2.2.2.2.2.2.1 < (x.2.2.2.2.2.2.2.2.2.2.Conj.length : Int))) = true then
    (getI x.2.2.2.2.2.2.2.2.2.2.Conj x.2.2.2.2.2.2.2.1) >>= fun (e44 : T_api_Pred) =>
    M_ref06_Tables e44 >>= fun r46 =>
    if (x.2.2.2.2.2.2.2.2.2.2.Kind == 1) = true then
      (room 152 x.2.2.2.2.2.2.2.2.2.1.Joins ([(⟨e44, (r46 &&& x.2.2.2.1), (r46 &&& x.2.2.2.2.1), x.2.2.2.2.2.1⟩ : T_ref18_Join)])) >>= fun (z49 : List T_ref18_Join) =>
      M_ref18_Of.l3 (x.1, x.2.1, x.2.2.1, x.2.2.2.1, x.2.2.2.2.1, x.2.2.2.2.2.1, (x.2.2.2.2.2.2.1 ||| r46), (w64 (x.2.2.2.2.2.2.2.1 + 1)), x.2.2.2.2.2.2.2.2.1, (⟨z49, x.2.2.2.2.2.2.2.2.2.1.Ops⟩ : T_ref18_Levels), x.2.2.2.2.2.2.2.2.2.2)
    else
      M_ref18_Of.l3 (x.1, x.2.1, x.2.2.1, x.2.2.2.1, x.2.2.2.2.1, x.2.2.2.2.2.1, (x.2.2.2.2.2.2.1 ||| r46), (w64 (x.2.2.2.2.2.2.2.1 + 1)), x.2.2.2.2.2.2.2.2.1, x.2.2.2.2.2.2.2.2.2.1, x.2.2.2.2.2.2.2.2.2.2)
  else
    some (x.2.2.2.2.2.2.1, x.2.2.2.2.2.2.2.2.2.1)
  partial_fixpoint
theorem M_ref18_Of.l3.ws : (∀ (x : List T_api_Tree × List Set64 × Int × Set64 × Set64 × Int × Set64 × Int × T_ref18_Levels × T_ref18_Levels × T_api_Tree) (o : Set64 × T_ref18_Levels), M_ref18_Of.l3 x = some o → (fun (x : List T_api_Tree × List Set64 × Int × Set64 × Set64 × Int × Set64 × Int × T_ref18_Levels × T_ref18_Levels × T_api_Tree) (o : Set64 × T_ref18_Levels) => ∀ (lo : Option Nat) (c : LCtx) (Q : Exit → LEnv → Prop) (hb : ∀ s : Set64 × T_ref18_Levels, o = s → Q (.exit 6) ⟨[(2, .lref 2 0), (3, .lref 3 0), (4, .v (.slice .foreign (x.1.map T_api_Tree.av))), (5, .own 100500 1 (x.2.1.map AV.w)), (7, .v (.i64 x.2.2.1)), (8, .lref 8 0), (9, .v (.w x.2.2.2.1)), (10, .v (.w x.2.2.2.2.1)), (11, .v (.i64 x.2.2.2.2.2.1)), (13, .v (.w s.1))], [(2, [.own 20000200 17 (x.2.2.2.2.2.2.2.2.1.Joins.map T_ref18_Join.av), .own 20000201 6 (x.2.2.2.2.2.2.2.2.1.Ops.map T_ref18_Op.av)]), (3, [.own 20000300 17 (s.2.Joins.map T_ref18_Join.av), .own 20000301 6 (s.2.Ops.map T_ref18_Op.av)]), (8, [.v (.i64 x.2.2.2.2.2.2.2.2.2.2.Kind), .v (.i64 x.2.2.2.2.2.2.2.2.2.2.Table), .v (.slice .foreign (x.2.2.2.2.2.2.2.2.2.2.Kids.map T_api_Tree.av)), .v (.slice .foreign (x.2.2.2.2.2.2.2.2.2.2.Conj.map T_api_Pred.av)), .v (.bool x.2.2.2.2.2.2.2.2.2.2.Hash)])]⟩), LLoop Try.prog 64 lo c 3 (VQ Q) ⟨[(2, .lref 2 0), (3, .lref 3 0), (4, .v (.slice .foreign (x.1.map T_api_Tree.av))), (5, .own 100500 1 (x.2.1.map AV.w)), (7, .v (.i64 x.2.2.1)), (8, .lref 8 0), (9, .v (.w x.2.2.2.1)), (10, .v (.w x.2.2.2.2.1)), (11, .v (.i64 x.2.2.2.2.2.1)), (13, .v (.w x.2.2.2.2.2.2.1)), (14, .v (.i64 x.2.2.2.2.2.2.2.1))], [(2, [.own 20000200 17 (x.2.2.2.2.2.2.2.2.1.Joins.map T_ref18_Join.av), .own 20000201 6 (x.2.2.2.2.2.2.2.2.1.Ops.map T_ref18_Op.av)]), (3, [.own 20000300 17 (x.2.2.2.2.2.2.2.2.2.1.Joins.map T_ref18_Join.av), .own 20000301 6 (x.2.2.2.2.2.2.2.2.2.1.Ops.map T_ref18_Op.av)]), (8, [.v (.i64 x.2.2.2.2.2.2.2.2.2.2.Kind), .v (.i64 x.2.2.2.2.2.2.2.2.2.2.Table), .v (.slice .foreign (x.2.2.2.2.2.2.2.2.2.2.Kids.map T_api_Tree.av)), .v (.slice .foreign (x.2.2.2.2.2.2.2.2.2.2.Conj.map T_api_Pred.av)), .v (.bool x.2.2.2.2.2.2.2.2.2.2.Hash)])]⟩) x o) := by
  refine M_ref18_Of.l3.partial_correctness _ ?_
  · intro M_M_ref18_Of_l3 ih_M_ref18_Of_l3 x o h
    intro lo c Q hb
    refine LLoop.step mix fn_64 (by kernel_rfl) ?_
    simp -implicitDefEqProofs only [go_sem, Try.f64]
    by_cases h43 : (decide (x.2.2.2.2.2.2.2.1 < (x.2.2.2.2.2.2.2.2.2.2.Conj.length : Int))) = true
    · replace h := ite_some h h43
      try simp -implicitDefEqProofs only [go_sem, h43]
      obtain ⟨e44, h45, h⟩ := bind_some' h; replace h45 := getI_some h45; obtain ⟨h45', h45⟩ := h45
      try simp -implicitDefEqProofs only [go_sem, h43, h45, h45']
      obtain ⟨r46, h47, h⟩ := bind_some' h
      refine .plain _ _ rfl (M_ref06_Tables.w e44 _ h47) ?_
      try simp -implicitDefEqProofs only [go_sem, h43, h45, h45']
      by_cases h48 : (x.2.2.2.2.2.2.2.2.2.2.Kind == 1) = true
      · replace h := ite_some h h48
        try simp -implicitDefEqProofs only [go_sem, h43, h45, h45', h48]
        obtain ⟨z49, h50, h⟩ := bind_some' h; replace h50 := room_some h50; obtain ⟨h50', rfl⟩ := h50
        refine LApp.map (F := T_ref18_Join.av) (xs := x.2.2.2.2.2.2.2.2.2.1.Joins) (ys := [(⟨e44, (r46 &&& x.2.2.2.1), (r46 &&& x.2.2.2.2.1), x.2.2.2.2.2.1⟩ : T_ref18_Join)]) t84_elem t91_size t91_bytes t91_zsize rfl T_ref18_Join.len (by (first | rfl | simp -implicitDefEqProofs only [go_sem, h43, h45, h45', h48] <;> rfl)) (by (first | rfl | simp -implicitDefEqProofs only [go_sem, h43, h45, h45', h48] <;> rfl)) h50' ?_
        try simp -implicitDefEqProofs only [go_sem, h43, h45, h45', h48]
        exact LLoop.view [(100500, some 100500), (20000200, some 20000200), (20000201, some 20000201), (20000300, some 133), (20000301, some 20000301)] (by (first | rfl | simp -implicitDefEqProofs only [go_sem, h43, h45, h45', h48] <;> rfl)) (ih_M_ref18_Of_l3 _ _ h lo c Q hb)
      · replace h := ite_none h h48; replace h48 := bfalse h48
        try simp -implicitDefEqProofs only [go_sem, h43, h45, h45', h48]
        exact LLoop.view [(100500, some 100500), (20000200, some 20000200), (20000201, some 20000201), (20000300, some 20000300), (20000301, some 20000301)] (by (first | rfl | simp -implicitDefEqProofs only [go_sem, h43, h45, h45', h48] <;> rfl)) (ih_M_ref18_Of_l3 _ _ h lo c Q hb)
    · replace h := ite_none h h43; replace h43 := bfalse h43
      try simp -implicitDefEqProofs only [go_sem, h43]
      injection h with h; subst h
      exact .inr ⟨[(100500, some 100500), (20000200, some 20000200), (20000201, some 20000201), (20000300, some 20000300), (20000301, some 20000301)], _, by (simp -implicitDefEqProofs only [go_sem, h43] <;> first | done | rfl | trivial), hb _ rfl⟩
theorem M_ref18_Of.l3.w : type_of% @M_ref18_Of.l3.ws := @M_ref18_Of.l3.ws
def M_ref18_Of.l1 (x : List T_api_Tree × List Set64 × Int × T_ref18_Levels × T_ref18_Levels) : Option (T_ref18_Levels) :=
  if (decide (x.2.2.1 < (x.1.length : Int))) = true then
    (getI x.1 x.2.2.1) >>= fun (e16 : T_api_Tree) =>
    if (e16.Kind == 0) = true then
      M_ref18_Of.l1 (x.1, x.2.1, (w64 (x.2.2.1 + 1)), x.2.2.2.1, x.2.2.2.2)
    else
      (e16.Kids[0]?) >>= fun (e19 : T_api_Tree) =>
      M_ref10_Tables e19 >>= fun r21 =>
      (e16.Kids[1]?) >>= fun (e23 : T_api_Tree) =>
      M_ref10_Tables e23 >>= fun r25 =>
      M_ref18_Of.l2 (x.1, x.2.1, x.2.2.1, r21, r25, -1, 0, x.2.2.2.1, x.2.2.2.2, e16) >>= fun (o41 : Int) =>
      M_ref18_Of.l3 (x.1, x.2.1, x.2.2.1, r21, r25, o41, 0#64, 0, x.2.2.2.1, x.2.2.2.2, e16) >>= fun (o51 : Set64 × T_ref18_Levels) =>
      if (decide (e16.Kind > 1)) = true then
        (room 64 o51.2.Ops ([(⟨e16.Kind, e16.Conj, (o51.1 &&& r21), (o51.1 &&& r25), r25, o41⟩ : T_ref18_Op)])) >>= fun (z54 : List T_ref18_Op) =>
        M_ref18_Of.l1 (x.1, x.2.1, (w64 (x.2.2.1 + 1)), x.2.2.2.1, (⟨o51.2.Joins, z54⟩ : T_ref18_Levels))
      else
        M_ref18_Of.l1 (x.1, x.2.1, (w64 (x.2.2.1 + 1)), x.2.2.2.1, o51.2)
  else
    some x.2.2.2.2
  partial_fixpoint
theorem M_ref18_Of.l1.ws : (∀ (x : List T_api_Tree × List Set64 × Int × T_ref18_Levels × T_ref18_Levels) (o : T_ref18_Levels), M_ref18_Of.l1 x = some o → (fun (x : List T_api_Tree × List Set64 × Int × T_ref18_Levels × T_ref18_Levels) (o : T_ref18_Levels) => ∀ (lo : Option Nat) (c : LCtx) (Q : Exit → LEnv → Prop) (hb : ∀ s : T_ref18_Levels, o = s → Q (.exit 2) ⟨[(2, .lref 2 0), (3, .lref 3 0)], [(2, [.own 20000200 17 (x.2.2.2.1.Joins.map T_ref18_Join.av), .own 20000201 6 (x.2.2.2.1.Ops.map T_ref18_Op.av)]), (3, [.own 20000300 17 (s.Joins.map T_ref18_Join.av), .own 20000301 6 (s.Ops.map T_ref18_Op.av)])]⟩), LLoop Try.prog 64 lo c 1 (VQ Q) ⟨[(2, .lref 2 0), (3, .lref 3 0), (4, .v (.slice .foreign (x.1.map T_api_Tree.av))), (5, .own 100500 1 (x.2.1.map AV.w)), (7, .v (.i64 x.2.2.1))], [(2, [.own 20000200 17 (x.2.2.2.1.Joins.map T_ref18_Join.av), .own 20000201 6 (x.2.2.2.1.Ops.map T_ref18_Op.av)]), (3, [.own 20000300 17 (x.2.2.2.2.Joins.map T_ref18_Join.av), .own 20000301 6 (x.2.2.2.2.Ops.map T_ref18_Op.av)])]⟩) x o) := by
  refine M_ref18_Of.l1.partial_correctness _ ?_
  · intro M_M_ref18_Of_l1 ih_M_ref18_Of_l1 x o h
    intro lo c Q hb
    refine LLoop.step mix fn_64 (by kernel_rfl) ?_
    simp -implicitDefEqProofs only [go_sem, Try.f64]
    by_cases h15 : (decide (x.2.2.1 < (x.1.length : Int))) = true
    · replace h := ite_some h h15
      try simp -implicitDefEqProofs only [go_sem, h15]
      obtain ⟨e16, h17, h⟩ := bind_some' h; replace h17 := getI_some h17; obtain ⟨h17', h17⟩ := h17
      try simp -implicitDefEqProofs only [go_sem, h15, h17, h17']
      by_cases h18 : (e16.Kind == 0) = true
      · replace h := ite_some h h18
        try simp -implicitDefEqProofs only [go_sem, h15, h17, h17', h18]
        exact LLoop.view [(100500, some 100500), (20000200, some 20000200), (20000201, some 20000201), (20000300, some 20000300), (20000301, some 20000301)] (by (first | rfl | simp -implicitDefEqProofs only [go_sem, h15, h17, h17', h18] <;> rfl)) (ih_M_ref18_Of_l1 _ _ h lo c Q hb)
      · replace h := ite_none h h18; replace h18 := bfalse h18
        try simp -implicitDefEqProofs only [go_sem, h15, h17, h17', h18]
        obtain ⟨e19, h20, h⟩ := bind_some' h
        try simp -implicitDefEqProofs only [go_sem, h15, h17, h17', h18, h20]
        obtain ⟨r21, h22, h⟩ := bind_some' h
        refine .plain _ _ rfl (M_ref10_Tables.w e19 _ h22) ?_
        try simp -implicitDefEqProofs only [go_sem, h15, h17, h17', h18, h20]
        obtain ⟨e23, h24, h⟩ := bind_some' h
        try simp -implicitDefEqProofs only [go_sem, h15, h17, h17', h18, h20, h24]
        obtain ⟨r25, h26, h⟩ := bind_some' h
        refine .plain _ _ rfl (M_ref10_Tables.w e23 _ h26) ?_
        try simp -implicitDefEqProofs only [go_sem, h15, h17, h17', h18, h20, h24]
        obtain ⟨o41, h42, h⟩ := bind_some' h
        refine LLoop.viewQ (LLoop.view [(100500, some 100500), (20000200, some 20000200), (20000201, some 20000201), (20000300, some 20000300), (20000301, some 20000301)] (by (first | rfl | simp -implicitDefEqProofs only [go_sem, h15, h17, h17', h18, h20, h24] <;> rfl)) (M_ref18_Of.l2.w (x.1, x.2.1, x.2.2.1, r21, r25, -1, 0, x.2.2.2.1, x.2.2.2.2, e16) _ h42 _ _ _ ?_))
        intro s' hs'; subst hs'
        try simp -implicitDefEqProofs only [go_sem, h15, h17, h17', h18, h20, h24]
        obtain ⟨o51, h52, h⟩ := bind_some' h
        refine LLoop.viewQ (LLoop.view [(100500, some 100500), (20000200, some 20000200), (20000201, some 20000201), (20000300, some 20000300), (20000301, some 20000301)] (by (first | rfl | simp -implicitDefEqProofs only [go_sem, h15, h17, h17', h18, h20, h24] <;> rfl)) (M_ref18_Of.l3.w (x.1, x.2.1, x.2.2.1, r21, r25, o41, 0#64, 0, x.2.2.2.1, x.2.2.2.2, e16) _ h52 _ _ _ ?_))
        intro s' hs'; subst hs'
        try simp -implicitDefEqProofs only [go_sem, h15, h17, h17', h18, h20, h24]
        by_cases h53 : (decide (e16.Kind > 1)) = true
        · replace h := ite_some h h53
          try simp -implicitDefEqProofs only [go_sem, h15, h17, h17', h18, h20, h24, h53]
          obtain ⟨z54, h55, h⟩ := bind_some' h; replace h55 := room_some h55; obtain ⟨h55', rfl⟩ := h55
          refine LApp.map (F := T_ref18_Op.av) (xs := o51.2.Ops) (ys := [(⟨e16.Kind, e16.Conj, (o51.1 &&& r21), (o51.1 &&& r25), r25, o41⟩ : T_ref18_Op)]) t85_elem t96_size t96_bytes t96_zsize rfl T_ref18_Op.len (by (first | rfl | simp -implicitDefEqProofs only [go_sem, h15, h17, h17', h18, h20, h24, h53] <;> rfl)) (by (first | rfl | simp -implicitDefEqProofs only [go_sem, h15, h17, h17', h18, h20, h24, h53] <;> rfl)) h55' ?_
          try simp -implicitDefEqProofs only [go_sem, h15, h17, h17', h18, h20, h24, h53]
          exact LLoop.view [(100500, some 100500), (20000200, some 20000200), (20000201, some 20000201), (20000300, some 20000300), (20000301, some 154)] (by (first | rfl | simp -implicitDefEqProofs only [go_sem, h15, h17, h17', h18, h20, h24, h53] <;> rfl)) (ih_M_ref18_Of_l1 _ _ h lo c Q hb)
        · replace h := ite_none h h53; replace h53 := bfalse h53
          try simp -implicitDefEqProofs only [go_sem, h15, h17, h17', h18, h20, h24, h53]
          exact LLoop.view [(100500, some 100500), (20000200, some 20000200), (20000201, some 20000201), (20000300, some 20000300), (20000301, some 20000301)] (by (first | rfl | simp -implicitDefEqProofs only [go_sem, h15, h17, h17', h18, h20, h24, h53] <;> rfl)) (ih_M_ref18_Of_l1 _ _ h lo c Q hb)
    · replace h := ite_none h h15; replace h15 := bfalse h15
      try simp -implicitDefEqProofs only [go_sem, h15]
      injection h with h; subst h
      exact .inr ⟨[(20000200, some 20000200), (20000201, some 20000201), (20000300, some 20000300), (20000301, some 20000301)], _, by (simp -implicitDefEqProofs only [go_sem, h15] <;> first | done | rfl | trivial), hb _ rfl⟩
theorem M_ref18_Of.l1.w : type_of% @M_ref18_Of.l1.ws := @M_ref18_Of.l1.ws
def M_ref18_Of (x : T_api_Tree) : Option (T_ref18_Levels) :=
  M_ref10_All x >>= fun r1 =>
  M_ref18_Of.l0 (r1, ([] : List Set64), 0, (⟨[], []⟩ : T_ref18_Levels), (⟨[], []⟩ : T_ref18_Levels)) >>= fun (o13 : List Set64) =>
  M_ref18_Of.l1 (r1, o13, 0, (⟨[], []⟩ : T_ref18_Levels), (⟨[], []⟩ : T_ref18_Levels)) >>= fun (o56 : T_ref18_Levels) =>
  some o56
set_option maxHeartbeats 8000000 in
theorem M_ref18_Of.w : ∀ (x : T_api_Tree) (r : T_ref18_Levels), M_ref18_Of x = some r → (fun (x : T_api_Tree) (r : T_ref18_Levels) => Fn Try.prog 64 [.agg (T_api_Tree.C x)] (.agg (T_ref18_Levels.C r))) x r := by
  intro x r h
  rw [M_ref18_Of] at h
  try dsimp only
  refine Fn.of_lc mix fn_64 lok_64 (by rfl) (flC (T_api_Tree.flatC _) (flN)) (T_ref18_Levels.flatC _) ?_
  simp -implicitDefEqProofs only [go_sem, Try.f64]
  obtain ⟨r1, h2, h⟩ := bind_some' h
  refine .plain _ _ rfl (M_ref10_All.w x _ h2) ?_
  try simp -implicitDefEqProofs only [go_sem]
  obtain ⟨o13, h14, h⟩ := bind_some' h
  refine LLoop.viewQ (LLoop.view [(100500, none), (20000200, none), (20000201, none), (20000300, none), (20000301, none)] (by (first | rfl | simp -implicitDefEqProofs only [go_sem] <;> rfl)) (M_ref18_Of.l0.w (r1, ([] : List Set64), 0, (⟨[], []⟩ : T_ref18_Levels), (⟨[], []⟩ : T_ref18_Levels)) _ h14 _ _ _ ?_))
  intro s' hs'; subst hs'
  try simp -implicitDefEqProofs only [go_sem]
  obtain ⟨o56, h57, h⟩ := bind_some' h
  refine LLoop.viewQ (LLoop.view [(100500, some 100500), (20000200, some 20000200), (20000201, some 20000201), (20000300, some 20000300), (20000301, some 20000301)] (by (first | rfl | simp -implicitDefEqProofs only [go_sem] <;> rfl)) (M_ref18_Of.l1.w (r1, o13, 0, (⟨[], []⟩ : T_ref18_Levels), (⟨[], []⟩ : T_ref18_Levels)) _ h57 _ _ _ ?_))
  intro s' hs'; subst hs'
  try simp -implicitDefEqProofs only [go_sem]
  injection h with h; subst h
  first | rfl | simp -implicitDefEqProofs only [go_sem] <;> rfl
end Go.Proofs.Ytcfekacmmfdggaa.G
set_option linter.unusedVariables false
set_option linter.unusedSimpArgs false
set_option maxRecDepth 100000
namespace Go.Proofs.Ytcfekacmmfdggaa.G
theorem lok_181 : (Try.f181.body.isSome && !(Try.f181.name == "runtime.NumGoroutine") && okL (bodyF Try.f181) Try.f181.ntmps (bodyF Try.f181)) = true := by kernel_rfl
def M_ref03_truth (x : Bool) : Option (Int) :=
  if x = true then
    some 2
  else
    some 0
set_option maxHeartbeats 8000000 in
theorem M_ref03_truth.w : ∀ (x : Bool) (r : Int), M_ref03_truth x = some r → (fun (x : Bool) (r : Int) => Fn Try.prog 181 [.bool x] (.i64 r)) x r := by
  intro x r h
  rw [M_ref03_truth] at h
  try dsimp only
  refine Fn.of_lc mix fn_181 lok_181 (by rfl) (flC (.atom _) (flN)) (.atom _) ?_
  simp -implicitDefEqProofs only [go_sem, Try.f181]
  by_cases h1 : x = true
  · replace h := ite_some h h1
    try simp -implicitDefEqProofs only [go_sem, h1]
    injection h with h; subst h
    first | rfl | simp -implicitDefEqProofs only [go_sem, h1] <;> rfl
  · replace h := ite_none h h1; replace h1 := bfalse h1
    try simp -implicitDefEqProofs only [go_sem, h1]
    injection h with h; subst h
    first | rfl | simp -implicitDefEqProofs only [go_sem, h1] <;> rfl
end Go.Proofs.Ytcfekacmmfdggaa.G
set_option linter.unusedVariables false
set_option linter.unusedSimpArgs false
set_option maxRecDepth 100000
namespace Go.Proofs.Ytcfekacmmfdggaa.G
theorem lok_177 : (Try.f177.body.isSome && !(Try.f177.name == "runtime.NumGoroutine") && okL (bodyF Try.f177) Try.f177.ntmps (bodyF Try.f177)) = true := by kernel_rfl
def M_ref03_Compare (x : Int × T_api_Value × T_api_Value) : Option (Int) :=
  if x.2.1.Null = true then
    some 1
  else
    if x.2.2.Null = true then
      some 1
    else
      if (x.1 == 1) = true then
        M_ref03_truth (x.2.1.N == x.2.2.N) >>= fun r4 =>
        some r4
      else
        if (x.1 == 2) = true then
          M_ref03_truth (x.2.1.N != x.2.2.N) >>= fun r7 =>
          some r7
        else
          if (x.1 == 3) = true then
            M_ref03_truth (decide (x.2.1.N < x.2.2.N)) >>= fun r10 =>
            some r10
          else
            if (x.1 == 4) = true then
              M_ref03_truth (decide (x.2.1.N ≤ x.2.2.N)) >>= fun r13 =>
              some r13
            else
              if (x.1 == 5) = true then
                M_ref03_truth (decide (x.2.1.N > x.2.2.N)) >>= fun r16 =>
                some r16
              else
                if (x.1 == 6) = true then
                  M_ref03_truth (decide (x.2.1.N ≥ x.2.2.N)) >>= fun r19 =>
                  some r19
                else
                  some 1
set_option maxHeartbeats 8000000 in
theorem M_ref03_Compare.w : ∀ (x : Int × T_api_Value × T_api_Value) (r : Int), M_ref03_Compare x = some r → (fun (x : Int × T_api_Value × T_api_Value) (r : Int) => Fn Try.prog 177 [.i64 x.1, .agg (T_api_Value.C x.2.1), .agg (T_api_Value.C x.2.2)] (.i64 r)) x r := by
  intro x r h
  rw [M_ref03_Compare] at h
  try dsimp only
  refine Fn.of_lc mix fn_177 lok_177 (by rfl) (flC (.atom _) (flC (T_api_Value.flatC _) (flC (T_api_Value.flatC _) (flN)))) (.atom _) ?_
  simp -implicitDefEqProofs only [go_sem, Try.f177]
  by_cases h1 : x.2.1.Null = true
  · replace h := ite_some h h1
    try simp -implicitDefEqProofs only [go_sem, h1]
    injection h with h; subst h
    first | rfl | simp -implicitDefEqProofs only [go_sem, h1] <;> rfl
  · replace h := ite_none h h1; replace h1 := bfalse h1
    try simp -implicitDefEqProofs only [go_sem, h1]
    by_cases h2 : x.2.2.Null = true
    · replace h := ite_some h h2
      try simp -implicitDefEqProofs only [go_sem, h1, h2]
      injection h with h; subst h
      first | rfl | simp -implicitDefEqProofs only [go_sem, h1, h2] <;> rfl
    · replace h := ite_none h h2; replace h2 := bfalse h2
      try simp -implicitDefEqProofs only [go_sem, h1, h2]
      by_cases h3 : (x.1 == 1) = true
      · replace h := ite_some h h3
        try simp -implicitDefEqProofs only [go_sem, h1, h2, h3]
        obtain ⟨r4, h5, h⟩ := bind_some' h
        refine .plain _ _ rfl (M_ref03_truth.w (x.2.1.N == x.2.2.N) _ h5) ?_
        try simp -implicitDefEqProofs only [go_sem, h1, h2, h3]
        injection h with h; subst h
        first | rfl | simp -implicitDefEqProofs only [go_sem, h1, h2, h3] <;> rfl
      · replace h := ite_none h h3; replace h3 := bfalse h3
        try simp -implicitDefEqProofs only [go_sem, h1, h2, h3]
        by_cases h6 : (x.1 == 2) = true
        · replace h := ite_some h h6
          try simp -implicitDefEqProofs only [go_sem, h1, h2, h3, h6]
          obtain ⟨r7, h8, h⟩ := bind_some' h
          refine .plain _ _ rfl (M_ref03_truth.w (x.2.1.N != x.2.2.N) _ h8) ?_
          try simp -implicitDefEqProofs only [go_sem, h1, h2, h3, h6]
          injection h with h; subst h
          first | rfl | simp -implicitDefEqProofs only [go_sem, h1, h2, h3, h6] <;> rfl
        · replace h := ite_none h h6; replace h6 := bfalse h6
          try simp -implicitDefEqProofs only [go_sem, h1, h2, h3, h6]
          by_cases h9 : (x.1 == 3) = true
          · replace h := ite_some h h9
            try simp -implicitDefEqProofs only [go_sem, h1, h2, h3, h6, h9]
            obtain ⟨r10, h11, h⟩ := bind_some' h
            refine .plain _ _ rfl (M_ref03_truth.w (decide (x.2.1.N < x.2.2.N)) _ h11) ?_
            try simp -implicitDefEqProofs only [go_sem, h1, h2, h3, h6, h9]
            injection h with h; subst h
            first | rfl | simp -implicitDefEqProofs only [go_sem, h1, h2, h3, h6, h9] <;> rfl
          · replace h := ite_none h h9; replace h9 := bfalse h9
            try simp -implicitDefEqProofs only [go_sem, h1, h2, h3, h6, h9]
            by_cases h12 : (x.1 == 4) = true
            · replace h := ite_some h h12
              try simp -implicitDefEqProofs only [go_sem, h1, h2, h3, h6, h9, h12]
              obtain ⟨r13, h14, h⟩ := bind_some' h
              refine .plain _ _ rfl (M_ref03_truth.w (decide (x.2.1.N ≤ x.2.2.N)) _ h14) ?_
              try simp -implicitDefEqProofs only [go_sem, h1, h2, h3, h6, h9, h12]
              injection h with h; subst h
              first | rfl | simp -implicitDefEqProofs only [go_sem, h1, h2, h3, h6, h9, h12] <;> rfl
            · replace h := ite_none h h12; replace h12 := bfalse h12
              try simp -implicitDefEqProofs only [go_sem, h1, h2, h3, h6, h9, h12]
              by_cases h15 : (x.1 == 5) = true
              · replace h := ite_some h h15
                try simp -implicitDefEqProofs only [go_sem, h1, h2, h3, h6, h9, h12, h15]
                obtain ⟨r16, h17, h⟩ := bind_some' h
                refine .plain _ _ rfl (M_ref03_truth.w (decide (x.2.1.N > x.2.2.N)) _ h17) ?_
                try simp -implicitDefEqProofs only [go_sem, h1, h2, h3, h6, h9, h12, h15]
                injection h with h; subst h
                first | rfl | simp -implicitDefEqProofs only [go_sem, h1, h2, h3, h6, h9, h12, h15] <;> rfl
              · replace h := ite_none h h15; replace h15 := bfalse h15
                try simp -implicitDefEqProofs only [go_sem, h1, h2, h3, h6, h9, h12, h15]
                by_cases h18 : (x.1 == 6) = true
                · replace h := ite_some h h18
                  try simp -implicitDefEqProofs only [go_sem, h1, h2, h3, h6, h9, h12, h15, h18]
                  obtain ⟨r19, h20, h⟩ := bind_some' h
                  refine .plain _ _ rfl (M_ref03_truth.w (decide (x.2.1.N ≥ x.2.2.N)) _ h20) ?_
                  try simp -implicitDefEqProofs only [go_sem, h1, h2, h3, h6, h9, h12, h15, h18]
                  injection h with h; subst h
                  first | rfl | simp -implicitDefEqProofs only [go_sem, h1, h2, h3, h6, h9, h12, h15, h18] <;> rfl
                · replace h := ite_none h h18; replace h18 := bfalse h18
                  try simp -implicitDefEqProofs only [go_sem, h1, h2, h3, h6, h9, h12, h15, h18]
                  injection h with h; subst h
                  first | rfl | simp -implicitDefEqProofs only [go_sem, h1, h2, h3, h6, h9, h12, h15, h18] <;> rfl
end Go.Proofs.Ytcfekacmmfdggaa.G
set_option linter.unusedVariables false
set_option linter.unusedSimpArgs false
set_option maxRecDepth 100000
namespace Go.Proofs.Ytcfekacmmfdggaa.G
theorem lok_176 : (Try.f176.body.isSome && !(Try.f176.name == "runtime.NumGoroutine") && okL (bodyF Try.f176) Try.f176.ntmps (bodyF Try.f176)) = true := by kernel_rfl
def M_ref07_sure (x : T_api_Term × Set64) : Option (Bool) :=
  if (x.1.Kind == 1) = true then
    M_ref01_Has (x.2, x.1.Table) >>= fun r2 =>
    if r2 = true then
      some true
    else
      some false
  else
    some x.1.Value.Null
set_option maxHeartbeats 8000000 in
theorem M_ref07_sure.w : ∀ (x : T_api_Term × Set64) (r : Bool), M_ref07_sure x = some r → (fun (x : T_api_Term × Set64) (r : Bool) => Fn Try.prog 176 [.agg (T_api_Term.C x.1), .w x.2] (.bool r)) x r := by
  intro x r h
  rw [M_ref07_sure] at h
  try dsimp only
  refine Fn.of_lc mix fn_176 lok_176 (by rfl) (flC (T_api_Term.flatC _) (flC (.atom _) (flN))) (.atom _) ?_
  simp -implicitDefEqProofs only [go_sem, Try.f176]
  by_cases h1 : (x.1.Kind == 1) = true
  · replace h := ite_some h h1
    try simp -implicitDefEqProofs only [go_sem, h1]
    obtain ⟨r2, h3, h⟩ := bind_some' h
    refine .plain _ _ rfl (M_ref01_Has.w (x.2, x.1.Table) _ h3) ?_
    try simp -implicitDefEqProofs only [go_sem, h1]
    by_cases h4 : r2 = true
    · replace h := ite_some h h4
      try simp -implicitDefEqProofs only [go_sem, h1, h4]
      injection h with h; subst h
      first | rfl | simp -implicitDefEqProofs only [go_sem, h1, h4] <;> rfl
    · replace h := ite_none h h4; replace h4 := bfalse h4
      try simp -implicitDefEqProofs only [go_sem, h1, h4]
      have h5 : (x.1.Kind != 1) = false := eqb_t h1
      try simp -implicitDefEqProofs only [go_sem, h1, h4, h5]
      injection h with h; subst h
      first | rfl | simp -implicitDefEqProofs only [go_sem, h1, h4, h5] <;> rfl
  · replace h := ite_none h h1; replace h1 := bfalse h1
    try simp -implicitDefEqProofs only [go_sem, h1]
    have h6 : (x.1.Kind != 1) = true := eqb_f h1
    try simp -implicitDefEqProofs only [go_sem, h1, h6]
    injection h with h; subst h
    first | rfl | simp -implicitDefEqProofs only [go_sem, h1, h6] <;> rfl
end Go.Proofs.Ytcfekacmmfdggaa.G
set_option linter.unusedVariables false
set_option linter.unusedSimpArgs false
set_option maxRecDepth 100000
namespace Go.Proofs.Ytcfekacmmfdggaa.G
theorem lok_160 : (Try.f160.body.isSome && !(Try.f160.name == "runtime.NumGoroutine") && okL (bodyF Try.f160) Try.f160.ntmps (bodyF Try.f160)) = true := by kernel_rfl
theorem lok_161 : (Try.f161.body.isSome && !(Try.f161.name == "runtime.NumGoroutine") && okL (bodyF Try.f161) Try.f161.ntmps (bodyF Try.f161)) = true := by kernel_rfl
theorem lok_162 : (Try.f162.body.isSome && !(Try.f162.name == "runtime.NumGoroutine") && okL (bodyF Try.f162) Try.f162.ntmps (bodyF Try.f162)) = true := by kernel_rfl
theorem lok_149 : (Try.f149.body.isSome && !(Try.f149.name == "runtime.NumGoroutine") && okL (bodyF Try.f149) Try.f149.ntmps (bodyF Try.f149)) = true := by kernel_rfl
theorem lok_169 : (Try.f169.body.isSome && !(Try.f169.name == "runtime.NumGoroutine") && okL (bodyF Try.f169) Try.f169.ntmps (bodyF Try.f169)) = true := by kernel_rfl
mutual
def M_ref07_all.l0 (x : List T_api_Pred × Set64 × Int) : Option (Lp (Unit) (Bool)) :=
  if (decide (x.2.2 < (x.1.length : Int))) = true then
    (getI x.1 x.2.2) >>= fun (e2 : T_api_Pred) =>
    M_ref07_Is (e2, x.2.1, 0) >>= fun r4 =>
    if r4 = true then
      M_ref07_all.l0 (x.1, x.2.1, (w64 (x.2.2 + 1)))
    else
      M_ref07_Is (e2, x.2.1, 1) >>= fun r7 =>
      if r7 = true then
        M_ref07_all.l0 (x.1, x.2.1, (w64 (x.2.2 + 1)))
      else
        M_ref07_Is (e2, x.2.1, 2) >>= fun r10 =>
        if r10 = true then
          M_ref07_all.l0 (x.1, x.2.1, (w64 (x.2.2 + 1)))
        else
          some (.ret false)
  else
    some (.brk ())
  partial_fixpoint
def M_ref07_Is (x : T_api_Pred × Set64 × Int) : Option (Bool) :=
  if (x.1.Kind == 1) = true then
    if (x.2.2 == x.1.Truth) = true then
      some true
    else
      if (x.2.2 == 1) = true then
        if (decide (x.1.Truth < 0)) = true then
          some true
        else
          some (decide (x.1.Truth > 2))
      else
        some false
  else
    if (x.1.Kind == 2) = true then
      if (decide (x.1.Op < 1)) = true then
        some (x.2.2 == 1)
      else
        if (decide (x.1.Op > 6)) = true then
          some (x.2.2 == 1)
        else
          M_ref07_sure (x.1.A, x.2.1) >>= fun r8 =>
          if r8 = true then
            some (x.2.2 == 1)
          else
            M_ref07_sure (x.1.B, x.2.1) >>= fun r11 =>
            if r11 = true then
              some (x.2.2 == 1)
            else
              if (x.1.A.Kind == 1) = true then
                some true
              else
                if (x.1.B.Kind == 1) = true then
                  some true
                else
                  M_ref03_Compare (x.1.Op, x.1.A.Value, x.1.B.Value) >>= fun r16 =>
                  some (x.2.2 == r16)
    else
      if (x.1.Kind == 3) = true then
        M_ref07_sure (x.1.A, x.2.1) >>= fun r19 =>
        if r19 = true then
          some (x.2.2 == 2)
        else
          if (x.2.2 == 0) = true then
            some true
          else
            if (x.2.2 == 2) = true then
              some (x.1.A.Kind == 1)
            else
              some false
      else
        if (x.1.Kind == 4) = true then
          M_ref07_many (x.1.Parts, x.2.1, x.2.2, 2) >>= fun r25 =>
          some r25
        else
          if (x.1.Kind == 5) = true then
            M_ref07_many (x.1.Parts, x.2.1, x.2.2, 0) >>= fun r28 =>
            some r28
          else
            if (x.1.Kind == 6) = true then
              if (decide ((x.1.Parts.length : Int) > 0)) = true then
                (x.1.Parts[0]?) >>= fun (e32 : T_api_Pred) =>
                M_ref07_Is (e32, x.2.1, (w64 (2 - x.2.2))) >>= fun r34 =>
                some r34
              else
                some (x.2.2 == 1)
            else
              some (x.2.2 == 1)
  partial_fixpoint
def M_ref07_many (x : List T_api_Pred × Set64 × Int × Int) : Option (Bool) :=
  M_ref07_all (x.1, x.2.1) >>= fun r1 =>
  if r1 = true then
    if (x.2.2.1 == x.2.2.2) = true then
      M_ref07_every (x.1, x.2.1, x.2.2.2, x.2.2.2) >>= fun r5 =>
      some r5
    else
      if (x.2.2.1 == 1) = true then
        M_ref07_some (x.1, x.2.1, 1) >>= fun r8 =>
        if r8 = true then
          M_ref07_every (x.1, x.2.1, 1, x.2.2.2) >>= fun r11 =>
          some r11
        else
          some false
      else
        M_ref07_some (x.1, x.2.1, (w64 (2 - x.2.2.2))) >>= fun r13 =>
        some r13
  else
    some false
  partial_fixpoint
def M_ref07_some (x : List T_api_Pred × Set64 × Int) : Option (Bool) :=
  M_ref07_some.l0 (x.1, x.2.1, x.2.2, 0) >>= fun (o7 : Lp (Unit) (Bool)) => match o7 with
  | .brk s10 =>
    some false
  | .ret r9 =>
    some r9
  partial_fixpoint
def M_ref07_some.l0 (x : List T_api_Pred × Set64 × Int × Int) : Option (Lp (Unit) (Bool)) :=
  if (decide (x.2.2.2 < (x.1.length : Int))) = true then
    (getI x.1 x.2.2.2) >>= fun (e2 : T_api_Pred) =>
    M_ref07_Is (e2, x.2.1, x.2.2.1) >>= fun r4 =>
    if r4 = true then
      some (.ret true)
    else
      M_ref07_some.l0 (x.1, x.2.1, x.2.2.1, (w64 (x.2.2.2 + 1)))
  else
    some (.brk ())
  partial_fixpoint
def M_ref07_every (x : List T_api_Pred × Set64 × Int × Int) : Option (Bool) :=
  M_ref07_every.l0 (x.1, x.2.1, x.2.2.1, x.2.2.2, 0) >>= fun (o10 : Lp (Unit) (Bool)) => match o10 with
  | .brk s13 =>
    some true
  | .ret r12 =>
    some r12
  partial_fixpoint
def M_ref07_every.l0 (x : List T_api_Pred × Set64 × Int × Int × Int) : Option (Lp (Unit) (Bool)) :=
  if (decide (x.2.2.2.2 < (x.1.length : Int))) = true then
    (getI x.1 x.2.2.2.2) >>= fun (e2 : T_api_Pred) =>
    M_ref07_Is (e2, x.2.1, x.2.2.1) >>= fun r4 =>
    if r4 = true then
      M_ref07_every.l0 (x.1, x.2.1, x.2.2.1, x.2.2.2.1, (w64 (x.2.2.2.2 + 1)))
    else
      M_ref07_Is (e2, x.2.1, x.2.2.2.1) >>= fun r7 =>
      if r7 = true then
        M_ref07_every.l0 (x.1, x.2.1, x.2.2.1, x.2.2.2.1, (w64 (x.2.2.2.2 + 1)))
      else
        some (.ret false)
  else
    some (.brk ())
  partial_fixpoint
def M_ref07_all (x : List T_api_Pred × Set64) : Option (Bool) :=
  M_ref07_all.l0 (x.1, x.2, 0) >>= fun (o13 : Lp (Unit) (Bool)) => match o13 with
  | .brk s16 =>
    some true
  | .ret r15 =>
    some r15
  partial_fixpoint
end
set_option maxHeartbeats 8000000 in
theorem M_ref07_all.l0.ws : (∀ (x : List T_api_Pred × Set64 × Int) (o : Lp (Unit) (Bool)), M_ref07_all.l0 x = some o → (fun (x : List T_api_Pred × Set64 × Int) (o : Lp (Unit) (Bool)) => ∀ (lo : Option Nat) (c : LCtx) (Q : Exit → LEnv → Prop) (hb : ∀ s : Unit, o = Lp.brk s → Q (.exit 0) ⟨[], []⟩) (hr : ∀ (r : Bool) (L : LEnv), o = .ret r → LPostF Try.prog [.tmp 4] (.bool r) (fun _ => True) .ret L → Q .ret L), LLoop Try.prog 160 lo c 0 (VQ Q) ⟨[(0, .v (.slice .foreign (x.1.map T_api_Pred.av))), (1, .v (.w x.2.1)), (5, .v (.i64 x.2.2))], []⟩) x o) ∧ (∀ (x : T_api_Pred × Set64 × Int) (o : Bool), M_ref07_Is x = some o → (fun (x : T_api_Pred × Set64 × Int) (r : Bool) => Fn Try.prog 169 [.agg (T_api_Pred.C x.1), .w x.2.1, .i64 x.2.2] (.bool r)) x o) ∧ (∀ (x : List T_api_Pred × Set64 × Int × Int) (o : Bool), M_ref07_many x = some o → (fun (x : List T_api_Pred × Set64 × Int × Int) (r : Bool) => Fn Try.prog 149 [.slice .foreign (x.1.map T_api_Pred.av), .w x.2.1, .i64 x.2.2.1, .i64 x.2.2.2] (.bool r)) x o) ∧ (∀ (x : List T_api_Pred × Set64 × Int) (o : Bool), M_ref07_some x = some o → (fun (x : List T_api_Pred × Set64 × Int) (r : Bool) => Fn Try.prog 162 [.slice .foreign (x.1.map T_api_Pred.av), .w x.2.1, .i64 x.2.2] (.bool r)) x o) ∧ (∀ (x : List T_api_Pred × Set64 × Int × Int) (o : Lp (Unit) (Bool)), M_ref07_some.l0 x = some o → (fun (x : List T_api_Pred × Set64 × Int × Int) (o : Lp (Unit) (Bool)) => ∀ (lo : Option Nat) (c : LCtx) (Q : Exit → LEnv → Prop) (hb : ∀ s : Unit, o = Lp.brk s → Q (.exit 0) ⟨[], []⟩) (hr : ∀ (r : Bool) (L : LEnv), o = .ret r → LPostF Try.prog [.tmp 6] (.bool r) (fun _ => True) .ret L → Q .ret L), LLoop Try.prog 162 lo c 0 (VQ Q) ⟨[(0, .v (.slice .foreign (x.1.map T_api_Pred.av))), (1, .v (.w x.2.1)), (2, .v (.i64 x.2.2.1)), (7, .v (.i64 x.2.2.2))], []⟩) x o) ∧ (∀ (x : List T_api_Pred × Set64 × Int × Int) (o : Bool), M_ref07_every x = some o → (fun (x : List T_api_Pred × Set64 × Int × Int) (r : Bool) => Fn Try.prog 161 [.slice .foreign (x.1.map T_api_Pred.av), .w x.2.1, .i64 x.2.2.1, .i64 x.2.2.2] (.bool r)) x o) ∧ (∀ (x : List T_api_Pred × Set64 × Int × Int × Int) (o : Lp (Unit) (Bool)), M_ref07_every.l0 x = some o → (fun (x : List T_api_Pred × Set64 × Int × Int × Int) (o : Lp (Unit) (Bool)) => ∀ (lo : Option Nat) (c : LCtx) (Q : Exit → LEnv → Prop) (hb : ∀ s : Unit, o = Lp.brk s → Q (.exit 0) ⟨[], []⟩) (hr : ∀ (r : Bool) (L : LEnv), o = .ret r → LPostF Try.prog [.tmp 8] (.bool r) (fun _ => True) .ret L → Q .ret L), LLoop Try.prog 161 lo c 0 (VQ Q) ⟨[(0, .v (.slice .foreign (x.1.map T_api_Pred.av))), (1, .v (.w x.2.1)), (2, .v (.i64 x.2.2.1)), (3, .v (.i64 x.2.2.2.1)), (9, .v (.i64 x.2.2.2.2))], []⟩) x o) ∧ (∀ (x : List T_api_Pred × Set64) (o : Bool), M_ref07_all x = some o → (fun (x : List T_api_Pred × Set64) (r : Bool) => Fn Try.prog 160 [.slice .foreign (x.1.map T_api_Pred.av), .w x.2] (.bool r)) x o) := by
  refine M_ref07_all.l0.mutual_partial_correctness _ _ _ _ _ _ _ _ ?_ ?_ ?_ ?_ ?_ ?_ ?_ ?_
  · intro M_M_ref07_all_l0 M_M_ref07_Is ih_M_ref07_all_l0 ih_M_ref07_Is x o h
    intro lo c Q hb hr
    refine LLoop.step mix fn_160 (by kernel_rfl) ?_
    simp -implicitDefEqProofs only [go_sem, Try.f160]
    by_cases h1 : (decide (x.2.2 < (x.1.length : Int))) = true
    · replace h := ite_some h h1
      try simp -implicitDefEqProofs only [go_sem, h1]
      obtain ⟨e2, h3, h⟩ := bind_some' h; replace h3 := getI_some h3; obtain ⟨h3', h3⟩ := h3
      try simp -implicitDefEqProofs only [go_sem, h1, h3, h3']
      obtain ⟨r4, h5, h⟩ := bind_some' h
      refine .plain _ _ rfl (ih_M_ref07_Is (e2, x.2.1, 0) _ h5) ?_
      try simp -implicitDefEqProofs only [go_sem, h1, h3, h3']
      by_cases h6 : r4 = true
      · replace h := ite_some h h6
        try simp -implicitDefEqProofs only [go_sem, h1, h3, h3', h6]
        exact LLoop.view [] (by (first | rfl | simp -implicitDefEqProofs only [go_sem, h1, h3, h3', h6] <;> rfl)) (ih_M_ref07_all_l0 _ _ h lo c Q hb hr)
      · replace h := ite_none h h6; replace h6 := bfalse h6
        try simp -implicitDefEqProofs only [go_sem, h1, h3, h3', h6]
        obtain ⟨r7, h8, h⟩ := bind_some' h
        refine .plain _ _ rfl (ih_M_ref07_Is (e2, x.2.1, 1) _ h8) ?_
        try simp -implicitDefEqProofs only [go_sem, h1, h3, h3', h6]
        by_cases h9 : r7 = true
        · replace h := ite_some h h9
          try simp -implicitDefEqProofs only [go_sem, h1, h3, h3', h6, h9]
          exact LLoop.view [] (by (first | rfl | simp -implicitDefEqProofs only [go_sem, h1, h3, h3', h6, h9] <;> rfl)) (ih_M_ref07_all_l0 _ _ h lo c Q hb hr)
        · replace h := ite_none h h9; replace h9 := bfalse h9
          try simp -implicitDefEqProofs only [go_sem, h1, h3, h3', h6, h9]
          obtain ⟨r10, h11, h⟩ := bind_some' h
          refine .plain _ _ rfl (ih_M_ref07_Is (e2, x.2.1, 2) _ h11) ?_
          try simp -implicitDefEqProofs only [go_sem, h1, h3, h3', h6, h9]
          by_cases h12 : r10 = true
          · replace h := ite_some h h12
            try simp -implicitDefEqProofs only [go_sem, h1, h3, h3', h6, h9, h12]
            exact LLoop.view [] (by (first | rfl | simp -implicitDefEqProofs only [go_sem, h1, h3, h3', h6, h9, h12] <;> rfl)) (ih_M_ref07_all_l0 _ _ h lo c Q hb hr)
          · replace h := ite_none h h12; replace h12 := bfalse h12
            try simp -implicitDefEqProofs only [go_sem, h1, h3, h3', h6, h9, h12]
            injection h with h; subst h
            exact .inl (hr _ _ rfl (by (first | rfl | simp -implicitDefEqProofs only [go_sem, h1, h3, h3', h6, h9, h12] <;> rfl)))
    · replace h := ite_none h h1; replace h1 := bfalse h1
      try simp -implicitDefEqProofs only [go_sem, h1]
      injection h with h; subst h
      exact .inr ⟨[], _, by (simp -implicitDefEqProofs only [go_sem, h1] <;> first | done | rfl | trivial), hb _ rfl⟩
  · intro M_M_ref07_Is M_M_ref07_many ih_M_ref07_Is ih_M_ref07_many x r h
    refine Fn.of_lc mix fn_169 lok_169 (by rfl) (flC (T_api_Pred.flatC _) (flC (.atom _) (flC (.atom _) (flN)))) (.atom _) ?_
    simp -implicitDefEqProofs only [go_sem, Try.f169]
    by_cases h1 : (x.1.Kind == 1) = true
    · replace h := ite_some h h1
      try simp -implicitDefEqProofs only [go_sem, h1]
      by_cases h2 : (x.2.2 == x.1.Truth) = true
      · replace h := ite_some h h2
        try simp -implicitDefEqProofs only [go_sem, h1, h2]
        injection h with h; subst h
        first | rfl | simp -implicitDefEqProofs only [go_sem, h1, h2] <;> rfl
      · replace h := ite_none h h2; replace h2 := bfalse h2
        try simp -implicitDefEqProofs only [go_sem, h1, h2]
        by_cases h3 : (x.2.2 == 1) = true
        · replace h := ite_some h h3
          try simp -implicitDefEqProofs only [go_sem, h1, h2, h3]
          by_cases h4 : (decide (x.1.Truth < 0)) = true
          · replace h := ite_some h h4
            try simp -implicitDefEqProofs only [go_sem, h1, h2, h3, h4]
            injection h with h; subst h
            first | rfl | simp -implicitDefEqProofs only [go_sem, h1, h2, h3, h4] <;> rfl
          · replace h := ite_none h h4; replace h4 := bfalse h4
            try simp -implicitDefEqProofs only [go_sem, h1, h2, h3, h4]
            injection h with h; subst h
            first | rfl | simp -implicitDefEqProofs only [go_sem, h1, h2, h3, h4] <;> rfl
        · replace h := ite_none h h3; replace h3 := bfalse h3
          try simp -implicitDefEqProofs only [go_sem, h1, h2, h3]
          injection h with h; subst h
          first | rfl | simp -implicitDefEqProofs only [go_sem, h1, h2, h3] <;> rfl
    · replace h := ite_none h h1; replace h1 := bfalse h1
      try simp -implicitDefEqProofs only [go_sem, h1]
      by_cases h5 : (x.1.Kind == 2) = true
      · replace h := ite_some h h5
        try simp -implicitDefEqProofs only [go_sem, h1, h5]
        by_cases h6 : (decide (x.1.Op < 1)) = true
        · replace h := ite_some h h6
          try simp -implicitDefEqProofs only [go_sem, h1, h5, h6]
          injection h with h; subst h
          first | rfl | simp -implicitDefEqProofs only [go_sem, h1, h5, h6] <;> rfl
        · replace h := ite_none h h6; replace h6 := bfalse h6
          try simp -implicitDefEqProofs only [go_sem, h1, h5, h6]
          by_cases h7 : (decide (x.1.Op > 6)) = true
          · replace h := ite_some h h7
            try simp -implicitDefEqProofs only [go_sem, h1, h5, h6, h7]
            injection h with h; subst h
            first | rfl | simp -implicitDefEqProofs only [go_sem, h1, h5, h6, h7] <;> rfl
          · replace h := ite_none h h7; replace h7 := bfalse h7
            try simp -implicitDefEqProofs only [go_sem, h1, h5, h6, h7]
            obtain ⟨r8, h9, h⟩ := bind_some' h
            refine .plain _ _ rfl (M_ref07_sure.w (x.1.A, x.2.1) _ h9) ?_
            try simp -implicitDefEqProofs only [go_sem, h1, h5, h6, h7]
            by_cases h10 : r8 = true
            · replace h := ite_some h h10
              try simp -implicitDefEqProofs only [go_sem, h1, h5, h6, h7, h10]
              injection h with h; subst h
              first | rfl | simp -implicitDefEqProofs only [go_sem, h1, h5, h6, h7, h10] <;> rfl
            · replace h := ite_none h h10; replace h10 := bfalse h10
              try simp -implicitDefEqProofs only [go_sem, h1, h5, h6, h7, h10]
              obtain ⟨r11, h12, h⟩ := bind_some' h
              refine .plain _ _ rfl (M_ref07_sure.w (x.1.B, x.2.1) _ h12) ?_
              try simp -implicitDefEqProofs only [go_sem, h1, h5, h6, h7, h10]
              by_cases h13 : r11 = true
              · replace h := ite_some h h13
                try simp -implicitDefEqProofs only [go_sem, h1, h5, h6, h7, h10, h13]
                injection h with h; subst h
                first | rfl | simp -implicitDefEqProofs only [go_sem, h1, h5, h6, h7, h10, h13] <;> rfl
              · replace h := ite_none h h13; replace h13 := bfalse h13
                try simp -implicitDefEqProofs only [go_sem, h1, h5, h6, h7, h10, h13]
                by_cases h14 : (x.1.A.Kind == 1) = true
                · replace h := ite_some h h14
                  try simp -implicitDefEqProofs only [go_sem, h1, h5, h6, h7, h10, h13, h14]
                  injection h with h; subst h
                  first | rfl | simp -implicitDefEqProofs only [go_sem, h1, h5, h6, h7, h10, h13, h14] <;> rfl
                · replace h := ite_none h h14; replace h14 := bfalse h14
                  try simp -implicitDefEqProofs only [go_sem, h1, h5, h6, h7, h10, h13, h14]
                  by_cases h15 : (x.1.B.Kind == 1) = true
                  · replace h := ite_some h h15
                    try simp -implicitDefEqProofs only [go_sem, h1, h5, h6, h7, h10, h13, h14, h15]
                    injection h with h; subst h
                    first | rfl | simp -implicitDefEqProofs only [go_sem, h1, h5, h6, h7, h10, h13, h14, h15] <;> rfl
                  · replace h := ite_none h h15; replace h15 := bfalse h15
                    try simp -implicitDefEqProofs only [go_sem, h1, h5, h6, h7, h10, h13, h14, h15]
                    obtain ⟨r16, h17, h⟩ := bind_some' h
                    refine .plain _ _ rfl (M_ref03_Compare.w (x.1.Op, x.1.A.Value, x.1.B.Value) _ h17) ?_
                    try simp -implicitDefEqProofs only [go_sem, h1, h5, h6, h7, h10, h13, h14, h15]
                    injection h with h; subst h
                    first | rfl | simp -implicitDefEqProofs only [go_sem, h1, h5, h6, h7, h10, h13, h14, h15] <;> rfl
      · replace h := ite_none h h5; replace h5 := bfalse h5
        try simp -implicitDefEqProofs only [go_sem, h1, h5]
        by_cases h18 : (x.1.Kind == 3) = true
        · replace h := ite_some h h18
          try simp -implicitDefEqProofs only [go_sem, h1, h5, h18]
          obtain ⟨r19, h20, h⟩ := bind_some' h
          refine .plain _ _ rfl (M_ref07_sure.w (x.1.A, x.2.1) _ h20) ?_
          try simp -implicitDefEqProofs only [go_sem, h1, h5, h18]
          by_cases h21 : r19 = true
          · replace h := ite_some h h21
            try simp -implicitDefEqProofs only [go_sem, h1, h5, h18, h21]
            injection h with h; subst h
            first | rfl | simp -implicitDefEqProofs only [go_sem, h1, h5, h18, h21] <;> rfl
          · replace h := ite_none h h21; replace h21 := bfalse h21
            try simp -implicitDefEqProofs only [go_sem, h1, h5, h18, h21]
            by_cases h22 : (x.2.2 == 0) = true
            · replace h := ite_some h h22
              try simp -implicitDefEqProofs only [go_sem, h1, h5, h18, h21, h22]
              injection h with h; subst h
              first | rfl | simp -implicitDefEqProofs only [go_sem, h1, h5, h18, h21, h22] <;> rfl
            · replace h := ite_none h h22; replace h22 := bfalse h22
              try simp -implicitDefEqProofs only [go_sem, h1, h5, h18, h21, h22]
              by_cases h23 : (x.2.2 == 2) = true
              · replace h := ite_some h h23
                try simp -implicitDefEqProofs only [go_sem, h1, h5, h18, h21, h22, h23]
                injection h with h; subst h
                first | rfl | simp -implicitDefEqProofs only [go_sem, h1, h5, h18, h21, h22, h23] <;> rfl
              · replace h := ite_none h h23; replace h23 := bfalse h23
                try simp -implicitDefEqProofs only [go_sem, h1, h5, h18, h21, h22, h23]
                injection h with h; subst h
                first | rfl | simp -implicitDefEqProofs only [go_sem, h1, h5, h18, h21, h22, h23] <;> rfl
        · replace h := ite_none h h18; replace h18 := bfalse h18
          try simp -implicitDefEqProofs only [go_sem, h1, h5, h18]
          by_cases h24 : (x.1.Kind == 4) = true
          · replace h := ite_some h h24
            try simp -implicitDefEqProofs only [go_sem, h1, h5, h18, h24]
            obtain ⟨r25, h26, h⟩ := bind_some' h
            refine .plain _ _ rfl (ih_M_ref07_many (x.1.Parts, x.2.1, x.2.2, 2) _ h26) ?_
            try simp -implicitDefEqProofs only [go_sem, h1, h5, h18, h24]
            injection h with h; subst h
            first | rfl | simp -implicitDefEqProofs only [go_sem, h1, h5, h18, h24] <;> rfl
          · replace h := ite_none h h24; replace h24 := bfalse h24
            try simp -implicitDefEqProofs only [go_sem, h1, h5, h18, h24]
            by_cases h27 : (x.1.Kind == 5) = true
            · replace h := ite_some h h27
              try simp -implicitDefEqProofs only [go_sem, h1, h5, h18, h24, h27]
              obtain ⟨r28, h29, h⟩ := bind_some' h
              refine .plain _ _ rfl (ih_M_ref07_many (x.1.Parts, x.2.1, x.2.2, 0) _ h29) ?_
              try simp -implicitDefEqProofs only [go_sem, h1, h5, h18, h24, h27]
              injection h with h; subst h
              first | rfl | simp -implicitDefEqProofs only [go_sem, h1, h5, h18, h24, h27] <;> rfl
            · replace h := ite_none h h27; replace h27 := bfalse h27
              try simp -implicitDefEqProofs only [go_sem, h1, h5, h18, h24, h27]
              by_cases h30 : (x.1.Kind == 6) = true
              · replace h := ite_some h h30
                try simp -implicitDefEqProofs only [go_sem, h1, h5, h18, h24, h27, h30]
                by_cases h31 : (decide ((x.1.Parts.length : Int) > 0)) = true
                · replace h := ite_some h h31
                  try simp -implicitDefEqProofs only [go_sem, h1, h5, h18, h24, h27, h30, h31]
                  obtain ⟨e32, h33, h⟩ := bind_some' h
                  try simp -implicitDefEqProofs only [go_sem, h1, h5, h18, h24, h27, h30, h31, h33]
                  obtain ⟨r34, h35, h⟩ := bind_some' h
                  refine .plain _ _ rfl (ih_M_ref07_Is (e32, x.2.1, (w64 (2 - x.2.2))) _ h35) ?_
                  try simp -implicitDefEqProofs only [go_sem, h1, h5, h18, h24, h27, h30, h31, h33]
                  injection h with h; subst h
                  first | rfl | simp -implicitDefEqProofs only [go_sem, h1, h5, h18, h24, h27, h30, h31, h33] <;> rfl
                · replace h := ite_none h h31; replace h31 := bfalse h31
                  try simp -implicitDefEqProofs only [go_sem, h1, h5, h18, h24, h27, h30, h31]
                  injection h with h; subst h
                  first | rfl | simp -implicitDefEqProofs only [go_sem, h1, h5, h18, h24, h27, h30, h31] <;> rfl
              · replace h := ite_none h h30; replace h30 := bfalse h30
                try simp -implicitDefEqProofs only [go_sem, h1, h5, h18, h24, h27, h30]
                injection h with h; subst h
                first | rfl | simp -implicitDefEqProofs only [go_sem, h1, h5, h18, h24, h27, h30] <;> rfl
  · intro M_M_ref07_some M_M_ref07_every M_M_ref07_all ih_M_ref07_some ih_M_ref07_every ih_M_ref07_all x r h
    refine Fn.of_lc mix fn_149 lok_149 (by rfl) (flC (flat_slice _ T_api_Pred.flat _) (flC (.atom _) (flC (.atom _) (flC (.atom _) (flN))))) (.atom _) ?_
    simp -implicitDefEqProofs only [go_sem, Try.f149]
    obtain ⟨r1, h2, h⟩ := bind_some' h
    refine .plain _ _ rfl (ih_M_ref07_all (x.1, x.2.1) _ h2) ?_
    try simp -implicitDefEqProofs only [go_sem]
    by_cases h3 : r1 = true
    · replace h := ite_some h h3
      try simp -implicitDefEqProofs only [go_sem, h3]
      by_cases h4 : (x.2.2.1 == x.2.2.2) = true
      · replace h := ite_some h h4
        try simp -implicitDefEqProofs only [go_sem, h3, h4]
        obtain ⟨r5, h6, h⟩ := bind_some' h
        refine .plain _ _ rfl (ih_M_ref07_every (x.1, x.2.1, x.2.2.2, x.2.2.2) _ h6) ?_
        try simp -implicitDefEqProofs only [go_sem, h3, h4]
        injection h with h; subst h
        first | rfl | simp -implicitDefEqProofs only [go_sem, h3, h4] <;> rfl
      · replace h := ite_none h h4; replace h4 := bfalse h4
        try simp -implicitDefEqProofs only [go_sem, h3, h4]
        by_cases h7 : (x.2.2.1 == 1) = true
        · replace h := ite_some h h7
          try simp -implicitDefEqProofs only [go_sem, h3, h4, h7]
          obtain ⟨r8, h9, h⟩ := bind_some' h
          refine .plain _ _ rfl (ih_M_ref07_some (x.1, x.2.1, 1) _ h9) ?_
          try simp -implicitDefEqProofs only [go_sem, h3, h4, h7]
          by_cases h10 : r8 = true
          · replace h := ite_some h h10
            try simp -implicitDefEqProofs only [go_sem, h3, h4, h7, h10]
            obtain ⟨r11, h12, h⟩ := bind_some' h
            refine .plain _ _ rfl (ih_M_ref07_every (x.1, x.2.1, 1, x.2.2.2) _ h12) ?_
            try simp -implicitDefEqProofs only [go_sem, h3, h4, h7, h10]
            injection h with h; subst h
            first | rfl | simp -implicitDefEqProofs only [go_sem, h3, h4, h7, h10] <;> rfl
          · replace h := ite_none h h10; replace h10 := bfalse h10
            try simp -implicitDefEqProofs only [go_sem, h3, h4, h7, h10]
            injection h with h; subst h
            first | rfl | simp -implicitDefEqProofs only [go_sem, h3, h4, h7, h10] <;> rfl
        · replace h := ite_none h h7; replace h7 := bfalse h7
          try simp -implicitDefEqProofs only [go_sem, h3, h4, h7]
          obtain ⟨r13, h14, h⟩ := bind_some' h
          refine .plain _ _ rfl (ih_M_ref07_some (x.1, x.2.1, (w64 (2 - x.2.2.2))) _ h14) ?_
          try simp -implicitDefEqProofs only [go_sem, h3, h4, h7]
          injection h with h; subst h
          first | rfl | simp -implicitDefEqProofs only [go_sem, h3, h4, h7] <;> rfl
    · replace h := ite_none h h3; replace h3 := bfalse h3
      try simp -implicitDefEqProofs only [go_sem, h3]
      injection h with h; subst h
      first | rfl | simp -implicitDefEqProofs only [go_sem, h3] <;> rfl
  · intro M_M_ref07_some_l0 ih_M_ref07_some_l0 x r h
    refine Fn.of_lc mix fn_162 lok_162 (by rfl) (flC (flat_slice _ T_api_Pred.flat _) (flC (.atom _) (flC (.atom _) (flN)))) (.atom _) ?_
    simp -implicitDefEqProofs only [go_sem, Try.f162]
    obtain ⟨o7, h8, h⟩ := bind_some' h
    refine LLoop.viewQ (LLoop.view [] (by (first | rfl | simp -implicitDefEqProofs only [go_sem] <;> rfl)) (ih_M_ref07_some_l0 (x.1, x.2.1, x.2.2, 0) _ h8 _ _ _ ?_ ?_))
    · intro s10 hs'; subst hs'
      try simp -implicitDefEqProofs only [go_sem]
      injection h with h; subst h
      first | rfl | simp -implicitDefEqProofs only [go_sem] <;> rfl
    · intro r9 L' hs' hL'; subst hs'
      injection h with h; subst h
      first | exact hL' | (simp -implicitDefEqProofs only [go_sem]; exact hL') | (simp -implicitDefEqProofs only [go_sem]; simp -implicitDefEqProofs only [go_sem] at hL'; exact hL')
  · intro M_M_ref07_Is M_M_ref07_some_l0 ih_M_ref07_Is ih_M_ref07_some_l0 x o h
    intro lo c Q hb hr
    refine LLoop.step mix fn_162 (by kernel_rfl) ?_
    simp -implicitDefEqProofs only [go_sem, Try.f162]
    by_cases h1 : (decide (x.2.2.2 < (x.1.length : Int))) = true
    · replace h := ite_some h h1
      try simp -implicitDefEqProofs only [go_sem, h1]
      obtain ⟨e2, h3, h⟩ := bind_some' h; replace h3 := getI_some h3; obtain ⟨h3', h3⟩ := h3
      try simp -implicitDefEqProofs only [go_sem, h1, h3, h3']
      obtain ⟨r4, h5, h⟩ := bind_some' h
      refine .plain _ _ rfl (ih_M_ref07_Is (e2, x.2.1, x.2.2.1) _ h5) ?_
      try simp -implicitDefEqProofs only [go_sem, h1, h3, h3']
      by_cases h6 : r4 = true
      · replace h := ite_some h h6
        try simp -implicitDefEqProofs only [go_sem, h1, h3, h3', h6]
        injection h with h; subst h
        exact .inl (hr _ _ rfl (by (first | rfl | simp -implicitDefEqProofs only [go_sem, h1, h3, h3', h6] <;> rfl)))
      · replace h := ite_none h h6; replace h6 := bfalse h6
        try simp -implicitDefEqProofs only [go_sem, h1, h3, h3', h6]
        exact LLoop.view [] (by (first | rfl | simp -implicitDefEqProofs only [go_sem, h1, h3, h3', h6] <;> rfl)) (ih_M_ref07_some_l0 _ _ h lo c Q hb hr)
    · replace h := ite_none h h1; replace h1 := bfalse h1
      try simp -implicitDefEqProofs only [go_sem, h1]
      injection h with h; subst h
      exact .inr ⟨[], _, by (simp -implicitDefEqProofs only [go_sem, h1] <;> first | done | rfl | trivial), hb _ rfl⟩
  · intro M_M_ref07_every_l0 ih_M_ref07_every_l0 x r h
    refine Fn.of_lc mix fn_161 lok_161 (by rfl) (flC (flat_slice _ T_api_Pred.flat _) (flC (.atom _) (flC (.atom _) (flC (.atom _) (flN))))) (.atom _) ?_
    simp -implicitDefEqProofs only [go_sem, Try.f161]
    obtain ⟨o10, h11, h⟩ := bind_some' h
    refine LLoop.viewQ (LLoop.view [] (by (first | rfl | simp -implicitDefEqProofs only [go_sem] <;> rfl)) (ih_M_ref07_every_l0 (x.1, x.2.1, x.2.2.1, x.2.2.2, 0) _ h11 _ _ _ ?_ ?_))
    · intro s13 hs'; subst hs'
      try simp -implicitDefEqProofs only [go_sem]
      injection h with h; subst h
      first | rfl | simp -implicitDefEqProofs only [go_sem] <;> rfl
    · intro r12 L' hs' hL'; subst hs'
      injection h with h; subst h
      first | exact hL' | (simp -implicitDefEqProofs only [go_sem]; exact hL') | (simp -implicitDefEqProofs only [go_sem]; simp -implicitDefEqProofs only [go_sem] at hL'; exact hL')
  · intro M_M_ref07_Is M_M_ref07_every_l0 ih_M_ref07_Is ih_M_ref07_every_l0 x o h
    intro lo c Q hb hr
    refine LLoop.step mix fn_161 (by kernel_rfl) ?_
    simp -implicitDefEqProofs only [go_sem, Try.f161]
    by_cases h1 : (decide (x.2.2.2.2 < (x.1.length : Int))) = true
    · replace h := ite_some h h1
      try simp -implicitDefEqProofs only [go_sem, h1]
      obtain ⟨e2, h3, h⟩ := bind_some' h; replace h3 := getI_some h3; obtain ⟨h3', h3⟩ := h3
      try simp -implicitDefEqProofs only [go_sem, h1, h3, h3']
      obtain ⟨r4, h5, h⟩ := bind_some' h
      refine .plain _ _ rfl (ih_M_ref07_Is (e2, x.2.1, x.2.2.1) _ h5) ?_
      try simp -implicitDefEqProofs only [go_sem, h1, h3, h3']
      by_cases h6 : r4 = true
      · replace h := ite_some h h6
        try simp -implicitDefEqProofs only [go_sem, h1, h3, h3', h6]
        exact LLoop.view [] (by (first | rfl | simp -implicitDefEqProofs only [go_sem, h1, h3, h3', h6] <;> rfl)) (ih_M_ref07_every_l0 _ _ h lo c Q hb hr)
      · replace h := ite_none h h6; replace h6 := bfalse h6
        try simp -implicitDefEqProofs only [go_sem, h1, h3, h3', h6]
        obtain ⟨r7, h8, h⟩ := bind_some' h
        refine .plain _ _ rfl (ih_M_ref07_Is (e2, x.2.1, x.2.2.2.1) _ h8) ?_
        try simp -implicitDefEqProofs only [go_sem, h1, h3, h3', h6]
        by_cases h9 : r7 = true
        · replace h := ite_some h h9
          try simp -implicitDefEqProofs only [go_sem, h1, h3, h3', h6, h9]
          exact LLoop.view [] (by (first | rfl | simp -implicitDefEqProofs only [go_sem, h1, h3, h3', h6, h9] <;> rfl)) (ih_M_ref07_every_l0 _ _ h lo c Q hb hr)
        · replace h := ite_none h h9; replace h9 := bfalse h9
          try simp -implicitDefEqProofs only [go_sem, h1, h3, h3', h6, h9]
          injection h with h; subst h
          exact .inl (hr _ _ rfl (by (first | rfl | simp -implicitDefEqProofs only [go_sem, h1, h3, h3', h6, h9] <;> rfl)))
    · replace h := ite_none h h1; replace h1 := bfalse h1
      try simp -implicitDefEqProofs only [go_sem, h1]
      injection h with h; subst h
      exact .inr ⟨[], _, by (simp -implicitDefEqProofs only [go_sem, h1] <;> first | done | rfl | trivial), hb _ rfl⟩
  · intro M_M_ref07_all_l0 ih_M_ref07_all_l0 x r h
    refine Fn.of_lc mix fn_160 lok_160 (by rfl) (flC (flat_slice _ T_api_Pred.flat _) (flC (.atom _) (flN))) (.atom _) ?_
    simp -implicitDefEqProofs only [go_sem, Try.f160]
    obtain ⟨o13, h14, h⟩ := bind_some' h
    refine LLoop.viewQ (LLoop.view [] (by (first | rfl | simp -implicitDefEqProofs only [go_sem] <;> rfl)) (ih_M_ref07_all_l0 (x.1, x.2, 0) _ h14 _ _ _ ?_ ?_))
    · intro s16 hs'; subst hs'
      try simp -implicitDefEqProofs only [go_sem]
      injection h with h; subst h
      first | rfl | simp -implicitDefEqProofs only [go_sem] <;> rfl
    · intro r15 L' hs' hL'; subst hs'
      injection h with h; subst h
      first | exact hL' | (simp -implicitDefEqProofs only [go_sem]; exact hL') | (simp -implicitDefEqProofs only [go_sem]; simp -implicitDefEqProofs only [go_sem] at hL'; exact hL')
theorem M_ref07_many.w : type_of% (M_ref07_all.l0.ws.2.2.1) := (M_ref07_all.l0.ws.2.2.1)
end Go.Proofs.Ytcfekacmmfdggaa.G
set_option linter.unusedVariables false
set_option linter.unusedSimpArgs false
set_option maxRecDepth 100000
namespace Go.Proofs.Ytcfekacmmfdggaa.G
theorem lok_143 : (Try.f143.body.isSome && !(Try.f143.name == "runtime.NumGoroutine") && okL (bodyF Try.f143) Try.f143.ntmps (bodyF Try.f143)) = true := by kernel_rfl
def M_ref07_Rejects (x : List T_api_Pred × Set64) : Option (Bool) :=
  M_ref07_many (x.1, x.2, 2, 2) >>= fun r1 =>
  some (!r1)
set_option maxHeartbeats 8000000 in
theorem M_ref07_Rejects.w : ∀ (x : List T_api_Pred × Set64) (r : Bool), M_ref07_Rejects x = some r → (fun (x : List T_api_Pred × Set64) (r : Bool) => Fn Try.prog 143 [.slice .foreign (x.1.map T_api_Pred.av), .w x.2] (.bool r)) x r := by
  intro x r h
  rw [M_ref07_Rejects] at h
  try dsimp only
  refine Fn.of_lc mix fn_143 lok_143 (by rfl) (flC (flat_slice _ T_api_Pred.flat _) (flC (.atom _) (flN))) (.atom _) ?_
  simp -implicitDefEqProofs only [go_sem, Try.f143]
  obtain ⟨r1, h2, h⟩ := bind_some' h
  refine .plain _ _ rfl (M_ref07_many.w (x.1, x.2, 2, 2) _ h2) ?_
  try simp -implicitDefEqProofs only [go_sem]
  injection h with h; subst h
  first | rfl | simp -implicitDefEqProofs only [go_sem] <;> rfl
end Go.Proofs.Ytcfekacmmfdggaa.G
set_option linter.unusedVariables false
set_option linter.unusedSimpArgs false
set_option maxRecDepth 100000
namespace Go.Proofs.Ytcfekacmmfdggaa.G
theorem lok_133 : (Try.f133.body.isSome && !(Try.f133.name == "runtime.NumGoroutine") && okL (bodyF Try.f133) Try.f133.ntmps (bodyF Try.f133)) = true := by kernel_rfl
def M_ref19_Loose (x : T_ref18_Op) : Option (Bool) :=
  if (x.Kind == 2) = true then
    M_ref07_Rejects (x.Conj, x.Left) >>= fun r2 =>
    some r2
  else
    some false
set_option maxHeartbeats 8000000 in
theorem M_ref19_Loose.w : ∀ (x : T_ref18_Op) (r : Bool), M_ref19_Loose x = some r → (fun (x : T_ref18_Op) (r : Bool) => Fn Try.prog 133 [.agg (T_ref18_Op.C x)] (.bool r)) x r := by
  intro x r h
  rw [M_ref19_Loose] at h
  try dsimp only
  refine Fn.of_lc mix fn_133 lok_133 (by rfl) (flC (T_ref18_Op.flatC _) (flN)) (.atom _) ?_
  simp -implicitDefEqProofs only [go_sem, Try.f133]
  by_cases h1 : (x.Kind == 2) = true
  · replace h := ite_some h h1
    try simp -implicitDefEqProofs only [go_sem, h1]
    obtain ⟨r2, h3, h⟩ := bind_some' h
    refine .plain _ _ rfl (M_ref07_Rejects.w (x.Conj, x.Left) _ h3) ?_
    try simp -implicitDefEqProofs only [go_sem, h1]
    injection h with h; subst h
    first | rfl | simp -implicitDefEqProofs only [go_sem, h1] <;> rfl
  · replace h := ite_none h h1; replace h1 := bfalse h1
    try simp -implicitDefEqProofs only [go_sem, h1]
    injection h with h; subst h
    first | rfl | simp -implicitDefEqProofs only [go_sem, h1] <;> rfl
end Go.Proofs.Ytcfekacmmfdggaa.G
set_option linter.unusedVariables false
set_option linter.unusedSimpArgs false
set_option maxRecDepth 100000
namespace Go.Proofs.Ytcfekacmmfdggaa.G
theorem lok_135 : (Try.f135.body.isSome && !(Try.f135.name == "runtime.NumGoroutine") && okL (bodyF Try.f135) Try.f135.ntmps (bodyF Try.f135)) = true := by kernel_rfl
def M_ref19_has.l0 (x : List Int × Int × Int) : Option (Lp (Unit) (Bool)) :=
  if (decide (x.2.2 < (x.1.length : Int))) = true then
    (getI x.1 x.2.2) >>= fun (e2 : Int) =>
    if (e2 == x.2.1) = true then
      some (.ret true)
    else
      M_ref19_has.l0 (x.1, x.2.1, (w64 (x.2.2 + 1)))
  else
    some (.brk ())
  partial_fixpoint
theorem M_ref19_has.l0.ws : (∀ (x : List Int × Int × Int) (o : Lp (Unit) (Bool)), M_ref19_has.l0 x = some o → (fun (x : List Int × Int × Int) (o : Lp (Unit) (Bool)) => ∀ (lo : Option Nat) (c : LCtx) (Q : Exit → LEnv → Prop) (hb : ∀ s : Unit, o = Lp.brk s → Q (.exit 0) ⟨[], []⟩) (hr : ∀ (r : Bool) (L : LEnv), o = .ret r → LPostF Try.prog [.tmp 4] (.bool r) (fun _ => True) .ret L → Q .ret L), LLoop Try.prog 135 lo c 0 (VQ Q) ⟨[(0, .v (.slice .foreign (x.1.map AV.i64))), (1, .v (.i64 x.2.1)), (5, .v (.i64 x.2.2))], []⟩) x o) := by
  refine M_ref19_has.l0.partial_correctness _ ?_
  · intro M_M_ref19_has_l0 ih_M_ref19_has_l0 x o h
    intro lo c Q hb hr
    refine LLoop.step mix fn_135 (by kernel_rfl) ?_
    simp -implicitDefEqProofs only [go_sem, Try.f135]
    by_cases h1 : (decide (x.2.2 < (x.1.length : Int))) = true
    · replace h := ite_some h h1
      try simp -implicitDefEqProofs only [go_sem, h1]
      obtain ⟨e2, h3, h⟩ := bind_some' h; replace h3 := getI_some h3; obtain ⟨h3', h3⟩ := h3
      try simp -implicitDefEqProofs only [go_sem, h1, h3, h3']
      by_cases h4 : (e2 == x.2.1) = true
      · replace h := ite_some h h4
        try simp -implicitDefEqProofs only [go_sem, h1, h3, h3', h4]
        injection h with h; subst h
        exact .inl (hr _ _ rfl (by (first | rfl | simp -implicitDefEqProofs only [go_sem, h1, h3, h3', h4] <;> rfl)))
      · replace h := ite_none h h4; replace h4 := bfalse h4
        try simp -implicitDefEqProofs only [go_sem, h1, h3, h3', h4]
        exact LLoop.view [] (by (first | rfl | simp -implicitDefEqProofs only [go_sem, h1, h3, h3', h4] <;> rfl)) (ih_M_ref19_has_l0 _ _ h lo c Q hb hr)
    · replace h := ite_none h h1; replace h1 := bfalse h1
      try simp -implicitDefEqProofs only [go_sem, h1]
      injection h with h; subst h
      exact .inr ⟨[], _, by (simp -implicitDefEqProofs only [go_sem, h1] <;> first | done | rfl | trivial), hb _ rfl⟩
theorem M_ref19_has.l0.w : type_of% @M_ref19_has.l0.ws := @M_ref19_has.l0.ws
def M_ref19_has (x : List Int × Int) : Option (Bool) :=
  M_ref19_has.l0 (x.1, x.2, 0) >>= fun (o5 : Lp (Unit) (Bool)) => match o5 with
  | .brk s8 =>
    some false
  | .ret r7 =>
    some r7
set_option maxHeartbeats 8000000 in
theorem M_ref19_has.w : ∀ (x : List Int × Int) (r : Bool), M_ref19_has x = some r → (fun (x : List Int × Int) (r : Bool) => Fn Try.prog 135 [.slice .foreign (x.1.map AV.i64), .i64 x.2] (.bool r)) x r := by
  intro x r h
  rw [M_ref19_has] at h
  try dsimp only
  refine Fn.of_lc mix fn_135 lok_135 (by rfl) (flC (flat_slice _ (fun _ => .atom _) _) (flC (.atom _) (flN))) (.atom _) ?_
  simp -implicitDefEqProofs only [go_sem, Try.f135]
  obtain ⟨o5, h6, h⟩ := bind_some' h
  refine LLoop.viewQ (LLoop.view [] (by (first | rfl | simp -implicitDefEqProofs only [go_sem] <;> rfl)) (M_ref19_has.l0.w (x.1, x.2, 0) _ h6 _ _ _ ?_ ?_))
  · intro s8 hs'; subst hs'
    try simp -implicitDefEqProofs only [go_sem]
    injection h with h; subst h
    first | rfl | simp -implicitDefEqProofs only [go_sem] <;> rfl
  · intro r7 L' hs' hL'; subst hs'
    injection h with h; subst h
    first | exact hL' | (simp -implicitDefEqProofs only [go_sem]; exact hL') | (simp -implicitDefEqProofs only [go_sem]; simp -implicitDefEqProofs only [go_sem] at hL'; exact hL')
end Go.Proofs.Ytcfekacmmfdggaa.G
set_option linter.unusedVariables false
set_option linter.unusedSimpArgs false
set_option maxRecDepth 100000
namespace Go.Proofs.Ytcfekacmmfdggaa.G
@[go_sem] theorem lrp_136_12 : lrp Try.prog 136 12 = (29, []) := by kernel_rfl
theorem lok_136 : (Try.f136.body.isSome && !(Try.f136.name == "runtime.NumGoroutine") && okL (bodyF Try.f136) Try.f136.ntmps (bodyF Try.f136)) = true := by kernel_rfl
def M_ref19_free.l0 (x : Int × Int × List Int × List Int × Set64 × Int × T_ref18_Levels) : Option (Lp (Unit) (Bool)) :=
  if (decide (x.2.2.2.2.2.1 < (x.2.2.2.2.2.2.Joins.length : Int))) = true then
    (getI x.2.2.2.2.2.2.Joins x.2.2.2.2.2.1) >>= fun (e8 : T_ref18_Join) =>
    if (e8.Home == x.1) = true then
      if ((x.2.2.2.2.1 &&& e8.Left) != 0#64) = true then
        some (.ret false)
      else
        if ((x.2.2.2.2.1 &&& e8.Right) != 0#64) = true then
          some (.ret false)
        else
          M_ref19_free.l0 (x.1, x.2.1, x.2.2.1, x.2.2.2.1, x.2.2.2.2.1, (w64 (x.2.2.2.2.2.1 + 1)), x.2.2.2.2.2.2)
    else
      M_ref19_free.l0 (x.1, x.2.1, x.2.2.1, x.2.2.2.1, x.2.2.2.2.1, (w64 (x.2.2.2.2.2.1 + 1)), x.2.2.2.2.2.2)
  else
    some (.brk ())
  partial_fixpoint
theorem M_ref19_free.l0.ws : (∀ (x : Int × Int × List Int × List Int × Set64 × Int × T_ref18_Levels) (o : Lp (Unit) (Bool)), M_ref19_free.l0 x = some o → (fun (x : Int × Int × List Int × List Int × Set64 × Int × T_ref18_Levels) (o : Lp (Unit) (Bool)) => ∀ (lo : Option Nat) (c : LCtx) (Q : Exit → LEnv → Prop) (hb : ∀ s : Unit, o = Lp.brk s → Q (.exit 0) ⟨[(2, .v (.i64 x.2.1)), (3, .v (.slice .foreign (x.2.2.1.map AV.i64))), (4, .v (.slice .foreign (x.2.2.2.1.map AV.i64))), (5, .lref 5 0), (11, .v (.w x.2.2.2.2.1))], [(5, [.v (.slice .foreign (x.2.2.2.2.2.2.Joins.map T_ref18_Join.av)), .v (.slice .foreign (x.2.2.2.2.2.2.Ops.map T_ref18_Op.av))])]⟩) (hr : ∀ (r : Bool) (L : LEnv), o = .ret r → LPostF Try.prog [.tmp 10] (.bool r) (fun _ => True) .ret L → Q .ret L), LLoop Try.prog 136 lo c 0 (VQ Q) ⟨[(1, .v (.i64 x.1)), (2, .v (.i64 x.2.1)), (3, .v (.slice .foreign (x.2.2.1.map AV.i64))), (4, .v (.slice .foreign (x.2.2.2.1.map AV.i64))), (5, .lref 5 0), (11, .v (.w x.2.2.2.2.1)), (12, .v (.i64 x.2.2.2.2.2.1))], [(5, [.v (.slice .foreign (x.2.2.2.2.2.2.Joins.map T_ref18_Join.av)), .v (.slice .foreign (x.2.2.2.2.2.2.Ops.map T_ref18_Op.av))])]⟩) x o) := by
  refine M_ref19_free.l0.partial_correctness _ ?_
  · intro M_M_ref19_free_l0 ih_M_ref19_free_l0 x o h
    intro lo c Q hb hr
    refine LLoop.step mix fn_136 (by kernel_rfl) ?_
    simp -implicitDefEqProofs only [go_sem, Try.f136]
    by_cases h7 : (decide (x.2.2.2.2.2.1 < (x.2.2.2.2.2.2.Joins.length : Int))) = true
    · replace h := ite_some h h7
      try simp -implicitDefEqProofs only [go_sem, h7]
      obtain ⟨e8, h9, h⟩ := bind_some' h; replace h9 := getI_some h9; obtain ⟨h9', h9⟩ := h9
      try simp -implicitDefEqProofs only [go_sem, h7, h9, h9']
      by_cases h10 : (e8.Home == x.1) = true
      · replace h := ite_some h h10
        try simp -implicitDefEqProofs only [go_sem, h7, h9, h9', h10]
        by_cases h11 : ((x.2.2.2.2.1 &&& e8.Left) != 0#64) = true
        · replace h := ite_some h h11
          try simp -implicitDefEqProofs only [go_sem, h7, h9, h9', h10, h11]
          injection h with h; subst h
          exact .inl (hr _ _ rfl (by (first | rfl | simp -implicitDefEqProofs only [go_sem, h7, h9, h9', h10, h11] <;> rfl)))
        · replace h := ite_none h h11; replace h11 := bfalse h11
          try simp -implicitDefEqProofs only [go_sem, h7, h9, h9', h10, h11]
          by_cases h12 : ((x.2.2.2.2.1 &&& e8.Right) != 0#64) = true
          · replace h := ite_some h h12
            try simp -implicitDefEqProofs only [go_sem, h7, h9, h9', h10, h11, h12]
            injection h with h; subst h
            exact .inl (hr _ _ rfl (by (first | rfl | simp -implicitDefEqProofs only [go_sem, h7, h9, h9', h10, h11, h12] <;> rfl)))
          · replace h := ite_none h h12; replace h12 := bfalse h12
            try simp -implicitDefEqProofs only [go_sem, h7, h9, h9', h10, h11, h12]
            exact LLoop.view [] (by (first | rfl | simp -implicitDefEqProofs only [go_sem, h7, h9, h9', h10, h11, h12] <;> rfl)) (ih_M_ref19_free_l0 _ _ h lo c Q hb hr)
      · replace h := ite_none h h10; replace h10 := bfalse h10
        try simp -implicitDefEqProofs only [go_sem, h7, h9, h9', h10]
        exact LLoop.view [] (by (first | rfl | simp -implicitDefEqProofs only [go_sem, h7, h9, h9', h10] <;> rfl)) (ih_M_ref19_free_l0 _ _ h lo c Q hb hr)
    · replace h := ite_none h h7; replace h7 := bfalse h7
      try simp -implicitDefEqProofs only [go_sem, h7]
      injection h with h; subst h
      exact .inr ⟨[], _, by (simp -implicitDefEqProofs only [go_sem, h7] <;> first | done | rfl | trivial), hb _ rfl⟩
theorem M_ref19_free.l0.w : type_of% @M_ref19_free.l0.ws := @M_ref19_free.l0.ws
def M_ref19_free.l1 (x : Int × List Int × List Int × Set64 × Int × T_ref18_Levels) : Option (Lp (Unit) (Bool)) :=
  if (decide (x.2.2.2.2.1 < (x.2.1.length : Int))) = true then
    (getI x.2.1 x.2.2.2.2.1) >>= fun (e18 : Int) =>
    if (e18 != x.1) = true then
      M_ref19_has (x.2.2.1, e18) >>= fun r21 =>
      if r21 = true then
        M_ref19_free.l1 (x.1, x.2.1, x.2.2.1, x.2.2.2.1, (w64 (x.2.2.2.2.1 + 1)), x.2.2.2.2.2)
      else
        (getI x.2.2.2.2.2.Ops e18) >>= fun (e24 : T_ref18_Op) =>
        if ((x.2.2.2.1 &&& e24.Left) != 0#64) = true then
          some (.ret false)
        else
          M_ref19_free.l1 (x.1, x.2.1, x.2.2.1, x.2.2.2.1, (w64 (x.2.2.2.2.1 + 1)), x.2.2.2.2.2)
    else
      M_ref19_free.l1 (x.1, x.2.1, x.2.2.1, x.2.2.2.1, (w64 (x.2.2.2.2.1 + 1)), x.2.2.2.2.2)
  else
    some (.brk ())
  partial_fixpoint
theorem M_ref19_free.l1.ws : (∀ (x : Int × List Int × List Int × Set64 × Int × T_ref18_Levels) (o : Lp (Unit) (Bool)), M_ref19_free.l1 x = some o → (fun (x : Int × List Int × List Int × Set64 × Int × T_ref18_Levels) (o : Lp (Unit) (Bool)) => ∀ (lo : Option Nat) (c : LCtx) (Q : Exit → LEnv → Prop) (hb : ∀ s : Unit, o = Lp.brk s → Q (.exit 2) ⟨[], []⟩) (hr : ∀ (r : Bool) (L : LEnv), o = .ret r → LPostF Try.prog [.tmp 10] (.bool r) (fun _ => True) .ret L → Q .ret L), LLoop Try.prog 136 lo c 1 (VQ Q) ⟨[(2, .v (.i64 x.1)), (3, .v (.slice .foreign (x.2.1.map AV.i64))), (4, .v (.slice .foreign (x.2.2.1.map AV.i64))), (5, .lref 5 0), (11, .v (.w x.2.2.2.1)), (13, .v (.i64 x.2.2.2.2.1))], [(5, [.v (.slice .foreign (x.2.2.2.2.2.Joins.map T_ref18_Join.av)), .v (.slice .foreign (x.2.2.2.2.2.Ops.map T_ref18_Op.av))])]⟩) x o) := by
  refine M_ref19_free.l1.partial_correctness _ ?_
  · intro M_M_ref19_free_l1 ih_M_ref19_free_l1 x o h
    intro lo c Q hb hr
    refine LLoop.step mix fn_136 (by kernel_rfl) ?_
    simp -implicitDefEqProofs only [go_sem, Try.f136]
    by_cases h17 : (decide (x.2.2.2.2.1 < (x.2.1.length : Int))) = true
    · replace h := ite_some h h17
      try simp -implicitDefEqProofs only [go_sem, h17]
      obtain ⟨e18, h19, h⟩ := bind_some' h; replace h19 := getI_some h19; obtain ⟨h19', h19⟩ := h19
      try simp -implicitDefEqProofs only [go_sem, h17, h19, h19']
      by_cases h20 : (e18 != x.1) = true
      · replace h := ite_some h h20
        try simp -implicitDefEqProofs only [go_sem, h17, h19, h19', h20]
        obtain ⟨r21, h22, h⟩ := bind_some' h
        refine .plain _ _ rfl (M_ref19_has.w (x.2.2.1, e18) _ h22) ?_
        try simp -implicitDefEqProofs only [go_sem, h17, h19, h19', h20]
        by_cases h23 : r21 = true
        · replace h := ite_some h h23
          try simp -implicitDefEqProofs only [go_sem, h17, h19, h19', h20, h23]
          exact LLoop.view [] (by (first | rfl | simp -implicitDefEqProofs only [go_sem, h17, h19, h19', h20, h23] <;> rfl)) (ih_M_ref19_free_l1 _ _ h lo c Q hb hr)
        · replace h := ite_none h h23; replace h23 := bfalse h23
          try simp -implicitDefEqProofs only [go_sem, h17, h19, h19', h20, h23]
          obtain ⟨e24, h25, h⟩ := bind_some' h; replace h25 := getI_some h25; obtain ⟨h25', h25⟩ := h25
          try simp -implicitDefEqProofs only [go_sem, h17, h19, h19', h20, h23, h25, h25']
          by_cases h26 : ((x.2.2.2.1 &&& e24.Left) != 0#64) = true
          · replace h := ite_some h h26
            try simp -implicitDefEqProofs only [go_sem, h17, h19, h19', h20, h23, h25, h25', h26]
            injection h with h; subst h
            exact .inl (hr _ _ rfl (by (first | rfl | simp -implicitDefEqProofs only [go_sem, h17, h19, h19', h20, h23, h25, h25', h26] <;> rfl)))
          · replace h := ite_none h h26; replace h26 := bfalse h26
            try simp -implicitDefEqProofs only [go_sem, h17, h19, h19', h20, h23, h25, h25', h26]
            exact LLoop.view [] (by (first | rfl | simp -implicitDefEqProofs only [go_sem, h17, h19, h19', h20, h23, h25, h25', h26] <;> rfl)) (ih_M_ref19_free_l1 _ _ h lo c Q hb hr)
      · replace h := ite_none h h20; replace h20 := bfalse h20
        try simp -implicitDefEqProofs only [go_sem, h17, h19, h19', h20]
        exact LLoop.view [] (by (first | rfl | simp -implicitDefEqProofs only [go_sem, h17, h19, h19', h20] <;> rfl)) (ih_M_ref19_free_l1 _ _ h lo c Q hb hr)
    · replace h := ite_none h h17; replace h17 := bfalse h17
      try simp -implicitDefEqProofs only [go_sem, h17]
      injection h with h; subst h
      exact .inr ⟨[], _, by (simp -implicitDefEqProofs only [go_sem, h17] <;> first | done | rfl | trivial), hb _ rfl⟩
theorem M_ref19_free.l1.w : type_of% @M_ref19_free.l1.ws := @M_ref19_free.l1.ws
def M_ref19_free (x : T_ref18_Levels × Int × Int × List Int × List Int) : Option (Bool) :=
  (getI x.1.Ops x.2.2.1) >>= fun (e1 : T_ref18_Op) =>
  (getI x.1.Ops x.2.1) >>= fun (e3 : T_ref18_Op) =>
  if ((e1.Own &&& e3.Left) != 0#64) = true then
    some false
  else
    if ((e1.Own &&& e3.Right) != 0#64) = true then
      some false
    else
      M_ref19_free.l0 (x.2.1, x.2.2.1, x.2.2.2.1, x.2.2.2.2, e1.Own, 0, x.1) >>= fun (o13 : Lp (Unit) (Bool)) => match o13 with
      | .brk s16 =>
        M_ref19_free.l1 (x.2.2.1, x.2.2.2.1, x.2.2.2.2, e1.Own, 0, x.1) >>= fun (o27 : Lp (Unit) (Bool)) => match o27 with
        | .brk s30 =>
          some true
        | .ret r29 =>
          some r29
      | .ret r15 =>
        some r15
set_option maxHeartbeats 8000000 in
theorem M_ref19_free.w : ∀ (x : T_ref18_Levels × Int × Int × List Int × List Int) (r : Bool), M_ref19_free x = some r → (fun (x : T_ref18_Levels × Int × Int × List Int × List Int) (r : Bool) => Fn Try.prog 136 [.agg (T_ref18_Levels.C x.1), .i64 x.2.1, .i64 x.2.2.1, .slice .foreign (x.2.2.2.1.map AV.i64), .slice .foreign (x.2.2.2.2.map AV.i64)] (.bool r)) x r := by
  intro x r h
  rw [M_ref19_free] at h
  try dsimp only
  refine Fn.of_lc mix fn_136 lok_136 (by rfl) (flC (T_ref18_Levels.flatC _) (flC (.atom _) (flC (.atom _) (flC (flat_slice _ (fun _ => .atom _) _) (flC (flat_slice _ (fun _ => .atom _) _) (flN)))))) (.atom _) ?_
  simp -implicitDefEqProofs only [go_sem, Try.f136]
  obtain ⟨e1, h2, h⟩ := bind_some' h; replace h2 := getI_some h2; obtain ⟨h2', h2⟩ := h2
  try simp -implicitDefEqProofs only [go_sem, h2, h2']
  obtain ⟨e3, h4, h⟩ := bind_some' h; replace h4 := getI_some h4; obtain ⟨h4', h4⟩ := h4
  try simp -implicitDefEqProofs only [go_sem, h2, h2', h4, h4']
  by_cases h5 : ((e1.Own &&& e3.Left) != 0#64) = true
  · replace h := ite_some h h5
    try simp -implicitDefEqProofs only [go_sem, h2, h2', h4, h4', h5]
    injection h with h; subst h
    first | rfl | simp -implicitDefEqProofs only [go_sem, h2, h2', h4, h4', h5] <;> rfl
  · replace h := ite_none h h5; replace h5 := bfalse h5
    try simp -implicitDefEqProofs only [go_sem, h2, h2', h4, h4', h5]
    by_cases h6 : ((e1.Own &&& e3.Right) != 0#64) = true
    · replace h := ite_some h h6
      try simp -implicitDefEqProofs only [go_sem, h2, h2', h4, h4', h5, h6]
      injection h with h; subst h
      first | rfl | simp -implicitDefEqProofs only [go_sem, h2, h2', h4, h4', h5, h6] <;> rfl
    · replace h := ite_none h h6; replace h6 := bfalse h6
      try simp -implicitDefEqProofs only [go_sem, h2, h2', h4, h4', h5, h6]
      obtain ⟨o13, h14, h⟩ := bind_some' h
      refine LLoop.viewQ (LLoop.view [] (by (first | rfl | simp -implicitDefEqProofs only [go_sem, h2, h2', h4, h4', h5, h6] <;> rfl)) (M_ref19_free.l0.w (x.2.1, x.2.2.1, x.2.2.2.1, x.2.2.2.2, e1.Own, 0, x.1) _ h14 _ _ _ ?_ ?_))
      · intro s16 hs'; subst hs'
        try simp -implicitDefEqProofs only [go_sem, h2, h2', h4, h4', h5, h6]
        obtain ⟨o27, h28, h⟩ := bind_some' h
        refine LLoop.viewQ (LLoop.view [] (by (first | rfl | simp -implicitDefEqProofs only [go_sem, h2, h2', h4, h4', h5, h6] <;> rfl)) (M_ref19_free.l1.w (x.2.2.1, x.2.2.2.1, x.2.2.2.2, e1.Own, 0, x.1) _ h28 _ _ _ ?_ ?_))
        · intro s30 hs'; subst hs'
          try simp -implicitDefEqProofs only [go_sem, h2, h2', h4, h4', h5, h6]
          injection h with h; subst h
          first | rfl | simp -implicitDefEqProofs only [go_sem, h2, h2', h4, h4', h5, h6] <;> rfl
        · intro r29 L' hs' hL'; subst hs'
          injection h with h; subst h
          first | exact hL' | (simp -implicitDefEqProofs only [go_sem]; exact hL') | (simp -implicitDefEqProofs only [go_sem]; simp -implicitDefEqProofs only [go_sem] at hL'; exact hL')
      · intro r15 L' hs' hL'; subst hs'
        injection h with h; subst h
        first | exact hL' | (simp -implicitDefEqProofs only [go_sem]; exact hL') | (simp -implicitDefEqProofs only [go_sem]; simp -implicitDefEqProofs only [go_sem] at hL'; exact hL')
end Go.Proofs.Ytcfekacmmfdggaa.G
set_option linter.unusedVariables false
set_option linter.unusedSimpArgs false
set_option maxRecDepth 100000
namespace Go.Proofs.Ytcfekacmmfdggaa.G
theorem lok_100 : (Try.f100.body.isSome && !(Try.f100.name == "runtime.NumGoroutine") && okL (bodyF Try.f100) Try.f100.ntmps (bodyF Try.f100)) = true := by kernel_rfl
def M_ref19_Lift.l2 (x : Int × List Int × List Int × List Int × Int × T_ref18_Levels) : Option (List Int) :=
  if (decide (x.2.2.2.2.1 < (x.2.2.2.2.2.Ops.length : Int))) = true then
    M_ref19_has (x.2.2.1, x.2.2.2.2.1) >>= fun r26 =>
    if r26 = true then
      M_ref19_free (x.2.2.2.2.2, x.1, x.2.2.2.2.1, x.2.1, x.2.2.1) >>= fun r29 =>
      if r29 = true then
        (room 8 x.2.2.2.1 ([x.2.2.2.2.1])) >>= fun (z32 : List Int) =>
        M_ref19_Lift.l2 (x.1, x.2.1, x.2.2.1, z32, (w64 (x.2.2.2.2.1 + 1)), x.2.2.2.2.2)
      else
        M_ref19_Lift.l2 (x.1, x.2.1, x.2.2.1, x.2.2.2.1, (w64 (x.2.2.2.2.1 + 1)), x.2.2.2.2.2)
    else
      M_ref19_Lift.l2 (x.1, x.2.1, x.2.2.1, x.2.2.2.1, (w64 (x.2.2.2.2.1 + 1)), x.2.2.2.2.2)
  else
    some x.2.2.2.1
  partial_fixpoint
theorem M_ref19_Lift.l2.ws : (∀ (x : Int × List Int × List Int × List Int × Int × T_ref18_Levels) (o : List Int), M_ref19_Lift.l2 x = some o → (fun (x : Int × List Int × List Int × List Int × Int × T_ref18_Levels) (o : List Int) => ∀ (lo : Option Nat) (c : LCtx) (Q : Exit → LEnv → Prop) (hb : ∀ s : List Int, o = s → Q (.exit 4) ⟨[(1, .v (.i64 x.1)), (2, .lref 2 0), (5, .own 100500 1 (x.2.1.map AV.i64)), (6, .own 100600 1 (x.2.2.1.map AV.i64)), (9, .own 100900 1 (s.map AV.i64))], [(2, [.v (.slice .foreign (x.2.2.2.2.2.Joins.map T_ref18_Join.av)), .v (.slice .foreign (x.2.2.2.2.2.Ops.map T_ref18_Op.av))])]⟩), LLoop Try.prog 100 lo c 2 (VQ Q) ⟨[(1, .v (.i64 x.1)), (2, .lref 2 0), (5, .own 100500 1 (x.2.1.map AV.i64)), (6, .own 100600 1 (x.2.2.1.map AV.i64)), (9, .own 100900 1 (x.2.2.2.1.map AV.i64)), (10, .v (.i64 x.2.2.2.2.1))], [(2, [.v (.slice .foreign (x.2.2.2.2.2.Joins.map T_ref18_Join.av)), .v (.slice .foreign (x.2.2.2.2.2.Ops.map T_ref18_Op.av))])]⟩) x o) := by
  refine M_ref19_Lift.l2.partial_correctness _ ?_
  · intro M_M_ref19_Lift_l2 ih_M_ref19_Lift_l2 x o h
    intro lo c Q hb
    refine LLoop.step mix fn_100 (by kernel_rfl) ?_
    simp -implicitDefEqProofs only [go_sem, Try.f100]
    by_cases h25 : (decide (x.2.2.2.2.1 < (x.2.2.2.2.2.Ops.length : Int))) = true
    · replace h := ite_some h h25
      try simp -implicitDefEqProofs only [go_sem, h25]
      obtain ⟨r26, h27, h⟩ := bind_some' h
      refine .plain _ _ rfl (M_ref19_has.w (x.2.2.1, x.2.2.2.2.1) _ h27) ?_
      try simp -implicitDefEqProofs only [go_sem, h25]
      by_cases h28 : r26 = true
      · replace h := ite_some h h28
        try simp -implicitDefEqProofs only [go_sem, h25, h28]
        obtain ⟨r29, h30, h⟩ := bind_some' h
        refine .plain _ _ rfl (M_ref19_free.w (x.2.2.2.2.2, x.1, x.2.2.2.2.1, x.2.1, x.2.2.1) _ h30) ?_
        try simp -implicitDefEqProofs only [go_sem, h25, h28]
        by_cases h31 : r29 = true
        · replace h := ite_some h h31
          try simp -implicitDefEqProofs only [go_sem, h25, h28, h31]
          obtain ⟨z32, h33, h⟩ := bind_some' h; replace h33 := room_some h33; obtain ⟨h33', rfl⟩ := h33
          refine LApp.map (F := AV.i64) (xs := x.2.2.2.1) (ys := [x.2.2.2.2.1]) t45_elem t3_size t3_bytes t3_zsize rfl (fun _ => rfl) (by (first | rfl | simp -implicitDefEqProofs only [go_sem, h25, h28, h31] <;> rfl)) (by (first | rfl | simp -implicitDefEqProofs only [go_sem, h25, h28, h31] <;> rfl)) h33' ?_
          try simp -implicitDefEqProofs only [go_sem, h25, h28, h31]
          exact LLoop.view [(100500, some 100500), (100600, some 100600), (100900, some 90)] (by (first | rfl | simp -implicitDefEqProofs only [go_sem, h25, h28, h31] <;> rfl)) (ih_M_ref19_Lift_l2 _ _ h lo c Q hb)
        · replace h := ite_none h h31; replace h31 := bfalse h31
          try simp -implicitDefEqProofs only [go_sem, h25, h28, h31]
          exact LLoop.view [(100500, some 100500), (100600, some 100600), (100900, some 100900)] (by (first | rfl | simp -implicitDefEqProofs only [go_sem, h25, h28, h31] <;> rfl)) (ih_M_ref19_Lift_l2 _ _ h lo c Q hb)
      · replace h := ite_none h h28; replace h28 := bfalse h28
        try simp -implicitDefEqProofs only [go_sem, h25, h28]
        exact LLoop.view [(100500, some 100500), (100600, some 100600), (100900, some 100900)] (by (first | rfl | simp -implicitDefEqProofs only [go_sem, h25, h28] <;> rfl)) (ih_M_ref19_Lift_l2 _ _ h lo c Q hb)
    · replace h := ite_none h h25; replace h25 := bfalse h25
      try simp -implicitDefEqProofs only [go_sem, h25]
      injection h with h; subst h
      exact .inr ⟨[(100500, some 100500), (100600, some 100600), (100900, some 100900)], _, by (simp -implicitDefEqProofs only [go_sem, h25] <;> first | done | rfl | trivial), hb _ rfl⟩
theorem M_ref19_Lift.l2.w : type_of% @M_ref19_Lift.l2.ws := @M_ref19_Lift.l2.ws
def M_ref19_Lift.l1 (x : Int × List Int × List Int × T_ref18_Levels) : Option (List Int) :=
  M_ref19_Lift.l2 (x.1, x.2.1, x.2.2.1, ([] : List Int), 0, x.2.2.2) >>= fun (o34 : List Int) =>
  if ((o34.length : Int) == (x.2.2.1.length : Int)) = true then
    some o34
  else
    M_ref19_Lift.l1 (x.1, x.2.1, o34, x.2.2.2)
  partial_fixpoint
theorem M_ref19_Lift.l1.ws : (∀ (x : Int × List Int × List Int × T_ref18_Levels) (o : List Int), M_ref19_Lift.l1 x = some o → (fun (x : Int × List Int × List Int × T_ref18_Levels) (o : List Int) => ∀ (lo : Option Nat) (c : LCtx) (Q : Exit → LEnv → Prop) (hr : ∀ (L : LEnv), LPostF Try.prog [.tmp 4] (.slice .foreign (o.map AV.i64)) (fun _ => True) .ret L → Q .ret L), LLoop Try.prog 100 lo c 1 (VQ Q) ⟨[(1, .v (.i64 x.1)), (2, .lref 2 0), (5, .own 100500 1 (x.2.1.map AV.i64)), (6, .own 100600 1 (x.2.2.1.map AV.i64))], [(2, [.v (.slice .foreign (x.2.2.2.Joins.map T_ref18_Join.av)), .v (.slice .foreign (x.2.2.2.Ops.map T_ref18_Op.av))])]⟩) x o) := by
  refine M_ref19_Lift.l1.partial_correctness _ ?_
  · intro M_M_ref19_Lift_l1 ih_M_ref19_Lift_l1 x o h
    intro lo c Q hr
    refine LLoop.step mix fn_100 (by kernel_rfl) ?_
    simp -implicitDefEqProofs only [go_sem, Try.f100]
    obtain ⟨o34, h35, h⟩ := bind_some' h
    refine LLoop.viewQ (LLoop.view [(100500, some 100500), (100600, some 100600), (100900, none)] (by (first | rfl | simp -implicitDefEqProofs only [go_sem] <;> rfl)) (M_ref19_Lift.l2.w (x.1, x.2.1, x.2.2.1, ([] : List Int), 0, x.2.2.2) _ h35 _ _ _ ?_))
    intro s' hs'; subst hs'
    try simp -implicitDefEqProofs only [go_sem]
    by_cases h36 : ((o34.length : Int) == (x.2.2.1.length : Int)) = true
    · replace h := ite_some h h36
      try simp -implicitDefEqProofs only [go_sem, h36]
      injection h with h; subst h
      exact .inl (hr _ (by (first | rfl | simp -implicitDefEqProofs only [go_sem, h36] <;> rfl)))
    · replace h := ite_none h h36; replace h36 := bfalse h36
      try simp -implicitDefEqProofs only [go_sem, h36]
      exact LLoop.view [(100500, some 100500), (100600, some 100900)] (by (first | rfl | simp -implicitDefEqProofs only [go_sem, h36] <;> rfl)) (ih_M_ref19_Lift_l1 _ _ h lo c Q hr)
theorem M_ref19_Lift.l1.w : type_of% @M_ref19_Lift.l1.ws := @M_ref19_Lift.l1.ws
mutual
def M_ref19_Lift.l0 (x : Int × List Int × List Int × Int × T_ref18_Levels) : Option (List Int × List Int) :=
  if (decide (x.2.2.2.1 < (x.2.2.2.2.Ops.length : Int))) = true then
    (getI x.2.2.2.2.Ops x.2.2.2.1) >>= fun (e7 : T_ref18_Op) =>
    if (e7.Home != x.1) = true then
      M_ref19_Lift.l0 (x.1, x.2.1, x.2.2.1, (w64 (x.2.2.2.1 + 1)), x.2.2.2.2)
    else
      M_ref19_Lift (x.2.2.2.2, x.2.2.2.1) >>= fun r10 =>
      (room 8 x.2.1 ([x.2.2.2.1])) >>= fun (z12 : List Int) =>
      (room 8 z12 r10) >>= fun (z14 : List Int) =>
      (room 8 x.2.2.1 r10) >>= fun (z16 : List Int) =>
      M_ref19_Loose e7 >>= fun r18 =>
      if r18 = true then
        (room 8 z16 ([x.2.2.2.1])) >>= fun (z21 : List Int) =>
        M_ref19_Lift.l0 (x.1, z14, z21, (w64 (x.2.2.2.1 + 1)), x.2.2.2.2)
      else
        M_ref19_Lift.l0 (x.1, z14, z16, (w64 (x.2.2.2.1 + 1)), x.2.2.2.2)
  else
    some (x.2.1, x.2.2.1)
  partial_fixpoint
def M_ref19_Lift (x : T_ref18_Levels × Int) : Option (List Int) :=
  if (decide (x.2 < 0)) = true then
    some ([] : List Int)
  else
    if (decide (x.2 ≥ (x.1.Ops.length : Int))) = true then
      some ([] : List Int)
    else
      (getI x.1.Ops x.2) >>= fun (e3 : T_ref18_Op) =>
      if (e3.Kind != 2) = true then
        some ([] : List Int)
      else
        M_ref19_Lift.l0 (x.2, ([] : List Int), ([] : List Int), 0, x.1) >>= fun (o23 : List Int × List Int) =>
        M_ref19_Lift.l1 (x.2, o23.1, o23.2, x.1) >>= fun (o37 : List Int) =>
        some o37
  partial_fixpoint
end
theorem M_ref19_Lift.l0.ws : (∀ (x : Int × List Int × List Int × Int × T_ref18_Levels) (o : List Int × List Int), M_ref19_Lift.l0 x = some o → (fun (x : Int × List Int × List Int × Int × T_ref18_Levels) (o : List Int × List Int) => ∀ (lo : Option Nat) (c : LCtx) (Q : Exit → LEnv → Prop) (hb : ∀ s : List Int × List Int, o = s → Q (.exit 0) ⟨[(1, .v (.i64 x.1)), (2, .lref 2 0), (5, .own 100500 1 (s.1.map AV.i64)), (6, .own 100600 1 (s.2.map AV.i64))], [(2, [.v (.slice .foreign (x.2.2.2.2.Joins.map T_ref18_Join.av)), .v (.slice .foreign (x.2.2.2.2.Ops.map T_ref18_Op.av))])]⟩), LLoop Try.prog 100 lo c 0 (VQ Q) ⟨[(1, .v (.i64 x.1)), (2, .lref 2 0), (5, .own 100500 1 (x.2.1.map AV.i64)), (6, .own 100600 1 (x.2.2.1.map AV.i64)), (7, .v (.i64 x.2.2.2.1))], [(2, [.v (.slice .foreign (x.2.2.2.2.Joins.map T_ref18_Join.av)), .v (.slice .foreign (x.2.2.2.2.Ops.map T_ref18_Op.av))])]⟩) x o) ∧ (∀ (x : T_ref18_Levels × Int) (o : List Int), M_ref19_Lift x = some o → (fun (x : T_ref18_Levels × Int) (r : List Int) => Fn Try.prog 100 [.agg (T_ref18_Levels.C x.1), .i64 x.2] (.slice .foreign (r.map AV.i64))) x o) := by
  refine M_ref19_Lift.l0.mutual_partial_correctness _ _ ?_ ?_
  · intro M_M_ref19_Lift_l0 M_M_ref19_Lift ih_M_ref19_Lift_l0 ih_M_ref19_Lift x o h
    intro lo c Q hb
    refine LLoop.step mix fn_100 (by kernel_rfl) ?_
    simp -implicitDefEqProofs only [go_sem, Try.f100]
    by_cases h6 : (decide (x.2.2.2.1 < (x.2.2.2.2.Ops.length : Int))) = true
    · replace h := ite_some h h6
      try simp -implicitDefEqProofs only [go_sem, h6]
      obtain ⟨e7, h8, h⟩ := bind_some' h; replace h8 := getI_some h8; obtain ⟨h8', h8⟩ := h8
      try simp -implicitDefEqProofs only [go_sem, h6, h8, h8']
      by_cases h9 : (e7.Home != x.1) = true
      · replace h := ite_some h h9
        try simp -implicitDefEqProofs only [go_sem, h6, h8, h8', h9]
        exact LLoop.view [(100500, some 100500), (100600, some 100600)] (by (first | rfl | simp -implicitDefEqProofs only [go_sem, h6, h8, h8', h9] <;> rfl)) (ih_M_ref19_Lift_l0 _ _ h lo c Q hb)
      · replace h := ite_none h h9; replace h9 := bfalse h9
        try simp -implicitDefEqProofs only [go_sem, h6, h8, h8', h9]
        obtain ⟨r10, h11, h⟩ := bind_some' h
        refine .plain _ _ rfl (ih_M_ref19_Lift (x.2.2.2.2, x.2.2.2.1) _ h11) ?_
        try simp -implicitDefEqProofs only [go_sem, h6, h8, h8', h9]
        obtain ⟨z12, h13, h⟩ := bind_some' h; replace h13 := room_some h13; obtain ⟨h13', rfl⟩ := h13
        refine LApp.map (F := AV.i64) (xs := x.2.1) (ys := [x.2.2.2.1]) t45_elem t3_size t3_bytes t3_zsize rfl (fun _ => rfl) (by (first | rfl | simp -implicitDefEqProofs only [go_sem, h6, h8, h8', h9] <;> rfl)) (by (first | rfl | simp -implicitDefEqProofs only [go_sem, h6, h8, h8', h9] <;> rfl)) h13' ?_
        try simp -implicitDefEqProofs only [go_sem, h6, h8, h8', h9]
        obtain ⟨z14, h15, h⟩ := bind_some' h; replace h15 := room_some h15; obtain ⟨h15', rfl⟩ := h15
        refine LApp.map (F := AV.i64) (xs := (x.2.1 ++ [x.2.2.2.1])) (ys := r10) t45_elem t3_size t3_bytes t3_zsize rfl (fun _ => rfl) (by (first | rfl | simp -implicitDefEqProofs only [go_sem, h6, h8, h8', h9] <;> rfl)) (by (first | rfl | simp -implicitDefEqProofs only [go_sem, h6, h8, h8', h9] <;> rfl)) h15' ?_
        try simp -implicitDefEqProofs only [go_sem, h6, h8, h8', h9]
        obtain ⟨z16, h17, h⟩ := bind_some' h; replace h17 := room_some h17; obtain ⟨h17', rfl⟩ := h17
        refine LApp.map (F := AV.i64) (xs := x.2.2.1) (ys := r10) t45_elem t3_size t3_bytes t3_zsize rfl (fun _ => rfl) (by (first | rfl | simp -implicitDefEqProofs only [go_sem, h6, h8, h8', h9] <;> rfl)) (by (first | rfl | simp -implicitDefEqProofs only [go_sem, h6, h8, h8', h9] <;> rfl)) h17' ?_
        try simp -implicitDefEqProofs only [go_sem, h6, h8, h8', h9]
        obtain ⟨r18, h19, h⟩ := bind_some' h
        refine .plain _ _ rfl (M_ref19_Loose.w e7 _ h19) ?_
        try simp -implicitDefEqProofs only [go_sem, h6, h8, h8', h9]
        by_cases h20 : r18 = true
        · replace h := ite_some h h20
          try simp -implicitDefEqProofs only [go_sem, h6, h8, h8', h9, h20]
          obtain ⟨z21, h22, h⟩ := bind_some' h; replace h22 := room_some h22; obtain ⟨h22', rfl⟩ := h22
          refine LApp.map (F := AV.i64) (xs := (x.2.2.1 ++ r10)) (ys := [x.2.2.2.1]) t45_elem t3_size t3_bytes t3_zsize rfl (fun _ => rfl) (by (first | rfl | simp -implicitDefEqProofs only [go_sem, h6, h8, h8', h9, h20] <;> rfl)) (by (first | rfl | simp -implicitDefEqProofs only [go_sem, h6, h8, h8', h9, h20] <;> rfl)) h22' ?_
          try simp -implicitDefEqProofs only [go_sem, h6, h8, h8', h9, h20]
          exact LLoop.view [(100500, some 54), (100600, some 67)] (by (first | rfl | simp -implicitDefEqProofs only [go_sem, h6, h8, h8', h9, h20] <;> rfl)) (ih_M_ref19_Lift_l0 _ _ h lo c Q hb)
        · replace h := ite_none h h20; replace h20 := bfalse h20
          try simp -implicitDefEqProofs only [go_sem, h6, h8, h8', h9, h20]
          exact LLoop.view [(100500, some 54), (100600, some 57)] (by (first | rfl | simp -implicitDefEqProofs only [go_sem, h6, h8, h8', h9, h20] <;> rfl)) (ih_M_ref19_Lift_l0 _ _ h lo c Q hb)
    · replace h := ite_none h h6; replace h6 := bfalse h6
      try simp -implicitDefEqProofs only [go_sem, h6]
      injection h with h; subst h
      exact .inr ⟨[(100500, some 100500), (100600, some 100600)], _, by (simp -implicitDefEqProofs only [go_sem, h6] <;> first | done | rfl | trivial), hb _ rfl⟩
  · intro M_M_ref19_Lift_l0 ih_M_ref19_Lift_l0 x r h
    refine Fn.of_lc mix fn_100 lok_100 (by rfl) (flC (T_ref18_Levels.flatC _) (flC (.atom _) (flN))) (flat_slice _ (fun _ => .atom _) _) ?_
    simp -implicitDefEqProofs only [go_sem, Try.f100]
    by_cases h1 : (decide (x.2 < 0)) = true
    · replace h := ite_some h h1
      try simp -implicitDefEqProofs only [go_sem, h1]
      injection h with h; subst h
      first | rfl | simp -implicitDefEqProofs only [go_sem, h1] <;> rfl
    · replace h := ite_none h h1; replace h1 := bfalse h1
      try simp -implicitDefEqProofs only [go_sem, h1]
      by_cases h2 : (decide (x.2 ≥ (x.1.Ops.length : Int))) = true
      · replace h := ite_some h h2
        try simp -implicitDefEqProofs only [go_sem, h1, h2]
        injection h with h; subst h
        first | rfl | simp -implicitDefEqProofs only [go_sem, h1, h2] <;> rfl
      · replace h := ite_none h h2; replace h2 := bfalse h2
        try simp -implicitDefEqProofs only [go_sem, h1, h2]
        obtain ⟨e3, h4, h⟩ := bind_some' h; replace h4 := getI_some h4; obtain ⟨h4', h4⟩ := h4
        try simp -implicitDefEqProofs only [go_sem, h1, h2, h4, h4']
        by_cases h5 : (e3.Kind != 2) = true
        · replace h := ite_some h h5
          try simp -implicitDefEqProofs only [go_sem, h1, h2, h4, h4', h5]
          injection h with h; subst h
          first | rfl | simp -implicitDefEqProofs only [go_sem, h1, h2, h4, h4', h5] <;> rfl
        · replace h := ite_none h h5; replace h5 := bfalse h5
          try simp -implicitDefEqProofs only [go_sem, h1, h2, h4, h4', h5]
          obtain ⟨o23, h24, h⟩ := bind_some' h
          refine LLoop.viewQ (LLoop.view [(100500, none), (100600, none)] (by (first | rfl | simp -implicitDefEqProofs only [go_sem, h1, h2, h4, h4', h5] <;> rfl)) (ih_M_ref19_Lift_l0 (x.2, ([] : List Int), ([] : List Int), 0, x.1) _ h24 _ _ _ ?_))
          intro s' hs'; subst hs'
          try simp -implicitDefEqProofs only [go_sem, h1, h2, h4, h4', h5]
          obtain ⟨o37, h38, h⟩ := bind_some' h
          refine LLoop.viewQ (LLoop.view [(100500, some 100500), (100600, some 100600)] (by (first | rfl | simp -implicitDefEqProofs only [go_sem, h1, h2, h4, h4', h5] <;> rfl)) (M_ref19_Lift.l1.w (x.2, o23.1, o23.2, x.1) _ h38 _ _ _ ?_))
          intro L' hL'
          injection h with h; subst h
          first | exact hL' | (simp -implicitDefEqProofs only [go_sem]; exact hL') | (simp -implicitDefEqProofs only [go_sem]; simp -implicitDefEqProofs only [go_sem] at hL'; exact hL')
theorem M_ref19_Lift.w : type_of% (M_ref19_Lift.l0.ws.2) := (M_ref19_Lift.l0.ws.2)
end Go.Proofs.Ytcfekacmmfdggaa.G
set_option linter.unusedVariables false
set_option linter.unusedSimpArgs false
set_option maxRecDepth 100000
namespace Go.Proofs.Ytcfekacmmfdggaa.G
@[go_sem] theorem lrp_66_8 : lrp Try.prog 66 8 = (12, []) := by kernel_rfl
theorem lok_66 : (Try.f66.body.isSome && !(Try.f66.name == "runtime.NumGoroutine") && okL (bodyF Try.f66) Try.f66.ntmps (bodyF Try.f66)) = true := by kernel_rfl
def M_ref19_Core.l0 (x : Set64 × List Int × Int × T_ref18_Levels) : Option (Set64) :=
  if (decide (x.2.2.1 < (x.2.1.length : Int))) = true then
    (getI x.2.1 x.2.2.1) >>= fun (e8 : Int) =>
    (getI x.2.2.2.Ops e8) >>= fun (e10 : T_ref18_Op) =>
    M_ref19_Core.l0 ((x.1 &&& ~~~e10.Own), x.2.1, (w64 (x.2.2.1 + 1)), x.2.2.2)
  else
    some x.1
  partial_fixpoint
theorem M_ref19_Core.l0.ws : (∀ (x : Set64 × List Int × Int × T_ref18_Levels) (o : Set64), M_ref19_Core.l0 x = some o → (fun (x : Set64 × List Int × Int × T_ref18_Levels) (o : Set64) => ∀ (lo : Option Nat) (c : LCtx) (Q : Exit → LEnv → Prop) (hb : ∀ s : Set64, o = s → Q (.exit 0) ⟨[(5, .v (.w s))], []⟩), LLoop Try.prog 66 lo c 0 (VQ Q) ⟨[(2, .lref 2 0), (5, .v (.w x.1)), (6, .v (.slice .foreign (x.2.1.map AV.i64))), (7, .v (.i64 x.2.2.1))], [(2, [.v (.slice .foreign (x.2.2.2.Joins.map T_ref18_Join.av)), .v (.slice .foreign (x.2.2.2.Ops.map T_ref18_Op.av))])]⟩) x o) := by
  refine M_ref19_Core.l0.partial_correctness _ ?_
  · intro M_M_ref19_Core_l0 ih_M_ref19_Core_l0 x o h
    intro lo c Q hb
    refine LLoop.step mix fn_66 (by kernel_rfl) ?_
    simp -implicitDefEqProofs only [go_sem, Try.f66]
    by_cases h7 : (decide (x.2.2.1 < (x.2.1.length : Int))) = true
    · replace h := ite_some h h7
      try simp -implicitDefEqProofs only [go_sem, h7]
      obtain ⟨e8, h9, h⟩ := bind_some' h; replace h9 := getI_some h9; obtain ⟨h9', h9⟩ := h9
      try simp -implicitDefEqProofs only [go_sem, h7, h9, h9']
      obtain ⟨e10, h11, h⟩ := bind_some' h; replace h11 := getI_some h11; obtain ⟨h11', h11⟩ := h11
      try simp -implicitDefEqProofs only [go_sem, h7, h9, h9', h11, h11']
      exact LLoop.view [] (by (first | rfl | simp -implicitDefEqProofs only [go_sem, h7, h9, h9', h11, h11'] <;> rfl)) (ih_M_ref19_Core_l0 _ _ h lo c Q hb)
    · replace h := ite_none h h7; replace h7 := bfalse h7
      try simp -implicitDefEqProofs only [go_sem, h7]
      injection h with h; subst h
      exact .inr ⟨[], _, by (simp -implicitDefEqProofs only [go_sem, h7] <;> first | done | rfl | trivial), hb _ rfl⟩
theorem M_ref19_Core.l0.w : type_of% @M_ref19_Core.l0.ws := @M_ref19_Core.l0.ws
def M_ref19_Core (x : T_ref18_Levels × Int) : Option (Set64) :=
  if (decide (x.2 < 0)) = true then
    some (0#64)
  else
    if (decide (x.2 ≥ (x.1.Ops.length : Int))) = true then
      some (0#64)
    else
      (getI x.1.Ops x.2) >>= fun (e3 : T_ref18_Op) =>
      M_ref19_Lift (x.1, x.2) >>= fun r5 =>
      M_ref19_Core.l0 (e3.Own, r5, 0, x.1) >>= fun (o12 : Set64) =>
      some o12
set_option maxHeartbeats 8000000 in
theorem M_ref19_Core.w : ∀ (x : T_ref18_Levels × Int) (r : Set64), M_ref19_Core x = some r → (fun (x : T_ref18_Levels × Int) (r : Set64) => Fn Try.prog 66 [.agg (T_ref18_Levels.C x.1), .i64 x.2] (.w r)) x r := by
  intro x r h
  rw [M_ref19_Core] at h
  try dsimp only
  refine Fn.of_lc mix fn_66 lok_66 (by rfl) (flC (T_ref18_Levels.flatC _) (flC (.atom _) (flN))) (.atom _) ?_
  simp -implicitDefEqProofs only [go_sem, Try.f66]
  by_cases h1 : (decide (x.2 < 0)) = true
  · replace h := ite_some h h1
    try simp -implicitDefEqProofs only [go_sem, h1]
    injection h with h; subst h
    first | rfl | simp -implicitDefEqProofs only [go_sem, h1] <;> rfl
  · replace h := ite_none h h1; replace h1 := bfalse h1
    try simp -implicitDefEqProofs only [go_sem, h1]
    by_cases h2 : (decide (x.2 ≥ (x.1.Ops.length : Int))) = true
    · replace h := ite_some h h2
      try simp -implicitDefEqProofs only [go_sem, h1, h2]
      injection h with h; subst h
      first | rfl | simp -implicitDefEqProofs only [go_sem, h1, h2] <;> rfl
    · replace h := ite_none h h2; replace h2 := bfalse h2
      try simp -implicitDefEqProofs only [go_sem, h1, h2]
      obtain ⟨e3, h4, h⟩ := bind_some' h; replace h4 := getI_some h4; obtain ⟨h4', h4⟩ := h4
      try simp -implicitDefEqProofs only [go_sem, h1, h2, h4, h4']
      obtain ⟨r5, h6, h⟩ := bind_some' h
      refine .plain _ _ rfl (M_ref19_Lift.w (x.1, x.2) _ h6) ?_
      try simp -implicitDefEqProofs only [go_sem, h1, h2, h4, h4']
      obtain ⟨o12, h13, h⟩ := bind_some' h
      refine LLoop.viewQ (LLoop.view [] (by (first | rfl | simp -implicitDefEqProofs only [go_sem, h1, h2, h4, h4'] <;> rfl)) (M_ref19_Core.l0.w (e3.Own, r5, 0, x.1) _ h13 _ _ _ ?_))
      intro s' hs'; subst hs'
      try simp -implicitDefEqProofs only [go_sem, h1, h2, h4, h4']
      injection h with h; subst h
      first | rfl | simp -implicitDefEqProofs only [go_sem, h1, h2, h4, h4'] <;> rfl
end Go.Proofs.Ytcfekacmmfdggaa.G
set_option linter.unusedVariables false
set_option linter.unusedSimpArgs false
set_option maxRecDepth 100000
namespace Go.Proofs.Ytcfekacmmfdggaa.G
theorem lok_99 : (Try.f99.body.isSome && !(Try.f99.name == "runtime.NumGoroutine") && okL (bodyF Try.f99) Try.f99.ntmps (bodyF Try.f99)) = true := by kernel_rfl
def M_ref18_Within (x : T_ref18_Levels × Int × Int) : Option (Bool) :=
  if (decide (x.2.1 < 0)) = true then
    some false
  else
    if (decide (x.2.1 ≥ (x.1.Ops.length : Int))) = true then
      some false
    else
      (getI x.1.Ops x.2.1) >>= fun (e3 : T_ref18_Op) =>
      if (e3.Home == x.2.2) = true then
        some true
      else
        M_ref18_Within (x.1, e3.Home, x.2.2) >>= fun r6 =>
        some r6
  partial_fixpoint
theorem M_ref18_Within.ws : (∀ (x : T_ref18_Levels × Int × Int) (o : Bool), M_ref18_Within x = some o → (fun (x : T_ref18_Levels × Int × Int) (r : Bool) => Fn Try.prog 99 [.agg (T_ref18_Levels.C x.1), .i64 x.2.1, .i64 x.2.2] (.bool r)) x o) := by
  refine M_ref18_Within.partial_correctness _ ?_
  · intro M_M_ref18_Within ih_M_ref18_Within x r h
    refine Fn.of_lc mix fn_99 lok_99 (by rfl) (flC (T_ref18_Levels.flatC _) (flC (.atom _) (flC (.atom _) (flN)))) (.atom _) ?_
    simp -implicitDefEqProofs only [go_sem, Try.f99]
    by_cases h1 : (decide (x.2.1 < 0)) = true
    · replace h := ite_some h h1
      try simp -implicitDefEqProofs only [go_sem, h1]
      injection h with h; subst h
      first | rfl | simp -implicitDefEqProofs only [go_sem, h1] <;> rfl
    · replace h := ite_none h h1; replace h1 := bfalse h1
      try simp -implicitDefEqProofs only [go_sem, h1]
      by_cases h2 : (decide (x.2.1 ≥ (x.1.Ops.length : Int))) = true
      · replace h := ite_some h h2
        try simp -implicitDefEqProofs only [go_sem, h1, h2]
        injection h with h; subst h
        first | rfl | simp -implicitDefEqProofs only [go_sem, h1, h2] <;> rfl
      · replace h := ite_none h h2; replace h2 := bfalse h2
        try simp -implicitDefEqProofs only [go_sem, h1, h2]
        obtain ⟨e3, h4, h⟩ := bind_some' h; replace h4 := getI_some h4; obtain ⟨h4', h4⟩ := h4
        try simp -implicitDefEqProofs only [go_sem, h1, h2, h4, h4']
        by_cases h5 : (e3.Home == x.2.2) = true
        · replace h := ite_some h h5
          try simp -implicitDefEqProofs only [go_sem, h1, h2, h4, h4', h5]
          injection h with h; subst h
          first | rfl | simp -implicitDefEqProofs only [go_sem, h1, h2, h4, h4', h5] <;> rfl
        · replace h := ite_none h h5; replace h5 := bfalse h5
          try simp -implicitDefEqProofs only [go_sem, h1, h2, h4, h4', h5]
          obtain ⟨r6, h7, h⟩ := bind_some' h
          refine .plain _ _ rfl (ih_M_ref18_Within (x.1, e3.Home, x.2.2) _ h7) ?_
          try simp -implicitDefEqProofs only [go_sem, h1, h2, h4, h4', h5]
          injection h with h; subst h
          first | rfl | simp -implicitDefEqProofs only [go_sem, h1, h2, h4, h4', h5] <;> rfl
theorem M_ref18_Within.w : type_of% @M_ref18_Within.ws := @M_ref18_Within.ws
end Go.Proofs.Ytcfekacmmfdggaa.G
set_option linter.unusedVariables false
set_option linter.unusedSimpArgs false
set_option maxRecDepth 100000
namespace Go.Proofs.Ytcfekacmmfdggaa.G
@[go_sem] theorem lrp_65_6 : lrp Try.prog 65 6 = (13, []) := by kernel_rfl
theorem lok_65 : (Try.f65.body.isSome && !(Try.f65.name == "runtime.NumGoroutine") && okL (bodyF Try.f65) Try.f65.ntmps (bodyF Try.f65)) = true := by kernel_rfl
def M_ref19_Need.l1 (x : Int × Set64 × Set64 × Int × T_ref18_Levels) : Option (Set64) :=
  if (decide (x.2.2.2.1 < (x.2.2.2.2.Ops.length : Int))) = true then
    M_ref18_Within (x.2.2.2.2, x.2.2.2.1, x.1) >>= fun r2 =>
    if r2 = true then
      (getI x.2.2.2.2.Ops x.2.2.2.1) >>= fun (e5 : T_ref18_Op) =>
      if ((e5.Own &&& x.2.1) != 0#64) = true then
        M_ref19_Core (x.2.2.2.2, x.2.2.2.1) >>= fun r8 =>
        M_ref19_Need.l1 (x.1, ((x.2.1 ||| r8) ||| e5.Left), x.2.2.1, (w64 (x.2.2.2.1 + 1)), x.2.2.2.2)
      else
        M_ref19_Need.l1 (x.1, x.2.1, x.2.2.1, (w64 (x.2.2.2.1 + 1)), x.2.2.2.2)
    else
      M_ref19_Need.l1 (x.1, x.2.1, x.2.2.1, (w64 (x.2.2.2.1 + 1)), x.2.2.2.2)
  else
    some x.2.1
  partial_fixpoint
theorem M_ref19_Need.l1.ws : (∀ (x : Int × Set64 × Set64 × Int × T_ref18_Levels) (o : Set64), M_ref19_Need.l1 x = some o → (fun (x : Int × Set64 × Set64 × Int × T_ref18_Levels) (o : Set64) => ∀ (lo : Option Nat) (c : LCtx) (Q : Exit → LEnv → Prop) (hb : ∀ s : Set64, o = s → Q (.exit 2) ⟨[(1, .v (.i64 x.1)), (2, .v (.w s)), (3, .lref 3 0), (7, .v (.w x.2.2.1))], [(3, [.v (.slice .foreign (x.2.2.2.2.Joins.map T_ref18_Join.av)), .v (.slice .foreign (x.2.2.2.2.Ops.map T_ref18_Op.av))])]⟩), LLoop Try.prog 65 lo c 1 (VQ Q) ⟨[(1, .v (.i64 x.1)), (2, .v (.w x.2.1)), (3, .lref 3 0), (7, .v (.w x.2.2.1)), (8, .v (.i64 x.2.2.2.1))], [(3, [.v (.slice .foreign (x.2.2.2.2.Joins.map T_ref18_Join.av)), .v (.slice .foreign (x.2.2.2.2.Ops.map T_ref18_Op.av))])]⟩) x o) := by
  refine M_ref19_Need.l1.partial_correctness _ ?_
  · intro M_M_ref19_Need_l1 ih_M_ref19_Need_l1 x o h
    intro lo c Q hb
    refine LLoop.step mix fn_65 (by kernel_rfl) ?_
    simp -implicitDefEqProofs only [go_sem, Try.f65]
    by_cases h1 : (decide (x.2.2.2.1 < (x.2.2.2.2.Ops.length : Int))) = true
    · replace h := ite_some h h1
      try simp -implicitDefEqProofs only [go_sem, h1]
      obtain ⟨r2, h3, h⟩ := bind_some' h
      refine .plain _ _ rfl (M_ref18_Within.w (x.2.2.2.2, x.2.2.2.1, x.1) _ h3) ?_
      try simp -implicitDefEqProofs only [go_sem, h1]
      by_cases h4 : r2 = true
      · replace h := ite_some h h4
        try simp -implicitDefEqProofs only [go_sem, h1, h4]
        obtain ⟨e5, h6, h⟩ := bind_some' h; replace h6 := getI_some h6; obtain ⟨h6', h6⟩ := h6
        try simp -implicitDefEqProofs only [go_sem, h1, h4, h6, h6']
        by_cases h7 : ((e5.Own &&& x.2.1) != 0#64) = true
        · replace h := ite_some h h7
          try simp -implicitDefEqProofs only [go_sem, h1, h4, h6, h6', h7]
          obtain ⟨r8, h9, h⟩ := bind_some' h
          refine .plain _ _ rfl (M_ref19_Core.w (x.2.2.2.2, x.2.2.2.1) _ h9) ?_
          try simp -implicitDefEqProofs only [go_sem, h1, h4, h6, h6', h7]
          exact LLoop.view [] (by (first | rfl | simp -implicitDefEqProofs only [go_sem, h1, h4, h6, h6', h7] <;> rfl)) (ih_M_ref19_Need_l1 _ _ h lo c Q hb)
        · replace h := ite_none h h7; replace h7 := bfalse h7
          try simp -implicitDefEqProofs only [go_sem, h1, h4, h6, h6', h7]
          exact LLoop.view [] (by (first | rfl | simp -implicitDefEqProofs only [go_sem, h1, h4, h6, h6', h7] <;> rfl)) (ih_M_ref19_Need_l1 _ _ h lo c Q hb)
      · replace h := ite_none h h4; replace h4 := bfalse h4
        try simp -implicitDefEqProofs only [go_sem, h1, h4]
        exact LLoop.view [] (by (first | rfl | simp -implicitDefEqProofs only [go_sem, h1, h4] <;> rfl)) (ih_M_ref19_Need_l1 _ _ h lo c Q hb)
    · replace h := ite_none h h1; replace h1 := bfalse h1
      try simp -implicitDefEqProofs only [go_sem, h1]
      injection h with h; subst h
      exact .inr ⟨[], _, by (simp -implicitDefEqProofs only [go_sem, h1] <;> first | done | rfl | trivial), hb _ rfl⟩
theorem M_ref19_Need.l1.w : type_of% @M_ref19_Need.l1.ws := @M_ref19_Need.l1.ws
def M_ref19_Need.l0 (x : Int × Set64 × T_ref18_Levels) : Option (Set64) :=
  M_ref19_Need.l1 (x.1, x.2.1, x.2.1, 0, x.2.2) >>= fun (o10 : Set64) =>
  if (o10 == x.2.1) = true then
    some o10
  else
    M_ref19_Need.l0 (x.1, o10, x.2.2)
  partial_fixpoint
theorem M_ref19_Need.l0.ws : (∀ (x : Int × Set64 × T_ref18_Levels) (o : Set64), M_ref19_Need.l0 x = some o → (fun (x : Int × Set64 × T_ref18_Levels) (o : Set64) => ∀ (lo : Option Nat) (c : LCtx) (Q : Exit → LEnv → Prop) (hr : ∀ (L : LEnv), LPostF Try.prog [.tmp 6] (.w o) (fun _ => True) .ret L → Q .ret L), LLoop Try.prog 65 lo c 0 (VQ Q) ⟨[(1, .v (.i64 x.1)), (2, .v (.w x.2.1)), (3, .lref 3 0)], [(3, [.v (.slice .foreign (x.2.2.Joins.map T_ref18_Join.av)), .v (.slice .foreign (x.2.2.Ops.map T_ref18_Op.av))])]⟩) x o) := by
  refine M_ref19_Need.l0.partial_correctness _ ?_
  · intro M_M_ref19_Need_l0 ih_M_ref19_Need_l0 x o h
    intro lo c Q hr
    refine LLoop.step mix fn_65 (by kernel_rfl) ?_
    simp -implicitDefEqProofs only [go_sem, Try.f65]
    obtain ⟨o10, h11, h⟩ := bind_some' h
    refine LLoop.viewQ (LLoop.view [] (by (first | rfl | simp -implicitDefEqProofs only [go_sem] <;> rfl)) (M_ref19_Need.l1.w (x.1, x.2.1, x.2.1, 0, x.2.2) _ h11 _ _ _ ?_))
    intro s' hs'; subst hs'
    try simp -implicitDefEqProofs only [go_sem]
    by_cases h12 : (o10 == x.2.1) = true
    · replace h := ite_some h h12
      try simp -implicitDefEqProofs only [go_sem, h12]
      injection h with h; subst h
      exact .inl (hr _ (by (first | rfl | simp -implicitDefEqProofs only [go_sem, h12] <;> rfl)))
    · replace h := ite_none h h12; replace h12 := bfalse h12
      try simp -implicitDefEqProofs only [go_sem, h12]
      exact LLoop.view [] (by (first | rfl | simp -implicitDefEqProofs only [go_sem, h12] <;> rfl)) (ih_M_ref19_Need_l0 _ _ h lo c Q hr)
theorem M_ref19_Need.l0.w : type_of% @M_ref19_Need.l0.ws := @M_ref19_Need.l0.ws
def M_ref19_Need (x : T_ref18_Levels × Int × Set64) : Option (Set64) :=
  M_ref19_Need.l0 (x.2.1, x.2.2, x.1) >>= fun (o13 : Set64) =>
  some o13
set_option maxHeartbeats 8000000 in
theorem M_ref19_Need.w : ∀ (x : T_ref18_Levels × Int × Set64) (r : Set64), M_ref19_Need x = some r → (fun (x : T_ref18_Levels × Int × Set64) (r : Set64) => Fn Try.prog 65 [.agg (T_ref18_Levels.C x.1), .i64 x.2.1, .w x.2.2] (.w r)) x r := by
  intro x r h
  rw [M_ref19_Need] at h
  try dsimp only
  refine Fn.of_lc mix fn_65 lok_65 (by rfl) (flC (T_ref18_Levels.flatC _) (flC (.atom _) (flC (.atom _) (flN)))) (.atom _) ?_
  simp -implicitDefEqProofs only [go_sem, Try.f65]
  obtain ⟨o13, h14, h⟩ := bind_some' h
  refine LLoop.viewQ (LLoop.view [] (by (first | rfl | simp -implicitDefEqProofs only [go_sem] <;> rfl)) (M_ref19_Need.l0.w (x.2.1, x.2.2, x.1) _ h14 _ _ _ ?_))
  intro L' hL'
  injection h with h; subst h
  first | exact hL' | (simp -implicitDefEqProofs only [go_sem]; exact hL') | (simp -implicitDefEqProofs only [go_sem]; simp -implicitDefEqProofs only [go_sem] at hL'; exact hL')
end Go.Proofs.Ytcfekacmmfdggaa.G
set_option linter.unusedVariables false
set_option linter.unusedSimpArgs false
set_option maxRecDepth 100000
namespace Go.Proofs.Ytcfekacmmfdggaa.G
@[go_sem] theorem lrp_95_1 : lrp Try.prog 95 1 = (9, []) := by kernel_rfl
theorem lok_95 : (Try.f95.body.isSome && !(Try.f95.name == "runtime.NumGoroutine") && okL (bodyF Try.f95) Try.f95.ntmps (bodyF Try.f95)) = true := by kernel_rfl
end Go.Proofs.Ytcfekacmmfdggaa.G
set_option linter.unusedVariables false
set_option linter.unusedSimpArgs false
set_option maxRecDepth 100000
namespace Go.Proofs.Ytcfekacmmfdggaa.G
@[go_sem] theorem lrp_96_7 : lrp Try.prog 96 7 = (50, []) := by kernel_rfl
theorem lok_96 : (Try.f96.body.isSome && !(Try.f96.name == "runtime.NumGoroutine") && okL (bodyF Try.f96) Try.f96.ntmps (bodyF Try.f96)) = true := by kernel_rfl
def M_ref19_sinks.l1 (x : Int × Int × T_ref18_Levels) : Option (Lp (Unit) (Int × Int)) :=
  if (decide (x.2.1 < (x.2.2.Ops.length : Int))) = true then
    if (x.1 != x.2.1) = true then
      (getI x.2.2.Ops x.1) >>= fun (e4 : T_ref18_Op) =>
      (getI x.2.2.Ops x.2.1) >>= fun (e6 : T_ref18_Op) =>
      if (e4.Home == e6.Home) = true then
        if (e6.Kind == 2) = true then
          M_ref19_Loose e4 >>= fun r10 =>
          if r10 = true then
            M_ref01_In (e4.Left, e6.Own) >>= fun r13 =>
            if r13 = true then
              some (.ret (x.1, x.2.1))
            else
              M_ref19_sinks.l1 (x.1, (w64 (x.2.1 + 1)), x.2.2)
          else
            M_ref19_sinks.l1 (x.1, (w64 (x.2.1 + 1)), x.2.2)
        else
          M_ref19_sinks.l1 (x.1, (w64 (x.2.1 + 1)), x.2.2)
      else
        M_ref19_sinks.l1 (x.1, (w64 (x.2.1 + 1)), x.2.2)
    else
      M_ref19_sinks.l1 (x.1, (w64 (x.2.1 + 1)), x.2.2)
  else
    some (.brk ())
  partial_fixpoint
theorem M_ref19_sinks.l1.ws : (∀ (x : Int × Int × T_ref18_Levels) (o : Lp (Unit) (Int × Int)), M_ref19_sinks.l1 x = some o → (fun (x : Int × Int × T_ref18_Levels) (o : Lp (Unit) (Int × Int)) => ∀ (lo : Option Nat) (c : LCtx) (Q : Exit → LEnv → Prop) (hb : ∀ s : Unit, o = Lp.brk s → Q (.exit 2) ⟨[(1, .lref 1 0), (4, .v (.i64 x.1))], [(1, [.v (.slice .foreign (x.2.2.Joins.map T_ref18_Join.av)), .v (.slice .foreign (x.2.2.Ops.map T_ref18_Op.av))])]⟩) (hr : ∀ (r : Int × Int) (L : LEnv), o = .ret r → LPostF Try.prog [.tmp 2, .tmp 3] (.tuple [.i64 r.1, .i64 r.2]) (fun _ => True) .ret L → Q .ret L), LLoop Try.prog 96 lo c 1 (VQ Q) ⟨[(1, .lref 1 0), (4, .v (.i64 x.1)), (5, .v (.i64 x.2.1))], [(1, [.v (.slice .foreign (x.2.2.Joins.map T_ref18_Join.av)), .v (.slice .foreign (x.2.2.Ops.map T_ref18_Op.av))])]⟩) x o) := by
  refine M_ref19_sinks.l1.partial_correctness _ ?_
  · intro M_M_ref19_sinks_l1 ih_M_ref19_sinks_l1 x o h
    intro lo c Q hb hr
    refine LLoop.step mix fn_96 (by kernel_rfl) ?_
    simp -implicitDefEqProofs only [go_sem, Try.f96]
    by_cases h2 : (decide (x.2.1 < (x.2.2.Ops.length : Int))) = true
    · replace h := ite_some h h2
      try simp -implicitDefEqProofs only [go_sem, h2]
      by_cases h3 : (x.1 != x.2.1) = true
      · replace h := ite_some h h3
        try simp -implicitDefEqProofs only [go_sem, h2, h3]
        obtain ⟨e4, h5, h⟩ := bind_some' h; replace h5 := getI_some h5; obtain ⟨h5', h5⟩ := h5
        try simp -implicitDefEqProofs only [go_sem, h2, h3, h5, h5']
        obtain ⟨e6, h7, h⟩ := bind_some' h; replace h7 := getI_some h7; obtain ⟨h7', h7⟩ := h7
        try simp -implicitDefEqProofs only [go_sem, h2, h3, h5, h5', h7, h7']
        by_cases h8 : (e4.Home == e6.Home) = true
        · replace h := ite_some h h8
          try simp -implicitDefEqProofs only [go_sem, h2, h3, h5, h5', h7, h7', h8]
          by_cases h9 : (e6.Kind == 2) = true
          · replace h := ite_some h h9
            try simp -implicitDefEqProofs only [go_sem, h2, h3, h5, h5', h7, h7', h8, h9]
            obtain ⟨r10, h11, h⟩ := bind_some' h
            refine .plain _ _ rfl (M_ref19_Loose.w e4 _ h11) ?_
            try simp -implicitDefEqProofs only [go_sem, h2, h3, h5, h5', h7, h7', h8, h9]
            by_cases h12 : r10 = true
            · replace h := ite_some h h12
              try simp -implicitDefEqProofs only [go_sem, h2, h3, h5, h5', h7, h7', h8, h9, h12]
              obtain ⟨r13, h14, h⟩ := bind_some' h
              refine .plain _ _ rfl (M_ref01_In.w (e4.Left, e6.Own) _ h14) ?_
              try simp -implicitDefEqProofs only [go_sem, h2, h3, h5, h5', h7, h7', h8, h9, h12]
              by_cases h15 : r13 = true
              · replace h := ite_some h h15
                try simp -implicitDefEqProofs only [go_sem, h2, h3, h5, h5', h7, h7', h8, h9, h12, h15]
                injection h with h; subst h
                exact .inl (hr _ _ rfl (by (first | rfl | simp -implicitDefEqProofs only [go_sem, h2, h3, h5, h5', h7, h7', h8, h9, h12, h15] <;> rfl)))
              · replace h := ite_none h h15; replace h15 := bfalse h15
                try simp -implicitDefEqProofs only [go_sem, h2, h3, h5, h5', h7, h7', h8, h9, h12, h15]
                exact LLoop.view [] (by (first | rfl | simp -implicitDefEqProofs only [go_sem, h2, h3, h5, h5', h7, h7', h8, h9, h12, h15] <;> rfl)) (ih_M_ref19_sinks_l1 _ _ h lo c Q hb hr)
            · replace h := ite_none h h12; replace h12 := bfalse h12
              try simp -implicitDefEqProofs only [go_sem, h2, h3, h5, h5', h7, h7', h8, h9, h12]
              exact LLoop.view [] (by (first | rfl | simp -implicitDefEqProofs only [go_sem, h2, h3, h5, h5', h7, h7', h8, h9, h12] <;> rfl)) (ih_M_ref19_sinks_l1 _ _ h lo c Q hb hr)
          · replace h := ite_none h h9; replace h9 := bfalse h9
            try simp -implicitDefEqProofs only [go_sem, h2, h3, h5, h5', h7, h7', h8, h9]
            exact LLoop.view [] (by (first | rfl | simp -implicitDefEqProofs only [go_sem, h2, h3, h5, h5', h7, h7', h8, h9] <;> rfl)) (ih_M_ref19_sinks_l1 _ _ h lo c Q hb hr)
        · replace h := ite_none h h8; replace h8 := bfalse h8
          try simp -implicitDefEqProofs only [go_sem, h2, h3, h5, h5', h7, h7', h8]
          exact LLoop.view [] (by (first | rfl | simp -implicitDefEqProofs only [go_sem, h2, h3, h5, h5', h7, h7', h8] <;> rfl)) (ih_M_ref19_sinks_l1 _ _ h lo c Q hb hr)
      · replace h := ite_none h h3; replace h3 := bfalse h3
        try simp -implicitDefEqProofs only [go_sem, h2, h3]
        exact LLoop.view [] (by (first | rfl | simp -implicitDefEqProofs only [go_sem, h2, h3] <;> rfl)) (ih_M_ref19_sinks_l1 _ _ h lo c Q hb hr)
    · replace h := ite_none h h2; replace h2 := bfalse h2
      try simp -implicitDefEqProofs only [go_sem, h2]
      injection h with h; subst h
      exact .inr ⟨[], _, by (simp -implicitDefEqProofs only [go_sem, h2] <;> first | done | rfl | trivial), hb _ rfl⟩
theorem M_ref19_sinks.l1.w : type_of% @M_ref19_sinks.l1.ws := @M_ref19_sinks.l1.ws
def M_ref19_sinks.l0 (x : Int × T_ref18_Levels) : Option (Lp (Unit) (Int × Int)) :=
  if (decide (x.1 < (x.2.Ops.length : Int))) = true then
    M_ref19_sinks.l1 (x.1, 0, x.2) >>= fun (o16 : Lp (Unit) (Int × Int)) => match o16 with
    | .brk s19 =>
      M_ref19_sinks.l0 ((w64 (x.1 + 1)), x.2)
    | .ret r18 =>
      some (.ret r18)
  else
    some (.brk ())
  partial_fixpoint
theorem M_ref19_sinks.l0.ws : (∀ (x : Int × T_ref18_Levels) (o : Lp (Unit) (Int × Int)), M_ref19_sinks.l0 x = some o → (fun (x : Int × T_ref18_Levels) (o : Lp (Unit) (Int × Int)) => ∀ (lo : Option Nat) (c : LCtx) (Q : Exit → LEnv → Prop) (hb : ∀ s : Unit, o = Lp.brk s → Q (.exit 0) ⟨[], []⟩) (hr : ∀ (r : Int × Int) (L : LEnv), o = .ret r → LPostF Try.prog [.tmp 2, .tmp 3] (.tuple [.i64 r.1, .i64 r.2]) (fun _ => True) .ret L → Q .ret L), LLoop Try.prog 96 lo c 0 (VQ Q) ⟨[(1, .lref 1 0), (4, .v (.i64 x.1))], [(1, [.v (.slice .foreign (x.2.Joins.map T_ref18_Join.av)), .v (.slice .foreign (x.2.Ops.map T_ref18_Op.av))])]⟩) x o) := by
  refine M_ref19_sinks.l0.partial_correctness _ ?_
  · intro M_M_ref19_sinks_l0 ih_M_ref19_sinks_l0 x o h
    intro lo c Q hb hr
    refine LLoop.step mix fn_96 (by kernel_rfl) ?_
    simp -implicitDefEqProofs only [go_sem, Try.f96]
    by_cases h1 : (decide (x.1 < (x.2.Ops.length : Int))) = true
    · replace h := ite_some h h1
      try simp -implicitDefEqProofs only [go_sem, h1]
      obtain ⟨o16, h17, h⟩ := bind_some' h
      refine LLoop.viewQ (LLoop.view [] (by (first | rfl | simp -implicitDefEqProofs only [go_sem, h1] <;> rfl)) (M_ref19_sinks.l1.w (x.1, 0, x.2) _ h17 _ _ _ ?_ ?_))
      · intro s19 hs'; subst hs'
        try simp -implicitDefEqProofs only [go_sem, h1]
        exact LLoop.view [] (by (first | rfl | simp -implicitDefEqProofs only [go_sem, h1] <;> rfl)) (ih_M_ref19_sinks_l0 _ _ h lo c Q hb hr)
      · intro r18 L' hs' hL'; subst hs'
        injection h with h; subst h
        simp -implicitDefEqProofs only [go_sem]
        exact .inl (hr _ _ rfl hL')
    · replace h := ite_none h h1; replace h1 := bfalse h1
      try simp -implicitDefEqProofs only [go_sem, h1]
      injection h with h; subst h
      exact .inr ⟨[], _, by (simp -implicitDefEqProofs only [go_sem, h1] <;> first | done | rfl | trivial), hb _ rfl⟩
theorem M_ref19_sinks.l0.w : type_of% @M_ref19_sinks.l0.ws := @M_ref19_sinks.l0.ws
def M_ref19_sinks (x : T_ref18_Levels) : Option (Int × Int) :=
  M_ref19_sinks.l0 (0, x) >>= fun (o20 : Lp (Unit) (Int × Int)) => match o20 with
  | .brk s23 =>
    some (-1, -1)
  | .ret r22 =>
    some r22
set_option maxHeartbeats 8000000 in
theorem M_ref19_sinks.w : ∀ (x : T_ref18_Levels) (r : Int × Int), M_ref19_sinks x = some r → (fun (x : T_ref18_Levels) (r : Int × Int) => Fn Try.prog 96 [.agg (T_ref18_Levels.C x)] (.tuple [.i64 r.1, .i64 r.2])) x r := by
  intro x r h
  rw [M_ref19_sinks] at h
  try dsimp only
  refine Fn.of_lc mix fn_96 lok_96 (by rfl) (flC (T_ref18_Levels.flatC _) (flN)) (.tuple _ (flC (.atom _) (flC (.atom _) (flN)))) ?_
  simp -implicitDefEqProofs only [go_sem, Try.f96]
  obtain ⟨o20, h21, h⟩ := bind_some' h
  refine LLoop.viewQ (LLoop.view [] (by (first | rfl | simp -implicitDefEqProofs only [go_sem] <;> rfl)) (M_ref19_sinks.l0.w (0, x) _ h21 _ _ _ ?_ ?_))
  · intro s23 hs'; subst hs'
    try simp -implicitDefEqProofs only [go_sem]
    injection h with h; subst h
    first | rfl | simp -implicitDefEqProofs only [go_sem] <;> rfl
  · intro r22 L' hs' hL'; subst hs'
    injection h with h; subst h
    first | exact hL' | (simp -implicitDefEqProofs only [go_sem]; exact hL') | (simp -implicitDefEqProofs only [go_sem]; simp -implicitDefEqProofs only [go_sem] at hL'; exact hL')
end Go.Proofs.Ytcfekacmmfdggaa.G
set_option linter.unusedVariables false
set_option linter.unusedSimpArgs false
set_option maxRecDepth 100000
namespace Go.Proofs.Ytcfekacmmfdggaa.G
@[go_sem] theorem lrp_63_9 : lrp Try.prog 63 9 = (18, []) := by kernel_rfl
theorem lok_63 : (Try.f63.body.isSome && !(Try.f63.name == "runtime.NumGoroutine") && okL (bodyF Try.f63) Try.f63.ntmps (bodyF Try.f63)) = true := by kernel_rfl
section
attribute [local instance] mu_96
def M_ref19_Twin_R (x : T_ref18_Levels) : Option (T_ref18_Levels) :=
  (room 152 ([] : List T_ref18_Join) x.Joins) >>= fun (z1 : List T_ref18_Join) =>
  (room 64 ([] : List T_ref18_Op) x.Ops) >>= fun (z3 : List T_ref18_Op) =>
  some (⟨z1, z3⟩ : T_ref18_Levels)
set_option maxHeartbeats 8000000 in
theorem M_ref19_Twin_R.w : ∀ (x : T_ref18_Levels) (r : T_ref18_Levels), M_ref19_Twin_R x = some r → (fun (x : T_ref18_Levels) (r : T_ref18_Levels) => FnR Try.prog 95 [] [.a (.agg (T_ref18_Levels.C x))] (.ag [.v (.slice .foreign (r.Joins.map T_ref18_Join.av)), .own 98000001 6 (r.Ops.map T_ref18_Op.av)]) []) x r := by
  intro x r h
  rw [M_ref19_Twin_R] at h
  try dsimp only
  refine FnR.of_lcG mix fn_95 lok_95 (by rfl) (by rfl) (by rfl) (by rfl) fun c => ?_
  simp -implicitDefEqProofs only [go_sem, Try.f95]
  obtain ⟨z1, h2, h⟩ := bind_some' h; replace h2 := room_some h2; obtain ⟨h2', rfl⟩ := h2
  refine LApp.mapFull (F := T_ref18_Join.av) (xs := ([] : List T_ref18_Join)) (ys := x.Joins) t84_elem t91_size t91_bytes t91_zsize rfl T_ref18_Join.len (by (first | rfl | simp -implicitDefEqProofs only [go_sem] <;> rfl)) (by (first | rfl | simp -implicitDefEqProofs only [go_sem] <;> rfl)) h2' ?_
  try simp -implicitDefEqProofs only [go_sem]
  obtain ⟨z3, h4, h⟩ := bind_some' h; replace h4 := room_some h4; obtain ⟨h4', rfl⟩ := h4
  refine LApp.mapFull (F := T_ref18_Op.av) (xs := ([] : List T_ref18_Op)) (ys := x.Ops) t85_elem t96_size t96_bytes t96_zsize rfl T_ref18_Op.len (by (first | rfl | simp -implicitDefEqProofs only [go_sem] <;> rfl)) (by (first | rfl | simp -implicitDefEqProofs only [go_sem] <;> rfl)) h4' ?_
  try simp -implicitDefEqProofs only [go_sem]
  injection h with h; subst h
  first | exact ⟨_, rfl, [(98000001, some 90000010)], by rfl, by (first | rfl | simp -implicitDefEqProofs only [go_sem] <;> rfl), by (first | rfl | simp -implicitDefEqProofs only [go_sem] <;> rfl)⟩ | exact ⟨_, rfl, [(98000001, some 90000010)], by rfl, by (simp -implicitDefEqProofs only [go_sem] <;> first | done | rfl | trivial), by (simp -implicitDefEqProofs only [go_sem] <;> first | done | rfl | trivial)⟩
end
section
attribute [local instance] mu_96
def M_ref19_Sink.l0 (x : Int × T_ref18_Levels × T_ref18_Levels × T_ref18_Levels) : Option (Lp (T_ref18_Levels × T_ref18_Levels) (T_ref18_Levels)) :=
  if (decide (x.1 ≤ (w64 ((x.2.1.Ops.length : Int) * (x.2.1.Ops.length : Int))))) = true then
    M_ref19_sinks x.2.2.2 >>= fun r4 =>
    if (decide (r4.1 < 0)) = true then
      some (.ret x.2.2.2)
    else
      (getI x.2.2.2.Ops r4.1) >>= fun (e7 : T_ref18_Op) =>
      (getI (x.2.2.2.Ops.set (r4.1).toNat (⟨e7.Kind, e7.Conj, e7.Left, e7.Right, e7.Own, r4.2⟩ : T_ref18_Op)) r4.2) >>= fun (e9 : T_ref18_Op) =>
      (getI (x.2.2.2.Ops.set (r4.1).toNat (⟨e7.Kind, e7.Conj, e7.Left, e7.Right, e7.Own, r4.2⟩ : T_ref18_Op)) r4.1) >>= fun (e11 : T_ref18_Op) =>
      M_ref19_Sink.l0 ((w64 (x.1 + 1)), x.2.1, x.2.2.1, (⟨x.2.2.2.Joins, ((x.2.2.2.Ops.set (r4.1).toNat (⟨e7.Kind, e7.Conj, e7.Left, e7.Right, e7.Own, r4.2⟩ : T_ref18_Op)).set (r4.2).toNat (⟨e9.Kind, e9.Conj, e9.Left, e9.Right, (e9.Own ||| e11.Own), e9.Home⟩ : T_ref18_Op))⟩ : T_ref18_Levels))
  else
    some (.brk (x.2.2.1, x.2.2.2))
  partial_fixpoint
theorem M_ref19_Sink.l0.ws : (∀ (x : Int × T_ref18_Levels × T_ref18_Levels × T_ref18_Levels) (o : Lp (T_ref18_Levels × T_ref18_Levels) (T_ref18_Levels)), M_ref19_Sink.l0 x = some o → (fun (x : Int × T_ref18_Levels × T_ref18_Levels × T_ref18_Levels) (o : Lp (T_ref18_Levels × T_ref18_Levels) (T_ref18_Levels)) => ∀ (lo : Option Nat) (c : LCtx) (Q : Exit → LEnv → Prop) (hb : ∀ s : T_ref18_Levels × T_ref18_Levels, o = Lp.brk s → Q (.exit 0) ⟨[(2, .lref 2 0), (3, .lref 3 0)], [(2, [.own 20000200 17 (s.1.Joins.map T_ref18_Join.av), .own 70000201 6 (s.1.Ops.map T_ref18_Op.av)]), (3, [.v (.slice .foreign (s.2.Joins.map T_ref18_Join.av)), .own 110000301 6 (s.2.Ops.map T_ref18_Op.av)])]⟩) (hr : ∀ (r : T_ref18_Levels) (L : LEnv), o = .ret r → LPostF Try.prog [.cell 2 87] (.agg (T_ref18_Levels.C r)) (fun _ => True) .ret L → Q .ret L), LLoop Try.prog 63 lo c 0 (VQ Q) ⟨[(1, .lref 1 0), (2, .lref 2 0), (3, .lref 3 0), (4, .v (.i64 x.1))], [(1, [.v (.slice .foreign (x.2.1.Joins.map T_ref18_Join.av)), .v (.slice .foreign (x.2.1.Ops.map T_ref18_Op.av))]), (2, [.own 20000200 17 (x.2.2.1.Joins.map T_ref18_Join.av), .own 70000201 6 (x.2.2.1.Ops.map T_ref18_Op.av)]), (3, [.v (.slice .foreign (x.2.2.2.Joins.map T_ref18_Join.av)), .own 110000301 6 (x.2.2.2.Ops.map T_ref18_Op.av)])]⟩) x o) := by
  refine M_ref19_Sink.l0.partial_correctness _ ?_
  · intro M_M_ref19_Sink_l0 ih_M_ref19_Sink_l0 x o h
    intro lo c Q hb hr
    refine LLoop.step mix fn_63 (by kernel_rfl) ?_
    simp -implicitDefEqProofs only [go_sem, Try.f63]
    by_cases h3 : (decide (x.1 ≤ (w64 ((x.2.1.Ops.length : Int) * (x.2.1.Ops.length : Int))))) = true
    · replace h := ite_some h h3
      try simp -implicitDefEqProofs only [go_sem, h3]
      obtain ⟨r4, h5, h⟩ := bind_some' h
      have hw := M_ref19_sinks.w x.2.2.2 _ h5
      try simp -implicitDefEqProofs only [go_sem] at hw
      refine ⟨_, hw, by first | exact (flC (T_ref18_Levels.flatC _) (flN)) | (simp -implicitDefEqProofs only [go_sem]; exact (flC (T_ref18_Levels.flatC _) (flN))), (.tuple _ (scC (.atom _) (scC (.atom _) (scN)))), ?_⟩
      clear hw
      try simp -implicitDefEqProofs only [go_sem, h3]
      by_cases h6 : (decide (r4.1 < 0)) = true
      · replace h := ite_some h h6
        try simp -implicitDefEqProofs only [go_sem, h3, h6]
        injection h with h; subst h
        exact .inl (hr _ _ rfl (by (first | rfl | simp -implicitDefEqProofs only [go_sem, h3, h6] <;> rfl)))
      · replace h := ite_none h h6; replace h6 := bfalse h6
        try simp -implicitDefEqProofs only [go_sem, h3, h6]
        obtain ⟨e7, h8, h⟩ := bind_some' h; replace h8 := getI_some h8; obtain ⟨h8', h8⟩ := h8; have h8v : r4.1 < (x.2.2.2.Ops.length : Int) := by have := (List.getElem?_eq_some_iff.1 h8).1; omega
        try simp -implicitDefEqProofs only [go_sem, h3, h6, h8, h8', h8v]
        refine LStV.map (F := T_ref18_Op.av) (xs := x.2.2.2.Ops) (x := e7) (x' := (⟨e7.Kind, e7.Conj, e7.Left, e7.Right, e7.Own, r4.2⟩ : T_ref18_Op)) (by (first | rfl | simp -implicitDefEqProofs only [go_sem, h3, h6, h8, h8', h8v] <;> rfl)) (by (first | rfl | simp -implicitDefEqProofs only [go_sem, h3, h6, h8, h8', h8v] <;> rfl)) (by rfl) (by rfl) (by rfl) h8 (by first | rfl | (first | rfl | simp -implicitDefEqProofs only [go_sem, h3, h6, h8, h8', h8v] <;> rfl)) ?_
        try simp -implicitDefEqProofs only [go_sem, h3, h6, h8, h8', h8v]
        obtain ⟨e9, h10, h⟩ := bind_some' h; replace h10 := getI_some h10; obtain ⟨h10', h10⟩ := h10; have h10v : r4.2 < ((x.2.2.2.Ops.set (r4.1).toNat (⟨e7.Kind, e7.Conj, e7.Left, e7.Right, e7.Own, r4.2⟩ : T_ref18_Op)).length : Int) := by have := (List.getElem?_eq_some_iff.1 h10).1; omega
        try simp -implicitDefEqProofs only [go_sem, h3, h6, h8, h8', h8v, h10, h10', h10v]
        obtain ⟨e11, h12, h⟩ := bind_some' h; replace h12 := getI_some h12; obtain ⟨h12', h12⟩ := h12; have h12v : r4.1 < ((x.2.2.2.Ops.set (r4.1).toNat (⟨e7.Kind, e7.Conj, e7.Left, e7.Right, e7.Own, r4.2⟩ : T_ref18_Op)).length : Int) := by have := (List.getElem?_eq_some_iff.1 h12).1; omega
        try simp -implicitDefEqProofs only [go_sem, h3, h6, h8, h8', h8v, h10, h10', h10v, h12, h12', h12v]
        refine LStV.map (F := T_ref18_Op.av) (xs := (x.2.2.2.Ops.set (r4.1).toNat (⟨e7.Kind, e7.Conj, e7.Left, e7.Right, e7.Own, r4.2⟩ : T_ref18_Op))) (x := e9) (x' := (⟨e9.Kind, e9.Conj, e9.Left, e9.Right, (e9.Own ||| e11.Own), e9.Home⟩ : T_ref18_Op)) (by (first | rfl | simp -implicitDefEqProofs only [go_sem, h3, h6, h8, h8', h8v, h10, h10', h10v, h12, h12', h12v] <;> rfl)) (by (first | rfl | simp -implicitDefEqProofs only [go_sem, h3, h6, h8, h8', h8v, h10, h10', h10v, h12, h12', h12v] <;> rfl)) (by rfl) (by rfl) (by rfl) h10 (by first | rfl | (first | rfl | simp -implicitDefEqProofs only [go_sem, h3, h6, h8, h8', h8v, h10, h10', h10v, h12, h12', h12v] <;> rfl)) ?_
        try simp -implicitDefEqProofs only [go_sem, h3, h6, h8, h8', h8v, h10, h10', h10v, h12, h12', h12v]
        exact LLoop.view [(20000200, some 20000200), (70000201, some 70000201), (110000301, some 110000301)] (by (first | rfl | simp -implicitDefEqProofs only [go_sem, h3, h6, h8, h8', h8v, h10, h10', h10v, h12, h12', h12v] <;> rfl)) (ih_M_ref19_Sink_l0 _ _ h lo c Q hb hr)
    · replace h := ite_none h h3; replace h3 := bfalse h3
      try simp -implicitDefEqProofs only [go_sem, h3]
      injection h with h; subst h
      exact .inr ⟨[(20000200, some 20000200), (70000201, some 70000201), (110000301, some 110000301)], _, by (simp -implicitDefEqProofs only [go_sem, h3] <;> first | done | rfl | trivial), hb _ rfl⟩
theorem M_ref19_Sink.l0.w : type_of% @M_ref19_Sink.l0.ws := @M_ref19_Sink.l0.ws
end
section
attribute [local instance] mu_96
def M_ref19_Sink (x : T_ref18_Levels) : Option (T_ref18_Levels) :=
  M_ref19_Twin_R x >>= fun r1 =>
  M_ref19_Sink.l0 (0, x, (⟨[], []⟩ : T_ref18_Levels), r1) >>= fun (o13 : Lp (T_ref18_Levels × T_ref18_Levels) (T_ref18_Levels)) => match o13 with
  | .brk s16 =>
    some s16.2
  | .ret r15 =>
    some r15
set_option maxHeartbeats 8000000 in
theorem M_ref19_Sink.w : ∀ (x : T_ref18_Levels) (r : T_ref18_Levels), M_ref19_Sink x = some r → (fun (x : T_ref18_Levels) (r : T_ref18_Levels) => Fn Try.prog 63 [.agg (T_ref18_Levels.C x)] (.agg (T_ref18_Levels.C r))) x r := by
  intro x r h
  rw [M_ref19_Sink] at h
  try dsimp only
  refine Fn.of_lc mix fn_63 lok_63 (by rfl) (flC (T_ref18_Levels.flatC _) (flN)) (T_ref18_Levels.flatC _) ?_
  simp -implicitDefEqProofs only [go_sem, Try.f63]
  obtain ⟨r1, h2, h⟩ := bind_some' h
  have hw := M_ref19_Twin_R.w x _ h2
  try simp -implicitDefEqProofs only [go_sem] at hw
  refine .res [] [] [] [] _ _ hw (by (first | rfl | simp -implicitDefEqProofs only [go_sem] <;> rfl)) (by rfl) (by rfl) (by rfl) (by rfl) (by (first | rfl | simp -implicitDefEqProofs only [go_sem] <;> rfl)) (by rfl) (by (first | rfl | simp -implicitDefEqProofs only [go_sem] <;> rfl)) (by (first | rfl | simp -implicitDefEqProofs only [go_sem] <;> rfl)) ?_
  clear hw
  try simp -implicitDefEqProofs only [go_sem]
  obtain ⟨o13, h14, h⟩ := bind_some' h
  refine LLoop.viewQ (LLoop.view [(20000200, none), (70000201, none), (110000301, some 98000001)] (by (first | rfl | simp -implicitDefEqProofs only [go_sem] <;> rfl)) (M_ref19_Sink.l0.w (0, x, (⟨[], []⟩ : T_ref18_Levels), r1) _ h14 _ _ _ ?_ ?_))
  · intro s16 hs'; subst hs'
    try simp -implicitDefEqProofs only [go_sem]
    injection h with h; subst h
    first | rfl | simp -implicitDefEqProofs only [go_sem] <;> rfl
  · intro r15 L' hs' hL'; subst hs'
    injection h with h; subst h
    first | exact hL' | (simp -implicitDefEqProofs only [go_sem]; exact hL') | (simp -implicitDefEqProofs only [go_sem]; simp -implicitDefEqProofs only [go_sem] at hL'; exact hL')
end
end Go.Proofs.Ytcfekacmmfdggaa.G
set_option linter.unusedVariables false
set_option linter.unusedSimpArgs false
set_option maxRecDepth 100000
namespace Go.Proofs.Ytcfekacmmfdggaa.G
theorem lok_24 : (Try.f24.body.isSome && !(Try.f24.name == "runtime.NumGoroutine") && okL (bodyF Try.f24) Try.f24.ntmps (bodyF Try.f24)) = true := by kernel_rfl
def M_ref20_Of.l0 (x : List T_api_Edge × Int × T_ref18_Levels) : Option (List T_api_Edge) :=
  if (decide (x.2.1 < (x.2.2.Joins.length : Int))) = true then
    (getI x.2.2.Joins x.2.1) >>= fun (e6 : T_ref18_Join) =>
    M_ref19_Need (x.2.2, e6.Home, e6.Left) >>= fun r8 =>
    M_ref19_Need (x.2.2, e6.Home, e6.Right) >>= fun r10 =>
    (room 56 x.1 ([(⟨1, [e6.Pred], (e6.Left ||| e6.Right), r8, r10⟩ : T_api_Edge)])) >>= fun (z12 : List T_api_Edge) =>
    M_ref20_Of.l0 (z12, (w64 (x.2.1 + 1)), x.2.2)
  else
    some x.1
  partial_fixpoint
theorem M_ref20_Of.l0.ws : (∀ (x : List T_api_Edge × Int × T_ref18_Levels) (o : List T_api_Edge), M_ref20_Of.l0 x = some o → (fun (x : List T_api_Edge × Int × T_ref18_Levels) (o : List T_api_Edge) => ∀ (lo : Option Nat) (c : LCtx) (Q : Exit → LEnv → Prop) (hb : ∀ s : List T_api_Edge, o = s → Q (.exit 0) ⟨[(3, .lref 3 0), (4, .own 100400 5 (s.map T_api_Edge.av))], [(3, [.v (.slice .foreign (x.2.2.Joins.map T_ref18_Join.av)), .v (.slice .foreign (x.2.2.Ops.map T_ref18_Op.av))])]⟩), LLoop Try.prog 24 lo c 0 (VQ Q) ⟨[(3, .lref 3 0), (4, .own 100400 5 (x.1.map T_api_Edge.av)), (5, .v (.i64 x.2.1))], [(3, [.v (.slice .foreign (x.2.2.Joins.map T_ref18_Join.av)), .v (.slice .foreign (x.2.2.Ops.map T_ref18_Op.av))])]⟩) x o) := by
  refine M_ref20_Of.l0.partial_correctness _ ?_
  · intro M_M_ref20_Of_l0 ih_M_ref20_Of_l0 x o h
    intro lo c Q hb
    refine LLoop.step mix fn_24 (by kernel_rfl) ?_
    simp -implicitDefEqProofs only [go_sem, Try.f24]
    by_cases h5 : (decide (x.2.1 < (x.2.2.Joins.length : Int))) = true
    · replace h := ite_some h h5
      try simp -implicitDefEqProofs only [go_sem, h5]
      obtain ⟨e6, h7, h⟩ := bind_some' h; replace h7 := getI_some h7; obtain ⟨h7', h7⟩ := h7
      try simp -implicitDefEqProofs only [go_sem, h5, h7, h7']
      obtain ⟨r8, h9, h⟩ := bind_some' h
      refine .plain _ _ rfl (M_ref19_Need.w (x.2.2, e6.Home, e6.Left) _ h9) ?_
      try simp -implicitDefEqProofs only [go_sem, h5, h7, h7']
      obtain ⟨r10, h11, h⟩ := bind_some' h
      refine .plain _ _ rfl (M_ref19_Need.w (x.2.2, e6.Home, e6.Right) _ h11) ?_
      try simp -implicitDefEqProofs only [go_sem, h5, h7, h7']
      obtain ⟨z12, h13, h⟩ := bind_some' h; replace h13 := room_some h13; obtain ⟨h13', rfl⟩ := h13
      refine LApp.map (F := T_api_Edge.av) (xs := x.1) (ys := [(⟨1, [e6.Pred], (e6.Left ||| e6.Right), r8, r10⟩ : T_api_Edge)]) t22_elem t93_size t93_bytes t93_zsize rfl T_api_Edge.len (by (first | rfl | simp -implicitDefEqProofs only [go_sem, h5, h7, h7'] <;> rfl)) (by (first | rfl | simp -implicitDefEqProofs only [go_sem, h5, h7, h7'] <;> rfl)) h13' ?_
      try simp -implicitDefEqProofs only [go_sem, h5, h7, h7']
      exact LLoop.view [(100400, some 53)] (by (first | rfl | simp -implicitDefEqProofs only [go_sem, h5, h7, h7'] <;> rfl)) (ih_M_ref20_Of_l0 _ _ h lo c Q hb)
    · replace h := ite_none h h5; replace h5 := bfalse h5
      try simp -implicitDefEqProofs only [go_sem, h5]
      injection h with h; subst h
      exact .inr ⟨[(100400, some 100400)], _, by (simp -implicitDefEqProofs only [go_sem, h5] <;> first | done | rfl | trivial), hb _ rfl⟩
theorem M_ref20_Of.l0.w : type_of% @M_ref20_Of.l0.ws := @M_ref20_Of.l0.ws
def M_ref20_Of.l1 (x : List T_api_Edge × Int × T_ref18_Levels) : Option (List T_api_Edge) :=
  if (decide (x.2.1 < (x.2.2.Ops.length : Int))) = true then
    (getI x.2.2.Ops x.2.1) >>= fun (e17 : T_ref18_Op) =>
    M_ref19_Need (x.2.2, e17.Home, e17.Left) >>= fun r19 =>
    M_ref19_Core (x.2.2, x.2.1) >>= fun r21 =>
    (room 56 x.1 ([(⟨e17.Kind, e17.Conj, (e17.Left ||| e17.Right), r19, r21⟩ : T_api_Edge)])) >>= fun (z23 : List T_api_Edge) =>
    M_ref20_Of.l1 (z23, (w64 (x.2.1 + 1)), x.2.2)
  else
    some x.1
  partial_fixpoint
theorem M_ref20_Of.l1.ws : (∀ (x : List T_api_Edge × Int × T_ref18_Levels) (o : List T_api_Edge), M_ref20_Of.l1 x = some o → (fun (x : List T_api_Edge × Int × T_ref18_Levels) (o : List T_api_Edge) => ∀ (lo : Option Nat) (c : LCtx) (Q : Exit → LEnv → Prop) (hb : ∀ s : List T_api_Edge, o = s → Q (.exit 2) ⟨[(4, .own 100400 5 (s.map T_api_Edge.av))], []⟩), LLoop Try.prog 24 lo c 1 (VQ Q) ⟨[(3, .lref 3 0), (4, .own 100400 5 (x.1.map T_api_Edge.av)), (8, .v (.i64 x.2.1))], [(3, [.v (.slice .foreign (x.2.2.Joins.map T_ref18_Join.av)), .v (.slice .foreign (x.2.2.Ops.map T_ref18_Op.av))])]⟩) x o) := by
  refine M_ref20_Of.l1.partial_correctness _ ?_
  · intro M_M_ref20_Of_l1 ih_M_ref20_Of_l1 x o h
    intro lo c Q hb
    refine LLoop.step mix fn_24 (by kernel_rfl) ?_
    simp -implicitDefEqProofs only [go_sem, Try.f24]
    by_cases h16 : (decide (x.2.1 < (x.2.2.Ops.length : Int))) = true
    · replace h := ite_some h h16
      try simp -implicitDefEqProofs only [go_sem, h16]
      obtain ⟨e17, h18, h⟩ := bind_some' h; replace h18 := getI_some h18; obtain ⟨h18', h18⟩ := h18
      try simp -implicitDefEqProofs only [go_sem, h16, h18, h18']
      obtain ⟨r19, h20, h⟩ := bind_some' h
      refine .plain _ _ rfl (M_ref19_Need.w (x.2.2, e17.Home, e17.Left) _ h20) ?_
      try simp -implicitDefEqProofs only [go_sem, h16, h18, h18']
      obtain ⟨r21, h22, h⟩ := bind_some' h
      refine .plain _ _ rfl (M_ref19_Core.w (x.2.2, x.2.1) _ h22) ?_
      try simp -implicitDefEqProofs only [go_sem, h16, h18, h18']
      obtain ⟨z23, h24, h⟩ := bind_some' h; replace h24 := room_some h24; obtain ⟨h24', rfl⟩ := h24
      refine LApp.map (F := T_api_Edge.av) (xs := x.1) (ys := [(⟨e17.Kind, e17.Conj, (e17.Left ||| e17.Right), r19, r21⟩ : T_api_Edge)]) t22_elem t93_size t93_bytes t93_zsize rfl T_api_Edge.len (by (first | rfl | simp -implicitDefEqProofs only [go_sem, h16, h18, h18'] <;> rfl)) (by (first | rfl | simp -implicitDefEqProofs only [go_sem, h16, h18, h18'] <;> rfl)) h24' ?_
      try simp -implicitDefEqProofs only [go_sem, h16, h18, h18']
      exact LLoop.view [(100400, some 90)] (by (first | rfl | simp -implicitDefEqProofs only [go_sem, h16, h18, h18'] <;> rfl)) (ih_M_ref20_Of_l1 _ _ h lo c Q hb)
    · replace h := ite_none h h16; replace h16 := bfalse h16
      try simp -implicitDefEqProofs only [go_sem, h16]
      injection h with h; subst h
      exact .inr ⟨[(100400, some 100400)], _, by (simp -implicitDefEqProofs only [go_sem, h16] <;> first | done | rfl | trivial), hb _ rfl⟩
theorem M_ref20_Of.l1.w : type_of% @M_ref20_Of.l1.ws := @M_ref20_Of.l1.ws
def M_ref20_Of (x : T_api_Tree) : Option (List T_api_Edge) :=
  M_ref18_Of x >>= fun r1 =>
  M_ref19_Sink r1 >>= fun r3 =>
  M_ref20_Of.l0 (([] : List T_api_Edge), 0, r3) >>= fun (o14 : List T_api_Edge) =>
  M_ref20_Of.l1 (o14, 0, r3) >>= fun (o25 : List T_api_Edge) =>
  some o25
set_option maxHeartbeats 8000000 in
theorem M_ref20_Of.w : ∀ (x : T_api_Tree) (r : List T_api_Edge), M_ref20_Of x = some r → (fun (x : T_api_Tree) (r : List T_api_Edge) => Fn Try.prog 24 [.agg (T_api_Tree.C x)] (.slice .foreign (r.map T_api_Edge.av))) x r := by
  intro x r h
  rw [M_ref20_Of] at h
  try dsimp only
  refine Fn.of_lc mix fn_24 lok_24 (by rfl) (flC (T_api_Tree.flatC _) (flN)) (flat_slice _ T_api_Edge.flat _) ?_
  simp -implicitDefEqProofs only [go_sem, Try.f24]
  obtain ⟨r1, h2, h⟩ := bind_some' h
  refine .plain _ _ rfl (M_ref18_Of.w x _ h2) ?_
  try simp -implicitDefEqProofs only [go_sem]
  obtain ⟨r3, h4, h⟩ := bind_some' h
  refine .plain _ _ rfl (M_ref19_Sink.w r1 _ h4) ?_
  try simp -implicitDefEqProofs only [go_sem]
  obtain ⟨o14, h15, h⟩ := bind_some' h
  refine LLoop.viewQ (LLoop.view [(100400, none)] (by (first | rfl | simp -implicitDefEqProofs only [go_sem] <;> rfl)) (M_ref20_Of.l0.w (([] : List T_api_Edge), 0, r3) _ h15 _ _ _ ?_))
  intro s' hs'; subst hs'
  try simp -implicitDefEqProofs only [go_sem]
  obtain ⟨o25, h26, h⟩ := bind_some' h
  refine LLoop.viewQ (LLoop.view [(100400, some 100400)] (by (first | rfl | simp -implicitDefEqProofs only [go_sem] <;> rfl)) (M_ref20_Of.l1.w (o14, 0, r3) _ h26 _ _ _ ?_))
  intro s' hs'; subst hs'
  try simp -implicitDefEqProofs only [go_sem]
  injection h with h; subst h
  first | rfl | simp -implicitDefEqProofs only [go_sem] <;> rfl
end Go.Proofs.Ytcfekacmmfdggaa.G
set_option linter.unusedVariables false
set_option linter.unusedSimpArgs false
set_option maxRecDepth 100000
namespace Go.Proofs.Ytcfekacmmfdggaa.G
theorem lok_40 : (Try.f40.body.isSome && !(Try.f40.name == "runtime.NumGoroutine") && okL (bodyF Try.f40) Try.f40.ntmps (bodyF Try.f40)) = true := by kernel_rfl
def M_law28_Two (x : Int) : Option (T_cost_Model) :=
  M_law10_Two 1 >>= fun r1 =>
  M_ref20_Of r1 >>= fun r3 =>
  some (⟨x, r3, (⟨[10#64, 20#64], [32768#64]⟩ : T_api_Stats)⟩ : T_cost_Model)
set_option maxHeartbeats 8000000 in
theorem M_law28_Two.w : ∀ (x : Int) (r : T_cost_Model), M_law28_Two x = some r → (fun (x : Int) (r : T_cost_Model) => Fn Try.prog 40 [.i64 x] (.agg (T_cost_Model.C r))) x r := by
  intro x r h
  rw [M_law28_Two] at h
  try dsimp only
  refine Fn.of_lc mix fn_40 lok_40 (by rfl) (flC (.atom _) (flN)) (T_cost_Model.flatC _) ?_
  simp -implicitDefEqProofs only [go_sem, Try.f40]
  obtain ⟨r1, h2, h⟩ := bind_some' h
  refine .plain _ _ rfl (M_law10_Two.w 1 _ h2) ?_
  try simp -implicitDefEqProofs only [go_sem]
  obtain ⟨r3, h4, h⟩ := bind_some' h
  refine .plain _ _ rfl (M_ref20_Of.w r1 _ h4) ?_
  try simp -implicitDefEqProofs only [go_sem]
  injection h with h; subst h
  first | rfl | simp -implicitDefEqProofs only [go_sem] <;> rfl
end Go.Proofs.Ytcfekacmmfdggaa.G
set_option linter.unusedVariables false
set_option linter.unusedSimpArgs false
namespace Go.Proofs.Ytcfekacmmfdggaa.G

def eq01 : T_api_Pred := ⟨2, 0, 1, ⟨1, 0, 0, ⟨false, 0⟩⟩, ⟨1, 1, 0, ⟨false, 0⟩⟩, []⟩
def lf (n : Int) : T_api_Tree := ⟨0, n, [], [], false⟩
def two (k : Int) (a b : Int) : T_api_Tree := ⟨k, 0, [lf a, lf b], [eq01], false⟩
theorem lf_tour (n : Int) : (lf n).tour = [lf n] := by rw [tour_eq]; rfl
theorem two_tour (k a b : Int) : (two k a b).tour = [lf a, lf b, two k a b] := by
  rw [tour_eq]
  show [lf a, lf b].flatMap T_api_Tree.tour ++ _ = _
  simp [lf_tour]
theorem eq01_size : eq01.size = 1 := by rw [psize_eq]; rfl
theorem lf_size (n : Int) : (lf n).size = 1 := by rw [tsize_eq]; rfl
theorem two_size (k a b : Int) : (two k a b).size = 4 := by
  rw [tsize_eq]
  show 1 + ([eq01].map T_api_Pred.size).sum + ([lf a, lf b].map T_api_Tree.size).sum = 4
  simp [eq01_size, lf_size]
theorem lf_tabs (n : Int) : tabs (lf n) = bitI n := by
  unfold tabs
  rw [lf_tour]
  simp [leafTabs, lf, ofL_cons, ofL_nil]
theorem law10_Two_eq (k : Int) : M_law10_Two k = some (two k 0 1) := rfl
theorem ref05_Tables_eq (t : T_api_Term) : M_ref05_Tables t = some (if t.Kind = 1 then bitI t.Table else 0#64) := by
  unfold M_ref05_Tables
  by_cases h : t.Kind = 1
  · rw [if_neg (by simpa using h), if_pos h, ref01_Of_eq _ (by simp)]
    simp -implicitDefEqProofs only [Option.bind_eq_bind, Option.bind_some]
    rw [ofL_cons, ofL_nil, BitVec.or_zero]
  · rw [if_pos (by simpa using h), if_neg h]
theorem eq01_tables : M_ref06_Tables eq01 = some (3#64) := by
  rw [M_ref06_Tables, ref05_Tables_eq, ref05_Tables_eq]
  simp -implicitDefEqProofs only [Option.bind_eq_bind, Option.bind_some]
  rw [M_ref06_Tables.l0, if_neg (by simp [eq01])]
  rfl
theorem levels_two : M_ref18_Of (two 1 0 1) = some ⟨[⟨eq01, 1#64, 2#64, -1⟩], []⟩ := by
  unfold M_ref18_Of
  rw [ref10_All_eq _ (by rw [two_size]; omega), two_tour]
  simp -implicitDefEqProofs only [Option.bind_eq_bind, Option.bind_some]
  have w1 : w64 (0 + 1) = 1 := by decide
  have w2 : w64 (1 + 1) = 2 := by decide
  have w3 : w64 (2 + 1) = 3 := by decide
  have g0 : getI [lf 0, lf 1, two 1 0 1] 0 = some (lf 0) := rfl
  have g1 : getI [lf 0, lf 1, two 1 0 1] 1 = some (lf 1) := rfl
  have g2 : getI [lf 0, lf 1, two 1 0 1] 2 = some (two 1 0 1) := rfl
  have e0 : M_ref18_Of.l0 ([lf 0, lf 1, two 1 0 1], ([] : List Set64), 0, (⟨[], []⟩ : T_ref18_Levels), (⟨[], []⟩ : T_ref18_Levels)) = some [] := by
    rw [M_ref18_Of.l0, if_pos (by simp)]
    dsimp only
    rw [g0]
    simp -implicitDefEqProofs only [Option.bind_eq_bind, Option.bind_some]
    rw [if_neg (by simp [lf]), w1]
    rw [M_ref18_Of.l0, if_pos (by simp)]
    dsimp only
    rw [g1]
    simp -implicitDefEqProofs only [Option.bind_eq_bind, Option.bind_some]
    rw [if_neg (by simp [lf]), w2]
    rw [M_ref18_Of.l0, if_pos (by simp)]
    dsimp only
    rw [g2]
    simp -implicitDefEqProofs only [Option.bind_eq_bind, Option.bind_some]
    rw [if_neg (by simp [two]), w3]
    rw [M_ref18_Of.l0, if_neg (by simp)]
  rw [e0]
  simp -implicitDefEqProofs only [Option.bind_some]
  rw [M_ref18_Of.l1, if_pos (by simp)]
  dsimp only
  rw [g0]
  simp -implicitDefEqProofs only [Option.bind_eq_bind, Option.bind_some]
  rw [if_pos (by simp [lf]), w1]
  rw [M_ref18_Of.l1, if_pos (by simp)]
  dsimp only
  rw [g1]
  simp -implicitDefEqProofs only [Option.bind_eq_bind, Option.bind_some]
  rw [if_pos (by simp [lf]), w2]
  rw [M_ref18_Of.l1, if_pos (by simp)]
  dsimp only
  rw [g2]
  simp -implicitDefEqProofs only [Option.bind_eq_bind, Option.bind_some]
  rw [if_neg (by simp [two])]
  have k0 : (two 1 0 1).Kids[0]? = some (lf 0) := rfl
  have k1 : (two 1 0 1).Kids[1]? = some (lf 1) := rfl
  rw [k0, k1]
  simp -implicitDefEqProofs only [Option.bind_some]
  rw [ref10_Tables_eq _ (by rw [lf_size]; omega), ref10_Tables_eq _ (by rw [lf_size]; omega), lf_tabs, lf_tabs]
  simp -implicitDefEqProofs only [Option.bind_some]
  rw [M_ref18_Of.l2, if_neg (by simp)]
  simp -implicitDefEqProofs only [Option.bind_some]
  rw [M_ref18_Of.l3, if_pos (by simp [two])]
  dsimp only
  have c0 : getI (two 1 0 1).Conj 0 = some eq01 := rfl
  rw [c0]
  simp -implicitDefEqProofs only [Option.bind_eq_bind, Option.bind_some]
  rw [eq01_tables]
  simp -implicitDefEqProofs only [Option.bind_some]
  rw [if_pos (by simp [two]), room_of (by simp)]
  simp -implicitDefEqProofs only [Option.bind_some]
  rw [w1, M_ref18_Of.l3, if_neg (by simp [two])]
  simp -implicitDefEqProofs only [Option.bind_some]
  rw [if_neg (by simp [two]), w3]
  rw [M_ref18_Of.l1, if_neg (by simp)]
  rfl
theorem sink_noOps (l : T_ref18_Levels) (h : l.Ops = []) (hj : l.Joins.length ≤ 1000000) : M_ref19_Sink l = some l := by
  obtain ⟨js, os⟩ := l
  dsimp only at h hj
  subst h
  unfold M_ref19_Sink M_ref19_Twin_R
  dsimp only
  rw [room_of (by simp; omega), room_of (by simp)]
  simp -implicitDefEqProofs only [Option.bind_eq_bind, Option.bind_some, List.nil_append]
  have w0 : (0 : Int) ≤ w64 ((([] : List T_ref18_Op).length : Int) * (([] : List T_ref18_Op).length : Int)) := by decide
  rw [M_ref19_Sink.l0, if_pos (decide_eq_true w0)]
  dsimp only
  have : M_ref19_sinks (⟨js, []⟩ : T_ref18_Levels) = some (-1, -1) := by
    unfold M_ref19_sinks
    rw [M_ref19_sinks.l0, if_neg (by simp)]
    rfl
  rw [this]
  rfl
theorem need_noOps (l : T_ref18_Levels) (h : l.Ops = []) (k : Int) (s : Set64) : M_ref19_Need (l, k, s) = some s := by
  unfold M_ref19_Need
  dsimp only
  rw [M_ref19_Need.l0]
  dsimp only
  rw [M_ref19_Need.l1, if_neg (by simp [h])]
  simp -implicitDefEqProofs only [Option.bind_eq_bind, Option.bind_some]
  rw [if_pos (by simp)]
  rfl
theorem edges_two : M_ref20_Of (two 1 0 1) = some [⟨1, [eq01], 3#64, 1#64, 2#64⟩] := by
  unfold M_ref20_Of
  rw [levels_two]
  simp -implicitDefEqProofs only [Option.bind_eq_bind, Option.bind_some]
  rw [sink_noOps _ rfl (by simp)]
  simp -implicitDefEqProofs only [Option.bind_some]
  rw [M_ref20_Of.l0, if_pos (by simp)]
  dsimp only
  have g : getI [(⟨eq01, 1#64, 2#64, -1⟩ : T_ref18_Join)] 0 = some ⟨eq01, 1#64, 2#64, -1⟩ := rfl
  rw [g]
  simp -implicitDefEqProofs only [Option.bind_eq_bind, Option.bind_some]
  rw [need_noOps _ rfl, need_noOps _ rfl]
  simp -implicitDefEqProofs only [Option.bind_some]
  rw [room_of (by simp)]
  simp -implicitDefEqProofs only [Option.bind_some]
  have w1 : w64 (0 + 1) = 1 := by decide
  rw [w1, M_ref20_Of.l0, if_neg (by simp)]
  simp -implicitDefEqProofs only [Option.bind_some]
  rw [M_ref20_Of.l1, if_neg (by simp)]
  rfl
theorem law28_Two_eq (k : Int) : M_law28_Two k = some ⟨k, [⟨1, [eq01], 3#64, 1#64, 2#64⟩], ⟨[10#64, 20#64], [32768#64]⟩⟩ := by
  unfold M_law28_Two
  rw [law10_Two_eq]
  simp -implicitDefEqProofs only [Option.bind_eq_bind, Option.bind_some]
  rw [edges_two]; rfl
end Go.Proofs.Ytcfekacmmfdggaa.G
set_option linter.unusedVariables false
set_option linter.unusedSimpArgs false
namespace Go.Proofs.Ytcfekacmmfdggaa.G

abbrev Rows := List (Option (Nat × List AV))
/-- A tree's cells, its kids in rows of their own: the rows' numbers. -/
def InT (R : Rows) : T_api_Tree → List AV → List Nat → Prop
  | ⟨k, n, ks, cj, h⟩, cs, ids => ∃ kv, cs = [.i64 k, .i64 n, kv, .slice .foreign (cj.map T_api_Pred.av), .bool h] ∧
      ((ks = [] ∧ kv = .slice .foreign [] ∧ ids = []) ∨ ∃ id cells ids', ks ≠ [] ∧ kv = .vec id 0 ks.length 5 .opn ∧ R[id]? = some (some (0, cells)) ∧ ids = id :: ids' ∧ inL ks cells ids')
where inL : List T_api_Tree → List AV → List Nat → Prop
  | [], cells, ids => cells = [] ∧ ids = []
  | t :: l, cells, ids => ∃ c1 c2 i1 i2, cells = c1 ++ c2 ∧ ids = i1 ++ i2 ∧ InT R t c1 i1 ∧ inL l c2 i2
abbrev InL := @InT.inL
/-- The cells of a tree whose kids stand at a value. -/
def treeC (t : T_api_Tree) (kv : AV) : List AV := [.i64 t.Kind, .i64 t.Table, kv, .slice .foreign (t.Conj.map T_api_Pred.av), .bool t.Hash]
def InK (R : Rows) (ks : List T_api_Tree) (kv : AV) (ids : List Nat) : Prop :=
  (ks = [] ∧ kv = .slice .foreign [] ∧ ids = []) ∨ ∃ id cells ids', ks ≠ [] ∧ kv = .vec id 0 ks.length 5 .opn ∧ R[id]? = some (some (0, cells)) ∧ ids = id :: ids' ∧ InL R ks cells ids'
theorem InT_eq {R : Rows} {t : T_api_Tree} {cs : List AV} {ids : List Nat} : InT R t cs ids ↔ ∃ kv, cs = treeC t kv ∧ InK R t.Kids kv ids := by
  obtain ⟨k, n, ks, cj, h⟩ := t
  unfold InT InK treeC
  rfl
theorem InT.len {R : Rows} {t : T_api_Tree} {cs : List AV} {ids : List Nat} (h : InT R t cs ids) : cs.length = 5 := by
  obtain ⟨kv, rfl, _⟩ := InT_eq.1 h
  rfl
theorem InL_nil {R : Rows} {cells : List AV} {ids : List Nat} : InL R [] cells ids ↔ cells = [] ∧ ids = [] := by
  show InT.inL R [] cells ids ↔ _
  unfold InT.inL; rfl
theorem InL_cons {R : Rows} {t : T_api_Tree} {l : List T_api_Tree} {cells : List AV} {ids : List Nat} : InL R (t :: l) cells ids ↔ ∃ c1 c2 i1 i2, cells = c1 ++ c2 ∧ ids = i1 ++ i2 ∧ InT R t c1 i1 ∧ InL R l c2 i2 := by
  show InT.inL R (t :: l) cells ids ↔ _
  rw [InT.inL]
theorem InL.len {R : Rows} : ∀ {l : List T_api_Tree} {cells : List AV} {ids : List Nat}, InL R l cells ids → cells.length = l.length * 5 := by
  intro l
  induction l with
  | nil => intro cells ids h; rw [(InL_nil.1 h).1]; rfl
  | cons t l ih =>
    intro cells ids h
    obtain ⟨c1, c2, i1, i2, rfl, rfl, h1, h2⟩ := InL_cons.1 h
    rw [List.length_append, h1.len, ih h2, List.length_cons]; omega
theorem InL.append {R : Rows} : ∀ {l l' : List T_api_Tree} {c c' : List AV} {i i' : List Nat}, InL R l c i → InL R l' c' i' → InL R (l ++ l') (c ++ c') (i ++ i') := by
  intro l
  induction l with
  | nil =>
    intro l' c c' i i' h h'
    obtain ⟨rfl, rfl⟩ := InL_nil.1 h
    simpa using h'
  | cons t l ih =>
    intro l' c c' i i' h h'
    obtain ⟨c1, c2, i1, i2, rfl, rfl, h1, h2⟩ := InL_cons.1 h
    exact InL_cons.2 ⟨c1, c2 ++ c', i1, i2 ++ i', by rw [List.append_assoc], by rw [List.append_assoc], h1, ih h2 h'⟩
theorem InL.one {R : Rows} {t : T_api_Tree} {c : List AV} {i : List Nat} (h : InT R t c i) : InL R [t] c i := InL_cons.2 ⟨c, [], i, [], by simp, by simp, h, InL_nil.2 ⟨rfl, rfl⟩⟩
theorem InL.split {R : Rows} : ∀ {l l' : List T_api_Tree} {c : List AV} {i : List Nat}, InL R (l ++ l') c i → ∃ c1 c2 i1 i2, c = c1 ++ c2 ∧ i = i1 ++ i2 ∧ InL R l c1 i1 ∧ InL R l' c2 i2 := by
  intro l
  induction l with
  | nil => intro l' c i h; exact ⟨[], c, [], i, rfl, rfl, InL_nil.2 ⟨rfl, rfl⟩, h⟩
  | cons t l ih =>
    intro l' c i h
    obtain ⟨c1, c2, i1, i2, rfl, rfl, h1, h2⟩ := InL_cons.1 h
    obtain ⟨d1, d2, j1, j2, rfl, rfl, h3, h4⟩ := ih h2
    exact ⟨c1 ++ d1, d2, i1 ++ j1, j2, by rw [List.append_assoc], by rw [List.append_assoc], InL_cons.2 ⟨c1, d1, i1, j1, rfl, rfl, h1, h3⟩, h4⟩
/-- What a tree needs of the rows. -/
theorem InT.frame {R R' : Rows} (t : T_api_Tree) : ∀ {cs : List AV} {ids : List Nat}, InT R t cs ids → (∀ id ∈ ids, R'[id]? = R[id]?) → InT R' t cs ids := by
  induction t using T_api_Tree.induct with
  | h t ih =>
    intro cs ids h hr
    have hl : ∀ (l : List T_api_Tree), (∀ y ∈ l, y ∈ t.Kids) → ∀ {c : List AV} {i : List Nat}, InL R l c i → (∀ id ∈ i, R'[id]? = R[id]?) → InL R' l c i := by
      intro l
      induction l with
      | nil => intro _ c i h _; exact InL_nil.2 (InL_nil.1 h)
      | cons y l ih2 =>
        intro hs c i h hr
        obtain ⟨c1, c2, i1, i2, rfl, rfl, h1, h2⟩ := InL_cons.1 h
        exact InL_cons.2 ⟨c1, c2, i1, i2, rfl, rfl, ih y (hs y List.mem_cons_self) h1 (fun id hid => hr id (List.mem_append_left _ hid)), ih2 (fun z hz => hs z (List.mem_cons_of_mem _ hz)) h2 (fun id hid => hr id (List.mem_append_right _ hid))⟩
    obtain ⟨kv, hcs, hk⟩ := InT_eq.1 h
    refine InT_eq.2 ⟨kv, hcs, ?_⟩
    rcases hk with hk | ⟨id, cells, ids', h1, h2, h3, rfl, h5⟩
    · exact .inl hk
    · exact .inr ⟨id, cells, ids', h1, h2, by rw [hr id List.mem_cons_self]; exact h3, rfl, hl t.Kids (fun y hy => hy) h5 (fun id hid => hr id (List.mem_cons_of_mem _ hid))⟩
theorem InL.frame {R R' : Rows} : ∀ {l : List T_api_Tree} {c : List AV} {i : List Nat}, InL R l c i → (∀ id ∈ i, R'[id]? = R[id]?) → InL R' l c i := by
  intro l
  induction l with
  | nil => intro c i h _; exact InL_nil.2 (InL_nil.1 h)
  | cons y l ih2 =>
    intro c i h hr
    obtain ⟨c1, c2, i1, i2, rfl, rfl, h1, h2⟩ := InL_cons.1 h
    exact InL_cons.2 ⟨c1, c2, i1, i2, rfl, rfl, h1.frame _ (fun id hid => hr id (List.mem_append_left _ hid)), ih2 h2 (fun id hid => hr id (List.mem_append_right _ hid))⟩
/-- A tree, taken out of the memory. -/
theorem InT.frz {B : List ABox} {R : Rows} {μ : TypeId → Bool} (t : T_api_Tree) : ∀ {cs : List AV} {ids : List Nat}, InT R t cs ids → ∀ (j : Nat) (c c' : AV), cs[j]? = some c → t.C[j]? = some c' → Frz ⟨B, R, μ⟩ c c' := by
  induction t using T_api_Tree.induct with
  | h t ih =>
    intro cs ids h j c c' hc hc'
    obtain ⟨kv, rfl, hk⟩ := InT_eq.1 h
    have hl : ∀ (l : List T_api_Tree), (∀ y ∈ l, y ∈ t.Kids) → ∀ {cells : List AV} {i : List Nat}, InL R l cells i → ∀ (a b : Nat) (e' d d' : AV), (l.map T_api_Tree.av)[a]? = some e' → cells[a * 5 + b]? = some d → e'.cells[b]? = some d' → Frz ⟨B, R, μ⟩ d d' := by
      intro l
      induction l with
      | nil => intro _ cells i _ a b e' d d' h1; simp at h1
      | cons y l ih2 =>
        intro hs cells i h a b e' d d' h1 h2 h3
        obtain ⟨c1, c2, i1, i2, rfl, rfl, g1, g2⟩ := InL_cons.1 h
        have hlen := g1.len
        cases a with
        | zero =>
          simp only [List.map_cons, List.getElem?_cons_zero, Option.some.injEq] at h1
          subst h1
          rw [T_api_Tree.av_eq] at h3
          have hb : b < 5 := (List.getElem?_eq_some_iff.1 h3).1
          rw [Nat.zero_mul, Nat.zero_add, List.getElem?_append_left (by omega)] at h2
          exact ih y (hs y List.mem_cons_self) g1 b d d' h2 h3
        | succ a =>
          simp only [List.map_cons, List.getElem?_cons_succ] at h1
          rw [List.getElem?_append_right (by rw [hlen, Nat.succ_mul]; omega), hlen, show (a + 1) * 5 + b - 5 = a * 5 + b by rw [Nat.succ_mul]; omega] at h2
          exact ih2 (fun z hz => hs z (List.mem_cons_of_mem _ hz)) g2 a b e' d d' h1 h2 h3
    have atom : ∀ (v : Value), c = .atom v → c' = .atom v → Frz ⟨B, R, μ⟩ c c' := fun v h1 h2 => by subst h1 h2; exact .atom v
    match j with
    | 0 => simp [treeC] at hc; simp [T_api_Tree.C] at hc'; exact atom _ hc.symm hc'.symm
    | 1 => simp [treeC] at hc; simp [T_api_Tree.C] at hc'; exact atom _ hc.symm hc'.symm
    | 2 =>
      simp [treeC] at hc; simp [T_api_Tree.C] at hc'
      subst hc hc'
      rcases hk with ⟨h1, rfl, _⟩ | ⟨id, cells, ids', h1, rfl, h3, _, h5⟩
      · rw [h1]; exact Frz.mk (es := []) (by simp)
      · refine .vec id 0 t.Kids.length 5 0 .opn cells _ h3 (by simp) (by rw [h5.len]; omega) (fun e he => by obtain ⟨y, _, rfl⟩ := List.mem_map.1 he; exact T_api_Tree.len y) (fun a b e' d d' g1 g2 g3 => ?_)
        rw [Nat.zero_add] at g2
        exact hl t.Kids (fun y hy => hy) h5 a b e' d d' g1 g2 g3
    | 3 =>
      simp [treeC] at hc; simp [T_api_Tree.C] at hc'
      subst hc hc'
      exact Flat.frz (flat_slice _ T_api_Pred.flat _)
    | 4 => simp [treeC] at hc; simp [T_api_Tree.C] at hc'; exact atom _ hc.symm hc'.symm
    | j + 5 => simp [treeC] at hc
theorem InT.frzA {B : List ABox} {R : Rows} {μ : TypeId → Bool} {t : T_api_Tree} {cs : List AV} {ids : List Nat} (h : InT R t cs ids) : Frz ⟨B, R, μ⟩ (.agg cs) (.agg t.C) :=
  .agg _ _ (by rw [h.len]; rfl) (fun j c c' h1 h2 => InT.frz t h j c c' h1 h2)
end Go.Proofs.Ytcfekacmmfdggaa.G
set_option linter.unusedVariables false
set_option linter.unusedSimpArgs false
set_option maxRecDepth 100000
namespace Go.Proofs.Ytcfekacmmfdggaa.G
end Go.Proofs.Ytcfekacmmfdggaa.G
set_option linter.unusedVariables false
set_option linter.unusedSimpArgs false
set_option maxRecDepth 100000
namespace Go.Proofs.Ytcfekacmmfdggaa.G
end Go.Proofs.Ytcfekacmmfdggaa.G
set_option linter.unusedVariables false
set_option linter.unusedSimpArgs false
set_option maxRecDepth 100000
namespace Go.Proofs.Ytcfekacmmfdggaa.G
end Go.Proofs.Ytcfekacmmfdggaa.G
set_option linter.unusedVariables false
set_option linter.unusedSimpArgs false
set_option maxRecDepth 100000
namespace Go.Proofs.Ytcfekacmmfdggaa.G
end Go.Proofs.Ytcfekacmmfdggaa.G
set_option linter.unusedVariables false
set_option linter.unusedSimpArgs false
set_option maxRecDepth 100000
namespace Go.Proofs.Ytcfekacmmfdggaa.G
end Go.Proofs.Ytcfekacmmfdggaa.G
set_option linter.unusedVariables false
set_option linter.unusedSimpArgs false
set_option maxRecDepth 100000
namespace Go.Proofs.Ytcfekacmmfdggaa.G
end Go.Proofs.Ytcfekacmmfdggaa.G
set_option linter.unusedVariables false
set_option linter.unusedSimpArgs false
set_option maxRecDepth 100000
namespace Go.Proofs.Ytcfekacmmfdggaa.G
end Go.Proofs.Ytcfekacmmfdggaa.G
set_option linter.unusedVariables false
set_option linter.unusedSimpArgs false
set_option maxRecDepth 100000
namespace Go.Proofs.Ytcfekacmmfdggaa.G
end Go.Proofs.Ytcfekacmmfdggaa.G
set_option linter.unusedVariables false
set_option linter.unusedSimpArgs false
set_option maxRecDepth 100000
namespace Go.Proofs.Ytcfekacmmfdggaa.G
end Go.Proofs.Ytcfekacmmfdggaa.G
set_option linter.unusedVariables false
set_option linter.unusedSimpArgs false
set_option maxRecDepth 100000
namespace Go.Proofs.Ytcfekacmmfdggaa.G
end Go.Proofs.Ytcfekacmmfdggaa.G
set_option linter.unusedVariables false
set_option linter.unusedSimpArgs false
set_option maxRecDepth 100000
namespace Go.Proofs.Ytcfekacmmfdggaa.G
end Go.Proofs.Ytcfekacmmfdggaa.G
set_option linter.unusedVariables false
set_option linter.unusedSimpArgs false
namespace Go.Proofs.Ytcfekacmmfdggaa.G

def ttab (t : T_api_Term) : Set64 := if t.Kind = 1 then bitI t.Table else 0#64
theorem part_size {p x : T_api_Pred} (h : x ∈ p.Parts) : x.size < p.size := by
  have := sum_mem T_api_Pred.size h
  rw [psize_eq p]; omega
theorem parts_len (p : T_api_Pred) : p.Parts.length < p.size := by
  have := len_sum T_api_Pred.size psize_pos p.Parts
  rw [psize_eq]; omega
theorem conj_size {t : T_api_Tree} {p : T_api_Pred} (h : p ∈ t.Conj) : p.size < t.size := by
  have := sum_mem T_api_Pred.size h
  rw [tsize_eq t]; omega
end Go.Proofs.Ytcfekacmmfdggaa.G
set_option linter.unusedVariables false
set_option linter.unusedSimpArgs false
set_option maxRecDepth 100000
namespace Go.Proofs.Ytcfekacmmfdggaa.G
def M_term_Tables (x : T_api_Term) : Option (Set64) :=
  if (x.Kind == 1) = true then
    M_sets_Of ([x.Table]) >>= fun r2 =>
    some r2
  else
    some (0#64)
end Go.Proofs.Ytcfekacmmfdggaa.G
set_option linter.unusedVariables false
set_option linter.unusedSimpArgs false
set_option maxRecDepth 100000
namespace Go.Proofs.Ytcfekacmmfdggaa.G
end Go.Proofs.Ytcfekacmmfdggaa.G
set_option linter.unusedVariables false
set_option linter.unusedSimpArgs false
set_option maxRecDepth 100000
namespace Go.Proofs.Ytcfekacmmfdggaa.G
def M_pred_Tables_1_R (x : T_api_Pred) : Option (List Set64) :=
  M_term_Tables x.A >>= fun r1 =>
  M_term_Tables x.B >>= fun r3 =>
  some ([(r1 ||| r3)])
mutual
def M_pred_gather_uint64__pred_Tables_1.l0 (x : List Set64 × List T_api_Pred × Int × Int) : Option (List Set64) :=
  if (decide (x.2.2.2 < x.2.2.1)) = true then
    (getI x.2.1 x.2.2.2) >>= fun (e4 : T_api_Pred) =>
    M_pred_gather_uint64__pred_Tables_1 e4 >>= fun r6 =>
    (room 8 x.1 r6) >>= fun (z8 : List Set64) =>
    M_pred_gather_uint64__pred_Tables_1.l0 (z8, x.2.1, x.2.2.1, (w64 (x.2.2.2 + 1)))
  else
    some x.1
  partial_fixpoint
def M_pred_gather_uint64__pred_Tables_1 (x : T_api_Pred) : Option (List Set64) :=
  M_pred_Tables_1_R x >>= fun r1 =>
  M_pred_gather_uint64__pred_Tables_1.l0 (r1, x.Parts, (x.Parts.length : Int), 0) >>= fun (o10 : List Set64) =>
  some o10
  partial_fixpoint
end
end Go.Proofs.Ytcfekacmmfdggaa.G
set_option linter.unusedVariables false
set_option linter.unusedSimpArgs false
set_option maxRecDepth 100000
namespace Go.Proofs.Ytcfekacmmfdggaa.G
theorem lok_92 : (Try.f92.body.isSome && !(Try.f92.name == "runtime.NumGoroutine") && okL (bodyF Try.f92) Try.f92.ntmps (bodyF Try.f92)) = true := by kernel_rfl
mutual
def M_pred_Copy.l0 (x : List T_api_Pred × List T_api_Pred × Int × Int × T_api_Pred × T_api_Pred) : Option (List T_api_Pred) :=
  if (decide (x.2.2.2.1 < x.2.2.1)) = true then
    (getI x.2.1 x.2.2.2.1) >>= fun (e2 : T_api_Pred) =>
    M_pred_Copy e2 >>= fun r4 =>
    (room 128 x.1 ([r4])) >>= fun (z6 : List T_api_Pred) =>
    M_pred_Copy.l0 (z6, x.2.1, x.2.2.1, (w64 (x.2.2.2.1 + 1)), x.2.2.2.2.1, x.2.2.2.2.2)
  else
    some x.1
  partial_fixpoint
def M_pred_Copy (x : T_api_Pred) : Option (T_api_Pred) :=
  M_pred_Copy.l0 (([] : List T_api_Pred), x.Parts, (x.Parts.length : Int), 0, x, (⟨0, 0, 0, (⟨0, 0, 0, (⟨false, 0⟩ : T_api_Value)⟩ : T_api_Term), (⟨0, 0, 0, (⟨false, 0⟩ : T_api_Value)⟩ : T_api_Term), []⟩ : T_api_Pred)) >>= fun (o8 : List T_api_Pred) =>
  some (⟨x.Kind, x.Truth, x.Op, x.A, x.B, o8⟩ : T_api_Pred)
  partial_fixpoint
end
theorem M_pred_Copy.l0.ws : (∀ (x : List T_api_Pred × List T_api_Pred × Int × Int × T_api_Pred × T_api_Pred) (o : List T_api_Pred), M_pred_Copy.l0 x = some o → (fun (x : List T_api_Pred × List T_api_Pred × Int × Int × T_api_Pred × T_api_Pred) (o : List T_api_Pred) => ∀ (lo : Option Nat) (c : LCtx) (Q : Exit → LEnv → Prop) (hb : ∀ s : List T_api_Pred, o = s → Q (.exit 0) ⟨[(1, .lref 1 0), (2, .lref 2 0), (3, .own 100300 14 (s.map T_api_Pred.av))], [(1, [.v (.i64 x.2.2.2.2.1.Kind), .v (.i64 x.2.2.2.2.1.Truth), .v (.i64 x.2.2.2.2.1.Op), .v (.i64 x.2.2.2.2.1.A.Kind), .v (.i64 x.2.2.2.2.1.A.Table), .v (.i64 x.2.2.2.2.1.A.Col), .v (.bool x.2.2.2.2.1.A.Value.Null), .v (.i64 x.2.2.2.2.1.A.Value.N), .v (.i64 x.2.2.2.2.1.B.Kind), .v (.i64 x.2.2.2.2.1.B.Table), .v (.i64 x.2.2.2.2.1.B.Col), .v (.bool x.2.2.2.2.1.B.Value.Null), .v (.i64 x.2.2.2.2.1.B.Value.N), .v (.slice .foreign (x.2.2.2.2.1.Parts.map T_api_Pred.av))]), (2, [.v (.i64 x.2.2.2.2.2.Kind), .v (.i64 x.2.2.2.2.2.Truth), .v (.i64 x.2.2.2.2.2.Op), .v (.i64 x.2.2.2.2.2.A.Kind), .v (.i64 x.2.2.2.2.2.A.Table), .v (.i64 x.2.2.2.2.2.A.Col), .v (.bool x.2.2.2.2.2.A.Value.Null), .v (.i64 x.2.2.2.2.2.A.Value.N), .v (.i64 x.2.2.2.2.2.B.Kind), .v (.i64 x.2.2.2.2.2.B.Table), .v (.i64 x.2.2.2.2.2.B.Col), .v (.bool x.2.2.2.2.2.B.Value.Null), .v (.i64 x.2.2.2.2.2.B.Value.N), .own 20000213 14 (x.2.2.2.2.2.Parts.map T_api_Pred.av)])]⟩), LLoop Try.prog 92 lo c 0 (VQ Q) ⟨[(1, .lref 1 0), (2, .lref 2 0), (3, .own 100300 14 (x.1.map T_api_Pred.av)), (7, .v (.slice .foreign (x.2.1.map T_api_Pred.av))), (8, .v (.i64 x.2.2.1)), (9, .v (.i64 x.2.2.2.1))], [(1, [.v (.i64 x.2.2.2.2.1.Kind), .v (.i64 x.2.2.2.2.1.Truth), .v (.i64 x.2.2.2.2.1.Op), .v (.i64 x.2.2.2.2.1.A.Kind), .v (.i64 x.2.2.2.2.1.A.Table), .v (.i64 x.2.2.2.2.1.A.Col), .v (.bool x.2.2.2.2.1.A.Value.Null), .v (.i64 x.2.2.2.2.1.A.Value.N), .v (.i64 x.2.2.2.2.1.B.Kind), .v (.i64 x.2.2.2.2.1.B.Table), .v (.i64 x.2.2.2.2.1.B.Col), .v (.bool x.2.2.2.2.1.B.Value.Null), .v (.i64 x.2.2.2.2.1.B.Value.N), .v (.slice .foreign (x.2.2.2.2.1.Parts.map T_api_Pred.av))]), (2, [.v (.i64 x.2.2.2.2.2.Kind), .v (.i64 x.2.2.2.2.2.Truth), .v (.i64 x.2.2.2.2.2.Op), .v (.i64 x.2.2.2.2.2.A.Kind), .v (.i64 x.2.2.2.2.2.A.Table), .v (.i64 x.2.2.2.2.2.A.Col), .v (.bool x.2.2.2.2.2.A.Value.Null), .v (.i64 x.2.2.2.2.2.A.Value.N), .v (.i64 x.2.2.2.2.2.B.Kind), .v (.i64 x.2.2.2.2.2.B.Table), .v (.i64 x.2.2.2.2.2.B.Col), .v (.bool x.2.2.2.2.2.B.Value.Null), .v (.i64 x.2.2.2.2.2.B.Value.N), .own 20000213 14 (x.2.2.2.2.2.Parts.map T_api_Pred.av)])]⟩) x o) ∧ (∀ (x : T_api_Pred) (o : T_api_Pred), M_pred_Copy x = some o → (fun (x : T_api_Pred) (r : T_api_Pred) => Fn Try.prog 92 [.agg (T_api_Pred.C x)] (.agg (T_api_Pred.C r))) x o) := by
  refine M_pred_Copy.l0.mutual_partial_correctness _ _ ?_ ?_
  · intro M_M_pred_Copy_l0 M_M_pred_Copy ih_M_pred_Copy_l0 ih_M_pred_Copy x o h
    intro lo c Q hb
    refine LLoop.step mix fn_92 (by kernel_rfl) ?_
    simp -implicitDefEqProofs only [go_sem, Try.f92]
    by_cases h1 : (decide (x.2.2.2.1 < x.2.2.1)) = true
    · replace h := ite_some h h1
      try simp -implicitDefEqProofs only [go_sem, h1]
      obtain ⟨e2, h3, h⟩ := bind_some' h; replace h3 := getI_some h3; obtain ⟨h3', h3⟩ := h3
      try simp -implicitDefEqProofs only [go_sem, h1, h3, h3']
      obtain ⟨r4, h5, h⟩ := bind_some' h
      refine .plain _ _ rfl (ih_M_pred_Copy e2 _ h5) ?_
      try simp -implicitDefEqProofs only [go_sem, h1, h3, h3']
      obtain ⟨z6, h7, h⟩ := bind_some' h; replace h7 := room_some h7; obtain ⟨h7', rfl⟩ := h7
      refine LApp.map (F := T_api_Pred.av) (xs := x.1) (ys := [r4]) t29_elem t66_size t66_bytes t66_zsize rfl T_api_Pred.len (by (first | rfl | simp -implicitDefEqProofs only [go_sem, h1, h3, h3'] <;> rfl)) (by (first | rfl | simp -implicitDefEqProofs only [go_sem, h1, h3, h3'] <;> rfl)) h7' ?_
      try simp -implicitDefEqProofs only [go_sem, h1, h3, h3']
      exact LLoop.view [(100300, some 17), (20000213, some 20000213)] (by (first | rfl | simp -implicitDefEqProofs only [go_sem, h1, h3, h3'] <;> rfl)) (ih_M_pred_Copy_l0 _ _ h lo c Q hb)
    · replace h := ite_none h h1; replace h1 := bfalse h1
      try simp -implicitDefEqProofs only [go_sem, h1]
      injection h with h; subst h
      exact .inr ⟨[(100300, some 100300), (20000213, some 20000213)], _, by (simp -implicitDefEqProofs only [go_sem, h1] <;> first | done | rfl | trivial), hb _ rfl⟩
  · intro M_M_pred_Copy_l0 ih_M_pred_Copy_l0 x r h
    refine Fn.of_lc mix fn_92 lok_92 (by rfl) (flC (T_api_Pred.flatC _) (flN)) (T_api_Pred.flatC _) ?_
    simp -implicitDefEqProofs only [go_sem, Try.f92]
    obtain ⟨o8, h9, h⟩ := bind_some' h
    refine LLoop.viewQ (LLoop.view [(100300, none), (20000213, none)] (by (first | rfl | simp -implicitDefEqProofs only [go_sem] <;> rfl)) (ih_M_pred_Copy_l0 (([] : List T_api_Pred), x.Parts, (x.Parts.length : Int), 0, x, (⟨0, 0, 0, (⟨0, 0, 0, (⟨false, 0⟩ : T_api_Value)⟩ : T_api_Term), (⟨0, 0, 0, (⟨false, 0⟩ : T_api_Value)⟩ : T_api_Term), []⟩ : T_api_Pred)) _ h9 _ _ _ ?_))
    intro s' hs'; subst hs'
    try simp -implicitDefEqProofs only [go_sem]
    injection h with h; subst h
    first | rfl | simp -implicitDefEqProofs only [go_sem] <;> rfl
theorem M_pred_Copy.w : type_of% (M_pred_Copy.l0.ws.2) := (M_pred_Copy.l0.ws.2)
end Go.Proofs.Ytcfekacmmfdggaa.G
set_option linter.unusedVariables false
set_option linter.unusedSimpArgs false
set_option maxRecDepth 100000
namespace Go.Proofs.Ytcfekacmmfdggaa.G
@[go_sem] theorem lrp_91_6 : lrp Try.prog 91 6 = (12, []) := by kernel_rfl
theorem lok_91 : (Try.f91.body.isSome && !(Try.f91.name == "runtime.NumGoroutine") && okL (bodyF Try.f91) Try.f91.ntmps (bodyF Try.f91)) = true := by kernel_rfl
mutual
def M_ref06_Same.l0 (x : Int × T_api_Pred × T_api_Pred) : Option (Lp (Unit) (Bool)) :=
  if (decide (x.1 < (x.2.1.Parts.length : Int))) = true then
    (getI x.2.1.Parts x.1) >>= fun (e8 : T_api_Pred) =>
    (getI x.2.2.Parts x.1) >>= fun (e10 : T_api_Pred) =>
    M_ref06_Same (e8, e10) >>= fun r12 =>
    if r12 = true then
      M_ref06_Same.l0 ((w64 (x.1 + 1)), x.2.1, x.2.2)
    else
      some (.ret false)
  else
    some (.brk ())
  partial_fixpoint
def M_ref06_Same (x : T_api_Pred × T_api_Pred) : Option (Bool) :=
  if (x.1.Kind != x.2.Kind) = true then
    some false
  else
    if (x.1.Truth != x.2.Truth) = true then
      some false
    else
      if (x.1.Op != x.2.Op) = true then
        some false
      else
        if ((x.1.A.Kind == x.2.A.Kind) && ((x.1.A.Table == x.2.A.Table) && ((x.1.A.Col == x.2.A.Col) && ((x.1.A.Value.Null == x.2.A.Value.Null) && (x.1.A.Value.N == x.2.A.Value.N))))) = true then
          if ((x.1.B.Kind == x.2.B.Kind) && ((x.1.B.Table == x.2.B.Table) && ((x.1.B.Col == x.2.B.Col) && ((x.1.B.Value.Null == x.2.B.Value.Null) && (x.1.B.Value.N == x.2.B.Value.N))))) = true then
            if ((x.1.Parts.length : Int) != (x.2.Parts.length : Int)) = true then
              some false
            else
              M_ref06_Same.l0 (0, x.1, x.2) >>= fun (o15 : Lp (Unit) (Bool)) => match o15 with
              | .brk s18 =>
                some true
              | .ret r17 =>
                some r17
          else
            some false
        else
          some false
  partial_fixpoint
end
theorem M_ref06_Same.l0.ws : (∀ (x : Int × T_api_Pred × T_api_Pred) (o : Lp (Unit) (Bool)), M_ref06_Same.l0 x = some o → (fun (x : Int × T_api_Pred × T_api_Pred) (o : Lp (Unit) (Bool)) => ∀ (lo : Option Nat) (c : LCtx) (Q : Exit → LEnv → Prop) (hb : ∀ s : Unit, o = Lp.brk s → Q (.exit 0) ⟨[], []⟩) (hr : ∀ (r : Bool) (L : LEnv), o = .ret r → LPostF Try.prog [.tmp 4] (.bool r) (fun _ => True) .ret L → Q .ret L), LLoop Try.prog 91 lo c 0 (VQ Q) ⟨[(2, .lref 2 0), (3, .lref 3 0), (5, .v (.i64 x.1))], [(2, [.v (.i64 x.2.1.Kind), .v (.i64 x.2.1.Truth), .v (.i64 x.2.1.Op), .v (.i64 x.2.1.A.Kind), .v (.i64 x.2.1.A.Table), .v (.i64 x.2.1.A.Col), .v (.bool x.2.1.A.Value.Null), .v (.i64 x.2.1.A.Value.N), .v (.i64 x.2.1.B.Kind), .v (.i64 x.2.1.B.Table), .v (.i64 x.2.1.B.Col), .v (.bool x.2.1.B.Value.Null), .v (.i64 x.2.1.B.Value.N), .v (.slice .foreign (x.2.1.Parts.map T_api_Pred.av))]), (3, [.v (.i64 x.2.2.Kind), .v (.i64 x.2.2.Truth), .v (.i64 x.2.2.Op), .v (.i64 x.2.2.A.Kind), .v (.i64 x.2.2.A.Table), .v (.i64 x.2.2.A.Col), .v (.bool x.2.2.A.Value.Null), .v (.i64 x.2.2.A.Value.N), .v (.i64 x.2.2.B.Kind), .v (.i64 x.2.2.B.Table), .v (.i64 x.2.2.B.Col), .v (.bool x.2.2.B.Value.Null), .v (.i64 x.2.2.B.Value.N), .v (.slice .foreign (x.2.2.Parts.map T_api_Pred.av))])]⟩) x o) ∧ (∀ (x : T_api_Pred × T_api_Pred) (o : Bool), M_ref06_Same x = some o → (fun (x : T_api_Pred × T_api_Pred) (r : Bool) => Fn Try.prog 91 [.agg (T_api_Pred.C x.1), .agg (T_api_Pred.C x.2)] (.bool r)) x o) := by
  refine M_ref06_Same.l0.mutual_partial_correctness _ _ ?_ ?_
  · intro M_M_ref06_Same_l0 M_M_ref06_Same ih_M_ref06_Same_l0 ih_M_ref06_Same x o h
    intro lo c Q hb hr
    refine LLoop.step mix fn_91 (by kernel_rfl) ?_
    simp -implicitDefEqProofs only [go_sem, Try.f91]
    by_cases h7 : (decide (x.1 < (x.2.1.Parts.length : Int))) = true
    · replace h := ite_some h h7
      try simp -implicitDefEqProofs only [go_sem, h7]
      obtain ⟨e8, h9, h⟩ := bind_some' h; replace h9 := getI_some h9; obtain ⟨h9', h9⟩ := h9
      try simp -implicitDefEqProofs only [go_sem, h7, h9, h9']
      obtain ⟨e10, h11, h⟩ := bind_some' h; replace h11 := getI_some h11; obtain ⟨h11', h11⟩ := h11
      try simp -implicitDefEqProofs only [go_sem, h7, h9, h9', h11, h11']
      obtain ⟨r12, h13, h⟩ := bind_some' h
      refine .plain _ _ rfl (ih_M_ref06_Same (e8, e10) _ h13) ?_
      try simp -implicitDefEqProofs only [go_sem, h7, h9, h9', h11, h11']
      by_cases h14 : r12 = true
      · replace h := ite_some h h14
        try simp -implicitDefEqProofs only [go_sem, h7, h9, h9', h11, h11', h14]
        exact LLoop.view [] (by (first | rfl | simp -implicitDefEqProofs only [go_sem, h7, h9, h9', h11, h11', h14] <;> rfl)) (ih_M_ref06_Same_l0 _ _ h lo c Q hb hr)
      · replace h := ite_none h h14; replace h14 := bfalse h14
        try simp -implicitDefEqProofs only [go_sem, h7, h9, h9', h11, h11', h14]
        injection h with h; subst h
        exact .inl (hr _ _ rfl (by (first | rfl | simp -implicitDefEqProofs only [go_sem, h7, h9, h9', h11, h11', h14] <;> rfl)))
    · replace h := ite_none h h7; replace h7 := bfalse h7
      try simp -implicitDefEqProofs only [go_sem, h7]
      injection h with h; subst h
      exact .inr ⟨[], _, by (simp -implicitDefEqProofs only [go_sem, h7] <;> first | done | rfl | trivial), hb _ rfl⟩
  · intro M_M_ref06_Same_l0 ih_M_ref06_Same_l0 x r h
    refine Fn.of_lc mix fn_91 lok_91 (by rfl) (flC (T_api_Pred.flatC _) (flC (T_api_Pred.flatC _) (flN))) (.atom _) ?_
    simp -implicitDefEqProofs only [go_sem, Try.f91]
    by_cases h1 : (x.1.Kind != x.2.Kind) = true
    · replace h := ite_some h h1
      try simp -implicitDefEqProofs only [go_sem, h1]
      injection h with h; subst h
      first | rfl | simp -implicitDefEqProofs only [go_sem, h1] <;> rfl
    · replace h := ite_none h h1; replace h1 := bfalse h1
      try simp -implicitDefEqProofs only [go_sem, h1]
      by_cases h2 : (x.1.Truth != x.2.Truth) = true
      · replace h := ite_some h h2
        try simp -implicitDefEqProofs only [go_sem, h1, h2]
        injection h with h; subst h
        first | rfl | simp -implicitDefEqProofs only [go_sem, h1, h2] <;> rfl
      · replace h := ite_none h h2; replace h2 := bfalse h2
        try simp -implicitDefEqProofs only [go_sem, h1, h2]
        by_cases h3 : (x.1.Op != x.2.Op) = true
        · replace h := ite_some h h3
          try simp -implicitDefEqProofs only [go_sem, h1, h2, h3]
          injection h with h; subst h
          first | rfl | simp -implicitDefEqProofs only [go_sem, h1, h2, h3] <;> rfl
        · replace h := ite_none h h3; replace h3 := bfalse h3
          try simp -implicitDefEqProofs only [go_sem, h1, h2, h3]
          by_cases h4 : ((x.1.A.Kind == x.2.A.Kind) && ((x.1.A.Table == x.2.A.Table) && ((x.1.A.Col == x.2.A.Col) && ((x.1.A.Value.Null == x.2.A.Value.Null) && (x.1.A.Value.N == x.2.A.Value.N))))) = true
          · replace h := ite_some h h4
            try simp -implicitDefEqProofs only [go_sem, h1, h2, h3, h4]
            by_cases h5 : ((x.1.B.Kind == x.2.B.Kind) && ((x.1.B.Table == x.2.B.Table) && ((x.1.B.Col == x.2.B.Col) && ((x.1.B.Value.Null == x.2.B.Value.Null) && (x.1.B.Value.N == x.2.B.Value.N))))) = true
            · replace h := ite_some h h5
              try simp -implicitDefEqProofs only [go_sem, h1, h2, h3, h4, h5]
              by_cases h6 : ((x.1.Parts.length : Int) != (x.2.Parts.length : Int)) = true
              · replace h := ite_some h h6
                try simp -implicitDefEqProofs only [go_sem, h1, h2, h3, h4, h5, h6]
                injection h with h; subst h
                first | rfl | simp -implicitDefEqProofs only [go_sem, h1, h2, h3, h4, h5, h6] <;> rfl
              · replace h := ite_none h h6; replace h6 := bfalse h6
                try simp -implicitDefEqProofs only [go_sem, h1, h2, h3, h4, h5, h6]
                obtain ⟨o15, h16, h⟩ := bind_some' h
                refine LLoop.viewQ (LLoop.view [] (by (first | rfl | simp -implicitDefEqProofs only [go_sem, h1, h2, h3, h4, h5, h6] <;> rfl)) (ih_M_ref06_Same_l0 (0, x.1, x.2) _ h16 _ _ _ ?_ ?_))
                · intro s18 hs'; subst hs'
                  try simp -implicitDefEqProofs only [go_sem, h1, h2, h3, h4, h5, h6]
                  injection h with h; subst h
                  first | rfl | simp -implicitDefEqProofs only [go_sem, h1, h2, h3, h4, h5, h6] <;> rfl
                · intro r17 L' hs' hL'; subst hs'
                  injection h with h; subst h
                  first | exact hL' | (simp -implicitDefEqProofs only [go_sem]; exact hL') | (simp -implicitDefEqProofs only [go_sem]; simp -implicitDefEqProofs only [go_sem] at hL'; exact hL')
            · replace h := ite_none h h5; replace h5 := bfalse h5
              try simp -implicitDefEqProofs only [go_sem, h1, h2, h3, h4, h5]
              injection h with h; subst h
              first | rfl | simp -implicitDefEqProofs only [go_sem, h1, h2, h3, h4, h5] <;> rfl
          · replace h := ite_none h h4; replace h4 := bfalse h4
            try simp -implicitDefEqProofs only [go_sem, h1, h2, h3, h4]
            injection h with h; subst h
            first | rfl | simp -implicitDefEqProofs only [go_sem, h1, h2, h3, h4] <;> rfl
theorem M_ref06_Same.w : type_of% (M_ref06_Same.l0.ws.2) := (M_ref06_Same.l0.ws.2)
end Go.Proofs.Ytcfekacmmfdggaa.G
set_option linter.unusedVariables false
set_option linter.unusedSimpArgs false
set_option maxRecDepth 100000
namespace Go.Proofs.Ytcfekacmmfdggaa.G
@[go_sem] theorem lrp_53_6 : lrp Try.prog 53 6 = (10, []) := by kernel_rfl
theorem lok_53 : (Try.f53.body.isSome && !(Try.f53.name == "runtime.NumGoroutine") && okL (bodyF Try.f53) Try.f53.ntmps (bodyF Try.f53)) = true := by kernel_rfl
def M_ref06_List.l0 (x : List T_api_Pred × List T_api_Pred × Int) : Option (Lp (Unit) (Bool)) :=
  if (decide (x.2.2 < (x.1.length : Int))) = true then
    (getI x.1 x.2.2) >>= fun (e3 : T_api_Pred) =>
    (getI x.2.1 x.2.2) >>= fun (e5 : T_api_Pred) =>
    M_ref06_Same (e3, e5) >>= fun r7 =>
    if r7 = true then
      M_ref06_List.l0 (x.1, x.2.1, (w64 (x.2.2 + 1)))
    else
      some (.ret false)
  else
    some (.brk ())
  partial_fixpoint
theorem M_ref06_List.l0.ws : (∀ (x : List T_api_Pred × List T_api_Pred × Int) (o : Lp (Unit) (Bool)), M_ref06_List.l0 x = some o → (fun (x : List T_api_Pred × List T_api_Pred × Int) (o : Lp (Unit) (Bool)) => ∀ (lo : Option Nat) (c : LCtx) (Q : Exit → LEnv → Prop) (hb : ∀ s : Unit, o = Lp.brk s → Q (.exit 0) ⟨[], []⟩) (hr : ∀ (r : Bool) (L : LEnv), o = .ret r → LPostF Try.prog [.tmp 4] (.bool r) (fun _ => True) .ret L → Q .ret L), LLoop Try.prog 53 lo c 0 (VQ Q) ⟨[(0, .v (.slice .foreign (x.1.map T_api_Pred.av))), (1, .v (.slice .foreign (x.2.1.map T_api_Pred.av))), (5, .v (.i64 x.2.2))], []⟩) x o) := by
  refine M_ref06_List.l0.partial_correctness _ ?_
  · intro M_M_ref06_List_l0 ih_M_ref06_List_l0 x o h
    intro lo c Q hb hr
    refine LLoop.step mix fn_53 (by kernel_rfl) ?_
    simp -implicitDefEqProofs only [go_sem, Try.f53]
    by_cases h2 : (decide (x.2.2 < (x.1.length : Int))) = true
    · replace h := ite_some h h2
      try simp -implicitDefEqProofs only [go_sem, h2]
      obtain ⟨e3, h4, h⟩ := bind_some' h; replace h4 := getI_some h4; obtain ⟨h4', h4⟩ := h4
      try simp -implicitDefEqProofs only [go_sem, h2, h4, h4']
      obtain ⟨e5, h6, h⟩ := bind_some' h; replace h6 := getI_some h6; obtain ⟨h6', h6⟩ := h6
      try simp -implicitDefEqProofs only [go_sem, h2, h4, h4', h6, h6']
      obtain ⟨r7, h8, h⟩ := bind_some' h
      refine .plain _ _ rfl (M_ref06_Same.w (e3, e5) _ h8) ?_
      try simp -implicitDefEqProofs only [go_sem, h2, h4, h4', h6, h6']
      by_cases h9 : r7 = true
      · replace h := ite_some h h9
        try simp -implicitDefEqProofs only [go_sem, h2, h4, h4', h6, h6', h9]
        exact LLoop.view [] (by (first | rfl | simp -implicitDefEqProofs only [go_sem, h2, h4, h4', h6, h6', h9] <;> rfl)) (ih_M_ref06_List_l0 _ _ h lo c Q hb hr)
      · replace h := ite_none h h9; replace h9 := bfalse h9
        try simp -implicitDefEqProofs only [go_sem, h2, h4, h4', h6, h6', h9]
        injection h with h; subst h
        exact .inl (hr _ _ rfl (by (first | rfl | simp -implicitDefEqProofs only [go_sem, h2, h4, h4', h6, h6', h9] <;> rfl)))
    · replace h := ite_none h h2; replace h2 := bfalse h2
      try simp -implicitDefEqProofs only [go_sem, h2]
      injection h with h; subst h
      exact .inr ⟨[], _, by (simp -implicitDefEqProofs only [go_sem, h2] <;> first | done | rfl | trivial), hb _ rfl⟩
theorem M_ref06_List.l0.w : type_of% @M_ref06_List.l0.ws := @M_ref06_List.l0.ws
def M_ref06_List (x : List T_api_Pred × List T_api_Pred) : Option (Bool) :=
  if ((x.1.length : Int) != (x.2.length : Int)) = true then
    some false
  else
    M_ref06_List.l0 (x.1, x.2, 0) >>= fun (o10 : Lp (Unit) (Bool)) => match o10 with
    | .brk s13 =>
      some true
    | .ret r12 =>
      some r12
set_option maxHeartbeats 8000000 in
theorem M_ref06_List.w : ∀ (x : List T_api_Pred × List T_api_Pred) (r : Bool), M_ref06_List x = some r → (fun (x : List T_api_Pred × List T_api_Pred) (r : Bool) => Fn Try.prog 53 [.slice .foreign (x.1.map T_api_Pred.av), .slice .foreign (x.2.map T_api_Pred.av)] (.bool r)) x r := by
  intro x r h
  rw [M_ref06_List] at h
  try dsimp only
  refine Fn.of_lc mix fn_53 lok_53 (by rfl) (flC (flat_slice _ T_api_Pred.flat _) (flC (flat_slice _ T_api_Pred.flat _) (flN))) (.atom _) ?_
  simp -implicitDefEqProofs only [go_sem, Try.f53]
  by_cases h1 : ((x.1.length : Int) != (x.2.length : Int)) = true
  · replace h := ite_some h h1
    try simp -implicitDefEqProofs only [go_sem, h1]
    injection h with h; subst h
    first | rfl | simp -implicitDefEqProofs only [go_sem, h1] <;> rfl
  · replace h := ite_none h h1; replace h1 := bfalse h1
    try simp -implicitDefEqProofs only [go_sem, h1]
    obtain ⟨o10, h11, h⟩ := bind_some' h
    refine LLoop.viewQ (LLoop.view [] (by (first | rfl | simp -implicitDefEqProofs only [go_sem, h1] <;> rfl)) (M_ref06_List.l0.w (x.1, x.2, 0) _ h11 _ _ _ ?_ ?_))
    · intro s13 hs'; subst hs'
      try simp -implicitDefEqProofs only [go_sem, h1]
      injection h with h; subst h
      first | rfl | simp -implicitDefEqProofs only [go_sem, h1] <;> rfl
    · intro r12 L' hs' hL'; subst hs'
      injection h with h; subst h
      first | exact hL' | (simp -implicitDefEqProofs only [go_sem]; exact hL') | (simp -implicitDefEqProofs only [go_sem]; simp -implicitDefEqProofs only [go_sem] at hL'; exact hL')
end Go.Proofs.Ytcfekacmmfdggaa.G
set_option linter.unusedVariables false
set_option linter.unusedSimpArgs false
set_option maxRecDepth 100000
namespace Go.Proofs.Ytcfekacmmfdggaa.G
end Go.Proofs.Ytcfekacmmfdggaa.G
set_option linter.unusedVariables false
set_option linter.unusedSimpArgs false
set_option maxRecDepth 100000
namespace Go.Proofs.Ytcfekacmmfdggaa.G
end Go.Proofs.Ytcfekacmmfdggaa.G
set_option linter.unusedVariables false
set_option linter.unusedSimpArgs false
namespace Go.Proofs.Ytcfekacmmfdggaa.G
open Classical

theorem term_tab (t : T_api_Term) : M_term_Tables t = some (ttab t) := by
  unfold M_term_Tables ttab
  by_cases h : t.Kind = 1
  · rw [if_pos (by simpa using h), if_pos h, sets_Of_eq _ (by simp)]
    simp -implicitDefEqProofs only [Option.bind_eq_bind, Option.bind_some]
    rw [ofL_cons, ofL_nil, BitVec.or_zero]
  · rw [if_neg (by simpa using h), if_neg h]
/-- The sets that a walk over a predicate gathers. -/
def T_api_Pred.sets : T_api_Pred → List Set64
  | ⟨_, _, _, a, b, ps⟩ => (ttab a ||| ttab b) :: setsL ps
where setsL : List T_api_Pred → List Set64
  | [] => []
  | x :: l => x.sets ++ setsL l
theorem psets_eq (p : T_api_Pred) : p.sets = (ttab p.A ||| ttab p.B) :: T_api_Pred.sets.setsL p.Parts := by
  obtain ⟨a, b, c, d, e, ps⟩ := p
  simp only [T_api_Pred.sets]
theorem psets_len (p : T_api_Pred) : p.sets.length = p.size := by
  induction p using T_api_Pred.induct with
  | h p ih =>
    have hl : ∀ l : List T_api_Pred, (∀ x ∈ l, x.sets.length = x.size) → (T_api_Pred.sets.setsL l).length = (l.map T_api_Pred.size).sum := by
      intro l
      induction l with
      | nil => intro _; simp [T_api_Pred.sets.setsL]
      | cons x l ih2 =>
        intro h
        have h1 := h x List.mem_cons_self
        have h2 := ih2 fun y hy => h y (List.mem_cons_of_mem _ hy)
        simp only [T_api_Pred.sets.setsL, List.length_append, List.map_cons, List.sum_cons]; omega
    have := hl p.Parts ih
    rw [psets_eq, psize_eq, List.length_cons]; omega
theorem gather_eq (p : T_api_Pred) : p.size ≤ 1000000 → M_pred_gather_uint64__pred_Tables_1 p = some p.sets := by
  induction p using T_api_Pred.induct with
  | h p ih =>
    intro hsz
    have hpl := parts_len p
    have key : ∀ n i (s : List Set64), p.Parts.length - i = n → i ≤ p.Parts.length → s.length + ((p.Parts.drop i).map T_api_Pred.size).sum ≤ 1000000 →
        M_pred_gather_uint64__pred_Tables_1.l0 (s, p.Parts, (p.Parts.length : Int), (i : Int)) = some (s ++ T_api_Pred.sets.setsL (p.Parts.drop i)) := by
      intro n
      induction n with
      | zero =>
        intro i s h1 h2 _
        obtain rfl : i = p.Parts.length := by omega
        rw [M_pred_gather_uint64__pred_Tables_1.l0, if_neg (dge (by dsimp only; omega)), List.drop_length]
        simp [T_api_Pred.sets.setsL]
      | succ n ihn =>
        intro i s h1 h2 hs
        have hi : i < p.Parts.length := by omega
        rw [List.drop_eq_getElem_cons hi] at hs ⊢
        rw [List.map_cons, List.sum_cons] at hs
        rw [M_pred_gather_uint64__pred_Tables_1.l0, if_pos (dlt (by dsimp only; omega))]
        dsimp only
        rw [getI_nat hi]
        simp -implicitDefEqProofs only [Option.bind_eq_bind, Option.bind_some]
        have hm := List.getElem_mem hi
        have hsz2 := part_size hm
        rw [ih _ hm (by omega)]
        simp -implicitDefEqProofs only [Option.bind_some]
        have hl := psets_len p.Parts[i]
        rw [room_of (by omega), w64_succ (by omega)]
        simp -implicitDefEqProofs only [Option.bind_some]
        rw [ihn (i + 1) _ (by omega) (by omega) (by rw [List.length_append]; omega), T_api_Pred.sets.setsL, List.append_assoc]
    rw [M_pred_gather_uint64__pred_Tables_1, M_pred_Tables_1_R, term_tab, term_tab]
    simp -implicitDefEqProofs only [Option.bind_eq_bind, Option.bind_some]
    have h0 := key p.Parts.length 0 [(ttab p.A ||| ttab p.B)] (by omega) (by omega) (by
      rw [List.drop_zero]
      have := psize_eq p
      simp only [List.length_cons, List.length_nil]; omega)
    rw [show ((0 : Nat) : Int) = 0 from rfl] at h0
    rw [h0, List.drop_zero, psets_eq]
    rfl
theorem pred_Copy_eq (p : T_api_Pred) : p.size ≤ 1000000 → M_pred_Copy p = some p := by
  induction p using T_api_Pred.induct with
  | h p ih =>
    intro hsz
    have hpl := parts_len p
    have key : ∀ (q : T_api_Pred) n i (s : List T_api_Pred), p.Parts.length - i = n → i ≤ p.Parts.length → s.length ≤ i →
        M_pred_Copy.l0 (s, p.Parts, (p.Parts.length : Int), (i : Int), p, q) = some (s ++ p.Parts.drop i) := by
      intro q n
      induction n with
      | zero =>
        intro i s h1 h2 _
        obtain rfl : i = p.Parts.length := by omega
        rw [M_pred_Copy.l0, if_neg (dge (by dsimp only; omega)), List.drop_length, List.append_nil]
      | succ n ihn =>
        intro i s h1 h2 hs
        have hi : i < p.Parts.length := by omega
        rw [List.drop_eq_getElem_cons hi]
        rw [M_pred_Copy.l0, if_pos (dlt (by dsimp only; omega))]
        dsimp only
        rw [getI_nat hi]
        simp -implicitDefEqProofs only [Option.bind_eq_bind, Option.bind_some]
        have hm := List.getElem_mem hi
        have hsz2 := part_size hm
        rw [ih _ hm (by omega)]
        simp -implicitDefEqProofs only [Option.bind_some]
        rw [room_of (by simp only [List.length_cons, List.length_nil]; omega), w64_succ (by omega)]
        simp -implicitDefEqProofs only [Option.bind_some]
        rw [ihn (i + 1) _ (by omega) (by omega) (by rw [List.length_append]; simp only [List.length_cons, List.length_nil]; omega), List.append_assoc]; rfl
    rw [M_pred_Copy]
    have h0 := key ⟨0, 0, 0, ⟨0, 0, 0, ⟨false, 0⟩⟩, ⟨0, 0, 0, ⟨false, 0⟩⟩, []⟩ p.Parts.length 0 [] (by omega) (by omega) (by simp)
    rw [show ((0 : Nat) : Int) = 0 from rfl] at h0
    rw [h0, List.drop_zero, List.nil_append]
    obtain ⟨a, b, c, d, e, f⟩ := p
    rfl

/- Equality. -/
theorem lenne {α β : Type} {l : List α} {l' : List β} (h : ¬ l.length = l'.length) : ((l.length : Int) != (l'.length : Int)) = true := by
  simp only [bne_iff_ne, ne_eq]; omega
theorem leneq {α β : Type} {l : List α} {l' : List β} (h : l.length = l'.length) : ¬ ((l.length : Int) != (l'.length : Int)) = true := by
  simp only [bne_iff_ne, ne_eq]; omega
theorem term_ext {a b : T_api_Term} (h : ((a.Kind == b.Kind) && ((a.Table == b.Table) && ((a.Col == b.Col) && ((a.Value.Null == b.Value.Null) && (a.Value.N == b.Value.N))))) = true) : a = b := by
  obtain ⟨a1, a2, a3, a4, a5⟩ := a
  obtain ⟨b1, b2, b3, b4, b5⟩ := b
  simpa using h
theorem term_same (a b : T_api_Term) : ((a.Kind == b.Kind) && ((a.Table == b.Table) && ((a.Col == b.Col) && ((a.Value.Null == b.Value.Null) && (a.Value.N == b.Value.N))))) = decide (a = b) := by
  rw [Bool.eq_iff_iff]
  constructor
  · intro h; simpa using term_ext h
  · intro h; have : a = b := by simpa using h
    subst this; simp
theorem pred_eq_iff (p q : T_api_Pred) : p = q ↔ p.Kind = q.Kind ∧ p.Truth = q.Truth ∧ p.Op = q.Op ∧ p.A = q.A ∧ p.B = q.B ∧ p.Parts = q.Parts := by
  obtain ⟨a, b, c, d, e, f⟩ := p
  obtain ⟨a', b', c', d', e', f'⟩ := q
  simp
/-- A loop that compares two lists place by place. -/
theorem loop_eq {α : Type} (l l' : List α) (hlen : l.length = l'.length) (F : Nat → Option (Lp Unit Bool)) (P : α → Prop)
    (h0 : F l.length = some (.brk ()))
    (hs : ∀ i (h : i < l.length), F i = if l[i] = l'[i]'(hlen ▸ h) then F (i + 1) else some (.ret false)) : F 0 = if l = l' then some (.brk ()) else some (.ret false) := by
  have key : ∀ n i, l.length - i = n → i ≤ l.length → F i = if l.drop i = l'.drop i then some (.brk ()) else some (.ret false) := by
    intro n
    induction n with
    | zero =>
      intro i h1 h2
      obtain rfl : i = l.length := by omega
      rw [h0, if_pos (by rw [List.drop_length, hlen, List.drop_length])]
    | succ n ih =>
      intro i h1 h2
      have hi : i < l.length := by omega
      have hi' : i < l'.length := hlen ▸ hi
      rw [hs i hi, List.drop_eq_getElem_cons hi, List.drop_eq_getElem_cons hi', ih (i + 1) (by omega) (by omega)]
      by_cases e : l[i] = l'[i]
      · rw [if_pos e, e]
        by_cases e2 : l.drop (i + 1) = l'.drop (i + 1)
        · rw [if_pos e2, if_pos (by rw [e2])]
        · rw [if_neg e2, if_neg (fun h => e2 (List.cons.inj h).2)]
      · rw [if_neg e, if_neg (fun h => e (List.cons.inj h).1)]
  have := key l.length 0 (by omega) (by omega)
  rwa [List.drop_zero, List.drop_zero] at this
theorem ref06_Same_eq (p : T_api_Pred) : ∀ q : T_api_Pred, p.size ≤ 1000000 → M_ref06_Same (p, q) = some (decide (p = q)) := by
  induction p using T_api_Pred.induct with
  | h p ih =>
    intro q hsz
    have hpl := parts_len p
    rw [M_ref06_Same]
    dsimp only
    rw [term_same, term_same]
    by_cases h1 : p.Kind = q.Kind
    case neg => rw [if_pos (by simpa using h1)]; congr 1; exact (decide_eq_false (fun h => h1 (by rw [h]))).symm
    rw [if_neg (by simpa using h1)]
    by_cases h2 : p.Truth = q.Truth
    case neg => rw [if_pos (by simpa using h2)]; congr 1; exact (decide_eq_false (fun h => h2 (by rw [h]))).symm
    rw [if_neg (by simpa using h2)]
    by_cases h3 : p.Op = q.Op
    case neg => rw [if_pos (by simpa using h3)]; congr 1; exact (decide_eq_false (fun h => h3 (by rw [h]))).symm
    rw [if_neg (by simpa using h3)]
    by_cases h4 : p.A = q.A
    case neg => rw [if_neg (by simpa using h4)]; congr 1; exact (decide_eq_false (fun h => h4 (by rw [h]))).symm
    rw [if_pos (by simpa using h4)]
    by_cases h5 : p.B = q.B
    case neg => rw [if_neg (by simpa using h5)]; congr 1; exact (decide_eq_false (fun h => h5 (by rw [h]))).symm
    rw [if_pos (by simpa using h5)]
    by_cases h6 : p.Parts.length = q.Parts.length
    case neg => rw [if_pos (lenne h6)]; congr 1; exact (decide_eq_false (fun h => h6 (by rw [h]))).symm
    rw [if_neg (leneq h6)]
    have key := loop_eq p.Parts q.Parts h6 (fun i => M_ref06_Same.l0 ((i : Int), p, q)) (fun _ => True) (by
      show M_ref06_Same.l0 _ = _
      rw [M_ref06_Same.l0, if_neg (dge (by dsimp only; omega))]) (fun i h => by
      show M_ref06_Same.l0 _ = _
      rw [M_ref06_Same.l0, if_pos (dlt (by dsimp only; omega))]
      dsimp only
      rw [getI_nat h, getI_nat (h6 ▸ h), w64_succ (by omega)]
      simp -implicitDefEqProofs only [Option.bind_eq_bind, Option.bind_some]
      have hm := List.getElem_mem h
      have hs := part_size hm
      rw [ih _ hm _ (by omega)]
      simp -implicitDefEqProofs only [Option.bind_some, decide_eq_true_eq])
    have key' : M_ref06_Same.l0 (0, p, q) = _ := key
    rw [key']
    by_cases e : p.Parts = q.Parts
    · rw [if_pos e, decide_eq_true ((pred_eq_iff p q).2 ⟨h1, h2, h3, h4, h5, e⟩)]; rfl
    · rw [if_neg e, decide_eq_false (fun h => e (by rw [h]))]; rfl
theorem ref06_List_eq (l l' : List T_api_Pred) (hlen : l.length ≤ 1000000) (hsz : ∀ p ∈ l, p.size ≤ 1000000) : M_ref06_List (l, l') = some (decide (l = l')) := by
  unfold M_ref06_List
  dsimp only
  by_cases h6 : l.length = l'.length
  case neg => rw [if_pos (lenne h6)]; congr 1; exact (decide_eq_false (fun h => h6 (by rw [h]))).symm
  rw [if_neg (leneq h6)]
  have key := loop_eq l l' h6 (fun i => M_ref06_List.l0 (l, l', (i : Int))) (fun _ => True) (by
    show M_ref06_List.l0 _ = _
    rw [M_ref06_List.l0, if_neg (dge (by dsimp only; omega))]) (fun i h => by
    show M_ref06_List.l0 _ = _
    rw [M_ref06_List.l0, if_pos (dlt (by dsimp only; omega))]
    dsimp only
    rw [getI_nat h, getI_nat (h6 ▸ h), w64_succ (by omega)]
    simp -implicitDefEqProofs only [Option.bind_eq_bind, Option.bind_some]
    rw [ref06_Same_eq _ _ (hsz _ (List.getElem_mem h))]
    simp -implicitDefEqProofs only [Option.bind_some, decide_eq_true_eq])
  have key' : M_ref06_List.l0 (l, l', 0) = _ := key
  rw [key']
  by_cases e : l = l'
  · rw [if_pos e, decide_eq_true e]; rfl
  · rw [if_neg e, decide_eq_false e]; rfl
end Go.Proofs.Ytcfekacmmfdggaa.G
set_option linter.unusedVariables false
set_option linter.unusedSimpArgs false
set_option maxRecDepth 100000
namespace Go.Proofs.Ytcfekacmmfdggaa.G
def M_tree_Copy.l0 (x : List T_api_Pred × List T_api_Pred × Int × Int × T_api_Tree × T_api_Tree) : Option (List T_api_Pred) :=
  if (decide (x.2.2.2.1 < x.2.2.1)) = true then
    (getI x.2.1 x.2.2.2.1) >>= fun (e2 : T_api_Pred) =>
    M_pred_Copy e2 >>= fun r4 =>
    (room 128 x.1 ([r4])) >>= fun (z6 : List T_api_Pred) =>
    M_tree_Copy.l0 (z6, x.2.1, x.2.2.1, (w64 (x.2.2.2.1 + 1)), x.2.2.2.2.1, x.2.2.2.2.2)
  else
    some x.1
  partial_fixpoint
mutual
def M_tree_Copy.l1 (x : List T_api_Pred × List T_api_Tree × List T_api_Tree × Int × Int × T_api_Tree × T_api_Tree) : Option (List T_api_Tree) :=
  if (decide (x.2.2.2.2.1 < x.2.2.2.1)) = true then
    (getI x.2.2.1 x.2.2.2.2.1) >>= fun (e11 : T_api_Tree) =>
    M_tree_Copy e11 >>= fun r13 =>
    (room 72 x.2.1 ([r13])) >>= fun (z15 : List T_api_Tree) =>
    M_tree_Copy.l1 (x.1, z15, x.2.2.1, x.2.2.2.1, (w64 (x.2.2.2.2.1 + 1)), x.2.2.2.2.2.1, x.2.2.2.2.2.2)
  else
    some x.2.1
  partial_fixpoint
def M_tree_Copy (x : T_api_Tree) : Option (T_api_Tree) :=
  M_tree_Copy.l0 (([] : List T_api_Pred), x.Conj, (x.Conj.length : Int), 0, x, (⟨0, 0, [], [], false⟩ : T_api_Tree)) >>= fun (o8 : List T_api_Pred) =>
  M_tree_Copy.l1 (o8, ([] : List T_api_Tree), x.Kids, (x.Kids.length : Int), 0, x, (⟨0, 0, [], [], false⟩ : T_api_Tree)) >>= fun (o17 : List T_api_Tree) =>
  some (⟨x.Kind, x.Table, o17, o8, x.Hash⟩ : T_api_Tree)
  partial_fixpoint
end
end Go.Proofs.Ytcfekacmmfdggaa.G
set_option linter.unusedVariables false
set_option linter.unusedSimpArgs false
set_option maxRecDepth 100000
namespace Go.Proofs.Ytcfekacmmfdggaa.G
@[go_sem] theorem lrp_18_6 : lrp Try.prog 18 6 = (12, []) := by kernel_rfl
theorem lok_18 : (Try.f18.body.isSome && !(Try.f18.name == "runtime.NumGoroutine") && okL (bodyF Try.f18) Try.f18.ntmps (bodyF Try.f18)) = true := by kernel_rfl
mutual
def M_ref10_Same.l0 (x : Int × T_api_Tree × T_api_Tree) : Option (Lp (Unit) (Bool)) :=
  if (decide (x.1 < (x.2.1.Kids.length : Int))) = true then
    (getI x.2.1.Kids x.1) >>= fun (e10 : T_api_Tree) =>
    (getI x.2.2.Kids x.1) >>= fun (e12 : T_api_Tree) =>
    M_ref10_Same (e10, e12) >>= fun r14 =>
    if r14 = true then
      M_ref10_Same.l0 ((w64 (x.1 + 1)), x.2.1, x.2.2)
    else
      some (.ret false)
  else
    some (.brk ())
  partial_fixpoint
def M_ref10_Same (x : T_api_Tree × T_api_Tree) : Option (Bool) :=
  if (x.1.Kind != x.2.Kind) = true then
    some false
  else
    if (x.1.Table != x.2.Table) = true then
      some false
    else
      if x.1.Hash = true then
        if x.2.Hash = true then
          if ((x.1.Kids.length : Int) != (x.2.Kids.length : Int)) = true then
            some false
          else
            M_ref06_List (x.1.Conj, x.2.Conj) >>= fun r6 =>
            if r6 = true then
              M_ref10_Same.l0 (0, x.1, x.2) >>= fun (o17 : Lp (Unit) (Bool)) => match o17 with
              | .brk s20 =>
                some true
              | .ret r19 =>
                some r19
            else
              some false
        else
          some false
      else
        if x.2.Hash = true then
          some false
        else
          if ((x.1.Kids.length : Int) != (x.2.Kids.length : Int)) = true then
            some false
          else
            M_ref06_List (x.1.Conj, x.2.Conj) >>= fun r23 =>
            if r23 = true then
              M_ref10_Same.l0 (0, x.1, x.2) >>= fun (o26 : Lp (Unit) (Bool)) => match o26 with
              | .brk s29 =>
                some true
              | .ret r28 =>
                some r28
            else
              some false
  partial_fixpoint
end
theorem M_ref10_Same.l0.ws : (∀ (x : Int × T_api_Tree × T_api_Tree) (o : Lp (Unit) (Bool)), M_ref10_Same.l0 x = some o → (fun (x : Int × T_api_Tree × T_api_Tree) (o : Lp (Unit) (Bool)) => ∀ (lo : Option Nat) (c : LCtx) (Q : Exit → LEnv → Prop) (hb : ∀ s : Unit, o = Lp.brk s → Q (.exit 0) ⟨[], []⟩) (hr : ∀ (r : Bool) (L : LEnv), o = .ret r → LPostF Try.prog [.tmp 4] (.bool r) (fun _ => True) .ret L → Q .ret L), LLoop Try.prog 18 lo c 0 (VQ Q) ⟨[(2, .lref 2 0), (3, .lref 3 0), (5, .v (.i64 x.1))], [(2, [.v (.i64 x.2.1.Kind), .v (.i64 x.2.1.Table), .v (.slice .foreign (x.2.1.Kids.map T_api_Tree.av)), .v (.slice .foreign (x.2.1.Conj.map T_api_Pred.av)), .v (.bool x.2.1.Hash)]), (3, [.v (.i64 x.2.2.Kind), .v (.i64 x.2.2.Table), .v (.slice .foreign (x.2.2.Kids.map T_api_Tree.av)), .v (.slice .foreign (x.2.2.Conj.map T_api_Pred.av)), .v (.bool x.2.2.Hash)])]⟩) x o) ∧ (∀ (x : T_api_Tree × T_api_Tree) (o : Bool), M_ref10_Same x = some o → (fun (x : T_api_Tree × T_api_Tree) (r : Bool) => Fn Try.prog 18 [.agg (T_api_Tree.C x.1), .agg (T_api_Tree.C x.2)] (.bool r)) x o) := by
  refine M_ref10_Same.l0.mutual_partial_correctness _ _ ?_ ?_
  · intro M_M_ref10_Same_l0 M_M_ref10_Same ih_M_ref10_Same_l0 ih_M_ref10_Same x o h
    intro lo c Q hb hr
    refine LLoop.step mix fn_18 (by kernel_rfl) ?_
    simp -implicitDefEqProofs only [go_sem, Try.f18]
    by_cases h9 : (decide (x.1 < (x.2.1.Kids.length : Int))) = true
    · replace h := ite_some h h9
      try simp -implicitDefEqProofs only [go_sem, h9]
      obtain ⟨e10, h11, h⟩ := bind_some' h; replace h11 := getI_some h11; obtain ⟨h11', h11⟩ := h11
      try simp -implicitDefEqProofs only [go_sem, h9, h11, h11']
      obtain ⟨e12, h13, h⟩ := bind_some' h; replace h13 := getI_some h13; obtain ⟨h13', h13⟩ := h13
      try simp -implicitDefEqProofs only [go_sem, h9, h11, h11', h13, h13']
      obtain ⟨r14, h15, h⟩ := bind_some' h
      refine .plain _ _ rfl (ih_M_ref10_Same (e10, e12) _ h15) ?_
      try simp -implicitDefEqProofs only [go_sem, h9, h11, h11', h13, h13']
      by_cases h16 : r14 = true
      · replace h := ite_some h h16
        try simp -implicitDefEqProofs only [go_sem, h9, h11, h11', h13, h13', h16]
        exact LLoop.view [] (by (first | rfl | simp -implicitDefEqProofs only [go_sem, h9, h11, h11', h13, h13', h16] <;> rfl)) (ih_M_ref10_Same_l0 _ _ h lo c Q hb hr)
      · replace h := ite_none h h16; replace h16 := bfalse h16
        try simp -implicitDefEqProofs only [go_sem, h9, h11, h11', h13, h13', h16]
        injection h with h; subst h
        exact .inl (hr _ _ rfl (by (first | rfl | simp -implicitDefEqProofs only [go_sem, h9, h11, h11', h13, h13', h16] <;> rfl)))
    · replace h := ite_none h h9; replace h9 := bfalse h9
      try simp -implicitDefEqProofs only [go_sem, h9]
      injection h with h; subst h
      exact .inr ⟨[], _, by (simp -implicitDefEqProofs only [go_sem, h9] <;> first | done | rfl | trivial), hb _ rfl⟩
  · intro M_M_ref10_Same_l0 ih_M_ref10_Same_l0 x r h
    refine Fn.of_lc mix fn_18 lok_18 (by rfl) (flC (T_api_Tree.flatC _) (flC (T_api_Tree.flatC _) (flN))) (.atom _) ?_
    simp -implicitDefEqProofs only [go_sem, Try.f18]
    by_cases h1 : (x.1.Kind != x.2.Kind) = true
    · replace h := ite_some h h1
      try simp -implicitDefEqProofs only [go_sem, h1]
      injection h with h; subst h
      first | rfl | simp -implicitDefEqProofs only [go_sem, h1] <;> rfl
    · replace h := ite_none h h1; replace h1 := bfalse h1
      try simp -implicitDefEqProofs only [go_sem, h1]
      by_cases h2 : (x.1.Table != x.2.Table) = true
      · replace h := ite_some h h2
        try simp -implicitDefEqProofs only [go_sem, h1, h2]
        injection h with h; subst h
        first | rfl | simp -implicitDefEqProofs only [go_sem, h1, h2] <;> rfl
      · replace h := ite_none h h2; replace h2 := bfalse h2
        try simp -implicitDefEqProofs only [go_sem, h1, h2]
        by_cases h3 : x.1.Hash = true
        · replace h := ite_some h h3
          try simp -implicitDefEqProofs only [go_sem, h1, h2, h3]
          by_cases h4 : x.2.Hash = true
          · replace h := ite_some h h4
            try simp -implicitDefEqProofs only [go_sem, h1, h2, h3, h4]
            by_cases h5 : ((x.1.Kids.length : Int) != (x.2.Kids.length : Int)) = true
            · replace h := ite_some h h5
              try simp -implicitDefEqProofs only [go_sem, h1, h2, h3, h4, h5]
              injection h with h; subst h
              first | rfl | simp -implicitDefEqProofs only [go_sem, h1, h2, h3, h4, h5] <;> rfl
            · replace h := ite_none h h5; replace h5 := bfalse h5
              try simp -implicitDefEqProofs only [go_sem, h1, h2, h3, h4, h5]
              obtain ⟨r6, h7, h⟩ := bind_some' h
              refine .plain _ _ rfl (M_ref06_List.w (x.1.Conj, x.2.Conj) _ h7) ?_
              try simp -implicitDefEqProofs only [go_sem, h1, h2, h3, h4, h5]
              by_cases h8 : r6 = true
              · replace h := ite_some h h8
                try simp -implicitDefEqProofs only [go_sem, h1, h2, h3, h4, h5, h8]
                obtain ⟨o17, h18, h⟩ := bind_some' h
                refine LLoop.viewQ (LLoop.view [] (by (first | rfl | simp -implicitDefEqProofs only [go_sem, h1, h2, h3, h4, h5, h8] <;> rfl)) (ih_M_ref10_Same_l0 (0, x.1, x.2) _ h18 _ _ _ ?_ ?_))
                · intro s20 hs'; subst hs'
                  try simp -implicitDefEqProofs only [go_sem, h1, h2, h3, h4, h5, h8]
                  injection h with h; subst h
                  first | rfl | simp -implicitDefEqProofs only [go_sem, h1, h2, h3, h4, h5, h8] <;> rfl
                · intro r19 L' hs' hL'; subst hs'
                  injection h with h; subst h
                  first | exact hL' | (simp -implicitDefEqProofs only [go_sem]; exact hL') | (simp -implicitDefEqProofs only [go_sem]; simp -implicitDefEqProofs only [go_sem] at hL'; exact hL')
              · replace h := ite_none h h8; replace h8 := bfalse h8
                try simp -implicitDefEqProofs only [go_sem, h1, h2, h3, h4, h5, h8]
                injection h with h; subst h
                first | rfl | simp -implicitDefEqProofs only [go_sem, h1, h2, h3, h4, h5, h8] <;> rfl
          · replace h := ite_none h h4; replace h4 := bfalse h4
            try simp -implicitDefEqProofs only [go_sem, h1, h2, h3, h4]
            injection h with h; subst h
            first | rfl | simp -implicitDefEqProofs only [go_sem, h1, h2, h3, h4] <;> rfl
        · replace h := ite_none h h3; replace h3 := bfalse h3
          try simp -implicitDefEqProofs only [go_sem, h1, h2, h3]
          by_cases h21 : x.2.Hash = true
          · replace h := ite_some h h21
            try simp -implicitDefEqProofs only [go_sem, h1, h2, h3, h21]
            injection h with h; subst h
            first | rfl | simp -implicitDefEqProofs only [go_sem, h1, h2, h3, h21] <;> rfl
          · replace h := ite_none h h21; replace h21 := bfalse h21
            try simp -implicitDefEqProofs only [go_sem, h1, h2, h3, h21]
            by_cases h22 : ((x.1.Kids.length : Int) != (x.2.Kids.length : Int)) = true
            · replace h := ite_some h h22
              try simp -implicitDefEqProofs only [go_sem, h1, h2, h3, h21, h22]
              injection h with h; subst h
              first | rfl | simp -implicitDefEqProofs only [go_sem, h1, h2, h3, h21, h22] <;> rfl
            · replace h := ite_none h h22; replace h22 := bfalse h22
              try simp -implicitDefEqProofs only [go_sem, h1, h2, h3, h21, h22]
              obtain ⟨r23, h24, h⟩ := bind_some' h
              refine .plain _ _ rfl (M_ref06_List.w (x.1.Conj, x.2.Conj) _ h24) ?_
              try simp -implicitDefEqProofs only [go_sem, h1, h2, h3, h21, h22]
              by_cases h25 : r23 = true
              · replace h := ite_some h h25
                try simp -implicitDefEqProofs only [go_sem, h1, h2, h3, h21, h22, h25]
                obtain ⟨o26, h27, h⟩ := bind_some' h
                refine LLoop.viewQ (LLoop.view [] (by (first | rfl | simp -implicitDefEqProofs only [go_sem, h1, h2, h3, h21, h22, h25] <;> rfl)) (ih_M_ref10_Same_l0 (0, x.1, x.2) _ h27 _ _ _ ?_ ?_))
                · intro s29 hs'; subst hs'
                  try simp -implicitDefEqProofs only [go_sem, h1, h2, h3, h21, h22, h25]
                  injection h with h; subst h
                  first | rfl | simp -implicitDefEqProofs only [go_sem, h1, h2, h3, h21, h22, h25] <;> rfl
                · intro r28 L' hs' hL'; subst hs'
                  injection h with h; subst h
                  first | exact hL' | (simp -implicitDefEqProofs only [go_sem]; exact hL') | (simp -implicitDefEqProofs only [go_sem]; simp -implicitDefEqProofs only [go_sem] at hL'; exact hL')
              · replace h := ite_none h h25; replace h25 := bfalse h25
                try simp -implicitDefEqProofs only [go_sem, h1, h2, h3, h21, h22, h25]
                injection h with h; subst h
                first | rfl | simp -implicitDefEqProofs only [go_sem, h1, h2, h3, h21, h22, h25] <;> rfl
theorem M_ref10_Same.w : type_of% (M_ref10_Same.l0.ws.2) := (M_ref10_Same.l0.ws.2)
end Go.Proofs.Ytcfekacmmfdggaa.G
set_option linter.unusedVariables false
set_option linter.unusedSimpArgs false
set_option maxRecDepth 100000
namespace Go.Proofs.Ytcfekacmmfdggaa.G
end Go.Proofs.Ytcfekacmmfdggaa.G
set_option linter.unusedVariables false
set_option linter.unusedSimpArgs false
set_option maxRecDepth 100000
namespace Go.Proofs.Ytcfekacmmfdggaa.G
end Go.Proofs.Ytcfekacmmfdggaa.G
set_option linter.unusedVariables false
set_option linter.unusedSimpArgs false
set_option maxRecDepth 100000
namespace Go.Proofs.Ytcfekacmmfdggaa.G
end Go.Proofs.Ytcfekacmmfdggaa.G
set_option linter.unusedVariables false
set_option linter.unusedSimpArgs false
set_option maxRecDepth 100000
namespace Go.Proofs.Ytcfekacmmfdggaa.G
end Go.Proofs.Ytcfekacmmfdggaa.G
set_option linter.unusedVariables false
set_option linter.unusedSimpArgs false
set_option maxRecDepth 100000
namespace Go.Proofs.Ytcfekacmmfdggaa.G
end Go.Proofs.Ytcfekacmmfdggaa.G
set_option linter.unusedVariables false
set_option linter.unusedSimpArgs false
set_option maxRecDepth 100000
namespace Go.Proofs.Ytcfekacmmfdggaa.G
end Go.Proofs.Ytcfekacmmfdggaa.G
set_option linter.unusedVariables false
set_option linter.unusedSimpArgs false
set_option maxRecDepth 100000
namespace Go.Proofs.Ytcfekacmmfdggaa.G
end Go.Proofs.Ytcfekacmmfdggaa.G
set_option linter.unusedVariables false
set_option linter.unusedSimpArgs false
set_option maxRecDepth 100000
namespace Go.Proofs.Ytcfekacmmfdggaa.G
end Go.Proofs.Ytcfekacmmfdggaa.G
set_option linter.unusedVariables false
set_option linter.unusedSimpArgs false
set_option maxRecDepth 100000
namespace Go.Proofs.Ytcfekacmmfdggaa.G
end Go.Proofs.Ytcfekacmmfdggaa.G
set_option linter.unusedVariables false
set_option linter.unusedSimpArgs false
set_option maxRecDepth 100000
namespace Go.Proofs.Ytcfekacmmfdggaa.G
end Go.Proofs.Ytcfekacmmfdggaa.G
set_option linter.unusedVariables false
set_option linter.unusedSimpArgs false
namespace Go.Proofs.Ytcfekacmmfdggaa.G

theorem getI_md {α : Type} (pre : List α) (x : α) (post : List α) : getI (pre ++ x :: post) (pre.length : Int) = some x := by
  rw [getI_nat (by rw [List.length_append, List.length_cons]; omega)]
  congr 1
  rw [List.getElem_append_right (by omega)]
  simp
theorem snoc_ln {α : Type} (pre : List α) (x : α) : (pre ++ [x]).length = pre.length + 1 := by rw [List.length_append]; rfl
theorem copy_l0 (z1 z2 : T_api_Tree) : ∀ (post pre : List T_api_Pred), pre.length + post.length ≤ 1000000 → (∀ p ∈ post, p.size ≤ 1000000) →
    M_tree_Copy.l0 (pre, pre ++ post, ((pre ++ post).length : Int), (pre.length : Int), z1, z2) = some (pre ++ post) := by
  intro post
  induction post with
  | nil => intro pre _ _; rw [List.append_nil, M_tree_Copy.l0, if_neg (dge (by dsimp only; omega))]
  | cons p post ih =>
    intro pre hl hs
    simp only [List.length_cons] at hl
    have hlen : (pre ++ p :: post).length = pre.length + (post.length + 1) := by rw [List.length_append]; rfl
    have h0 := ih (pre ++ [p]) (by rw [snoc_ln]; omega) (fun x hx => hs x (List.mem_cons_of_mem _ hx))
    rw [snoc_ln, List.append_assoc] at h0
    rw [M_tree_Copy.l0, if_pos (dlt (by dsimp only; omega))]
    dsimp only
    rw [getI_md]
    simp -implicitDefEqProofs only [Option.bind_eq_bind, Option.bind_some]
    rw [pred_Copy_eq p (hs p List.mem_cons_self)]
    simp -implicitDefEqProofs only [Option.bind_some]
    rw [room_of (by simp only [List.length_cons, List.length_nil]; omega), w64_succ (by omega)]
    exact h0
theorem tree_Copy_eq (t : T_api_Tree) : t.size ≤ 1000000 → M_tree_Copy t = some t := by
  induction t using T_api_Tree.induct with
  | h t ih =>
    intro hsz
    have hk := kids_len t
    have hc := conj_len t
    have key : ∀ (o8 : List T_api_Pred) (z1 z2 : T_api_Tree) (post pre : List T_api_Tree), pre.length + post.length ≤ 1000000 → (∀ y ∈ post, y ∈ t.Kids) →
        M_tree_Copy.l1 (o8, pre, pre ++ post, ((pre ++ post).length : Int), (pre.length : Int), z1, z2) = some (pre ++ post) := by
      intro o8 z1 z2 post
      induction post with
      | nil => intro pre _ _; rw [List.append_nil, M_tree_Copy.l1, if_neg (dge (by dsimp only; omega))]
      | cons p post ih2 =>
        intro pre hl hs
        simp only [List.length_cons] at hl
        have hlen : (pre ++ p :: post).length = pre.length + (post.length + 1) := by rw [List.length_append]; rfl
        have h0 := ih2 (pre ++ [p]) (by rw [snoc_ln]; omega) (fun x hx => hs x (List.mem_cons_of_mem _ hx))
        rw [snoc_ln, List.append_assoc] at h0
        have hp := hs p List.mem_cons_self
        have hps := kid_size hp
        rw [M_tree_Copy.l1, if_pos (dlt (by dsimp only; omega))]
        dsimp only
        rw [getI_md]
        simp -implicitDefEqProofs only [Option.bind_eq_bind, Option.bind_some]
        rw [ih p hp (by omega)]
        simp -implicitDefEqProofs only [Option.bind_some]
        rw [room_of (by simp only [List.length_cons, List.length_nil]; omega), w64_succ (by omega)]
        exact h0
    have hps : ∀ p ∈ t.Conj, p.size ≤ 1000000 := fun p hp => by have := conj_size hp; omega
    have e0 := copy_l0 t ⟨0, 0, [], [], false⟩ t.Conj [] (by simp; omega) hps
    have e1 := key t.Conj t ⟨0, 0, [], [], false⟩ t.Kids [] (by simp; omega) (fun y hy => hy)
    simp only [List.nil_append, List.length_nil] at e0 e1
    rw [show ((0 : Nat) : Int) = 0 from rfl] at e0 e1
    rw [M_tree_Copy, e0]
    simp -implicitDefEqProofs only [Option.bind_eq_bind, Option.bind_some]
    rw [e1]
    obtain ⟨a, b, c, d, e⟩ := t
    rfl
theorem ref10_Same_self (t : T_api_Tree) : t.size ≤ 1000000 → M_ref10_Same (t, t) = some true := by
  induction t using T_api_Tree.induct with
  | h t ih =>
    intro hsz
    have hk := kids_len t
    have hc := conj_len t
    have key : ∀ n i, t.Kids.length - i = n → i ≤ t.Kids.length → M_ref10_Same.l0 ((i : Int), t, t) = some (.brk ()) := by
      intro n
      induction n with
      | zero => intro i h1 h2; rw [M_ref10_Same.l0, if_neg (dge (by dsimp only; omega))]
      | succ n ihn =>
        intro i h1 h2
        have hi : i < t.Kids.length := by omega
        rw [M_ref10_Same.l0, if_pos (dlt (by dsimp only; omega))]
        dsimp only
        rw [getI_nat hi]
        simp -implicitDefEqProofs only [Option.bind_eq_bind, Option.bind_some]
        have hm := List.getElem_mem hi
        have hs2 := kid_size hm
        rw [ih _ hm (by omega)]
        simp -implicitDefEqProofs only [Option.bind_some]
        rw [if_pos trivial, w64_succ (by omega)]
        exact ihn (i + 1) (by omega) (by omega)
    have h0 := key t.Kids.length 0 (by omega) (by omega)
    rw [show ((0 : Nat) : Int) = 0 from rfl] at h0
    rw [M_ref10_Same]
    dsimp only
    rw [if_neg (by simp), if_neg (by simp), ref06_List_eq _ _ (by omega) (fun p hp => by have := conj_size hp; omega), h0]
    cases t.Hash with
    | true => rw [if_pos rfl, if_pos rfl, if_neg (by simp)]; simp
    | false => rw [if_neg (by simp), if_neg (by simp), if_neg (by simp)]; simp
end Go.Proofs.Ytcfekacmmfdggaa.G
