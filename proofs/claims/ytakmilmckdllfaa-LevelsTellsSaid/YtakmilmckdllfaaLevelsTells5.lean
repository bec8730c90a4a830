/-
Part 5 of the proof of LevelsTells: merged by mkclaim.py (a program of this repo) out of texts of wip/g and printed models.
-/
import Derived.Test.YtakmilmckdllfaaLevelsTells4
set_option linter.unusedVariables false
set_option linter.unusedSimpArgs false
namespace Go.Proofs.Ytakmilmckdllfaa.G

theorem two_kids' {t : T_api_Tree} (h : t.Kids.length = 2) : ∃ x y, t.Kids = [x, y] := by
  match hk : t.Kids with
  | [x, y] => exact ⟨x, y, rfl⟩
  | [] => rw [hk] at h; cases h
  | [_] => rw [hk] at h; cases h
  | _ :: _ :: _ :: _ => rw [hk] at h; simp at h
/-- A conjunct that may be, between what is seen on both sides. -/
structure OkConj (cols : List Int) (l r : Set64) (p : T_api_Pred) : Prop where
  right : M_ref06_Right p = some true
  col : ∀ c ∈ p.cols, (hasI l c.e0 = true ∨ hasI r c.e0 = true) ∧ ∃ n, getI cols c.e0 = some n ∧ c.e1 < n
  left : p.tabs &&& l ≠ 0#64
  rt : p.tabs &&& r ≠ 0#64
theorem ref11_conj_eq (p : T_api_Pred) (cols : List Int) (l r : Set64) (hsz : p.size ≤ 1000000) (hc : ∀ n, hasI l n = true ∨ hasI r n = true → ∃ x, getI cols n = some x) : ∃ e, M_ref11_conj (p, cols, l, r) = some e ∧ (e = 0 → OkConj cols l r p) := by
  unfold M_ref11_conj
  dsimp only
  obtain ⟨b, hb⟩ := ref06_Right_some p (by omega)
  rw [hb]
  simp -implicitDefEqProofs only [Option.bind_eq_bind, Option.bind_some]
  cases b with
  | false => rw [if_neg (by decide)]; exact ⟨9, rfl, fun h => by cases h⟩
  | true =>
    rw [if_pos rfl, ref06_Columns_eq p (by omega)]
    simp -implicitDefEqProofs only [Option.bind_some]
    have hcl := pcols_len p
    have key : ∀ n i, p.cols.length - i = n → i ≤ p.cols.length → M_ref11_conj.l0 (cols, l, r, p.cols, (i : Int), p) = some (.ret 10) ∨ (M_ref11_conj.l0 (cols, l, r, p.cols, (i : Int), p) = some (.brk ()) ∧ ∀ j (h : j < p.cols.length), i ≤ j → (hasI l p.cols[j].e0 = true ∨ hasI r p.cols[j].e0 = true) ∧ ∃ n, getI cols p.cols[j].e0 = some n ∧ p.cols[j].e1 < n) := by
      intro n
      induction n with
      | zero =>
        intro i h1 h2
        obtain rfl : i = p.cols.length := by omega
        rw [M_ref11_conj.l0, if_neg (dge (by dsimp only; omega))]
        exact .inr ⟨rfl, fun j h h' => by omega⟩
      | succ n ih =>
        intro i h1 h2
        have hi : i < p.cols.length := by omega
        rw [M_ref11_conj.l0, if_pos (dlt (by dsimp only; omega))]
        dsimp only
        rw [getI_nat hi, w64_succ (by omega)]
        simp -implicitDefEqProofs only [Option.bind_eq_bind, Option.bind_some, ref01_Has_eq]
        have ih := ih (i + 1) (by omega) (by omega)
        have more : ∀ (h : hasI l p.cols[i].e0 = true ∨ hasI r p.cols[i].e0 = true) (x : Int), getI cols p.cols[i].e0 = some x → (if (decide (p.cols[i].e1 ≥ x)) = true then some (Lp.ret 10) else M_ref11_conj.l0 (cols, l, r, p.cols, ((i + 1 : Nat) : Int), p)) = some (.ret 10) ∨ ((if (decide (p.cols[i].e1 ≥ x)) = true then some (Lp.ret 10) else M_ref11_conj.l0 (cols, l, r, p.cols, ((i + 1 : Nat) : Int), p)) = some (.brk ()) ∧ ∀ j (h : j < p.cols.length), i ≤ j → (hasI l p.cols[j].e0 = true ∨ hasI r p.cols[j].e0 = true) ∧ ∃ n, getI cols p.cols[j].e0 = some n ∧ p.cols[j].e1 < n) := by
          intro h x hx
          by_cases hge : p.cols[i].e1 ≥ x
          · rw [if_pos (by simpa using hge)]; exact .inl rfl
          · rw [if_neg (by simpa using hge)]
            rcases ih with ih | ⟨ih1, ih2⟩
            · exact .inl ih
            · refine .inr ⟨ih1, fun j hj hij => ?_⟩
              by_cases e : j = i
              · subst e; exact ⟨h, x, hx, by omega⟩
              · exact ih2 j hj (by omega)
        cases hl : hasI l p.cols[i].e0 with
        | true =>
          obtain ⟨x, hx⟩ := hc _ (.inl hl)
          rw [if_pos rfl, hx]
          simp -implicitDefEqProofs only [Option.bind_some]
          exact more (.inl hl) x hx
        | false =>
          rw [if_neg (by decide)]
          cases hr : hasI r p.cols[i].e0 with
          | true =>
            obtain ⟨x, hx⟩ := hc _ (.inr hr)
            rw [if_pos rfl, hx]
            simp -implicitDefEqProofs only [Option.bind_some]
            exact more (.inr hr) x hx
          | false => rw [if_neg (by decide)]; exact .inl rfl
    have h0 := key p.cols.length 0 (by omega) (by omega)
    rw [show ((0 : Nat) : Int) = 0 from rfl] at h0
    rcases h0 with h0 | ⟨h0, h1⟩
    · rw [h0]; exact ⟨10, rfl, fun h => by cases h⟩
    · rw [h0, ref06_Tables_eq p (by omega)]
      simp -implicitDefEqProofs only [Option.bind_some]
      by_cases hl : p.tabs &&& l = 0#64
      · rw [if_pos (by simpa using hl)]; exact ⟨11, rfl, fun h => by cases h⟩
      · rw [if_neg (by simpa using hl)]
        by_cases hr : p.tabs &&& r = 0#64
        · rw [if_pos (by simpa using hr)]; exact ⟨11, rfl, fun h => by cases h⟩
        · rw [if_neg (by simpa using hr)]
          refine ⟨0, rfl, fun _ => ⟨hb, fun c hc => ?_, hl, hr⟩⟩
          obtain ⟨j, hj, rfl⟩ := List.getElem_of_mem hc
          exact h1 j hj (Nat.zero_le _)

/-- A right node. -/
inductive OkNode (cols : List Int) (t : T_api_Tree) : Prop
  | leaf (hk : t.Kind = 0) (hks : t.Kids = []) (hc : t.Conj = []) (hh : t.Hash = false) (h0 : 0 ≤ t.Table) (h1 : t.Table < (cols.length : Int))
  | op (a b : T_api_Tree) (hk1 : 1 ≤ t.Kind) (hk2 : t.Kind ≤ 4) (hks : t.Kids = [a, b]) (hc : t.Conj ≠ []) (ht : t.Table = 0) (hp : ∀ p ∈ t.Conj, OkConj cols a.seen b.seen p)
/-- What is seen are tables of leaves. -/
theorem seen_tabs (t : T_api_Tree) : ∀ n, hasI t.seen n = true → n ∈ leafTabs t.tour := by
  have orI : ∀ (s u : Set64) n, hasI (s ||| u) n = true → hasI s n = true ∨ hasI u n = true := by
    intro s u n h
    unfold hasI at *
    simp only [Bool.and_eq_true, BitVec.getLsbD_or, Bool.or_eq_true] at *
    obtain ⟨h1, h2 | h2⟩ := h
    · exact .inl ⟨h1, h2⟩
    · exact .inr ⟨h1, h2⟩
  induction t using T_api_Tree.induct with
  | h t ih =>
    intro n hn
    have up : ∀ y ∈ t.Kids, n ∈ leafTabs y.tour → n ∈ leafTabs t.tour := by
      intro y hy h
      unfold leafTabs at *
      obtain ⟨z, hz, e⟩ := List.mem_map.1 h
      obtain ⟨h1, h2⟩ := List.mem_filter.1 hz
      exact List.mem_map.2 ⟨z, List.mem_filter.2 ⟨tour_kid hy z h1, h2⟩, e⟩
    rw [seen_eq] at hn
    by_cases h0 : t.Kind = 0
    · rw [if_pos h0] at hn
      unfold hasI at hn
      simp only [Bool.and_eq_true, decide_eq_true_eq] at hn
      rw [bitI_lsb] at hn
      simp only [Bool.and_eq_true, decide_eq_true_eq] at hn
      have : t.Table = n := by omega
      exact List.mem_map.2 ⟨t, List.mem_filter.2 ⟨tour_self t, by simp [h0]⟩, this⟩
    · rw [if_neg h0] at hn
      have z0 : hasI 0#64 n = false := by unfold hasI; simp
      by_cases h34 : t.Kind = 3 ∨ t.Kind = 4
      · rw [if_pos h34] at hn
        cases hk : t.Kids with
        | nil => rw [hk] at hn; simp only [T_api_Tree.seen.seen1, z0] at hn; cases hn
        | cons x l =>
          rw [hk] at hn
          simp only [T_api_Tree.seen.seen1] at hn
          have hx : x ∈ t.Kids := by rw [hk]; simp
          exact up x hx (ih x hx n hn)
      · rw [if_neg h34] at hn
        have : ∀ l : List T_api_Tree, (∀ y ∈ l, y ∈ t.Kids) → hasI (T_api_Tree.seen.seenL l) n = true → n ∈ leafTabs t.tour := by
          intro l
          induction l with
          | nil => intro _ h; simp only [T_api_Tree.seen.seenL, z0] at h; cases h
          | cons x l ih2 =>
            intro hl h
            simp only [T_api_Tree.seen.seenL] at h
            rcases orI _ _ _ h with h | h
            · exact up x (hl x List.mem_cons_self) (ih x (hl x List.mem_cons_self) n h)
            · exact ih2 (fun y hy => hl y (List.mem_cons_of_mem _ hy)) h
        exact this t.Kids (fun y hy => hy) hn

/-- A node, where those ahead are right. -/
theorem ref11_one_eq (t : T_api_Tree) (cols came : List Int) (conjs : Nat) (hsz : t.size ≤ 1000000) (hcm : came.length ≤ 1000000) (hcj : conjs ≤ 1000000) (hk : ∀ y ∈ t.Kids, ∀ n ∈ leafTabs y.tour, 0 ≤ n ∧ n < (cols.length : Int)) : ∃ e, M_ref11_one (t, cols, came, (conjs : Int)) = some e ∧ (e = 0 → OkNode cols t ∧ (t.Kind = 0 → t.Table ∉ came)) := by
  have hcl := conj_len t
  unfold M_ref11_one
  dsimp only
  by_cases k0 : t.Kind < 0
  · rw [if_pos (by simpa using k0)]; exact ⟨4, rfl, fun h => by cases h⟩
  rw [if_neg (by simpa using k0)]
  by_cases k4 : t.Kind > 4
  · rw [if_pos (by simpa using k4)]; exact ⟨4, rfl, fun h => by cases h⟩
  rw [if_neg (by simpa using k4)]
  by_cases kz : t.Kind = 0
  · rw [if_pos (by simpa using kz)]
    by_cases hh : t.Hash = true
    · rw [if_pos hh]; exact ⟨4, rfl, fun h => by cases h⟩
    rw [if_neg hh]
    by_cases hks : t.Kids = []
    · rw [if_neg (by simp [hks])]
      by_cases hcs : t.Conj = []
      · rw [if_neg (by simp [hcs])]
        by_cases h0 : t.Table < 0
        · rw [if_pos (by simpa using h0)]; exact ⟨5, rfl, fun h => by cases h⟩
        rw [if_neg (by simpa using h0)]
        by_cases h1 : t.Table ≥ (cols.length : Int)
        · rw [if_pos (by simpa using h1)]; exact ⟨5, rfl, fun h => by cases h⟩
        rw [if_neg (by simpa using h1)]
        have key : ∀ n i, came.length - i = n → i ≤ came.length → M_ref11_one.l0 (came, (i : Int), t) = some (.ret 6) ∨ (M_ref11_one.l0 (came, (i : Int), t) = some (.brk ()) ∧ ∀ j (h : j < came.length), i ≤ j → came[j] ≠ t.Table) := by
          intro n
          induction n with
          | zero =>
            intro i h1 h2
            obtain rfl : i = came.length := by omega
            rw [M_ref11_one.l0, if_neg (dge (by dsimp only; omega))]
            exact .inr ⟨rfl, fun j h h' => by omega⟩
          | succ n ih =>
            intro i h1 h2
            have hi : i < came.length := by omega
            rw [M_ref11_one.l0, if_pos (dlt (by dsimp only; omega))]
            dsimp only
            rw [getI_nat hi, w64_succ (by omega)]
            simp -implicitDefEqProofs only [Option.bind_eq_bind, Option.bind_some]
            by_cases e : came[i] = t.Table
            · rw [if_pos (by simpa using e)]; exact .inl rfl
            · rw [if_neg (by simpa using e)]
              rcases ih (i + 1) (by omega) (by omega) with ih | ⟨ih1, ih2⟩
              · exact .inl ih
              · refine .inr ⟨ih1, fun j hj hij => ?_⟩
                by_cases ej : j = i
                · subst ej; exact e
                · exact ih2 j hj (by omega)
        have h2 := key came.length 0 (by omega) (by omega)
        rw [show ((0 : Nat) : Int) = 0 from rfl] at h2
        rcases h2 with h2 | ⟨h2, h3⟩
        · rw [h2]; exact ⟨6, rfl, fun h => by cases h⟩
        · rw [h2]
          refine ⟨0, rfl, fun _ => ⟨.leaf kz hks hcs (by simpa using hh) (by omega) (by omega), fun _ hm => ?_⟩⟩
          obtain ⟨j, hj, e⟩ := List.getElem_of_mem hm
          exact h3 j hj (Nat.zero_le _) e
      · rw [if_pos (by simp; exact List.length_pos_iff.2 hcs)]; exact ⟨8, rfl, fun h => by cases h⟩
    · rw [if_pos (by simp; exact List.length_pos_iff.2 hks)]; exact ⟨7, rfl, fun h => by cases h⟩
  rw [if_neg (by simpa using kz)]
  by_cases h2 : t.Kids.length = 2
  · obtain ⟨a, b, hab⟩ := two_kids' h2
    rw [if_neg (by simp [h2])]
    by_cases hcs : t.Conj = []
    · rw [if_pos (by simp [hcs])]; exact ⟨8, rfl, fun h => by cases h⟩
    have hcp := List.length_pos_iff.2 hcs
    rw [if_neg (by simp; omega)]
    rw [w64_of (by omega) (by omega)]
    by_cases h64 : (conjs : Int) + (t.Conj.length : Int) > 64
    · rw [if_pos (by simpa using h64)]; exact ⟨8, rfl, fun h => by cases h⟩
    rw [if_neg (by simpa using h64)]
    by_cases ht : t.Table = 0
    · rw [if_neg (by simpa using ht)]
      have ha : a ∈ t.Kids := by rw [hab]; simp
      have hb : b ∈ t.Kids := by rw [hab]; simp
      have has := kid_size ha
      have hbs := kid_size hb
      have k0' : t.Kids[0]? = some a := by rw [hab]; rfl
      have k1' : t.Kids[1]? = some b := by rw [hab]; rfl
      have hidx : ∀ n, hasI a.seen n = true ∨ hasI b.seen n = true → ∃ x, getI cols n = some x := by
        intro n hn
        have : 0 ≤ n ∧ n < (cols.length : Int) := hn.elim (fun h => hk a ha n (seen_tabs a n h)) (fun h => hk b hb n (seen_tabs b n h))
        obtain ⟨k, rfl⟩ : ∃ k : Nat, n = k := ⟨n.toNat, by omega⟩
        exact ⟨_, getI_nat (by omega)⟩
      have key : ∀ n i, t.Conj.length - i = n → i ≤ t.Conj.length → ∃ o, M_ref11_one.l1 (cols, (i : Int), t) = some o ∧ ((∃ e, o = .ret e ∧ e ≠ 0) ∨ (o = .brk () ∧ ∀ j (h : j < t.Conj.length), i ≤ j → OkConj cols a.seen b.seen t.Conj[j])) := by
        intro n
        induction n with
        | zero =>
          intro i h1 h2
          obtain rfl : i = t.Conj.length := by omega
          rw [M_ref11_one.l1, if_neg (dge (by dsimp only; omega))]
          exact ⟨_, rfl, .inr ⟨rfl, fun j h h' => by omega⟩⟩
        | succ n ih =>
          intro i h1 h2
          have hi : i < t.Conj.length := by omega
          have hps := conj_size (List.getElem_mem hi)
          rw [M_ref11_one.l1, if_pos (dlt (by dsimp only; omega))]
          dsimp only
          rw [getI_nat hi, k0', k1', w64_succ (by omega)]
          simp -implicitDefEqProofs only [Option.bind_eq_bind, Option.bind_some]
          rw [ref10_Seen_eq a (by omega), ref10_Seen_eq b (by omega)]
          simp -implicitDefEqProofs only [Option.bind_some]
          obtain ⟨e, he, h0⟩ := ref11_conj_eq t.Conj[i] cols a.seen b.seen (by omega) hidx
          rw [he]
          simp -implicitDefEqProofs only [Option.bind_some]
          by_cases ez : e = 0
          · rw [if_neg (by simpa using ez)]
            obtain ⟨o, ho, hh⟩ := ih (i + 1) (by omega) (by omega)
            refine ⟨o, ho, hh.imp id fun ⟨e1, e2⟩ => ⟨e1, fun j hj hij => ?_⟩⟩
            by_cases ej : j = i
            · subst ej; exact h0 ez
            · exact e2 j hj (by omega)
          · rw [if_pos (by simpa using ez)]
            exact ⟨_, rfl, .inl ⟨e, rfl, ez⟩⟩
      obtain ⟨o, ho, hh⟩ := key t.Conj.length 0 (by omega) (by omega)
      rw [show ((0 : Nat) : Int) = 0 from rfl] at ho
      rw [ho]
      rcases hh with ⟨e, rfl, he⟩ | ⟨rfl, hall⟩
      · exact ⟨e, rfl, fun h => absurd h he⟩
      · refine ⟨0, rfl, fun _ => ⟨.op a b (by omega) (by omega) hab hcs ht (fun p hp => ?_), fun h => absurd h kz⟩⟩
        obtain ⟨j, hj, rfl⟩ := List.getElem_of_mem hp
        exact hall j hj (Nat.zero_le _)
    · rw [if_pos (by simpa using ht)]; exact ⟨5, rfl, fun h => by cases h⟩
  · rw [if_pos (by simp; omega)]; exact ⟨7, rfl, fun h => by cases h⟩
def nconj (l : List T_api_Tree) : Nat := (l.map fun y => y.Conj.length).sum
theorem nconj_append (l l' : List T_api_Tree) : nconj (l ++ l') = nconj l + nconj l' := by unfold nconj; rw [List.map_append, List.sum_append]
theorem nconj_cons (x : T_api_Tree) (l : List T_api_Tree) : nconj (x :: l) = x.Conj.length + nconj l := rfl
theorem nconj_tour (t : T_api_Tree) : nconj t.tour ≤ t.size := by
  induction t using T_api_Tree.induct with
  | h t ih =>
    rw [tour_eq, nconj_append, tsize_eq]
    have hl : ∀ l : List T_api_Tree, (∀ y ∈ l, nconj y.tour ≤ y.size) → nconj (l.flatMap T_api_Tree.tour) ≤ (l.map T_api_Tree.size).sum := by
      intro l
      induction l with
      | nil => intro _; simp [nconj]
      | cons y l ih2 =>
        intro h
        rw [List.flatMap_cons, nconj_append, List.map_cons, List.sum_cons]
        have h1 := h y List.mem_cons_self
        have h2 := ih2 fun z hz => h z (List.mem_cons_of_mem _ hz)
        omega
    have h1 := hl t.Kids ih
    have h2 := len_sum T_api_Pred.size psize_pos t.Conj
    have h3 : nconj [t] = t.Conj.length := by simp [nconj]
    omega
theorem leafTabs_append (l l' : List T_api_Tree) : leafTabs (l ++ l') = leafTabs l ++ leafTabs l' := by unfold leafTabs; rw [List.filter_append, List.map_append]
theorem leafTabs_ok {cols : List Int} {l : List T_api_Tree} (h : ∀ y ∈ l, OkNode cols y) : ∀ n ∈ leafTabs l, 0 ≤ n ∧ n < (cols.length : Int) := by
  intro n hn
  obtain ⟨y, hy, rfl⟩ := List.mem_map.1 hn
  obtain ⟨h1, h2⟩ := List.mem_filter.1 hy
  have hk : y.Kind = 0 := by simpa using h2
  cases h y h1 with
  | leaf _ _ _ _ h0 h1 => exact ⟨h0, h1⟩
  | op a b h3 => omega
theorem ref11_loop (q : T_api_Query) (all : List T_api_Tree) (hlen : all.length ≤ 1000) (hsz : ∀ y ∈ all, y.size ≤ 1000) : ∀ (t : T_api_Tree) (i : Nat) (came : List Int) (conjs : Nat) (rest : List T_api_Tree), all.drop i = t.tour ++ rest → came.length ≤ i → conjs + nconj (all.drop i) ≤ 1000 → came.Nodup →
    (∃ e, e ≠ 0 ∧ M_ref11_Query.l1 (all, came, (conjs : Int), (i : Int), q) = some (.ret e)) ∨
    (M_ref11_Query.l1 (all, came, (conjs : Int), (i : Int), q) = M_ref11_Query.l1 (all, came ++ leafTabs t.tour, ((conjs + nconj t.tour : Nat) : Int), ((i + t.tour.length : Nat) : Int), q) ∧ (∀ y ∈ t.tour, OkNode q.Cols y) ∧ (came ++ leafTabs t.tour).Nodup) := by
  intro t
  induction t using T_api_Tree.induct with
  | h t ih =>
    intro i came conjs rest hdrop hcl hcj hnd
    -- the kids
    have kids : ∀ (ks : List T_api_Tree), (∀ y ∈ ks, y ∈ t.Kids) → ∀ (i : Nat) (came : List Int) (conjs : Nat) (rest : List T_api_Tree), all.drop i = ks.flatMap T_api_Tree.tour ++ rest → came.length ≤ i → conjs + nconj (all.drop i) ≤ 1000 → came.Nodup →
        (∃ e, e ≠ 0 ∧ M_ref11_Query.l1 (all, came, (conjs : Int), (i : Int), q) = some (.ret e)) ∨
        (M_ref11_Query.l1 (all, came, (conjs : Int), (i : Int), q) = M_ref11_Query.l1 (all, came ++ leafTabs (ks.flatMap T_api_Tree.tour), ((conjs + nconj (ks.flatMap T_api_Tree.tour) : Nat) : Int), ((i + (ks.flatMap T_api_Tree.tour).length : Nat) : Int), q) ∧ (∀ y ∈ ks.flatMap T_api_Tree.tour, OkNode q.Cols y) ∧ (came ++ leafTabs (ks.flatMap T_api_Tree.tour)).Nodup) := by
      intro ks
      induction ks with
      | nil =>
        intro _ i came conjs rest _ _ _ hnd
        refine .inr ⟨?_, fun y hy => by simp at hy, by simpa [leafTabs] using hnd⟩
        simp [leafTabs, nconj]
      | cons k ks ih2 =>
        intro hks i came conjs rest hdrop hcl hcj hnd
        rw [List.flatMap_cons, List.append_assoc] at hdrop
        rcases ih k (hks k List.mem_cons_self) i came conjs _ hdrop hcl hcj hnd with h | ⟨h1, h2, h3⟩
        · exact .inl h
        · have hd2 : all.drop (i + k.tour.length) = ks.flatMap T_api_Tree.tour ++ rest := by
            rw [← List.drop_drop, hdrop, List.drop_left]
          have hc2 : (came ++ leafTabs k.tour).length ≤ i + k.tour.length := by rw [List.length_append]; have := leafTabs_len k.tour; omega
          have hj2 : conjs + nconj k.tour + nconj (all.drop (i + k.tour.length)) ≤ 1000 := by
            rw [hdrop, nconj_append] at hcj; rw [hd2]; omega
          rcases ih2 (fun y hy => hks y (List.mem_cons_of_mem _ hy)) (i + k.tour.length) (came ++ leafTabs k.tour) (conjs + nconj k.tour) rest hd2 hc2 hj2 h3 with ⟨e, he, h⟩ | ⟨g1, g2, g3⟩
          · exact .inl ⟨e, he, h1.trans h⟩
          · refine .inr ⟨?_, fun y hy => ?_, ?_⟩
            · rw [h1, g1, List.flatMap_cons, leafTabs_append, nconj_append, List.length_append, List.append_assoc, Nat.add_assoc conjs, Nat.add_assoc i]
            · rw [List.flatMap_cons] at hy
              exact (List.mem_append.1 hy).elim (h2 y) (g2 y)
            · rw [List.flatMap_cons, leafTabs_append, ← List.append_assoc]; exact g3
    rw [tour_eq, List.append_assoc] at hdrop
    rcases kids t.Kids (fun y hy => hy) i came conjs _ hdrop hcl hcj hnd with h | ⟨h1, h2, h3⟩
    · exact .inl h
    · have hd2 : all.drop (i + (t.Kids.flatMap T_api_Tree.tour).length) = [t] ++ rest := by rw [← List.drop_drop, hdrop, List.drop_left]
      have hlt : i + (t.Kids.flatMap T_api_Tree.tour).length < all.length := by
        rcases Nat.lt_or_ge (i + (t.Kids.flatMap T_api_Tree.tour).length) all.length with h | h
        · exact h
        · rw [List.drop_eq_nil_of_le h] at hd2; cases hd2
      have hget : all[i + (t.Kids.flatMap T_api_Tree.tour).length] = t := by
        have := List.drop_eq_getElem_cons hlt
        rw [hd2] at this
        injection this with h _
        exact h.symm
      have htm : t ∈ all := by rw [← hget]; exact List.getElem_mem hlt
      have hts := hsz t htm
      have hj2 : conjs + nconj (t.Kids.flatMap T_api_Tree.tour) + t.Conj.length ≤ 1000 := by
        rw [hdrop, nconj_append, List.cons_append, List.nil_append, nconj_cons] at hcj; omega
      have hc2 : (came ++ leafTabs (t.Kids.flatMap T_api_Tree.tour)).length ≤ i + (t.Kids.flatMap T_api_Tree.tour).length := by rw [List.length_append]; have := leafTabs_len (t.Kids.flatMap T_api_Tree.tour); omega
      obtain ⟨e, he, h0⟩ := ref11_one_eq t q.Cols (came ++ leafTabs (t.Kids.flatMap T_api_Tree.tour)) (conjs + nconj (t.Kids.flatMap T_api_Tree.tour)) (by omega) (by omega) (by omega) (fun y hy n hn => leafTabs_ok (cols := q.Cols) (l := y.tour) (fun z hz => h2 z (List.mem_flatMap.2 ⟨y, hy, hz⟩)) n hn)
      have hstep : M_ref11_Query.l1 (all, came ++ leafTabs (t.Kids.flatMap T_api_Tree.tour), ((conjs + nconj (t.Kids.flatMap T_api_Tree.tour) : Nat) : Int), ((i + (t.Kids.flatMap T_api_Tree.tour).length : Nat) : Int), q) =
          (if (e != 0) = true then some (.ret e) else M_ref11_Query.l1 (all, came ++ leafTabs t.tour, ((conjs + nconj t.tour : Nat) : Int), ((i + t.tour.length : Nat) : Int), q)) := by
        rw [M_ref11_Query.l1, if_pos (dlt (by dsimp only; omega))]
        dsimp only
        rw [getI_nat hlt, hget]
        simp -implicitDefEqProofs only [Option.bind_eq_bind, Option.bind_some]
        rw [he]
        simp -implicitDefEqProofs only [Option.bind_some]
        have w1 : w64 (((conjs + nconj (t.Kids.flatMap T_api_Tree.tour) : Nat) : Int) + (t.Conj.length : Int)) = ((conjs + nconj t.tour : Nat) : Int) := by
          rw [w64_of (by omega) (by omega), tour_eq t, nconj_append]
          have : nconj [t] = t.Conj.length := by simp [nconj]
          omega
        have w2 : w64 (((i + (t.Kids.flatMap T_api_Tree.tour).length : Nat) : Int) + 1) = ((i + t.tour.length : Nat) : Int) := by
          rw [w64_succ (by omega), tour_eq t, List.length_append]; simp only [List.length_cons, List.length_nil]; omega
        rw [w1, w2]
        by_cases ez : e = 0
        · have e1 : ¬ (e != 0) = true := by simpa using ez
          rw [if_neg e1, if_neg e1]
          by_cases hk : t.Kind = 0
          · rw [if_pos (by simpa using hk), room_of (by simp only [List.length_cons, List.length_nil]; omega)]
            simp -implicitDefEqProofs only [Option.bind_some]
            have : came ++ leafTabs (t.Kids.flatMap T_api_Tree.tour) ++ [t.Table] = came ++ leafTabs t.tour := by
              rw [tour_eq t, leafTabs_append, leafTabs_pos [] hk, List.append_assoc]; rfl
            rw [this]
          · rw [if_neg (by simpa using hk)]
            have : came ++ leafTabs (t.Kids.flatMap T_api_Tree.tour) = came ++ leafTabs t.tour := by
              rw [tour_eq t, leafTabs_append, leafTabs_neg [] hk]
              have : leafTabs [] = [] := rfl
              rw [this, List.append_nil]
            rw [this]
        · have e1 : (e != 0) = true := by simpa using ez
          rw [if_pos e1, if_pos e1]
      by_cases ez : e = 0
      · have e1 : ¬ (e != 0) = true := by simpa using ez
        rw [if_neg e1] at hstep
        obtain ⟨g1, g2⟩ := h0 ez
        refine .inr ⟨h1.trans hstep, fun y hy => ?_, ?_⟩
        · rw [tour_eq, List.mem_append] at hy
          rcases hy with hy | hy
          · exact h2 y hy
          · simp at hy; subst hy; exact g1
        · rw [tour_eq t, leafTabs_append, ← List.append_assoc]
          by_cases hk : t.Kind = 0
          · have e2 : leafTabs [t] = [t.Table] := leafTabs_pos [] hk
            rw [e2]
            refine List.nodup_append.2 ⟨h3, by simp, fun a ha b hb => ?_⟩
            simp at hb; subst hb
            exact fun e => g2 hk (e ▸ ha)
          · have e2 : leafTabs [t] = [] := leafTabs_neg [] hk
            rw [e2, List.append_nil]; exact h3
      · have e1 : (e != 0) = true := by simpa using ez
        rw [if_pos e1] at hstep
        exact .inl ⟨e, ez, h1.trans hstep⟩

/-- A right query. -/
structure RightQ (q : T_api_Query) : Prop where
  ncols : q.Cols.length ≤ 64
  colr : ∀ c ∈ q.Cols, 1 ≤ c ∧ c ≤ 4
  node : ∀ y ∈ q.Root.tour, OkNode q.Cols y
  nodup : (leafTabs q.Root.tour).Nodup
theorem ref11_Query_eq (q : T_api_Query) (hsz : q.Root.size ≤ 600) : ∃ e, M_ref11_Query q = some e ∧ (e = 0 → RightQ q) := by
  unfold M_ref11_Query
  by_cases h64 : (q.Cols.length : Int) > 64
  · rw [if_pos (by simpa using h64)]; exact ⟨2, rfl, fun h => by cases h⟩
  rw [if_neg (by simpa using h64)]
  have key : ∀ n i, q.Cols.length - i = n → i ≤ q.Cols.length → M_ref11_Query.l0 ((i : Int), q) = some (.ret 12) ∨ (M_ref11_Query.l0 ((i : Int), q) = some (.brk ()) ∧ ∀ j (h : j < q.Cols.length), i ≤ j → 1 ≤ q.Cols[j] ∧ q.Cols[j] ≤ 4) := by
    intro n
    induction n with
    | zero =>
      intro i h1 h2
      obtain rfl : i = q.Cols.length := by omega
      rw [M_ref11_Query.l0, if_neg (dge (by dsimp only; omega))]
      exact .inr ⟨rfl, fun j h h' => by omega⟩
    | succ n ih =>
      intro i h1 h2
      have hi : i < q.Cols.length := by omega
      rw [M_ref11_Query.l0, if_pos (dlt (by dsimp only; omega))]
      dsimp only
      rw [getI_nat hi, w64_succ (by omega)]
      simp -implicitDefEqProofs only [Option.bind_eq_bind, Option.bind_some]
      by_cases c1 : q.Cols[i] < 1
      · rw [if_pos (dlt c1)]; exact .inl rfl
      rw [if_neg (dge c1)]
      by_cases c4 : q.Cols[i] > 4
      · rw [if_pos (by simpa using c4)]; exact .inl rfl
      rw [if_neg (by simpa using c4)]
      rcases ih (i + 1) (by omega) (by omega) with ih | ⟨ih1, ih2⟩
      · exact .inl ih
      · refine .inr ⟨ih1, fun j hj hij => ?_⟩
        by_cases ej : j = i
        · subst ej; omega
        · exact ih2 j hj (by omega)
  have h0 := key q.Cols.length 0 (by omega) (by omega)
  rw [show ((0 : Nat) : Int) = 0 from rfl] at h0
  rcases h0 with h0 | ⟨h0, hcols⟩
  · rw [h0]; exact ⟨12, rfl, fun h => by cases h⟩
  rw [h0]
  simp -implicitDefEqProofs only [Option.bind_eq_bind, Option.bind_some]
  rw [ref10_All_eq _ (by omega)]
  simp -implicitDefEqProofs only [Option.bind_some]
  have htl := tour_len q.Root
  have hnc := nconj_tour q.Root
  have h1 := ref11_loop q q.Root.tour (by omega) (fun y hy => by have := tour_size q.Root y hy; omega) q.Root 0 [] 0 [] (by simp) (by simp) (by simp; omega) (by simp)
  rw [show ((0 : Nat) : Int) = 0 from rfl] at h1
  rcases h1 with ⟨e, he, h1⟩ | ⟨h1, h2, h3⟩
  · rw [h1]; exact ⟨e, rfl, fun h => absurd h he⟩
  · rw [h1, M_ref11_Query.l1, if_neg (dge (by dsimp only; omega))]
    refine ⟨0, rfl, fun _ => ⟨by omega, fun c hc => ?_, h2, by simpa using h3⟩⟩
    obtain ⟨j, hj, rfl⟩ := List.getElem_of_mem hc
    exact hcols j hj (Nat.zero_le _)
theorem ref11_Right_eq (q : T_api_Query) (hsz : q.Root.size ≤ 600) : ∃ b, M_ref11_Right q = some b ∧ (b = true → RightQ q) := by
  obtain ⟨e, he, h⟩ := ref11_Query_eq q hsz
  unfold M_ref11_Right
  rw [he]
  exact ⟨_, rfl, fun hb => h (by simpa using hb)⟩
theorem law11_Few_eq (q : T_api_Query) : M_law11_Few q = some (decide (q.Root.size ≤ 600)) := by
  unfold M_law11_Few
  have e := ref10_Size_eq q.Root 601 (by omega) (by omega)
  rw [show ((601 : Nat) : Int) = 601 from rfl] at e
  rw [e]
  simp -implicitDefEqProofs only [Option.bind_eq_bind, Option.bind_some]
  congr 1
  exact decide_eq_decide.2 (by omega)
end Go.Proofs.Ytakmilmckdllfaa.G
set_option linter.unusedVariables false
set_option linter.unusedSimpArgs false
set_option maxRecDepth 100000
namespace Go.Proofs.Ytakmilmckdllfaa.G
@[go_sem] theorem lrp_36_5 : lrp Try.prog 36 5 = (8, []) := by kernel_rfl
@[go_sem] theorem lrp_36_9 : lrp Try.prog 36 9 = (8, []) := by kernel_rfl
theorem lok_36 : (Try.f36.body.isSome && !(Try.f36.name == "runtime.NumGoroutine") && okL (bodyF Try.f36) Try.f36.ntmps (bodyF Try.f36)) = true := by kernel_rfl
def M_law18_As.l0 (x : Int × T_levels_Levels × T_ref18_Levels × T_ref18_Levels) : Option (T_ref18_Levels) :=
  if (decide (x.1 < (x.2.1.Joins.length : Int))) = true then
    (getI x.2.1.Joins x.1) >>= fun (e2 : T_levels_Join) =>
    (room 152 x.2.2.2.Joins ([(⟨e2.Pred, e2.Left, e2.Right, e2.Home⟩ : T_ref18_Join)])) >>= fun (z4 : List T_ref18_Join) =>
    M_law18_As.l0 ((w64 (x.1 + 1)), x.2.1, x.2.2.1, (⟨z4, x.2.2.2.Ops⟩ : T_ref18_Levels))
  else
    some x.2.2.2
  partial_fixpoint
theorem M_law18_As.l0.ws : (∀ (x : Int × T_levels_Levels × T_ref18_Levels × T_ref18_Levels) (o : T_ref18_Levels), M_law18_As.l0 x = some o → (fun (x : Int × T_levels_Levels × T_ref18_Levels × T_ref18_Levels) (o : T_ref18_Levels) => ∀ (lo : Option Nat) (c : LCtx) (Q : Exit → LEnv → Prop) (hb : ∀ s : T_ref18_Levels, o = s → Q (.exit 0) ⟨[(1, .lref 1 0), (2, .lref 2 0), (3, .lref 3 0)], [(1, [.v (.slice .foreign (x.2.1.Joins.map T_levels_Join.av)), .v (.slice .foreign (x.2.1.Ops.map T_levels_Op.av))]), (2, [.own 20000200 17 (x.2.2.1.Joins.map T_ref18_Join.av), .own 20000201 6 (x.2.2.1.Ops.map T_ref18_Op.av)]), (3, [.own 20000300 17 (s.Joins.map T_ref18_Join.av), .own 20000301 6 (s.Ops.map T_ref18_Op.av)])]⟩), LLoop Try.prog 36 lo c 0 (VQ Q) ⟨[(1, .lref 1 0), (2, .lref 2 0), (3, .lref 3 0), (4, .v (.i64 x.1))], [(1, [.v (.slice .foreign (x.2.1.Joins.map T_levels_Join.av)), .v (.slice .foreign (x.2.1.Ops.map T_levels_Op.av))]), (2, [.own 20000200 17 (x.2.2.1.Joins.map T_ref18_Join.av), .own 20000201 6 (x.2.2.1.Ops.map T_ref18_Op.av)]), (3, [.own 20000300 17 (x.2.2.2.Joins.map T_ref18_Join.av), .own 20000301 6 (x.2.2.2.Ops.map T_ref18_Op.av)])]⟩) x o) := by
  refine M_law18_As.l0.partial_correctness _ ?_
  · intro M_M_law18_As_l0 ih_M_law18_As_l0 x o h
    intro lo c Q hb
    refine LLoop.step mix fn_36 (by kernel_rfl) ?_
    simp -implicitDefEqProofs only [go_sem, Try.f36]
    by_cases h1 : (decide (x.1 < (x.2.1.Joins.length : Int))) = true
    · replace h := ite_some h h1
      try simp -implicitDefEqProofs only [go_sem, h1]
      obtain ⟨e2, h3, h⟩ := bind_some' h; replace h3 := getI_some h3; obtain ⟨h3', h3⟩ := h3
      try simp -implicitDefEqProofs only [go_sem, h1, h3, h3']
      obtain ⟨z4, h5, h⟩ := bind_some' h; replace h5 := room_some h5; obtain ⟨h5', rfl⟩ := h5
      refine LApp.map (F := T_ref18_Join.av) (xs := x.2.2.2.Joins) (ys := [(⟨e2.Pred, e2.Left, e2.Right, e2.Home⟩ : T_ref18_Join)]) t64_elem t126_size t126_bytes t126_zsize rfl T_ref18_Join.len (by (first | rfl | (simp -implicitDefEqProofs only [go_sem, h1, h3, h3'] <;> rfl))) (by (first | rfl | (simp -implicitDefEqProofs only [go_sem, h1, h3, h3'] <;> rfl))) h5' ?_
      try simp -implicitDefEqProofs only [go_sem, h1, h3, h3']
      exact LLoop.view [(20000200, some 20000200), (20000201, some 20000201), (20000300, some 22), (20000301, some 20000301)] (by (first | rfl | (simp -implicitDefEqProofs only [go_sem, h1, h3, h3'] <;> rfl))) (ih_M_law18_As_l0 _ _ h lo c Q hb)
    · replace h := ite_none h h1; replace h1 := bfalse h1
      try simp -implicitDefEqProofs only [go_sem, h1]
      injection h with h; subst h
      exact .inr ⟨[(20000200, some 20000200), (20000201, some 20000201), (20000300, some 20000300), (20000301, some 20000301)], _, by (simp -implicitDefEqProofs only [go_sem, h1] <;> first | done | rfl | trivial), hb _ rfl⟩
theorem M_law18_As.l0.w : type_of% (M_law18_As.l0.ws) := M_law18_As.l0.ws
def M_law18_As.l1 (x : Int × T_levels_Levels × T_ref18_Levels × T_ref18_Levels) : Option (T_ref18_Levels) :=
  if (decide (x.1 < (x.2.1.Ops.length : Int))) = true then
    (getI x.2.1.Ops x.1) >>= fun (e9 : T_levels_Op) =>
    (room 64 x.2.2.2.Ops ([(⟨e9.Kind, e9.Conj, e9.Left, e9.Right, e9.Own, e9.Home⟩ : T_ref18_Op)])) >>= fun (z11 : List T_ref18_Op) =>
    M_law18_As.l1 ((w64 (x.1 + 1)), x.2.1, x.2.2.1, (⟨x.2.2.2.Joins, z11⟩ : T_ref18_Levels))
  else
    some x.2.2.2
  partial_fixpoint
theorem M_law18_As.l1.ws : (∀ (x : Int × T_levels_Levels × T_ref18_Levels × T_ref18_Levels) (o : T_ref18_Levels), M_law18_As.l1 x = some o → (fun (x : Int × T_levels_Levels × T_ref18_Levels × T_ref18_Levels) (o : T_ref18_Levels) => ∀ (lo : Option Nat) (c : LCtx) (Q : Exit → LEnv → Prop) (hb : ∀ s : T_ref18_Levels, o = s → Q (.exit 2) ⟨[(2, .lref 2 0), (3, .lref 3 0)], [(2, [.own 20000200 17 (x.2.2.1.Joins.map T_ref18_Join.av), .own 20000201 6 (x.2.2.1.Ops.map T_ref18_Op.av)]), (3, [.own 20000300 17 (s.Joins.map T_ref18_Join.av), .own 20000301 6 (s.Ops.map T_ref18_Op.av)])]⟩), LLoop Try.prog 36 lo c 1 (VQ Q) ⟨[(1, .lref 1 0), (2, .lref 2 0), (3, .lref 3 0), (5, .v (.i64 x.1))], [(1, [.v (.slice .foreign (x.2.1.Joins.map T_levels_Join.av)), .v (.slice .foreign (x.2.1.Ops.map T_levels_Op.av))]), (2, [.own 20000200 17 (x.2.2.1.Joins.map T_ref18_Join.av), .own 20000201 6 (x.2.2.1.Ops.map T_ref18_Op.av)]), (3, [.own 20000300 17 (x.2.2.2.Joins.map T_ref18_Join.av), .own 20000301 6 (x.2.2.2.Ops.map T_ref18_Op.av)])]⟩) x o) := by
  refine M_law18_As.l1.partial_correctness _ ?_
  · intro M_M_law18_As_l1 ih_M_law18_As_l1 x o h
    intro lo c Q hb
    refine LLoop.step mix fn_36 (by kernel_rfl) ?_
    simp -implicitDefEqProofs only [go_sem, Try.f36]
    by_cases h8 : (decide (x.1 < (x.2.1.Ops.length : Int))) = true
    · replace h := ite_some h h8
      try simp -implicitDefEqProofs only [go_sem, h8]
      obtain ⟨e9, h10, h⟩ := bind_some' h; replace h10 := getI_some h10; obtain ⟨h10', h10⟩ := h10
      try simp -implicitDefEqProofs only [go_sem, h8, h10, h10']
      obtain ⟨z11, h12, h⟩ := bind_some' h; replace h12 := room_some h12; obtain ⟨h12', rfl⟩ := h12
      refine LApp.map (F := T_ref18_Op.av) (xs := x.2.2.2.Ops) (ys := [(⟨e9.Kind, e9.Conj, e9.Left, e9.Right, e9.Own, e9.Home⟩ : T_ref18_Op)]) t65_elem t127_size t127_bytes t127_zsize rfl T_ref18_Op.len (by (first | rfl | (simp -implicitDefEqProofs only [go_sem, h8, h10, h10'] <;> rfl))) (by (first | rfl | (simp -implicitDefEqProofs only [go_sem, h8, h10, h10'] <;> rfl))) h12' ?_
      try simp -implicitDefEqProofs only [go_sem, h8, h10, h10']
      exact LLoop.view [(20000200, some 20000200), (20000201, some 20000201), (20000300, some 20000300), (20000301, some 39)] (by (first | rfl | (simp -implicitDefEqProofs only [go_sem, h8, h10, h10'] <;> rfl))) (ih_M_law18_As_l1 _ _ h lo c Q hb)
    · replace h := ite_none h h8; replace h8 := bfalse h8
      try simp -implicitDefEqProofs only [go_sem, h8]
      injection h with h; subst h
      exact .inr ⟨[(20000200, some 20000200), (20000201, some 20000201), (20000300, some 20000300), (20000301, some 20000301)], _, by (simp -implicitDefEqProofs only [go_sem, h8] <;> first | done | rfl | trivial), hb _ rfl⟩
theorem M_law18_As.l1.w : type_of% (M_law18_As.l1.ws) := M_law18_As.l1.ws
def M_law18_As (x : T_levels_Levels) : Option (T_ref18_Levels) :=
  M_law18_As.l0 (0, x, (⟨[], []⟩ : T_ref18_Levels), (⟨[], []⟩ : T_ref18_Levels)) >>= fun (o6 : T_ref18_Levels) =>
  M_law18_As.l1 (0, x, (⟨[], []⟩ : T_ref18_Levels), o6) >>= fun (o13 : T_ref18_Levels) =>
  some o13
theorem M_law18_As.w : ∀ (x : T_levels_Levels) (r : T_ref18_Levels), M_law18_As x = some r → (fun (x : T_levels_Levels) (r : T_ref18_Levels) => Fn Try.prog 36 [.agg (T_levels_Levels.C x)] (.agg (T_ref18_Levels.C r))) x r := by
  intro x r h
  rw [M_law18_As] at h
  try dsimp only
  refine Fn.of_lc mix fn_36 lok_36 (by rfl) (flC (T_levels_Levels.flatC _) (flN)) (T_ref18_Levels.flatC _) ?_
  simp -implicitDefEqProofs only [go_sem, Try.f36]
  obtain ⟨o6, h7, h⟩ := bind_some' h
  refine LLoop.viewQ (LLoop.view [(20000200, none), (20000201, none), (20000300, none), (20000301, none)] (by (first | rfl | (simp -implicitDefEqProofs only [go_sem] <;> rfl))) (M_law18_As.l0.w (0, x, (⟨[], []⟩ : T_ref18_Levels), (⟨[], []⟩ : T_ref18_Levels)) _ h7 _ _ _ ?_))
  intro s' hs'; subst hs'
  try simp -implicitDefEqProofs only [go_sem]
  obtain ⟨o13, h14, h⟩ := bind_some' h
  refine LLoop.viewQ (LLoop.view [(20000200, some 20000200), (20000201, some 20000201), (20000300, some 20000300), (20000301, some 20000301)] (by (first | rfl | (simp -implicitDefEqProofs only [go_sem] <;> rfl))) (M_law18_As.l1.w (0, x, (⟨[], []⟩ : T_ref18_Levels), o6) _ h14 _ _ _ ?_))
  intro s' hs'; subst hs'
  try simp -implicitDefEqProofs only [go_sem]
  injection h with h; subst h
  first | rfl | (simp -implicitDefEqProofs only [go_sem] <;> rfl)
end Go.Proofs.Ytakmilmckdllfaa.G
set_option linter.unusedVariables false
set_option linter.unusedSimpArgs false
set_option maxRecDepth 100000
namespace Go.Proofs.Ytakmilmckdllfaa.G
theorem lok_129 : (Try.f129.body.isSome && !(Try.f129.name == "runtime.NumGoroutine") && okL (bodyF Try.f129) Try.f129.ntmps (bodyF Try.f129)) = true := by kernel_rfl
def M_levels_count.r0 (x : List T_api_Tree × Int) : Option (Int) :=
  match x.1 with
  | [] => some x.2
  | e3 :: l4 =>
    if (e3.Kind != 0) = true then
      if (e3.Kind != 1) = true then
        M_levels_count.r0 (l4, (w64 (x.2 + 1)))
      else
        M_levels_count.r0 (l4, x.2)
    else
      M_levels_count.r0 (l4, x.2)
  partial_fixpoint
theorem M_levels_count.r0.ws : (∀ (x : List T_api_Tree × Int) (o : Int), M_levels_count.r0 x = some o → (fun (x : List T_api_Tree × Int) (o : Int) => ∀ (Fin : Exit → List (Nat × List CV) → Prop) (hb : ∀ (s : Int), o = s → Fin .normal [(2100003, [.v (.i64 s)])]), RRun Try.prog 129 Try.f129 0 1 #[7] [(3, .lref 2100003 0)] Fin (x.1.map (fun (y : T_api_Tree) => [.agg (T_api_Tree.C y)])) [(2100003, [.v (.i64 x.2)])]) x o) := by
  refine M_levels_count.r0.partial_correctness _ ?_
  · intro M_M_levels_count_r0 ih_M_levels_count_r0 x o h
    intro Fin hb
    generalize hx1 : x.1 = ys at h ⊢
    cases ys with
    | nil => injection h with h; subst h; exact RRun.nil (hb _ rfl)
    | cons e3 l4 =>
      refine RRun.cons rfl fun l0 c1 hlo1 => ?_
      dsimp only at h
      simp -implicitDefEqProofs only [go_sem, Try.f129]
      refine RMid.mk (by rfl) fun c2 hlo2 => ?_
      simp -implicitDefEqProofs only [go_sem, Try.f129]
      by_cases h5 : (e3.Kind != 0) = true
      · replace h := ite_some h h5
        try simp -implicitDefEqProofs only [go_sem, h5]
        by_cases h6 : (e3.Kind != 1) = true
        · replace h := ite_some h h6
          try simp -implicitDefEqProofs only [go_sem, h5, h6]
          exact REnd.next [] (by rfl) (by (first | rfl | (simp -implicitDefEqProofs only [go_sem, h5, h6] <;> rfl))) (by rfl) (ih_M_levels_count_r0 (l4, (w64 (x.2 + 1))) _ h Fin hb)
        · replace h := ite_none h h6; replace h6 := bfalse h6
          try simp -implicitDefEqProofs only [go_sem, h5, h6]
          exact REnd.next [] (by rfl) (by (first | rfl | (simp -implicitDefEqProofs only [go_sem, h5, h6] <;> rfl))) (by rfl) (ih_M_levels_count_r0 (l4, x.2) _ h Fin hb)
      · replace h := ite_none h h5; replace h5 := bfalse h5
        try simp -implicitDefEqProofs only [go_sem, h5]
        exact REnd.next [] (by rfl) (by (first | rfl | (simp -implicitDefEqProofs only [go_sem, h5] <;> rfl))) (by rfl) (ih_M_levels_count_r0 (l4, x.2) _ h Fin hb)
theorem M_levels_count.r0.w : type_of% (M_levels_count.r0.ws) := M_levels_count.r0.ws
def M_levels_count (x : T_api_Tree) : Option (Int) :=
  M_tree_Walk x >>= fun l1 =>
  M_levels_count.r0 (l1, 0) >>= fun (s9 : Int) =>
  some s9
theorem M_levels_count.w : ∀ (x : T_api_Tree) (r : Int), M_levels_count x = some r → (fun (x : T_api_Tree) (r : Int) => Fn Try.prog 129 [.agg (T_api_Tree.C x)] (.i64 r)) x r := by
  intro x r h
  rw [M_levels_count] at h
  try dsimp only
  refine Fn.of_lc mix fn_129 lok_129 (by rfl) (flC (T_api_Tree.flatC _) (flN)) (.atom _) ?_
  simp -implicitDefEqProofs only [go_sem, Try.f129]
  obtain ⟨l1, h2, h⟩ := bind_some' h
  refine .iter _ _ rfl (M_tree_Walk.w x _ h2) ?_
  try simp -implicitDefEqProofs only [go_sem]
  obtain ⟨s9, h8, h⟩ := bind_some' h
  refine LRange.iter mix fn_129 (LoOk.none _) (by kernel_rfl) (by kernel_rfl) (by rfl) rfl [] [(2100003, 3)] (by rfl) (by rfl) (by (first | rfl | (simp -implicitDefEqProofs only [go_sem] <;> rfl))) (by (first | rfl | (simp -implicitDefEqProofs only [go_sem] <;> rfl))) (M_levels_count.r0.w (l1, 0) _ h8 _ ?_)
  intro s0 hs'; subst hs'
  try simp -implicitDefEqProofs only [go_sem]
  injection h with h; subst h
  first | rfl | (simp -implicitDefEqProofs only [go_sem] <;> rfl)
end Go.Proofs.Ytakmilmckdllfaa.G
set_option linter.unusedVariables false
set_option linter.unusedSimpArgs false
set_option maxRecDepth 100000
namespace Go.Proofs.Ytakmilmckdllfaa.G
theorem lok_72 : (Try.f72.body.isSome && !(Try.f72.name == "runtime.NumGoroutine") && okL (bodyF Try.f72) Try.f72.ntmps (bodyF Try.f72)) = true := by kernel_rfl
mutual
def M_pred_Copy.l0 (x : List T_api_Pred × List T_api_Pred × Int × Int × T_api_Pred × T_api_Pred) : Option (List T_api_Pred) :=
  if (decide (x.2.2.2.1 < x.2.2.1)) = true then
    (getI x.2.1 x.2.2.2.1) >>= fun (e2 : T_api_Pred) =>
    M_pred_Copy e2 >>= fun r4 =>
    (room 128 x.1 ([r4])) >>= fun (z6 : List T_api_Pred) =>
    M_pred_Copy.l0 (z6, x.2.1, x.2.2.1, (w64 (x.2.2.2.1 + 1)), x.2.2.2.2.1, x.2.2.2.2.2)
  else
    some x.1
  partial_fixpoint
def M_pred_Copy (x : T_api_Pred) : Option (T_api_Pred) :=
  M_pred_Copy.l0 (([] : List T_api_Pred), x.Parts, (x.Parts.length : Int), 0, x, (⟨0, 0, 0, (⟨0, 0, 0, (⟨false, 0⟩ : T_api_Value)⟩ : T_api_Term), (⟨0, 0, 0, (⟨false, 0⟩ : T_api_Value)⟩ : T_api_Term), []⟩ : T_api_Pred)) >>= fun (o8 : List T_api_Pred) =>
  some (⟨x.Kind, x.Truth, x.Op, x.A, x.B, o8⟩ : T_api_Pred)
  partial_fixpoint
end
theorem M_pred_Copy.l0.ws : (∀ (x : List T_api_Pred × List T_api_Pred × Int × Int × T_api_Pred × T_api_Pred) (o : List T_api_Pred), M_pred_Copy.l0 x = some o → (fun (x : List T_api_Pred × List T_api_Pred × Int × Int × T_api_Pred × T_api_Pred) (o : List T_api_Pred) => ∀ (lo : Option Nat) (c : LCtx) (Q : Exit → LEnv → Prop) (hb : ∀ s : List T_api_Pred, o = s → Q (.exit 0) ⟨[(1, .lref 1 0), (2, .lref 2 0), (3, .own 100300 14 (s.map T_api_Pred.av))], [(1, [.v (.i64 x.2.2.2.2.1.Kind), .v (.i64 x.2.2.2.2.1.Truth), .v (.i64 x.2.2.2.2.1.Op), .v (.i64 x.2.2.2.2.1.A.Kind), .v (.i64 x.2.2.2.2.1.A.Table), .v (.i64 x.2.2.2.2.1.A.Col), .v (.bool x.2.2.2.2.1.A.Value.Null), .v (.i64 x.2.2.2.2.1.A.Value.N), .v (.i64 x.2.2.2.2.1.B.Kind), .v (.i64 x.2.2.2.2.1.B.Table), .v (.i64 x.2.2.2.2.1.B.Col), .v (.bool x.2.2.2.2.1.B.Value.Null), .v (.i64 x.2.2.2.2.1.B.Value.N), .v (.slice .foreign (x.2.2.2.2.1.Parts.map T_api_Pred.av))]), (2, [.v (.i64 x.2.2.2.2.2.Kind), .v (.i64 x.2.2.2.2.2.Truth), .v (.i64 x.2.2.2.2.2.Op), .v (.i64 x.2.2.2.2.2.A.Kind), .v (.i64 x.2.2.2.2.2.A.Table), .v (.i64 x.2.2.2.2.2.A.Col), .v (.bool x.2.2.2.2.2.A.Value.Null), .v (.i64 x.2.2.2.2.2.A.Value.N), .v (.i64 x.2.2.2.2.2.B.Kind), .v (.i64 x.2.2.2.2.2.B.Table), .v (.i64 x.2.2.2.2.2.B.Col), .v (.bool x.2.2.2.2.2.B.Value.Null), .v (.i64 x.2.2.2.2.2.B.Value.N), .own 20000213 14 (x.2.2.2.2.2.Parts.map T_api_Pred.av)])]⟩), LLoop Try.prog 72 lo c 0 (VQ Q) ⟨[(1, .lref 1 0), (2, .lref 2 0), (3, .own 100300 14 (x.1.map T_api_Pred.av)), (7, .v (.slice .foreign (x.2.1.map T_api_Pred.av))), (8, .v (.i64 x.2.2.1)), (9, .v (.i64 x.2.2.2.1))], [(1, [.v (.i64 x.2.2.2.2.1.Kind), .v (.i64 x.2.2.2.2.1.Truth), .v (.i64 x.2.2.2.2.1.Op), .v (.i64 x.2.2.2.2.1.A.Kind), .v (.i64 x.2.2.2.2.1.A.Table), .v (.i64 x.2.2.2.2.1.A.Col), .v (.bool x.2.2.2.2.1.A.Value.Null), .v (.i64 x.2.2.2.2.1.A.Value.N), .v (.i64 x.2.2.2.2.1.B.Kind), .v (.i64 x.2.2.2.2.1.B.Table), .v (.i64 x.2.2.2.2.1.B.Col), .v (.bool x.2.2.2.2.1.B.Value.Null), .v (.i64 x.2.2.2.2.1.B.Value.N), .v (.slice .foreign (x.2.2.2.2.1.Parts.map T_api_Pred.av))]), (2, [.v (.i64 x.2.2.2.2.2.Kind), .v (.i64 x.2.2.2.2.2.Truth), .v (.i64 x.2.2.2.2.2.Op), .v (.i64 x.2.2.2.2.2.A.Kind), .v (.i64 x.2.2.2.2.2.A.Table), .v (.i64 x.2.2.2.2.2.A.Col), .v (.bool x.2.2.2.2.2.A.Value.Null), .v (.i64 x.2.2.2.2.2.A.Value.N), .v (.i64 x.2.2.2.2.2.B.Kind), .v (.i64 x.2.2.2.2.2.B.Table), .v (.i64 x.2.2.2.2.2.B.Col), .v (.bool x.2.2.2.2.2.B.Value.Null), .v (.i64 x.2.2.2.2.2.B.Value.N), .own 20000213 14 (x.2.2.2.2.2.Parts.map T_api_Pred.av)])]⟩) x o) ∧ (∀ (x : T_api_Pred) (o : T_api_Pred), M_pred_Copy x = some o → (fun (x : T_api_Pred) (r : T_api_Pred) => Fn Try.prog 72 [.agg (T_api_Pred.C x)] (.agg (T_api_Pred.C r))) x o) := by
  refine M_pred_Copy.l0.mutual_partial_correctness _ _ ?_ ?_
  · intro M_M_pred_Copy_l0 M_M_pred_Copy ih_M_pred_Copy_l0 ih_M_pred_Copy x o h
    intro lo c Q hb
    refine LLoop.step mix fn_72 (by kernel_rfl) ?_
    simp -implicitDefEqProofs only [go_sem, Try.f72]
    by_cases h1 : (decide (x.2.2.2.1 < x.2.2.1)) = true
    · replace h := ite_some h h1
      try simp -implicitDefEqProofs only [go_sem, h1]
      obtain ⟨e2, h3, h⟩ := bind_some' h; replace h3 := getI_some h3; obtain ⟨h3', h3⟩ := h3
      try simp -implicitDefEqProofs only [go_sem, h1, h3, h3']
      obtain ⟨r4, h5, h⟩ := bind_some' h
      refine .plain _ _ rfl (ih_M_pred_Copy e2 _ h5) ?_
      try simp -implicitDefEqProofs only [go_sem, h1, h3, h3']
      obtain ⟨z6, h7, h⟩ := bind_some' h; replace h7 := room_some h7; obtain ⟨h7', rfl⟩ := h7
      refine LApp.map (F := T_api_Pred.av) (xs := x.1) (ys := [r4]) t33_elem t42_size t42_bytes t42_zsize rfl T_api_Pred.len (by (first | rfl | (simp -implicitDefEqProofs only [go_sem, h1, h3, h3'] <;> rfl))) (by (first | rfl | (simp -implicitDefEqProofs only [go_sem, h1, h3, h3'] <;> rfl))) h7' ?_
      try simp -implicitDefEqProofs only [go_sem, h1, h3, h3']
      exact LLoop.view [(100300, some 17), (20000213, some 20000213)] (by (first | rfl | (simp -implicitDefEqProofs only [go_sem, h1, h3, h3'] <;> rfl))) (ih_M_pred_Copy_l0 _ _ h lo c Q hb)
    · replace h := ite_none h h1; replace h1 := bfalse h1
      try simp -implicitDefEqProofs only [go_sem, h1]
      injection h with h; subst h
      exact .inr ⟨[(100300, some 100300), (20000213, some 20000213)], _, by (simp -implicitDefEqProofs only [go_sem, h1] <;> first | done | rfl | trivial), hb _ rfl⟩
  · intro M_M_pred_Copy_l0 ih_M_pred_Copy_l0 x r h
    refine Fn.of_lc mix fn_72 lok_72 (by rfl) (flC (T_api_Pred.flatC _) (flN)) (T_api_Pred.flatC _) ?_
    simp -implicitDefEqProofs only [go_sem, Try.f72]
    obtain ⟨o8, h9, h⟩ := bind_some' h
    refine LLoop.viewQ (LLoop.view [(100300, none), (20000213, none)] (by (first | rfl | (simp -implicitDefEqProofs only [go_sem] <;> rfl))) (ih_M_pred_Copy_l0 (([] : List T_api_Pred), x.Parts, (x.Parts.length : Int), 0, x, (⟨0, 0, 0, (⟨0, 0, 0, (⟨false, 0⟩ : T_api_Value)⟩ : T_api_Term), (⟨0, 0, 0, (⟨false, 0⟩ : T_api_Value)⟩ : T_api_Term), []⟩ : T_api_Pred)) _ h9 _ _ _ ?_))
    intro s' hs'; subst hs'
    try simp -implicitDefEqProofs only [go_sem]
    injection h with h; subst h
    first | rfl | (simp -implicitDefEqProofs only [go_sem] <;> rfl)
theorem M_pred_Copy.w : type_of% (M_pred_Copy.l0.ws.2) := M_pred_Copy.l0.ws.2
end Go.Proofs.Ytakmilmckdllfaa.G
set_option linter.unusedVariables false
set_option linter.unusedSimpArgs false
set_option maxRecDepth 100000
namespace Go.Proofs.Ytakmilmckdllfaa.G
theorem lok_159 : (Try.f159.body.isSome && !(Try.f159.name == "runtime.NumGoroutine") && okL (bodyF Try.f159) Try.f159.ntmps (bodyF Try.f159)) = true := by kernel_rfl
def M_term_Tables (x : T_api_Term) : Option (Set64) :=
  if (x.Kind == 1) = true then
    M_sets_Of ([x.Table]) >>= fun r2 =>
    some r2
  else
    some (0#64)
theorem M_term_Tables.w : ∀ (x : T_api_Term) (r : Set64), M_term_Tables x = some r → (fun (x : T_api_Term) (r : Set64) => Fn Try.prog 159 [.agg (T_api_Term.C x)] (.w r)) x r := by
  intro x r h
  rw [M_term_Tables] at h
  try dsimp only
  refine Fn.of_lc mix fn_159 lok_159 (by rfl) (flC (T_api_Term.flatC _) (flN)) (.atom _) ?_
  simp -implicitDefEqProofs only [go_sem, Try.f159]
  by_cases h1 : (x.Kind == 1) = true
  · replace h := ite_some h h1
    try simp -implicitDefEqProofs only [go_sem, h1]
    obtain ⟨r2, h3, h⟩ := bind_some' h
    have hw := M_sets_Of.w ([x.Table]) _ h3
    simp -implicitDefEqProofs only [go_sem] at hw
    refine .plain _ _ rfl hw ?_
    clear hw
    try simp -implicitDefEqProofs only [go_sem, h1]
    injection h with h; subst h
    first | rfl | (simp -implicitDefEqProofs only [go_sem, h1] <;> rfl)
  · replace h := ite_none h h1; replace h1 := bfalse h1
    try simp -implicitDefEqProofs only [go_sem, h1]
    injection h with h; subst h
    first | rfl | (simp -implicitDefEqProofs only [go_sem, h1] <;> rfl)
end Go.Proofs.Ytakmilmckdllfaa.G
set_option linter.unusedVariables false
set_option linter.unusedSimpArgs false
set_option maxRecDepth 100000
namespace Go.Proofs.Ytakmilmckdllfaa.G
@[go_sem] theorem lrp_158_1 : lrp Try.prog 158 1 = (9, []) := by kernel_rfl
theorem lok_158 : (Try.f158.body.isSome && !(Try.f158.name == "runtime.NumGoroutine") && okL (bodyF Try.f158) Try.f158.ntmps (bodyF Try.f158)) = true := by kernel_rfl
end Go.Proofs.Ytakmilmckdllfaa.G
set_option linter.unusedVariables false
set_option linter.unusedSimpArgs false
set_option maxRecDepth 100000
namespace Go.Proofs.Ytakmilmckdllfaa.G
theorem lok_157 : (Try.f157.body.isSome && !(Try.f157.name == "runtime.NumGoroutine") && okL (bodyF Try.f157) Try.f157.ntmps (bodyF Try.f157)) = true := by kernel_rfl
theorem lok_130 : (Try.f130.body.isSome && !(Try.f130.name == "runtime.NumGoroutine") && okL (bodyF Try.f130) Try.f130.ntmps (bodyF Try.f130)) = true := by kernel_rfl
def M_pred_Tables_1_R (x : T_api_Pred) : Option (List Set64) :=
  M_term_Tables x.A >>= fun r1 =>
  M_term_Tables x.B >>= fun r3 =>
  some ([(r1 ||| r3)])
theorem M_pred_Tables_1_R.w : ∀ (x : T_api_Pred) (r : List Set64), M_pred_Tables_1_R x = some r → (fun (x : T_api_Pred) (r : List Set64) => FnR Try.prog 158 [] [.a (.agg (T_api_Pred.C x))] (.own 38000000 1 (r.map AV.w)) []) x r := by
  intro x r h
  rw [M_pred_Tables_1_R] at h
  try dsimp only
  refine FnR.of_lc mix fn_158 lok_158 (by rfl) (by rfl) fun c => ?_
  simp -implicitDefEqProofs only [go_sem, Try.f158]
  obtain ⟨r1, h2, h⟩ := bind_some' h
  refine .plain _ _ rfl (M_term_Tables.w x.A _ h2) ?_
  try simp -implicitDefEqProofs only [go_sem]
  obtain ⟨r3, h4, h⟩ := bind_some' h
  refine .plain _ _ rfl (M_term_Tables.w x.B _ h4) ?_
  try simp -implicitDefEqProofs only [go_sem]
  injection h with h; subst h
  first | exact ⟨_, rfl, [(38000000, none)], by rfl, by (first | rfl | (simp -implicitDefEqProofs only [go_sem] <;> rfl)), by (first | rfl | (simp -implicitDefEqProofs only [go_sem] <;> rfl))⟩ | exact ⟨_, rfl, [(38000000, none)], by rfl, by (simp -implicitDefEqProofs only [go_sem] <;> first | done | rfl | trivial), by (simp -implicitDefEqProofs only [go_sem] <;> first | done | rfl | trivial)⟩
mutual
def M_pred_gather_uint64__pred_Tables_1.l0 (x : List Set64 × List T_api_Pred × Int × Int) : Option (List Set64) :=
  if (decide (x.2.2.2 < x.2.2.1)) = true then
    (getI x.2.1 x.2.2.2) >>= fun (e4 : T_api_Pred) =>
    M_pred_gather_uint64__pred_Tables_1 e4 >>= fun r6 =>
    (room 8 x.1 r6) >>= fun (z8 : List Set64) =>
    M_pred_gather_uint64__pred_Tables_1.l0 (z8, x.2.1, x.2.2.1, (w64 (x.2.2.2 + 1)))
  else
    some x.1
  partial_fixpoint
def M_pred_gather_uint64__pred_Tables_1 (x : T_api_Pred) : Option (List Set64) :=
  M_pred_Tables_1_R x >>= fun r1 =>
  M_pred_gather_uint64__pred_Tables_1.l0 (r1, x.Parts, (x.Parts.length : Int), 0) >>= fun (o10 : List Set64) =>
  some o10
  partial_fixpoint
end
theorem M_pred_gather_uint64__pred_Tables_1.l0.ws : (∀ (x : List Set64 × List T_api_Pred × Int × Int) (o : List Set64), M_pred_gather_uint64__pred_Tables_1.l0 x = some o → (fun (x : List Set64 × List T_api_Pred × Int × Int) (o : List Set64) => ∀ (lo : Option Nat) (c : LCtx) (Q : Exit → LEnv → Prop) (hb : ∀ s : List Set64, o = s → Q (.exit 0) ⟨[(5, .own 100500 1 (s.map AV.w))], []⟩), LLoop Try.prog 157 lo c 0 (VQ Q) ⟨[(1, .v (.func 158 [] [])), (5, .own 100500 1 (x.1.map AV.w)), (12, .v (.slice .foreign (x.2.1.map T_api_Pred.av))), (13, .v (.i64 x.2.2.1)), (14, .v (.i64 x.2.2.2))], []⟩) x o) ∧ (∀ (x : T_api_Pred) (o : List Set64), M_pred_gather_uint64__pred_Tables_1 x = some o → (fun (x : T_api_Pred) (r : List Set64) => Fn Try.prog 157 [.agg (T_api_Pred.C x), .func 158 [] []] (.slice .foreign (r.map AV.w))) x o) := by
  refine M_pred_gather_uint64__pred_Tables_1.l0.mutual_partial_correctness _ _ ?_ ?_
  · intro M_M_pred_gather_uint64__pred_Tables_1_l0 M_M_pred_gather_uint64__pred_Tables_1 ih_M_pred_gather_uint64__pred_Tables_1_l0 ih_M_pred_gather_uint64__pred_Tables_1 x o h
    intro lo c Q hb
    refine LLoop.step mix fn_157 (by kernel_rfl) ?_
    simp -implicitDefEqProofs only [go_sem, Try.f157]
    by_cases h3 : (decide (x.2.2.2 < x.2.2.1)) = true
    · replace h := ite_some h h3
      try simp -implicitDefEqProofs only [go_sem, h3]
      obtain ⟨e4, h5, h⟩ := bind_some' h; replace h5 := getI_some h5; obtain ⟨h5', h5⟩ := h5
      try simp -implicitDefEqProofs only [go_sem, h3, h5, h5']
      obtain ⟨r6, h7, h⟩ := bind_some' h
      refine .plain _ _ rfl (ih_M_pred_gather_uint64__pred_Tables_1 e4 _ h7) ?_
      try simp -implicitDefEqProofs only [go_sem, h3, h5, h5']
      obtain ⟨z8, h9, h⟩ := bind_some' h; replace h9 := room_some h9; obtain ⟨h9', rfl⟩ := h9
      refine LApp.map (F := AV.w) (xs := x.1) (ys := r6) t77_elem t32_size t32_bytes t32_zsize rfl (fun _ => rfl) (by (first | rfl | (simp -implicitDefEqProofs only [go_sem, h3, h5, h5'] <;> rfl))) (by (first | rfl | (simp -implicitDefEqProofs only [go_sem, h3, h5, h5'] <;> rfl))) h9' ?_
      try simp -implicitDefEqProofs only [go_sem, h3, h5, h5']
      exact LLoop.view [(100500, some 22)] (by (first | rfl | (simp -implicitDefEqProofs only [go_sem, h3, h5, h5'] <;> rfl))) (ih_M_pred_gather_uint64__pred_Tables_1_l0 _ _ h lo c Q hb)
    · replace h := ite_none h h3; replace h3 := bfalse h3
      try simp -implicitDefEqProofs only [go_sem, h3]
      injection h with h; subst h
      exact .inr ⟨[(100500, some 100500)], _, by (simp -implicitDefEqProofs only [go_sem, h3] <;> first | done | rfl | trivial), hb _ rfl⟩
  · intro M_M_pred_gather_uint64__pred_Tables_1_l0 ih_M_pred_gather_uint64__pred_Tables_1_l0 x r h
    refine Fn.of_lc mix fn_157 lok_157 (by rfl) (flC (T_api_Pred.flatC _) (flC (.func _ _ _ (flN) (flN)) (flN))) (flat_slice _ (fun _ => .atom _) _) ?_
    simp -implicitDefEqProofs only [go_sem, Try.f157]
    obtain ⟨r1, h2, h⟩ := bind_some' h
    have hw := FnR.tok 10 (M_pred_Tables_1_R.w x _ h2) rfl rfl rfl
    try simp -implicitDefEqProofs only [go_sem] at hw
    refine .res [] [] [] [] _ _ hw (by (first | rfl | (simp -implicitDefEqProofs only [go_sem] <;> rfl))) (by rfl) (by rfl) (by rfl) (by rfl) (by (first | rfl | (simp -implicitDefEqProofs only [go_sem] <;> rfl))) (by rfl) (by (first | rfl | (simp -implicitDefEqProofs only [go_sem] <;> rfl))) (by (first | rfl | (simp -implicitDefEqProofs only [go_sem] <;> rfl))) ?_
    clear hw
    try simp -implicitDefEqProofs only [go_sem]
    obtain ⟨o10, h11, h⟩ := bind_some' h
    refine LLoop.viewQ (LLoop.view [(100500, some 10)] (by (first | rfl | (simp -implicitDefEqProofs only [go_sem] <;> rfl))) (ih_M_pred_gather_uint64__pred_Tables_1_l0 (r1, x.Parts, (x.Parts.length : Int), 0) _ h11 _ _ _ ?_))
    intro s' hs'; subst hs'
    try simp -implicitDefEqProofs only [go_sem]
    injection h with h; subst h
    first | rfl | (simp -implicitDefEqProofs only [go_sem] <;> rfl)
theorem M_pred_gather_uint64__pred_Tables_1.w : type_of% (M_pred_gather_uint64__pred_Tables_1.l0.ws.2) := M_pred_gather_uint64__pred_Tables_1.l0.ws.2
def M_pred_Tables.l0 (x : Set64 × List Set64 × Int × Int) : Option (Set64) :=
  if (decide (x.2.2.2 < x.2.2.1)) = true then
    (getI x.2.1 x.2.2.2) >>= fun (e4 : Set64) =>
    M_pred_Tables.l0 ((x.1 ||| e4), x.2.1, x.2.2.1, (w64 (x.2.2.2 + 1)))
  else
    some x.1
  partial_fixpoint
theorem M_pred_Tables.l0.ws : (∀ (x : Set64 × List Set64 × Int × Int) (o : Set64), M_pred_Tables.l0 x = some o → (fun (x : Set64 × List Set64 × Int × Int) (o : Set64) => ∀ (lo : Option Nat) (c : LCtx) (Q : Exit → LEnv → Prop) (hb : ∀ s : Set64, o = s → Q (.exit 0) ⟨[(3, .v (.w s))], []⟩), LLoop Try.prog 130 lo c 0 (VQ Q) ⟨[(3, .v (.w x.1)), (7, .v (.slice .foreign (x.2.1.map AV.w))), (8, .v (.i64 x.2.2.1)), (9, .v (.i64 x.2.2.2))], []⟩) x o) := by
  refine M_pred_Tables.l0.partial_correctness _ ?_
  · intro M_M_pred_Tables_l0 ih_M_pred_Tables_l0 x o h
    intro lo c Q hb
    refine LLoop.step mix fn_130 (by kernel_rfl) ?_
    simp -implicitDefEqProofs only [go_sem, Try.f130]
    by_cases h3 : (decide (x.2.2.2 < x.2.2.1)) = true
    · replace h := ite_some h h3
      try simp -implicitDefEqProofs only [go_sem, h3]
      obtain ⟨e4, h5, h⟩ := bind_some' h; replace h5 := getI_some h5; obtain ⟨h5', h5⟩ := h5
      try simp -implicitDefEqProofs only [go_sem, h3, h5, h5']
      exact LLoop.view [] (by (first | rfl | (simp -implicitDefEqProofs only [go_sem, h3, h5, h5'] <;> rfl))) (ih_M_pred_Tables_l0 _ _ h lo c Q hb)
    · replace h := ite_none h h3; replace h3 := bfalse h3
      try simp -implicitDefEqProofs only [go_sem, h3]
      injection h with h; subst h
      exact .inr ⟨[], _, by (simp -implicitDefEqProofs only [go_sem, h3] <;> first | done | rfl | trivial), hb _ rfl⟩
theorem M_pred_Tables.l0.w : type_of% (M_pred_Tables.l0.ws) := M_pred_Tables.l0.ws
def M_pred_Tables (x : T_api_Pred) : Option (Set64) :=
  M_pred_gather_uint64__pred_Tables_1 x >>= fun r1 =>
  M_pred_Tables.l0 (0#64, r1, (r1.length : Int), 0) >>= fun (o6 : Set64) =>
  some o6
theorem M_pred_Tables.w : ∀ (x : T_api_Pred) (r : Set64), M_pred_Tables x = some r → (fun (x : T_api_Pred) (r : Set64) => Fn Try.prog 130 [.agg (T_api_Pred.C x)] (.w r)) x r := by
  intro x r h
  rw [M_pred_Tables] at h
  try dsimp only
  refine Fn.of_lc mix fn_130 lok_130 (by rfl) (flC (T_api_Pred.flatC _) (flN)) (.atom _) ?_
  simp -implicitDefEqProofs only [go_sem, Try.f130]
  obtain ⟨r1, h2, h⟩ := bind_some' h
  refine .plain _ _ rfl (M_pred_gather_uint64__pred_Tables_1.w x _ h2) ?_
  try simp -implicitDefEqProofs only [go_sem]
  obtain ⟨o6, h7, h⟩ := bind_some' h
  refine LLoop.viewQ (LLoop.view [] (by (first | rfl | (simp -implicitDefEqProofs only [go_sem] <;> rfl))) (M_pred_Tables.l0.w (0#64, r1, (r1.length : Int), 0) _ h7 _ _ _ ?_))
  intro s' hs'; subst hs'
  try simp -implicitDefEqProofs only [go_sem]
  injection h with h; subst h
  first | rfl | (simp -implicitDefEqProofs only [go_sem] <;> rfl)
end Go.Proofs.Ytakmilmckdllfaa.G
set_option linter.unusedVariables false
set_option linter.unusedSimpArgs false
set_option maxRecDepth 100000
namespace Go.Proofs.Ytakmilmckdllfaa.G
theorem lok_128 : (Try.f128.body.isSome && !(Try.f128.name == "runtime.NumGoroutine") && okL (bodyF Try.f128) Try.f128.ntmps (bodyF Try.f128)) = true := by kernel_rfl
@[go_sem] theorem lrp_82_2 : lrp Try.prog 82 2 = (12, []) := by kernel_rfl
@[go_sem] theorem lrp_82_4 : lrp Try.prog 82 4 = (12, []) := by kernel_rfl
@[go_sem] theorem lrp_82_14 : lrp Try.prog 82 14 = (5, []) := by kernel_rfl
@[go_sem] theorem lrp_82_16 : lrp Try.prog 82 16 = (7, []) := by kernel_rfl
@[go_sem] theorem lrp_82_21 : lrp Try.prog 82 21 = (15, []) := by kernel_rfl
theorem lok_82 : (Try.f82.body.isSome && !(Try.f82.name == "runtime.NumGoroutine") && okL (bodyF Try.f82) Try.f82.ntmps (bodyF Try.f82)) = true := by kernel_rfl
theorem lok_33 : (Try.f33.body.isSome && !(Try.f33.name == "runtime.NumGoroutine") && okL (bodyF Try.f33) Try.f33.ntmps (bodyF Try.f33)) = true := by kernel_rfl
section
attribute [local instance] mu_120_122
def M_levels_Levels_adopt.l0 (x : Int × Int × Int × T_levels_Levels) : Option (T_levels_Levels) :=
  if (decide (x.2.2.1 < (x.2.2.2.Joins.length : Int))) = true then
    (getI x.2.2.2.Joins x.2.2.1) >>= fun (e2 : T_levels_Join) =>
    if (e2.Home == (-1)) = true then
      M_levels_Levels_adopt.l0 (x.1, x.2.1, (w64 (x.2.2.1 + 1)), (⟨(x.2.2.2.Joins.set (x.2.2.1).toNat (⟨e2.Pred, e2.Left, e2.Right, x.2.1⟩ : T_levels_Join)), x.2.2.2.Ops⟩ : T_levels_Levels))
    else
      M_levels_Levels_adopt.l0 (x.1, x.2.1, (w64 (x.2.2.1 + 1)), x.2.2.2)
  else
    some x.2.2.2
  partial_fixpoint
theorem M_levels_Levels_adopt.l0.ws : (∀ (x : Int × Int × Int × T_levels_Levels) (o : T_levels_Levels), M_levels_Levels_adopt.l0 x = some o → (fun (x : Int × Int × Int × T_levels_Levels) (o : T_levels_Levels) => ∀ (lo : Option Nat) (c : LCtx) (Q : Exit → LEnv → Prop) (hb : ∀ s : T_levels_Levels, o = s → Q (.exit 0) ⟨[(0, .lref 2000000 0), (2, .v (.i64 x.1)), (3, .v (.i64 x.2.1))], [(2000000, [.own 81000000 17 (s.Joins.map T_levels_Join.av), .own 81000001 6 (s.Ops.map T_levels_Op.av)])]⟩), LLoop Try.prog 128 lo c 0 (VQ Q) ⟨[(0, .lref 2000000 0), (2, .v (.i64 x.1)), (3, .v (.i64 x.2.1)), (8, .v (.i64 x.2.2.1))], [(2000000, [.own 81000000 17 (x.2.2.2.Joins.map T_levels_Join.av), .own 81000001 6 (x.2.2.2.Ops.map T_levels_Op.av)])]⟩) x o) := by
  refine M_levels_Levels_adopt.l0.partial_correctness _ ?_
  · intro M_M_levels_Levels_adopt_l0 ih_M_levels_Levels_adopt_l0 x o h
    intro lo c Q hb
    refine LLoop.step mix fn_128 (by kernel_rfl) ?_
    simp -implicitDefEqProofs only [go_sem, Try.f128]
    by_cases h1 : (decide (x.2.2.1 < (x.2.2.2.Joins.length : Int))) = true
    · replace h := ite_some h h1
      try simp -implicitDefEqProofs only [go_sem, h1]
      obtain ⟨e2, h3, h⟩ := bind_some' h; replace h3 := getI_some h3; obtain ⟨h3', h3⟩ := h3; have h3v : x.2.2.1 < (x.2.2.2.Joins.length : Int) := by have := (List.getElem?_eq_some_iff.1 h3).1; omega
      try simp -implicitDefEqProofs only [go_sem, h1, h3, h3', h3v]
      by_cases h4 : (e2.Home == (-1)) = true
      · replace h := ite_some h h4
        try simp -implicitDefEqProofs only [go_sem, h1, h3, h3', h3v, h4]
        refine LStV.map (F := T_levels_Join.av) (xs := x.2.2.2.Joins) (x := e2) (x' := (⟨e2.Pred, e2.Left, e2.Right, x.2.1⟩ : T_levels_Join)) (by (first | rfl | (simp -implicitDefEqProofs only [go_sem, h1, h3, h3', h3v, h4] <;> rfl))) (by (first | rfl | (simp -implicitDefEqProofs only [go_sem, h1, h3, h3', h3v, h4] <;> rfl))) (by rfl) (by rfl) (by rfl) h3 (by first | rfl | (first | rfl | (simp -implicitDefEqProofs only [go_sem, h1, h3, h3', h3v, h4] <;> rfl))) ?_
        try simp -implicitDefEqProofs only [go_sem, h1, h3, h3', h3v, h4]
        exact LLoop.view [(81000000, some 81000000), (81000001, some 81000001)] (by (first | rfl | (simp -implicitDefEqProofs only [go_sem, h1, h3, h3', h3v, h4] <;> rfl))) (ih_M_levels_Levels_adopt_l0 _ _ h lo c Q hb)
      · replace h := ite_none h h4; replace h4 := bfalse h4
        try simp -implicitDefEqProofs only [go_sem, h1, h3, h3', h3v, h4]
        exact LLoop.view [(81000000, some 81000000), (81000001, some 81000001)] (by (first | rfl | (simp -implicitDefEqProofs only [go_sem, h1, h3, h3', h3v, h4] <;> rfl))) (ih_M_levels_Levels_adopt_l0 _ _ h lo c Q hb)
    · replace h := ite_none h h1; replace h1 := bfalse h1
      try simp -implicitDefEqProofs only [go_sem, h1]
      injection h with h; subst h
      exact .inr ⟨[(81000000, some 81000000), (81000001, some 81000001)], _, by (simp -implicitDefEqProofs only [go_sem, h1] <;> first | done | rfl | trivial), hb _ rfl⟩
theorem M_levels_Levels_adopt.l0.w : type_of% (M_levels_Levels_adopt.l0.ws) := M_levels_Levels_adopt.l0.ws
end
section
attribute [local instance] mu_120_122
def M_levels_Levels_adopt.l1 (x : Int × Int × T_levels_Levels) : Option (T_levels_Levels) :=
  if (decide (x.2.1 < (x.2.2.Ops.length : Int))) = true then
    (getI x.2.2.Ops x.2.1) >>= fun (e8 : T_levels_Op) =>
    if (e8.Home == (-1)) = true then
      M_levels_Levels_adopt.l1 (x.1, (w64 (x.2.1 + 1)), (⟨x.2.2.Joins, (x.2.2.Ops.set (x.2.1).toNat (⟨e8.Kind, e8.Conj, e8.Left, e8.Right, e8.Own, x.1⟩ : T_levels_Op))⟩ : T_levels_Levels))
    else
      M_levels_Levels_adopt.l1 (x.1, (w64 (x.2.1 + 1)), x.2.2)
  else
    some x.2.2
  partial_fixpoint
theorem M_levels_Levels_adopt.l1.ws : (∀ (x : Int × Int × T_levels_Levels) (o : T_levels_Levels), M_levels_Levels_adopt.l1 x = some o → (fun (x : Int × Int × T_levels_Levels) (o : T_levels_Levels) => ∀ (lo : Option Nat) (c : LCtx) (Q : Exit → LEnv → Prop) (hb : ∀ s : T_levels_Levels, o = s → Q (.exit 2) ⟨[], [(2000000, [.own 81000000 17 (s.Joins.map T_levels_Join.av), .own 81000001 6 (s.Ops.map T_levels_Op.av)])]⟩), LLoop Try.prog 128 lo c 1 (VQ Q) ⟨[(0, .lref 2000000 0), (3, .v (.i64 x.1)), (9, .v (.i64 x.2.1))], [(2000000, [.own 81000000 17 (x.2.2.Joins.map T_levels_Join.av), .own 81000001 6 (x.2.2.Ops.map T_levels_Op.av)])]⟩) x o) := by
  refine M_levels_Levels_adopt.l1.partial_correctness _ ?_
  · intro M_M_levels_Levels_adopt_l1 ih_M_levels_Levels_adopt_l1 x o h
    intro lo c Q hb
    refine LLoop.step mix fn_128 (by kernel_rfl) ?_
    simp -implicitDefEqProofs only [go_sem, Try.f128]
    by_cases h7 : (decide (x.2.1 < (x.2.2.Ops.length : Int))) = true
    · replace h := ite_some h h7
      try simp -implicitDefEqProofs only [go_sem, h7]
      obtain ⟨e8, h9, h⟩ := bind_some' h; replace h9 := getI_some h9; obtain ⟨h9', h9⟩ := h9; have h9v : x.2.1 < (x.2.2.Ops.length : Int) := by have := (List.getElem?_eq_some_iff.1 h9).1; omega
      try simp -implicitDefEqProofs only [go_sem, h7, h9, h9', h9v]
      by_cases h10 : (e8.Home == (-1)) = true
      · replace h := ite_some h h10
        try simp -implicitDefEqProofs only [go_sem, h7, h9, h9', h9v, h10]
        refine LStV.map (F := T_levels_Op.av) (xs := x.2.2.Ops) (x := e8) (x' := (⟨e8.Kind, e8.Conj, e8.Left, e8.Right, e8.Own, x.1⟩ : T_levels_Op)) (by (first | rfl | (simp -implicitDefEqProofs only [go_sem, h7, h9, h9', h9v, h10] <;> rfl))) (by (first | rfl | (simp -implicitDefEqProofs only [go_sem, h7, h9, h9', h9v, h10] <;> rfl))) (by rfl) (by rfl) (by rfl) h9 (by first | rfl | (first | rfl | (simp -implicitDefEqProofs only [go_sem, h7, h9, h9', h9v, h10] <;> rfl))) ?_
        try simp -implicitDefEqProofs only [go_sem, h7, h9, h9', h9v, h10]
        exact LLoop.view [(81000000, some 81000000), (81000001, some 81000001)] (by (first | rfl | (simp -implicitDefEqProofs only [go_sem, h7, h9, h9', h9v, h10] <;> rfl))) (ih_M_levels_Levels_adopt_l1 _ _ h lo c Q hb)
      · replace h := ite_none h h10; replace h10 := bfalse h10
        try simp -implicitDefEqProofs only [go_sem, h7, h9, h9', h9v, h10]
        exact LLoop.view [(81000000, some 81000000), (81000001, some 81000001)] (by (first | rfl | (simp -implicitDefEqProofs only [go_sem, h7, h9, h9', h9v, h10] <;> rfl))) (ih_M_levels_Levels_adopt_l1 _ _ h lo c Q hb)
    · replace h := ite_none h h7; replace h7 := bfalse h7
      try simp -implicitDefEqProofs only [go_sem, h7]
      injection h with h; subst h
      exact .inr ⟨[(81000000, some 81000000), (81000001, some 81000001)], _, by (simp -implicitDefEqProofs only [go_sem, h7] <;> first | done | rfl | trivial), hb _ rfl⟩
theorem M_levels_Levels_adopt.l1.w : type_of% (M_levels_Levels_adopt.l1.ws) := M_levels_Levels_adopt.l1.ws
end
section
attribute [local instance] mu_120_122
def M_levels_Levels_adopt (x : Int × Int × Int × T_levels_Levels) : Option (T_levels_Levels) :=
  M_levels_Levels_adopt.l0 (x.2.1, x.2.2.1, x.1, x.2.2.2) >>= fun (o5 : T_levels_Levels) =>
  M_levels_Levels_adopt.l1 (x.2.2.1, x.2.1, o5) >>= fun (o11 : T_levels_Levels) =>
  some o11
theorem M_levels_Levels_adopt.w : ∀ (x : Int × Int × Int × T_levels_Levels) (r : T_levels_Levels), M_levels_Levels_adopt x = some r → (fun (x : Int × Int × Int × T_levels_Levels) (r : T_levels_Levels) => FnB Try.prog 128 [(2000000, [.own 60000000 17 (x.2.2.2.Joins.map T_levels_Join.av), .own 60000001 6 (x.2.2.2.Ops.map T_levels_Op.av)])] [.p 2000000, .a (.i64 x.1), .a (.i64 x.2.1), .a (.i64 x.2.2.1)] (.tuple []) [(2000000, [.own 60000000 17 (r.Joins.map T_levels_Join.av), .own 60000001 6 (r.Ops.map T_levels_Op.av)])]) x r := by
  intro x r h
  rw [M_levels_Levels_adopt] at h
  try dsimp only
  refine FnB.of_lc mix fn_128 lok_128 (by rfl) (by rfl) fun c => ?_
  simp -implicitDefEqProofs only [go_sem, Try.f128]
  obtain ⟨o5, h6, h⟩ := bind_some' h
  refine LLoop.viewQ (LLoop.view [(81000000, some 60000000), (81000001, some 60000001)] (by (first | rfl | (simp -implicitDefEqProofs only [go_sem] <;> rfl))) (M_levels_Levels_adopt.l0.w (x.2.1, x.2.2.1, x.1, x.2.2.2) _ h6 _ _ _ ?_))
  intro s' hs'; subst hs'
  try simp -implicitDefEqProofs only [go_sem]
  obtain ⟨o11, h12, h⟩ := bind_some' h
  refine LLoop.viewQ (LLoop.view [(81000000, some 81000000), (81000001, some 81000001)] (by (first | rfl | (simp -implicitDefEqProofs only [go_sem] <;> rfl))) (M_levels_Levels_adopt.l1.w (x.2.2.1, x.2.1, o5) _ h12 _ _ _ ?_))
  intro s' hs'; subst hs'
  try simp -implicitDefEqProofs only [go_sem]
  injection h with h; subst h
  first | exact ⟨by (first | rfl | (simp -implicitDefEqProofs only [go_sem] <;> rfl)), [(60000000, some 81000000), (60000001, some 81000001)], by rfl, by (first | rfl | (simp -implicitDefEqProofs only [go_sem] <;> rfl))⟩ | exact ⟨by (first | rfl | (simp -implicitDefEqProofs only [go_sem] <;> rfl)), [(60000000, some 81000000), (60000001, some 81000001)], by rfl⟩ | exact ⟨by (first | rfl | (simp -implicitDefEqProofs only [go_sem] <;> rfl)), [(60000000, some 81000000), (60000001, some 81000001)], by (simp -implicitDefEqProofs only [go_sem] <;> first | done | rfl | trivial)⟩ | exact ⟨[(60000000, some 81000000), (60000001, some 81000001)], by rfl, by (first | rfl | (simp -implicitDefEqProofs only [go_sem] <;> rfl))⟩ | exact ⟨[(60000000, some 81000000), (60000001, some 81000001)], by rfl, by (simp -implicitDefEqProofs only [go_sem] <;> first | done | rfl | trivial)⟩
end
section
attribute [local instance] mu_120_122
def M_levels_Levels_add.l0 (x : Set64 × Set64 × List T_api_Pred × Int × Int × T_levels_Op × T_levels_Levels) : Option (T_levels_Op × T_levels_Levels) :=
  if (decide (x.2.2.2.2.1 < x.2.2.2.1)) = true then
    (getI x.2.2.1 x.2.2.2.2.1) >>= fun (e21 : T_api_Pred) =>
    M_pred_Tables e21 >>= fun r23 =>
    M_pred_Copy e21 >>= fun r25 =>
    (room 128 x.2.2.2.2.2.1.Conj ([r25])) >>= fun (z27 : List T_api_Pred) =>
    M_levels_Levels_add.l0 (x.1, x.2.1, x.2.2.1, x.2.2.2.1, (w64 (x.2.2.2.2.1 + 1)), (⟨x.2.2.2.2.2.1.Kind, z27, (x.2.2.2.2.2.1.Left ||| (r23 &&& x.1)), (x.2.2.2.2.2.1.Right ||| (r23 &&& x.2.1)), x.2.2.2.2.2.1.Own, x.2.2.2.2.2.1.Home⟩ : T_levels_Op), x.2.2.2.2.2.2)
  else
    some (x.2.2.2.2.2.1, x.2.2.2.2.2.2)
  partial_fixpoint
theorem M_levels_Levels_add.l0.ws : (∀ (x : Set64 × Set64 × List T_api_Pred × Int × Int × T_levels_Op × T_levels_Levels) (o : T_levels_Op × T_levels_Levels), M_levels_Levels_add.l0 x = some o → (fun (x : Set64 × Set64 × List T_api_Pred × Int × Int × T_levels_Op × T_levels_Levels) (o : T_levels_Op × T_levels_Levels) => ∀ (lo : Option Nat) (c : LCtx) (Q : Exit → LEnv → Prop) (hb : ∀ s : T_levels_Op × T_levels_Levels, o = s → Q (.exit 0) ⟨[(0, .lref 2000000 0), (8, .lref 8 0)], [(8, [.v (.i64 s.1.Kind), .own 20000801 14 (s.1.Conj.map T_api_Pred.av), .v (.w s.1.Left), .v (.w s.1.Right), .v (.w s.1.Own), .v (.i64 s.1.Home)]), (2000000, [.own 81000000 17 (s.2.Joins.map T_levels_Join.av), .own 81000001 6 (s.2.Ops.map T_levels_Op.av)])]⟩), LLoop Try.prog 82 lo c 0 (VQ Q) ⟨[(0, .lref 2000000 0), (4, .v (.w x.1)), (5, .v (.w x.2.1)), (8, .lref 8 0), (75, .v (.slice .foreign (x.2.2.1.map T_api_Pred.av))), (76, .v (.i64 x.2.2.2.1)), (77, .v (.i64 x.2.2.2.2.1))], [(8, [.v (.i64 x.2.2.2.2.2.1.Kind), .own 20000801 14 (x.2.2.2.2.2.1.Conj.map T_api_Pred.av), .v (.w x.2.2.2.2.2.1.Left), .v (.w x.2.2.2.2.2.1.Right), .v (.w x.2.2.2.2.2.1.Own), .v (.i64 x.2.2.2.2.2.1.Home)]), (2000000, [.own 81000000 17 (x.2.2.2.2.2.2.Joins.map T_levels_Join.av), .own 81000001 6 (x.2.2.2.2.2.2.Ops.map T_levels_Op.av)])]⟩) x o) := by
  refine M_levels_Levels_add.l0.partial_correctness _ ?_
  · intro M_M_levels_Levels_add_l0 ih_M_levels_Levels_add_l0 x o h
    intro lo c Q hb
    refine LLoop.step mix fn_82 (by kernel_rfl) ?_
    simp -implicitDefEqProofs only [go_sem, Try.f82]
    by_cases h20 : (decide (x.2.2.2.2.1 < x.2.2.2.1)) = true
    · replace h := ite_some h h20
      try simp -implicitDefEqProofs only [go_sem, h20]
      obtain ⟨e21, h22, h⟩ := bind_some' h; replace h22 := getI_some h22; obtain ⟨h22', h22⟩ := h22
      try simp -implicitDefEqProofs only [go_sem, h20, h22, h22']
      obtain ⟨r23, h24, h⟩ := bind_some' h
      refine .plain _ _ rfl (M_pred_Tables.w e21 _ h24) ?_
      try simp -implicitDefEqProofs only [go_sem, h20, h22, h22']
      obtain ⟨r25, h26, h⟩ := bind_some' h
      refine .plain _ _ rfl (M_pred_Copy.w e21 _ h26) ?_
      try simp -implicitDefEqProofs only [go_sem, h20, h22, h22']
      obtain ⟨z27, h28, h⟩ := bind_some' h; replace h28 := room_some h28; obtain ⟨h28', rfl⟩ := h28
      refine LApp.map (F := T_api_Pred.av) (xs := x.2.2.2.2.2.1.Conj) (ys := [r25]) t33_elem t42_size t42_bytes t42_zsize rfl T_api_Pred.len (by (first | rfl | (simp -implicitDefEqProofs only [go_sem, h20, h22, h22'] <;> rfl))) (by (first | rfl | (simp -implicitDefEqProofs only [go_sem, h20, h22, h22'] <;> rfl))) h28' ?_
      try simp -implicitDefEqProofs only [go_sem, h20, h22, h22']
      exact LLoop.view [(20000801, some 102), (81000000, some 81000000), (81000001, some 81000001)] (by (first | rfl | (simp -implicitDefEqProofs only [go_sem, h20, h22, h22'] <;> rfl))) (ih_M_levels_Levels_add_l0 _ _ h lo c Q hb)
    · replace h := ite_none h h20; replace h20 := bfalse h20
      try simp -implicitDefEqProofs only [go_sem, h20]
      injection h with h; subst h
      exact .inr ⟨[(20000801, some 20000801), (81000000, some 81000000), (81000001, some 81000001)], _, by (simp -implicitDefEqProofs only [go_sem, h20] <;> first | done | rfl | trivial), hb _ rfl⟩
theorem M_levels_Levels_add.l0.w : type_of% (M_levels_Levels_add.l0.ws) := M_levels_Levels_add.l0.ws
end
section
attribute [local instance] mu_120_122
def M_levels_Levels_add.l1 (x : Set64 × Set64 × List T_api_Pred × Int × Int × T_levels_Levels) : Option (T_levels_Levels) :=
  if (decide (x.2.2.2.2.1 < x.2.2.2.1)) = true then
    (getI x.2.2.1 x.2.2.2.2.1) >>= fun (e34 : T_api_Pred) =>
    M_pred_Tables e34 >>= fun r36 =>
    M_pred_Copy e34 >>= fun r38 =>
    (room 152 x.2.2.2.2.2.Joins ([(⟨r38, (r36 &&& x.1), (r36 &&& x.2.1), -1⟩ : T_levels_Join)])) >>= fun (z40 : List T_levels_Join) =>
    M_levels_Levels_add.l1 (x.1, x.2.1, x.2.2.1, x.2.2.2.1, (w64 (x.2.2.2.2.1 + 1)), (⟨z40, x.2.2.2.2.2.Ops⟩ : T_levels_Levels))
  else
    some x.2.2.2.2.2
  partial_fixpoint
theorem M_levels_Levels_add.l1.ws : (∀ (x : Set64 × Set64 × List T_api_Pred × Int × Int × T_levels_Levels) (o : T_levels_Levels), M_levels_Levels_add.l1 x = some o → (fun (x : Set64 × Set64 × List T_api_Pred × Int × Int × T_levels_Levels) (o : T_levels_Levels) => ∀ (lo : Option Nat) (c : LCtx) (Q : Exit → LEnv → Prop) (hb : ∀ s : T_levels_Levels, o = s → Q (.exit 2) ⟨[], [(2000000, [.own 81000000 17 (s.Joins.map T_levels_Join.av), .own 81000001 6 (s.Ops.map T_levels_Op.av)])]⟩), LLoop Try.prog 82 lo c 1 (VQ Q) ⟨[(0, .lref 2000000 0), (4, .v (.w x.1)), (5, .v (.w x.2.1)), (116, .v (.slice .foreign (x.2.2.1.map T_api_Pred.av))), (117, .v (.i64 x.2.2.2.1)), (118, .v (.i64 x.2.2.2.2.1))], [(2000000, [.own 81000000 17 (x.2.2.2.2.2.Joins.map T_levels_Join.av), .own 81000001 6 (x.2.2.2.2.2.Ops.map T_levels_Op.av)])]⟩) x o) := by
  refine M_levels_Levels_add.l1.partial_correctness _ ?_
  · intro M_M_levels_Levels_add_l1 ih_M_levels_Levels_add_l1 x o h
    intro lo c Q hb
    refine LLoop.step mix fn_82 (by kernel_rfl) ?_
    simp -implicitDefEqProofs only [go_sem, Try.f82]
    by_cases h33 : (decide (x.2.2.2.2.1 < x.2.2.2.1)) = true
    · replace h := ite_some h h33
      try simp -implicitDefEqProofs only [go_sem, h33]
      obtain ⟨e34, h35, h⟩ := bind_some' h; replace h35 := getI_some h35; obtain ⟨h35', h35⟩ := h35
      try simp -implicitDefEqProofs only [go_sem, h33, h35, h35']
      obtain ⟨r36, h37, h⟩ := bind_some' h
      refine .plain _ _ rfl (M_pred_Tables.w e34 _ h37) ?_
      try simp -implicitDefEqProofs only [go_sem, h33, h35, h35']
      obtain ⟨r38, h39, h⟩ := bind_some' h
      refine .plain _ _ rfl (M_pred_Copy.w e34 _ h39) ?_
      try simp -implicitDefEqProofs only [go_sem, h33, h35, h35']
      obtain ⟨z40, h41, h⟩ := bind_some' h; replace h41 := room_some h41; obtain ⟨h41', rfl⟩ := h41
      refine LApp.map (F := T_levels_Join.av) (xs := x.2.2.2.2.2.Joins) (ys := [(⟨r38, (r36 &&& x.1), (r36 &&& x.2.1), -1⟩ : T_levels_Join)]) t59_elem t122_size t122_bytes t122_zsize rfl T_levels_Join.len (by (first | rfl | (simp -implicitDefEqProofs only [go_sem, h33, h35, h35'] <;> rfl))) (by (first | rfl | (simp -implicitDefEqProofs only [go_sem, h33, h35, h35'] <;> rfl))) h41' ?_
      try simp -implicitDefEqProofs only [go_sem, h33, h35, h35']
      exact LLoop.view [(81000000, some 50000139), (81000001, some 81000001)] (by (first | rfl | (simp -implicitDefEqProofs only [go_sem, h33, h35, h35'] <;> rfl))) (ih_M_levels_Levels_add_l1 _ _ h lo c Q hb)
    · replace h := ite_none h h33; replace h33 := bfalse h33
      try simp -implicitDefEqProofs only [go_sem, h33]
      injection h with h; subst h
      exact .inr ⟨[(81000000, some 81000000), (81000001, some 81000001)], _, by (simp -implicitDefEqProofs only [go_sem, h33] <;> first | done | rfl | trivial), hb _ rfl⟩
theorem M_levels_Levels_add.l1.w : type_of% (M_levels_Levels_add.l1.ws) := M_levels_Levels_add.l1.ws
end
section
attribute [local instance] mu_120_122
def M_levels_Levels_add (x : T_api_Tree × T_levels_Levels) : Option (T_levels_Levels) :=
  if (x.1.Kind == 0) = true then
    some x.2
  else
    if ((x.1.Kids.length : Int) != 2) = true then
      some x.2
    else
      (x.1.Kids[0]?) >>= fun (e3 : T_api_Tree) =>
      M_tree_Tables e3 >>= fun r5 =>
      (x.1.Kids[1]?) >>= fun (e7 : T_api_Tree) =>
      M_tree_Tables e7 >>= fun r9 =>
      M_levels_Levels_add (e3, x.2) >>= fun r11 =>
      M_levels_Levels_add (e7, r11) >>= fun r13 =>
      if (x.1.Kind != 1) = true then
        M_levels_count e7 >>= fun r16 =>
        M_levels_Levels_adopt ((r11.Joins.length : Int), (r11.Ops.length : Int), (w64 ((r11.Ops.length : Int) + r16)), r13) >>= fun r18 =>
        M_levels_Levels_add.l0 (r5, r9, x.1.Conj, (x.1.Conj.length : Int), 0, (⟨x.1.Kind, [], 0#64, 0#64, r9, -1⟩ : T_levels_Op), r18) >>= fun (o29 : T_levels_Op × T_levels_Levels) =>
        (room 64 o29.2.Ops ([o29.1])) >>= fun (z31 : List T_levels_Op) =>
        some (⟨o29.2.Joins, z31⟩ : T_levels_Levels)
      else
        M_levels_Levels_add.l1 (r5, r9, x.1.Conj, (x.1.Conj.length : Int), 0, r13) >>= fun (o42 : T_levels_Levels) =>
        some o42
  partial_fixpoint
theorem M_levels_Levels_add.ws : (∀ (x : T_api_Tree × T_levels_Levels) (o : T_levels_Levels), M_levels_Levels_add x = some o → (fun (x : T_api_Tree × T_levels_Levels) (r : T_levels_Levels) => FnB Try.prog 82 [(2000000, [.own 60000000 17 (x.2.Joins.map T_levels_Join.av), .own 60000001 6 (x.2.Ops.map T_levels_Op.av)])] [.p 2000000, .a (.agg [.i64 x.1.Kind, .i64 x.1.Table, .slice .foreign (x.1.Kids.map T_api_Tree.av), .slice .foreign (x.1.Conj.map T_api_Pred.av), .bool x.1.Hash])] (.tuple []) [(2000000, [.own 60000000 17 (r.Joins.map T_levels_Join.av), .own 60000001 6 (r.Ops.map T_levels_Op.av)])]) x o) := by
  refine M_levels_Levels_add.partial_correctness _ ?_
  · intro M_M_levels_Levels_add ih_M_levels_Levels_add x r h
    refine FnB.of_lc mix fn_82 lok_82 (by rfl) (by rfl) fun c => ?_
    simp -implicitDefEqProofs only [go_sem, Try.f82]
    by_cases h1 : (x.1.Kind == 0) = true
    · replace h := ite_some h h1
      try simp -implicitDefEqProofs only [go_sem, h1]
      injection h with h; subst h
      first | exact ⟨by (first | rfl | (simp -implicitDefEqProofs only [go_sem, h1] <;> rfl)), [(60000000, some 60000000), (60000001, some 60000001)], by rfl, by (first | rfl | (simp -implicitDefEqProofs only [go_sem, h1] <;> rfl))⟩ | exact ⟨by (first | rfl | (simp -implicitDefEqProofs only [go_sem, h1] <;> rfl)), [(60000000, some 60000000), (60000001, some 60000001)], by rfl⟩ | exact ⟨by (first | rfl | (simp -implicitDefEqProofs only [go_sem, h1] <;> rfl)), [(60000000, some 60000000), (60000001, some 60000001)], by (simp -implicitDefEqProofs only [go_sem, h1] <;> first | done | rfl | trivial)⟩ | exact ⟨[(60000000, some 60000000), (60000001, some 60000001)], by rfl, by (first | rfl | (simp -implicitDefEqProofs only [go_sem, h1] <;> rfl))⟩ | exact ⟨[(60000000, some 60000000), (60000001, some 60000001)], by rfl, by (simp -implicitDefEqProofs only [go_sem, h1] <;> first | done | rfl | trivial)⟩
    · replace h := ite_none h h1; replace h1 := bfalse h1
      try simp -implicitDefEqProofs only [go_sem, h1]
      by_cases h2 : ((x.1.Kids.length : Int) != 2) = true
      · replace h := ite_some h h2
        try simp -implicitDefEqProofs only [go_sem, h1, h2]
        injection h with h; subst h
        first | exact ⟨by (first | rfl | (simp -implicitDefEqProofs only [go_sem, h1, h2] <;> rfl)), [(60000000, some 60000000), (60000001, some 60000001)], by rfl, by (first | rfl | (simp -implicitDefEqProofs only [go_sem, h1, h2] <;> rfl))⟩ | exact ⟨by (first | rfl | (simp -implicitDefEqProofs only [go_sem, h1, h2] <;> rfl)), [(60000000, some 60000000), (60000001, some 60000001)], by rfl⟩ | exact ⟨by (first | rfl | (simp -implicitDefEqProofs only [go_sem, h1, h2] <;> rfl)), [(60000000, some 60000000), (60000001, some 60000001)], by (simp -implicitDefEqProofs only [go_sem, h1, h2] <;> first | done | rfl | trivial)⟩ | exact ⟨[(60000000, some 60000000), (60000001, some 60000001)], by rfl, by (first | rfl | (simp -implicitDefEqProofs only [go_sem, h1, h2] <;> rfl))⟩ | exact ⟨[(60000000, some 60000000), (60000001, some 60000001)], by rfl, by (simp -implicitDefEqProofs only [go_sem, h1, h2] <;> first | done | rfl | trivial)⟩
      · replace h := ite_none h h2; replace h2 := bfalse h2
        try simp -implicitDefEqProofs only [go_sem, h1, h2]
        obtain ⟨e3, h4, h⟩ := bind_some' h
        try simp -implicitDefEqProofs only [go_sem, h1, h2, h4]
        obtain ⟨r5, h6, h⟩ := bind_some' h
        refine .plain _ _ rfl (M_tree_Tables.w e3 _ h6) ?_
        try simp -implicitDefEqProofs only [go_sem, h1, h2, h4]
        obtain ⟨e7, h8, h⟩ := bind_some' h
        try simp -implicitDefEqProofs only [go_sem, h1, h2, h4, h8]
        obtain ⟨r9, h10, h⟩ := bind_some' h
        refine .plain _ _ rfl (M_tree_Tables.w e7 _ h10) ?_
        try simp -implicitDefEqProofs only [go_sem, h1, h2, h4, h8]
        obtain ⟨r11, h12, h⟩ := bind_some' h
        have hw := ih_M_levels_Levels_add (e3, x.2) _ h12
        refine .vars [(60000000, some 60000000), (60000001, some 60000001)] [(2000000, 2000000)] _ _ _ _ hw (by (first | rfl | (simp -implicitDefEqProofs only [go_sem, h1, h2, h4, h8] <;> rfl))) (by rfl) (by rfl) (by rfl) (by rfl) (by (first | rfl | (simp -implicitDefEqProofs only [go_sem, h1, h2, h4, h8] <;> rfl))) (by (first | rfl | (simp -implicitDefEqProofs only [go_sem, h1, h2, h4, h8] <;> rfl))) (by (first | rfl | (simp -implicitDefEqProofs only [go_sem, h1, h2, h4, h8] <;> rfl))) ?_
        clear hw
        try simp -implicitDefEqProofs only [go_sem, h1, h2, h4, h8]
        obtain ⟨r13, h14, h⟩ := bind_some' h
        have hw := ih_M_levels_Levels_add (e7, r11) _ h14
        refine .vars [(60000000, some 60000000), (60000001, some 60000001)] [(2000000, 2000000)] _ _ _ _ hw (by (first | rfl | (simp -implicitDefEqProofs only [go_sem, h1, h2, h4, h8] <;> rfl))) (by rfl) (by rfl) (by rfl) (by rfl) (by (first | rfl | (simp -implicitDefEqProofs only [go_sem, h1, h2, h4, h8] <;> rfl))) (by (first | rfl | (simp -implicitDefEqProofs only [go_sem, h1, h2, h4, h8] <;> rfl))) (by (first | rfl | (simp -implicitDefEqProofs only [go_sem, h1, h2, h4, h8] <;> rfl))) ?_
        clear hw
        try simp -implicitDefEqProofs only [go_sem, h1, h2, h4, h8]
        by_cases h15 : (x.1.Kind != 1) = true
        · replace h := ite_some h h15
          try simp -implicitDefEqProofs only [go_sem, h1, h2, h4, h8, h15]
          obtain ⟨r16, h17, h⟩ := bind_some' h
          refine .plain _ _ rfl (M_levels_count.w e7 _ h17) ?_
          try simp -implicitDefEqProofs only [go_sem, h1, h2, h4, h8, h15]
          obtain ⟨r18, h19, h⟩ := bind_some' h
          have hw := M_levels_Levels_adopt.w ((r11.Joins.length : Int), (r11.Ops.length : Int), (w64 ((r11.Ops.length : Int) + r16)), r13) _ h19
          refine .vars [(60000000, some 60000000), (60000001, some 60000001)] [(2000000, 2000000)] _ _ _ _ hw (by (first | rfl | (simp -implicitDefEqProofs only [go_sem, h1, h2, h4, h8, h15] <;> rfl))) (by rfl) (by rfl) (by rfl) (by rfl) (by (first | rfl | (simp -implicitDefEqProofs only [go_sem, h1, h2, h4, h8, h15] <;> rfl))) (by (first | rfl | (simp -implicitDefEqProofs only [go_sem, h1, h2, h4, h8, h15] <;> rfl))) (by (first | rfl | (simp -implicitDefEqProofs only [go_sem, h1, h2, h4, h8, h15] <;> rfl))) ?_
          clear hw
          try simp -implicitDefEqProofs only [go_sem, h1, h2, h4, h8, h15]
          obtain ⟨o29, h30, h⟩ := bind_some' h
          refine LLoop.viewQ (LLoop.view [(20000801, none), (81000000, some 60000000), (81000001, some 60000001)] (by (first | rfl | (simp -implicitDefEqProofs only [go_sem, h1, h2, h4, h8, h15] <;> rfl))) (M_levels_Levels_add.l0.w (r5, r9, x.1.Conj, (x.1.Conj.length : Int), 0, (⟨x.1.Kind, [], 0#64, 0#64, r9, -1⟩ : T_levels_Op), r18) _ h30 _ _ _ ?_))
          intro s' hs'; subst hs'
          try simp -implicitDefEqProofs only [go_sem, h1, h2, h4, h8, h15]
          obtain ⟨z31, h32, h⟩ := bind_some' h; replace h32 := room_some h32; obtain ⟨h32', rfl⟩ := h32
          refine LApp.map (F := T_levels_Op.av) (xs := o29.2.Ops) (ys := [o29.1]) t60_elem t120_size t120_bytes t120_zsize rfl T_levels_Op.len (by (first | rfl | (simp -implicitDefEqProofs only [go_sem, h1, h2, h4, h8, h15] <;> rfl))) (by (first | rfl | (simp -implicitDefEqProofs only [go_sem, h1, h2, h4, h8, h15] <;> rfl))) h32' ?_
          try simp -implicitDefEqProofs only [go_sem, h1, h2, h4, h8, h15]
          injection h with h; subst h
          first | exact ⟨by (first | rfl | (simp -implicitDefEqProofs only [go_sem, h1, h2, h4, h8, h15] <;> rfl)), [(60000000, some 81000000), (60000001, some 50000112)], by rfl, by (first | rfl | (simp -implicitDefEqProofs only [go_sem, h1, h2, h4, h8, h15] <;> rfl))⟩ | exact ⟨by (first | rfl | (simp -implicitDefEqProofs only [go_sem, h1, h2, h4, h8, h15] <;> rfl)), [(60000000, some 81000000), (60000001, some 50000112)], by rfl⟩ | exact ⟨by (first | rfl | (simp -implicitDefEqProofs only [go_sem, h1, h2, h4, h8, h15] <;> rfl)), [(60000000, some 81000000), (60000001, some 50000112)], by (simp -implicitDefEqProofs only [go_sem, h1, h2, h4, h8, h15] <;> first | done | rfl | trivial)⟩ | exact ⟨[(60000000, some 81000000), (60000001, some 50000112)], by rfl, by (first | rfl | (simp -implicitDefEqProofs only [go_sem, h1, h2, h4, h8, h15] <;> rfl))⟩ | exact ⟨[(60000000, some 81000000), (60000001, some 50000112)], by rfl, by (simp -implicitDefEqProofs only [go_sem, h1, h2, h4, h8, h15] <;> first | done | rfl | trivial)⟩
        · replace h := ite_none h h15; replace h15 := bfalse h15
          try simp -implicitDefEqProofs only [go_sem, h1, h2, h4, h8, h15]
          obtain ⟨o42, h43, h⟩ := bind_some' h
          refine LLoop.viewQ (LLoop.view [(81000000, some 60000000), (81000001, some 60000001)] (by (first | rfl | (simp -implicitDefEqProofs only [go_sem, h1, h2, h4, h8, h15] <;> rfl))) (M_levels_Levels_add.l1.w (r5, r9, x.1.Conj, (x.1.Conj.length : Int), 0, r13) _ h43 _ _ _ ?_))
          intro s' hs'; subst hs'
          try simp -implicitDefEqProofs only [go_sem, h1, h2, h4, h8, h15]
          injection h with h; subst h
          first | exact ⟨by (first | rfl | (simp -implicitDefEqProofs only [go_sem, h1, h2, h4, h8, h15] <;> rfl)), [(60000000, some 81000000), (60000001, some 81000001)], by rfl, by (first | rfl | (simp -implicitDefEqProofs only [go_sem, h1, h2, h4, h8, h15] <;> rfl))⟩ | exact ⟨by (first | rfl | (simp -implicitDefEqProofs only [go_sem, h1, h2, h4, h8, h15] <;> rfl)), [(60000000, some 81000000), (60000001, some 81000001)], by rfl⟩ | exact ⟨by (first | rfl | (simp -implicitDefEqProofs only [go_sem, h1, h2, h4, h8, h15] <;> rfl)), [(60000000, some 81000000), (60000001, some 81000001)], by (simp -implicitDefEqProofs only [go_sem, h1, h2, h4, h8, h15] <;> first | done | rfl | trivial)⟩ | exact ⟨[(60000000, some 81000000), (60000001, some 81000001)], by rfl, by (first | rfl | (simp -implicitDefEqProofs only [go_sem, h1, h2, h4, h8, h15] <;> rfl))⟩ | exact ⟨[(60000000, some 81000000), (60000001, some 81000001)], by rfl, by (simp -implicitDefEqProofs only [go_sem, h1, h2, h4, h8, h15] <;> first | done | rfl | trivial)⟩
theorem M_levels_Levels_add.w : type_of% (M_levels_Levels_add.ws) := M_levels_Levels_add.ws
end
section
attribute [local instance] mu_120_122
def M_levels_Of (x : T_api_Tree) : Option (T_levels_Levels) :=
  M_levels_Levels_add (x, (⟨[], []⟩ : T_levels_Levels)) >>= fun r1 =>
  some r1
theorem M_levels_Of.w : ∀ (x : T_api_Tree) (r : T_levels_Levels), M_levels_Of x = some r → (fun (x : T_api_Tree) (r : T_levels_Levels) => Fn Try.prog 33 [.agg (T_api_Tree.C x)] (.agg (T_levels_Levels.C r))) x r := by
  intro x r h
  rw [M_levels_Of] at h
  try dsimp only
  refine Fn.of_lc mix fn_33 lok_33 (by rfl) (flC (T_api_Tree.flatC _) (flN)) (T_levels_Levels.flatC _) ?_
  simp -implicitDefEqProofs only [go_sem, Try.f33]
  obtain ⟨r1, h2, h⟩ := bind_some' h
  have hw := M_levels_Levels_add.w (x, (⟨[], []⟩ : T_levels_Levels)) _ h2
  refine .vars [(60000000, none), (60000001, none)] [(2000000, 3)] _ _ _ _ hw (by (first | rfl | (simp -implicitDefEqProofs only [go_sem] <;> rfl))) (by rfl) (by rfl) (by rfl) (by rfl) (by (first | rfl | (simp -implicitDefEqProofs only [go_sem] <;> rfl))) (by (first | rfl | (simp -implicitDefEqProofs only [go_sem] <;> rfl))) (by (first | rfl | (simp -implicitDefEqProofs only [go_sem] <;> rfl))) ?_
  clear hw
  try simp -implicitDefEqProofs only [go_sem]
  injection h with h; subst h
  first | rfl | (simp -implicitDefEqProofs only [go_sem] <;> rfl)
end
end Go.Proofs.Ytakmilmckdllfaa.G
set_option linter.unusedVariables false
set_option linter.unusedSimpArgs false
set_option maxRecDepth 100000
namespace Go.Proofs.Ytakmilmckdllfaa.G
theorem lok_94 : (Try.f94.body.isSome && !(Try.f94.name == "runtime.NumGoroutine") && okL (bodyF Try.f94) Try.f94.ntmps (bodyF Try.f94)) = true := by kernel_rfl
@[go_sem] theorem lrp_88_1 : lrp Try.prog 88 1 = (9, []) := by kernel_rfl
theorem lok_88 : (Try.f88.body.isSome && !(Try.f88.name == "runtime.NumGoroutine") && okL (bodyF Try.f88) Try.f88.ntmps (bodyF Try.f88)) = true := by kernel_rfl
theorem lok_133 : (Try.f133.body.isSome && !(Try.f133.name == "runtime.NumGoroutine") && okL (bodyF Try.f133) Try.f133.ntmps (bodyF Try.f133)) = true := by kernel_rfl
theorem lok_90 : (Try.f90.body.isSome && !(Try.f90.name == "runtime.NumGoroutine") && okL (bodyF Try.f90) Try.f90.ntmps (bodyF Try.f90)) = true := by kernel_rfl
theorem lok_89 : (Try.f89.body.isSome && !(Try.f89.name == "runtime.NumGoroutine") && okL (bodyF Try.f89) Try.f89.ntmps (bodyF Try.f89)) = true := by kernel_rfl
@[go_sem] theorem lrp_87_1 : lrp Try.prog 87 1 = (15, []) := by kernel_rfl
theorem lok_87 : (Try.f87.body.isSome && !(Try.f87.name == "runtime.NumGoroutine") && okL (bodyF Try.f87) Try.f87.ntmps (bodyF Try.f87)) = true := by kernel_rfl
theorem lok_86 : (Try.f86.body.isSome && !(Try.f86.name == "runtime.NumGoroutine") && okL (bodyF Try.f86) Try.f86.ntmps (bodyF Try.f86)) = true := by kernel_rfl
@[go_sem] theorem lrp_93_1 : lrp Try.prog 93 1 = (17, []) := by kernel_rfl
theorem lok_93 : (Try.f93.body.isSome && !(Try.f93.name == "runtime.NumGoroutine") && okL (bodyF Try.f93) Try.f93.ntmps (bodyF Try.f93)) = true := by kernel_rfl
theorem lok_92 : (Try.f92.body.isSome && !(Try.f92.name == "runtime.NumGoroutine") && okL (bodyF Try.f92) Try.f92.ntmps (bodyF Try.f92)) = true := by kernel_rfl
theorem lok_91 : (Try.f91.body.isSome && !(Try.f91.name == "runtime.NumGoroutine") && okL (bodyF Try.f91) Try.f91.ntmps (bodyF Try.f91)) = true := by kernel_rfl
@[go_sem] theorem lrp_37_13 : lrp Try.prog 37 13 = (7, []) := by kernel_rfl
theorem lok_37 : (Try.f37.body.isSome && !(Try.f37.name == "runtime.NumGoroutine") && okL (bodyF Try.f37) Try.f37.ntmps (bodyF Try.f37)) = true := by kernel_rfl
def M_levels_Levels_own (x : T_levels_Levels × Int) : Option (Set64) :=
  if (decide (x.2 < 0)) = true then
    some (0#64)
  else
    if (decide (x.2 ≥ (x.1.Ops.length : Int))) = true then
      some (0#64)
    else
      (getI x.1.Ops x.2) >>= fun (e3 : T_levels_Op) =>
      some e3.Own
theorem M_levels_Levels_own.w : ∀ (x : T_levels_Levels × Int) (r : Set64), M_levels_Levels_own x = some r → (fun (x : T_levels_Levels × Int) (r : Set64) => Fn Try.prog 94 [.agg (T_levels_Levels.C x.1), .i64 x.2] (.w r)) x r := by
  intro x r h
  rw [M_levels_Levels_own] at h
  try dsimp only
  refine Fn.of_lc mix fn_94 lok_94 (by rfl) (flC (T_levels_Levels.flatC _) (flC (.atom _) (flN))) (.atom _) ?_
  simp -implicitDefEqProofs only [go_sem, Try.f94]
  by_cases h1 : (decide (x.2 < 0)) = true
  · replace h := ite_some h h1
    try simp -implicitDefEqProofs only [go_sem, h1]
    injection h with h; subst h
    first | rfl | (simp -implicitDefEqProofs only [go_sem, h1] <;> rfl)
  · replace h := ite_none h h1; replace h1 := bfalse h1
    try simp -implicitDefEqProofs only [go_sem, h1]
    by_cases h2 : (decide (x.2 ≥ (x.1.Ops.length : Int))) = true
    · replace h := ite_some h h2
      try simp -implicitDefEqProofs only [go_sem, h1, h2]
      injection h with h; subst h
      first | rfl | (simp -implicitDefEqProofs only [go_sem, h1, h2] <;> rfl)
    · replace h := ite_none h h2; replace h2 := bfalse h2
      try simp -implicitDefEqProofs only [go_sem, h1, h2]
      obtain ⟨e3, h4, h⟩ := bind_some' h; replace h4 := getI_some h4; obtain ⟨h4', h4⟩ := h4
      try simp -implicitDefEqProofs only [go_sem, h1, h2, h4, h4']
      injection h with h; subst h
      first | rfl | (simp -implicitDefEqProofs only [go_sem, h1, h2, h4, h4'] <;> rfl)
def M_levels_Levels_place (x : T_levels_Levels × T_levels_Op) : Option (T_levels_place) :=
  M_levels_Levels_own (x.1, x.2.Home) >>= fun r1 =>
  some (⟨x.2.Kind, x.2.Own, r1⟩ : T_levels_place)
theorem M_levels_Levels_place.w : ∀ (x : T_levels_Levels × T_levels_Op) (r : T_levels_place), M_levels_Levels_place x = some r → (fun (x : T_levels_Levels × T_levels_Op) (r : T_levels_place) => Fn Try.prog 88 [.agg (T_levels_Levels.C x.1), .agg (T_levels_Op.C x.2)] (.agg (T_levels_place.C r))) x r := by
  intro x r h
  rw [M_levels_Levels_place] at h
  try dsimp only
  refine Fn.of_lc mix fn_88 lok_88 (by rfl) (flC (T_levels_Levels.flatC _) (flC (T_levels_Op.flatC _) (flN))) (T_levels_place.flatC _) ?_
  simp -implicitDefEqProofs only [go_sem, Try.f88]
  obtain ⟨r1, h2, h⟩ := bind_some' h
  refine .plain _ _ rfl (M_levels_Levels_own.w (x.1, x.2.Home) _ h2) ?_
  try simp -implicitDefEqProofs only [go_sem]
  injection h with h; subst h
  first | rfl | (simp -implicitDefEqProofs only [go_sem] <;> rfl)
def M_term_Same (x : T_api_Term × T_api_Term) : Option (Bool) :=
  some ((x.1.Kind == x.2.Kind) && ((x.1.Table == x.2.Table) && ((x.1.Col == x.2.Col) && ((x.1.Value.Null == x.2.Value.Null) && (x.1.Value.N == x.2.Value.N)))))
theorem M_term_Same.w : ∀ (x : T_api_Term × T_api_Term) (r : Bool), M_term_Same x = some r → (fun (x : T_api_Term × T_api_Term) (r : Bool) => Fn Try.prog 133 [.agg (T_api_Term.C x.1), .agg (T_api_Term.C x.2)] (.bool r)) x r := by
  intro x r h
  rw [M_term_Same] at h
  try dsimp only
  refine Fn.of_lc mix fn_133 lok_133 (by rfl) (flC (T_api_Term.flatC _) (flC (T_api_Term.flatC _) (flN))) (.atom _) ?_
  simp -implicitDefEqProofs only [go_sem, Try.f133]
  injection h with h; subst h
  first | rfl | (simp -implicitDefEqProofs only [go_sem] <;> rfl)
mutual
def M_pred_Same (x : T_api_Pred × T_api_Pred) : Option (Bool) :=
  if (x.1.Kind == x.2.Kind) = true then
    if (x.1.Truth == x.2.Truth) = true then
      if (x.1.Op == x.2.Op) = true then
        M_term_Same (x.1.A, x.2.A) >>= fun r4 =>
        if r4 = true then
          M_term_Same (x.1.B, x.2.B) >>= fun r7 =>
          if r7 = true then
            M_slices_EqualFunc_api_Pred_api_Pred_api_Pred_api_Pred__pred_Same (x.1.Parts, x.2.Parts) >>= fun r10 =>
            some r10
          else
            some false
        else
          some false
      else
        some false
    else
      some false
  else
    some false
  partial_fixpoint
def M_slices_EqualFunc_api_Pred_api_Pred_api_Pred_api_Pred__pred_Same (x : List T_api_Pred × List T_api_Pred) : Option (Bool) :=
  if ((x.1.length : Int) != (x.2.length : Int)) = true then
    some false
  else
    M_slices_EqualFunc_api_Pred_api_Pred_api_Pred_api_Pred__pred_Same.l0 (x.2, x.1, (x.1.length : Int), 0) >>= fun (o10 : Lp (Unit) (Bool)) => match o10 with
    | .brk s13 =>
      some true
    | .ret r12 =>
      some r12
  partial_fixpoint
def M_slices_EqualFunc_api_Pred_api_Pred_api_Pred_api_Pred__pred_Same.l0 (x : List T_api_Pred × List T_api_Pred × Int × Int) : Option (Lp (Unit) (Bool)) :=
  if (decide (x.2.2.2 < x.2.2.1)) = true then
    (getI x.2.1 x.2.2.2) >>= fun (e3 : T_api_Pred) =>
    (getI x.1 x.2.2.2) >>= fun (e5 : T_api_Pred) =>
    M_pred_Same (e3, e5) >>= fun r7 =>
    if r7 = true then
      M_slices_EqualFunc_api_Pred_api_Pred_api_Pred_api_Pred__pred_Same.l0 (x.1, x.2.1, x.2.2.1, (w64 (x.2.2.2 + 1)))
    else
      some (.ret false)
  else
    some (.brk ())
  partial_fixpoint
end
theorem M_pred_Same.ws : (∀ (x : T_api_Pred × T_api_Pred) (o : Bool), M_pred_Same x = some o → (fun (x : T_api_Pred × T_api_Pred) (r : Bool) => Fn Try.prog 90 [.agg (T_api_Pred.C x.1), .agg (T_api_Pred.C x.2)] (.bool r)) x o) ∧ (∀ (x : List T_api_Pred × List T_api_Pred) (o : Bool), M_slices_EqualFunc_api_Pred_api_Pred_api_Pred_api_Pred__pred_Same x = some o → (fun (x : List T_api_Pred × List T_api_Pred) (r : Bool) => Fn Try.prog 89 [.slice .foreign (x.1.map T_api_Pred.av), .slice .foreign (x.2.map T_api_Pred.av), .func 90 [] []] (.bool r)) x o) ∧ (∀ (x : List T_api_Pred × List T_api_Pred × Int × Int) (o : Lp (Unit) (Bool)), M_slices_EqualFunc_api_Pred_api_Pred_api_Pred_api_Pred__pred_Same.l0 x = some o → (fun (x : List T_api_Pred × List T_api_Pred × Int × Int) (o : Lp (Unit) (Bool)) => ∀ (lo : Option Nat) (c : LCtx) (Q : Exit → LEnv → Prop) (hb : ∀ s : Unit, o = Lp.brk s → Q (.exit 0) ⟨[], []⟩) (hr : ∀ (r : Bool) (L : LEnv), o = .ret r → LPostF Try.prog [.tmp 6] (.bool r) (fun _ => True) .ret L → Q .ret L), LLoop Try.prog 89 lo c 0 (VQ Q) ⟨[(1, .v (.slice .foreign (x.1.map T_api_Pred.av))), (2, .v (.func 90 [] [])), (15, .v (.slice .foreign (x.2.1.map T_api_Pred.av))), (16, .v (.i64 x.2.2.1)), (17, .v (.i64 x.2.2.2))], []⟩) x o) := by
  refine M_pred_Same.mutual_partial_correctness _ _ _ ?_ ?_ ?_
  · intro M_M_slices_EqualFunc_api_Pred_api_Pred_api_Pred_api_Pred__pred_Same ih_M_slices_EqualFunc_api_Pred_api_Pred_api_Pred_api_Pred__pred_Same x r h
    refine Fn.of_lc mix fn_90 lok_90 (by rfl) (flC (T_api_Pred.flatC _) (flC (T_api_Pred.flatC _) (flN))) (.atom _) ?_
    simp -implicitDefEqProofs only [go_sem, Try.f90]
    by_cases h1 : (x.1.Kind == x.2.Kind) = true
    · replace h := ite_some h h1
      try simp -implicitDefEqProofs only [go_sem, h1]
      by_cases h2 : (x.1.Truth == x.2.Truth) = true
      · replace h := ite_some h h2
        try simp -implicitDefEqProofs only [go_sem, h1, h2]
        by_cases h3 : (x.1.Op == x.2.Op) = true
        · replace h := ite_some h h3
          try simp -implicitDefEqProofs only [go_sem, h1, h2, h3]
          obtain ⟨r4, h5, h⟩ := bind_some' h
          refine .plain _ _ rfl (M_term_Same.w (x.1.A, x.2.A) _ h5) ?_
          try simp -implicitDefEqProofs only [go_sem, h1, h2, h3]
          by_cases h6 : r4 = true
          · replace h := ite_some h h6
            try simp -implicitDefEqProofs only [go_sem, h1, h2, h3, h6]
            obtain ⟨r7, h8, h⟩ := bind_some' h
            refine .plain _ _ rfl (M_term_Same.w (x.1.B, x.2.B) _ h8) ?_
            try simp -implicitDefEqProofs only [go_sem, h1, h2, h3, h6]
            by_cases h9 : r7 = true
            · replace h := ite_some h h9
              try simp -implicitDefEqProofs only [go_sem, h1, h2, h3, h6, h9]
              obtain ⟨r10, h11, h⟩ := bind_some' h
              refine .plain _ _ rfl (ih_M_slices_EqualFunc_api_Pred_api_Pred_api_Pred_api_Pred__pred_Same (x.1.Parts, x.2.Parts) _ h11) ?_
              try simp -implicitDefEqProofs only [go_sem, h1, h2, h3, h6, h9]
              injection h with h; subst h
              first | rfl | (simp -implicitDefEqProofs only [go_sem, h1, h2, h3, h6, h9] <;> rfl)
            · replace h := ite_none h h9; replace h9 := bfalse h9
              try simp -implicitDefEqProofs only [go_sem, h1, h2, h3, h6, h9]
              injection h with h; subst h
              first | rfl | (simp -implicitDefEqProofs only [go_sem, h1, h2, h3, h6, h9] <;> rfl)
          · replace h := ite_none h h6; replace h6 := bfalse h6
            try simp -implicitDefEqProofs only [go_sem, h1, h2, h3, h6]
            injection h with h; subst h
            first | rfl | (simp -implicitDefEqProofs only [go_sem, h1, h2, h3, h6] <;> rfl)
        · replace h := ite_none h h3; replace h3 := bfalse h3
          try simp -implicitDefEqProofs only [go_sem, h1, h2, h3]
          injection h with h; subst h
          first | rfl | (simp -implicitDefEqProofs only [go_sem, h1, h2, h3] <;> rfl)
      · replace h := ite_none h h2; replace h2 := bfalse h2
        try simp -implicitDefEqProofs only [go_sem, h1, h2]
        injection h with h; subst h
        first | rfl | (simp -implicitDefEqProofs only [go_sem, h1, h2] <;> rfl)
    · replace h := ite_none h h1; replace h1 := bfalse h1
      try simp -implicitDefEqProofs only [go_sem, h1]
      injection h with h; subst h
      first | rfl | (simp -implicitDefEqProofs only [go_sem, h1] <;> rfl)
  · intro M_M_slices_EqualFunc_api_Pred_api_Pred_api_Pred_api_Pred__pred_Same_l0 ih_M_slices_EqualFunc_api_Pred_api_Pred_api_Pred_api_Pred__pred_Same_l0 x r h
    refine Fn.of_lc mix fn_89 lok_89 (by rfl) (flC (flat_slice _ T_api_Pred.flat _) (flC (flat_slice _ T_api_Pred.flat _) (flC (.func _ _ _ (flN) (flN)) (flN)))) (.atom _) ?_
    simp -implicitDefEqProofs only [go_sem, Try.f89]
    by_cases h1 : ((x.1.length : Int) != (x.2.length : Int)) = true
    · replace h := ite_some h h1
      try simp -implicitDefEqProofs only [go_sem, h1]
      injection h with h; subst h
      first | rfl | (simp -implicitDefEqProofs only [go_sem, h1] <;> rfl)
    · replace h := ite_none h h1; replace h1 := bfalse h1
      try simp -implicitDefEqProofs only [go_sem, h1]
      obtain ⟨o10, h11, h⟩ := bind_some' h
      refine LLoop.viewQ (LLoop.view [] (by (first | rfl | (simp -implicitDefEqProofs only [go_sem, h1] <;> rfl))) (ih_M_slices_EqualFunc_api_Pred_api_Pred_api_Pred_api_Pred__pred_Same_l0 (x.2, x.1, (x.1.length : Int), 0) _ h11 _ _ _ ?_ ?_))
      · intro s13 hs'; subst hs'
        try simp -implicitDefEqProofs only [go_sem, h1]
        injection h with h; subst h
        first | rfl | (simp -implicitDefEqProofs only [go_sem, h1] <;> rfl)
      · intro r12 L' hs' hL'; subst hs'
        injection h with h; subst h
        first | exact hL' | (simp -implicitDefEqProofs only [go_sem]; exact hL') | (simp -implicitDefEqProofs only [go_sem]; simp -implicitDefEqProofs only [go_sem] at hL'; exact hL')
  · intro M_M_pred_Same M_M_slices_EqualFunc_api_Pred_api_Pred_api_Pred_api_Pred__pred_Same_l0 ih_M_pred_Same ih_M_slices_EqualFunc_api_Pred_api_Pred_api_Pred_api_Pred__pred_Same_l0 x o h
    intro lo c Q hb hr
    refine LLoop.step mix fn_89 (by kernel_rfl) ?_
    simp -implicitDefEqProofs only [go_sem, Try.f89]
    by_cases h2 : (decide (x.2.2.2 < x.2.2.1)) = true
    · replace h := ite_some h h2
      try simp -implicitDefEqProofs only [go_sem, h2]
      obtain ⟨e3, h4, h⟩ := bind_some' h; replace h4 := getI_some h4; obtain ⟨h4', h4⟩ := h4
      try simp -implicitDefEqProofs only [go_sem, h2, h4, h4']
      obtain ⟨e5, h6, h⟩ := bind_some' h; replace h6 := getI_some h6; obtain ⟨h6', h6⟩ := h6
      try simp -implicitDefEqProofs only [go_sem, h2, h4, h4', h6, h6']
      obtain ⟨r7, h8, h⟩ := bind_some' h
      refine .plain _ _ rfl (ih_M_pred_Same (e3, e5) _ h8) ?_
      try simp -implicitDefEqProofs only [go_sem, h2, h4, h4', h6, h6']
      by_cases h9 : r7 = true
      · replace h := ite_some h h9
        try simp -implicitDefEqProofs only [go_sem, h2, h4, h4', h6, h6', h9]
        exact LLoop.view [] (by (first | rfl | (simp -implicitDefEqProofs only [go_sem, h2, h4, h4', h6, h6', h9] <;> rfl))) (ih_M_slices_EqualFunc_api_Pred_api_Pred_api_Pred_api_Pred__pred_Same_l0 _ _ h lo c Q hb hr)
      · replace h := ite_none h h9; replace h9 := bfalse h9
        try simp -implicitDefEqProofs only [go_sem, h2, h4, h4', h6, h6', h9]
        injection h with h; subst h
        exact .inl (hr _ _ rfl (by (first | rfl | (simp -implicitDefEqProofs only [go_sem, h2, h4, h4', h6, h6', h9] <;> rfl))))
    · replace h := ite_none h h2; replace h2 := bfalse h2
      try simp -implicitDefEqProofs only [go_sem, h2]
      injection h with h; subst h
      exact .inr ⟨[], _, by (simp -implicitDefEqProofs only [go_sem, h2] <;> first | done | rfl | trivial), hb _ rfl⟩
theorem M_pred_Same.w : type_of% (M_pred_Same.ws.1) := M_pred_Same.ws.1
theorem M_slices_EqualFunc_api_Pred_api_Pred_api_Pred_api_Pred__pred_Same.w : type_of% (M_pred_Same.ws.2.1) := M_pred_Same.ws.2.1
def M_levels_Same_1 (x : T_levels_Op × T_levels_Levels × T_levels_Levels × T_levels_Op) : Option (Bool) :=
  M_levels_Levels_place (x.2.1, x.1) >>= fun r1 =>
  M_levels_Levels_place (x.2.2.1, x.2.2.2) >>= fun r3 =>
  if ((r1.kind == r3.kind) && ((r1.own == r3.own) && (r1.home == r3.home))) = true then
    M_slices_EqualFunc_api_Pred_api_Pred_api_Pred_api_Pred__pred_Same (x.1.Conj, x.2.2.2.Conj) >>= fun r6 =>
    some r6
  else
    some false
theorem M_levels_Same_1.w : ∀ (x : T_levels_Op × T_levels_Levels × T_levels_Levels × T_levels_Op) (r : Bool), M_levels_Same_1 x = some r → (fun (x : T_levels_Op × T_levels_Levels × T_levels_Levels × T_levels_Op) (r : Bool) => FnB Try.prog 87 [(3000000, [.v (.slice .foreign (x.2.1.Joins.map T_levels_Join.av)), .v (.slice .foreign (x.2.1.Ops.map T_levels_Op.av))]), (3000001, [.v (.slice .foreign (x.2.2.1.Joins.map T_levels_Join.av)), .v (.slice .foreign (x.2.2.1.Ops.map T_levels_Op.av))]), (3000002, [.v (.i64 x.2.2.2.Kind), .v (.slice .foreign (x.2.2.2.Conj.map T_api_Pred.av)), .v (.w x.2.2.2.Left), .v (.w x.2.2.2.Right), .v (.w x.2.2.2.Own), .v (.i64 x.2.2.2.Home)])] [.a (.agg [.i64 x.1.Kind, .slice .foreign (x.1.Conj.map T_api_Pred.av), .w x.1.Left, .w x.1.Right, .w x.1.Own, .i64 x.1.Home]), .p 3000000, .p 3000001, .p 3000002] (.bool r) [(3000000, [.v (.slice .foreign (x.2.1.Joins.map T_levels_Join.av)), .v (.slice .foreign (x.2.1.Ops.map T_levels_Op.av))]), (3000001, [.v (.slice .foreign (x.2.2.1.Joins.map T_levels_Join.av)), .v (.slice .foreign (x.2.2.1.Ops.map T_levels_Op.av))]), (3000002, [.v (.i64 x.2.2.2.Kind), .v (.slice .foreign (x.2.2.2.Conj.map T_api_Pred.av)), .v (.w x.2.2.2.Left), .v (.w x.2.2.2.Right), .v (.w x.2.2.2.Own), .v (.i64 x.2.2.2.Home)])]) x r := by
  intro x r h
  rw [M_levels_Same_1] at h
  try dsimp only
  refine FnB.of_lc mix fn_87 lok_87 (by rfl) (by rfl) fun c => ?_
  simp -implicitDefEqProofs only [go_sem, Try.f87]
  obtain ⟨r1, h2, h⟩ := bind_some' h
  refine .plain _ _ rfl (M_levels_Levels_place.w (x.2.1, x.1) _ h2) ?_
  try simp -implicitDefEqProofs only [go_sem]
  obtain ⟨r3, h4, h⟩ := bind_some' h
  refine .plain _ _ rfl (M_levels_Levels_place.w (x.2.2.1, x.2.2.2) _ h4) ?_
  try simp -implicitDefEqProofs only [go_sem]
  by_cases h5 : ((r1.kind == r3.kind) && ((r1.own == r3.own) && (r1.home == r3.home))) = true
  · replace h := ite_some h h5
    try simp -implicitDefEqProofs only [go_sem, h5]
    obtain ⟨r6, h7, h⟩ := bind_some' h
    refine .plain _ _ rfl (M_slices_EqualFunc_api_Pred_api_Pred_api_Pred_api_Pred__pred_Same.w (x.1.Conj, x.2.2.2.Conj) _ h7) ?_
    try simp -implicitDefEqProofs only [go_sem, h5]
    injection h with h; subst h
    first | exact ⟨by (first | rfl | (simp -implicitDefEqProofs only [go_sem, h5] <;> rfl)), [], by rfl, by (first | rfl | (simp -implicitDefEqProofs only [go_sem, h5] <;> rfl))⟩ | exact ⟨by (first | rfl | (simp -implicitDefEqProofs only [go_sem, h5] <;> rfl)), [], by rfl⟩ | exact ⟨by (first | rfl | (simp -implicitDefEqProofs only [go_sem, h5] <;> rfl)), [], by (simp -implicitDefEqProofs only [go_sem, h5] <;> first | done | rfl | trivial)⟩ | exact ⟨[], by rfl, by (first | rfl | (simp -implicitDefEqProofs only [go_sem, h5] <;> rfl))⟩ | exact ⟨[], by rfl, by (simp -implicitDefEqProofs only [go_sem, h5] <;> first | done | rfl | trivial)⟩
  · replace h := ite_none h h5; replace h5 := bfalse h5
    try simp -implicitDefEqProofs only [go_sem, h5]
    injection h with h; subst h
    first | exact ⟨by (first | rfl | (simp -implicitDefEqProofs only [go_sem, h5] <;> rfl)), [], by rfl, by (first | rfl | (simp -implicitDefEqProofs only [go_sem, h5] <;> rfl))⟩ | exact ⟨by (first | rfl | (simp -implicitDefEqProofs only [go_sem, h5] <;> rfl)), [], by rfl⟩ | exact ⟨by (first | rfl | (simp -implicitDefEqProofs only [go_sem, h5] <;> rfl)), [], by (simp -implicitDefEqProofs only [go_sem, h5] <;> first | done | rfl | trivial)⟩ | exact ⟨[], by rfl, by (first | rfl | (simp -implicitDefEqProofs only [go_sem, h5] <;> rfl))⟩ | exact ⟨[], by rfl, by (simp -implicitDefEqProofs only [go_sem, h5] <;> first | done | rfl | trivial)⟩
def M_levels_times_levels_Op__levels_Same_1.l0 (x : Int × List T_levels_Op × Int × Int × T_levels_Levels × T_levels_Levels × T_levels_Op) : Option (Int) :=
  if (decide (x.2.2.2.1 < x.2.2.1)) = true then
    (getI x.2.1 x.2.2.2.1) >>= fun (e2 : T_levels_Op) =>
    M_levels_Same_1 (e2, x.2.2.2.2.1, x.2.2.2.2.2.1, x.2.2.2.2.2.2) >>= fun r4 =>
    if r4 = true then
      M_levels_times_levels_Op__levels_Same_1.l0 ((w64 (x.1 + 1)), x.2.1, x.2.2.1, (w64 (x.2.2.2.1 + 1)), x.2.2.2.2.1, x.2.2.2.2.2.1, x.2.2.2.2.2.2)
    else
      M_levels_times_levels_Op__levels_Same_1.l0 (x.1, x.2.1, x.2.2.1, (w64 (x.2.2.2.1 + 1)), x.2.2.2.2.1, x.2.2.2.2.2.1, x.2.2.2.2.2.2)
  else
    some x.1
  partial_fixpoint
theorem M_levels_times_levels_Op__levels_Same_1.l0.ws : (∀ (x : Int × List T_levels_Op × Int × Int × T_levels_Levels × T_levels_Levels × T_levels_Op) (o : Int), M_levels_times_levels_Op__levels_Same_1.l0 x = some o → (fun (x : Int × List T_levels_Op × Int × Int × T_levels_Levels × T_levels_Levels × T_levels_Op) (o : Int) => ∀ (lo : Option Nat) (c : LCtx) (Q : Exit → LEnv → Prop) (hb : ∀ s : Int, o = s → Q (.exit 0) ⟨[(5, .v (.i64 s))], [(3000000, [.v (.slice .foreign (x.2.2.2.2.1.Joins.map T_levels_Join.av)), .v (.slice .foreign (x.2.2.2.2.1.Ops.map T_levels_Op.av))]), (3000001, [.v (.slice .foreign (x.2.2.2.2.2.1.Joins.map T_levels_Join.av)), .v (.slice .foreign (x.2.2.2.2.2.1.Ops.map T_levels_Op.av))]), (3000002, [.v (.i64 x.2.2.2.2.2.2.Kind), .v (.slice .foreign (x.2.2.2.2.2.2.Conj.map T_api_Pred.av)), .v (.w x.2.2.2.2.2.2.Left), .v (.w x.2.2.2.2.2.2.Right), .v (.w x.2.2.2.2.2.2.Own), .v (.i64 x.2.2.2.2.2.2.Home)])]⟩), LLoop Try.prog 86 lo c 0 (VQ Q) ⟨[(1, .fn 87 [] [.p 3000000, .p 3000001, .p 3000002]), (5, .v (.i64 x.1)), (8, .v (.slice .foreign (x.2.1.map T_levels_Op.av))), (9, .v (.i64 x.2.2.1)), (10, .v (.i64 x.2.2.2.1))], [(3000000, [.v (.slice .foreign (x.2.2.2.2.1.Joins.map T_levels_Join.av)), .v (.slice .foreign (x.2.2.2.2.1.Ops.map T_levels_Op.av))]), (3000001, [.v (.slice .foreign (x.2.2.2.2.2.1.Joins.map T_levels_Join.av)), .v (.slice .foreign (x.2.2.2.2.2.1.Ops.map T_levels_Op.av))]), (3000002, [.v (.i64 x.2.2.2.2.2.2.Kind), .v (.slice .foreign (x.2.2.2.2.2.2.Conj.map T_api_Pred.av)), .v (.w x.2.2.2.2.2.2.Left), .v (.w x.2.2.2.2.2.2.Right), .v (.w x.2.2.2.2.2.2.Own), .v (.i64 x.2.2.2.2.2.2.Home)])]⟩) x o) := by
  refine M_levels_times_levels_Op__levels_Same_1.l0.partial_correctness _ ?_
  · intro M_M_levels_times_levels_Op__levels_Same_1_l0 ih_M_levels_times_levels_Op__levels_Same_1_l0 x o h
    intro lo c Q hb
    refine LLoop.step mix fn_86 (by kernel_rfl) ?_
    simp -implicitDefEqProofs only [go_sem, Try.f86]
    by_cases h1 : (decide (x.2.2.2.1 < x.2.2.1)) = true
    · replace h := ite_some h h1
      try simp -implicitDefEqProofs only [go_sem, h1]
      obtain ⟨e2, h3, h⟩ := bind_some' h; replace h3 := getI_some h3; obtain ⟨h3', h3⟩ := h3
      try simp -implicitDefEqProofs only [go_sem, h1, h3, h3']
      obtain ⟨r4, h5, h⟩ := bind_some' h
      have hw := M_levels_Same_1.w (e2, x.2.2.2.2.1, x.2.2.2.2.2.1, x.2.2.2.2.2.2) _ h5
      refine .vars [] [(3000000, 3000000), (3000001, 3000001), (3000002, 3000002)] _ _ _ _ hw (by (first | rfl | (simp -implicitDefEqProofs only [go_sem, h1, h3, h3'] <;> rfl))) (by rfl) (by rfl) (by rfl) (by rfl) (by (first | rfl | (simp -implicitDefEqProofs only [go_sem, h1, h3, h3'] <;> rfl))) (by (first | rfl | (simp -implicitDefEqProofs only [go_sem, h1, h3, h3'] <;> rfl))) (by (first | rfl | (simp -implicitDefEqProofs only [go_sem, h1, h3, h3'] <;> rfl))) ?_
      clear hw
      try simp -implicitDefEqProofs only [go_sem, h1, h3, h3']
      by_cases h6 : r4 = true
      · replace h := ite_some h h6
        try simp -implicitDefEqProofs only [go_sem, h1, h3, h3', h6]
        exact LLoop.view [] (by (first | rfl | (simp -implicitDefEqProofs only [go_sem, h1, h3, h3', h6] <;> rfl))) (ih_M_levels_times_levels_Op__levels_Same_1_l0 _ _ h lo c Q hb)
      · replace h := ite_none h h6; replace h6 := bfalse h6
        try simp -implicitDefEqProofs only [go_sem, h1, h3, h3', h6]
        exact LLoop.view [] (by (first | rfl | (simp -implicitDefEqProofs only [go_sem, h1, h3, h3', h6] <;> rfl))) (ih_M_levels_times_levels_Op__levels_Same_1_l0 _ _ h lo c Q hb)
    · replace h := ite_none h h1; replace h1 := bfalse h1
      try simp -implicitDefEqProofs only [go_sem, h1]
      injection h with h; subst h
      exact .inr ⟨[], _, by (simp -implicitDefEqProofs only [go_sem, h1] <;> first | done | rfl | trivial), hb _ rfl⟩
theorem M_levels_times_levels_Op__levels_Same_1.l0.w : type_of% (M_levels_times_levels_Op__levels_Same_1.l0.ws) := M_levels_times_levels_Op__levels_Same_1.l0.ws
def M_levels_times_levels_Op__levels_Same_1 (x : List T_levels_Op × T_levels_Levels × T_levels_Levels × T_levels_Op) : Option (Int) :=
  M_levels_times_levels_Op__levels_Same_1.l0 (0, x.1, (x.1.length : Int), 0, x.2.1, x.2.2.1, x.2.2.2) >>= fun (o7 : Int) =>
  some o7
theorem M_levels_times_levels_Op__levels_Same_1.w : ∀ (x : List T_levels_Op × T_levels_Levels × T_levels_Levels × T_levels_Op) (r : Int), M_levels_times_levels_Op__levels_Same_1 x = some r → (fun (x : List T_levels_Op × T_levels_Levels × T_levels_Levels × T_levels_Op) (r : Int) => FnB Try.prog 86 [(3000000, [.v (.slice .foreign (x.2.1.Joins.map T_levels_Join.av)), .v (.slice .foreign (x.2.1.Ops.map T_levels_Op.av))]), (3000001, [.v (.slice .foreign (x.2.2.1.Joins.map T_levels_Join.av)), .v (.slice .foreign (x.2.2.1.Ops.map T_levels_Op.av))]), (3000002, [.v (.i64 x.2.2.2.Kind), .v (.slice .foreign (x.2.2.2.Conj.map T_api_Pred.av)), .v (.w x.2.2.2.Left), .v (.w x.2.2.2.Right), .v (.w x.2.2.2.Own), .v (.i64 x.2.2.2.Home)])] [.a (.slice .foreign (x.1.map T_levels_Op.av)), .fn 87 [] [.p 3000000, .p 3000001, .p 3000002]] (.i64 r) [(3000000, [.v (.slice .foreign (x.2.1.Joins.map T_levels_Join.av)), .v (.slice .foreign (x.2.1.Ops.map T_levels_Op.av))]), (3000001, [.v (.slice .foreign (x.2.2.1.Joins.map T_levels_Join.av)), .v (.slice .foreign (x.2.2.1.Ops.map T_levels_Op.av))]), (3000002, [.v (.i64 x.2.2.2.Kind), .v (.slice .foreign (x.2.2.2.Conj.map T_api_Pred.av)), .v (.w x.2.2.2.Left), .v (.w x.2.2.2.Right), .v (.w x.2.2.2.Own), .v (.i64 x.2.2.2.Home)])]) x r := by
  intro x r h
  rw [M_levels_times_levels_Op__levels_Same_1] at h
  try dsimp only
  refine FnB.of_lc mix fn_86 lok_86 (by rfl) (by rfl) fun c => ?_
  simp -implicitDefEqProofs only [go_sem, Try.f86]
  obtain ⟨o7, h8, h⟩ := bind_some' h
  refine LLoop.viewQ (LLoop.view [] (by (first | rfl | (simp -implicitDefEqProofs only [go_sem] <;> rfl))) (M_levels_times_levels_Op__levels_Same_1.l0.w (0, x.1, (x.1.length : Int), 0, x.2.1, x.2.2.1, x.2.2.2) _ h8 _ _ _ ?_))
  intro s' hs'; subst hs'
  try simp -implicitDefEqProofs only [go_sem]
  injection h with h; subst h
  first | exact ⟨by (first | rfl | (simp -implicitDefEqProofs only [go_sem] <;> rfl)), [], by rfl, by (first | rfl | (simp -implicitDefEqProofs only [go_sem] <;> rfl))⟩ | exact ⟨by (first | rfl | (simp -implicitDefEqProofs only [go_sem] <;> rfl)), [], by rfl⟩ | exact ⟨by (first | rfl | (simp -implicitDefEqProofs only [go_sem] <;> rfl)), [], by (simp -implicitDefEqProofs only [go_sem] <;> first | done | rfl | trivial)⟩ | exact ⟨[], by rfl, by (first | rfl | (simp -implicitDefEqProofs only [go_sem] <;> rfl))⟩ | exact ⟨[], by rfl, by (simp -implicitDefEqProofs only [go_sem] <;> first | done | rfl | trivial)⟩
def M_levels_Same.l0 (x : List T_levels_Op × Int × Int × T_levels_Levels × T_levels_Levels) : Option (Lp (T_levels_Levels × T_levels_Levels) (Bool)) :=
  if (decide (x.2.2.1 < x.2.1)) = true then
    (getI x.1 x.2.2.1) >>= fun (e4 : T_levels_Op) =>
    M_levels_times_levels_Op__levels_Same_1 (x.2.2.2.2.Ops, x.2.2.2.2, x.2.2.2.1, e4) >>= fun r6 =>
    if (r6 == 0) = true then
      some (.ret false)
    else
      M_levels_Same.l0 (x.1, x.2.1, (w64 (x.2.2.1 + 1)), x.2.2.2.1, x.2.2.2.2)
  else
    some (.brk (x.2.2.2.1, x.2.2.2.2))
  partial_fixpoint
theorem M_levels_Same.l0.ws : (∀ (x : List T_levels_Op × Int × Int × T_levels_Levels × T_levels_Levels) (o : Lp (T_levels_Levels × T_levels_Levels) (Bool)), M_levels_Same.l0 x = some o → (fun (x : List T_levels_Op × Int × Int × T_levels_Levels × T_levels_Levels) (o : Lp (T_levels_Levels × T_levels_Levels) (Bool)) => ∀ (lo : Option Nat) (c : LCtx) (Q : Exit → LEnv → Prop) (hb : ∀ s : T_levels_Levels × T_levels_Levels, o = Lp.brk s → Q (.exit 0) ⟨[(2, .lref 2 0), (3, .lref 3 0)], [(2, [.v (.slice .foreign (s.1.Joins.map T_levels_Join.av)), .v (.slice .foreign (s.1.Ops.map T_levels_Op.av))]), (3, [.v (.slice .foreign (s.2.Joins.map T_levels_Join.av)), .v (.slice .foreign (s.2.Ops.map T_levels_Op.av))])]⟩) (hr : ∀ (r : Bool) (L : LEnv), o = .ret r → LPostF Try.prog [.tmp 4] (.bool r) (fun _ => True) .ret L → Q .ret L), LLoop Try.prog 37 lo c 0 (VQ Q) ⟨[(2, .lref 2 0), (3, .lref 3 0), (27, .v (.slice .foreign (x.1.map T_levels_Op.av))), (28, .v (.i64 x.2.1)), (29, .v (.i64 x.2.2.1))], [(2, [.v (.slice .foreign (x.2.2.2.1.Joins.map T_levels_Join.av)), .v (.slice .foreign (x.2.2.2.1.Ops.map T_levels_Op.av))]), (3, [.v (.slice .foreign (x.2.2.2.2.Joins.map T_levels_Join.av)), .v (.slice .foreign (x.2.2.2.2.Ops.map T_levels_Op.av))])]⟩) x o) := by
  refine M_levels_Same.l0.partial_correctness _ ?_
  · intro M_M_levels_Same_l0 ih_M_levels_Same_l0 x o h
    intro lo c Q hb hr
    refine LLoop.step mix fn_37 (by kernel_rfl) ?_
    simp -implicitDefEqProofs only [go_sem, Try.f37]
    by_cases h3 : (decide (x.2.2.1 < x.2.1)) = true
    · replace h := ite_some h h3
      try simp -implicitDefEqProofs only [go_sem, h3]
      obtain ⟨e4, h5, h⟩ := bind_some' h; replace h5 := getI_some h5; obtain ⟨h5', h5⟩ := h5
      try simp -implicitDefEqProofs only [go_sem, h3, h5, h5']
      obtain ⟨r6, h7, h⟩ := bind_some' h
      have hw := M_levels_times_levels_Op__levels_Same_1.w (x.2.2.2.2.Ops, x.2.2.2.2, x.2.2.2.1, e4) _ h7
      refine .vars [] [(3000000, 3), (3000001, 2), (3000002, 6)] _ _ _ _ hw (by (first | rfl | (simp -implicitDefEqProofs only [go_sem, h3, h5, h5'] <;> rfl))) (by rfl) (by rfl) (by rfl) (by rfl) (by (first | rfl | (simp -implicitDefEqProofs only [go_sem, h3, h5, h5'] <;> rfl))) (by (first | rfl | (simp -implicitDefEqProofs only [go_sem, h3, h5, h5'] <;> rfl))) (by (first | rfl | (simp -implicitDefEqProofs only [go_sem, h3, h5, h5'] <;> rfl))) ?_
      clear hw
      try simp -implicitDefEqProofs only [go_sem, h3, h5, h5']
      by_cases h8 : (r6 == 0) = true
      · replace h := ite_some h h8
        try simp -implicitDefEqProofs only [go_sem, h3, h5, h5', h8]
        injection h with h; subst h
        exact .inl (hr _ _ rfl (by (first | rfl | (simp -implicitDefEqProofs only [go_sem, h3, h5, h5', h8] <;> rfl))))
      · replace h := ite_none h h8; replace h8 := bfalse h8
        try simp -implicitDefEqProofs only [go_sem, h3, h5, h5', h8]
        exact LLoop.view [] (by (first | rfl | (simp -implicitDefEqProofs only [go_sem, h3, h5, h5', h8] <;> rfl))) (ih_M_levels_Same_l0 _ _ h lo c Q hb hr)
    · replace h := ite_none h h3; replace h3 := bfalse h3
      try simp -implicitDefEqProofs only [go_sem, h3]
      injection h with h; subst h
      exact .inr ⟨[], _, by (simp -implicitDefEqProofs only [go_sem, h3] <;> first | done | rfl | trivial), hb _ rfl⟩
theorem M_levels_Same.l0.w : type_of% (M_levels_Same.l0.ws) := M_levels_Same.l0.ws
def M_levels_Same_2_1 (x : T_levels_Join × T_levels_Join × T_levels_Levels × T_levels_Levels) : Option (Bool) :=
  M_pred_Same (x.1.Pred, x.2.1.Pred) >>= fun r1 =>
  if r1 = true then
    M_levels_Levels_own (x.2.2.1, x.1.Home) >>= fun r4 =>
    M_levels_Levels_own (x.2.2.2, x.2.1.Home) >>= fun r6 =>
    some (r4 == r6)
  else
    some false
theorem M_levels_Same_2_1.w : ∀ (x : T_levels_Join × T_levels_Join × T_levels_Levels × T_levels_Levels) (r : Bool), M_levels_Same_2_1 x = some r → (fun (x : T_levels_Join × T_levels_Join × T_levels_Levels × T_levels_Levels) (r : Bool) => FnB Try.prog 93 [(3000000, [.v (.i64 x.2.1.Pred.Kind), .v (.i64 x.2.1.Pred.Truth), .v (.i64 x.2.1.Pred.Op), .v (.i64 x.2.1.Pred.A.Kind), .v (.i64 x.2.1.Pred.A.Table), .v (.i64 x.2.1.Pred.A.Col), .v (.bool x.2.1.Pred.A.Value.Null), .v (.i64 x.2.1.Pred.A.Value.N), .v (.i64 x.2.1.Pred.B.Kind), .v (.i64 x.2.1.Pred.B.Table), .v (.i64 x.2.1.Pred.B.Col), .v (.bool x.2.1.Pred.B.Value.Null), .v (.i64 x.2.1.Pred.B.Value.N), .v (.slice .foreign (x.2.1.Pred.Parts.map T_api_Pred.av)), .v (.w x.2.1.Left), .v (.w x.2.1.Right), .v (.i64 x.2.1.Home)]), (3000001, [.v (.slice .foreign (x.2.2.1.Joins.map T_levels_Join.av)), .v (.slice .foreign (x.2.2.1.Ops.map T_levels_Op.av))]), (3000002, [.v (.slice .foreign (x.2.2.2.Joins.map T_levels_Join.av)), .v (.slice .foreign (x.2.2.2.Ops.map T_levels_Op.av))])] [.a (.agg [.i64 x.1.Pred.Kind, .i64 x.1.Pred.Truth, .i64 x.1.Pred.Op, .i64 x.1.Pred.A.Kind, .i64 x.1.Pred.A.Table, .i64 x.1.Pred.A.Col, .bool x.1.Pred.A.Value.Null, .i64 x.1.Pred.A.Value.N, .i64 x.1.Pred.B.Kind, .i64 x.1.Pred.B.Table, .i64 x.1.Pred.B.Col, .bool x.1.Pred.B.Value.Null, .i64 x.1.Pred.B.Value.N, .slice .foreign (x.1.Pred.Parts.map T_api_Pred.av), .w x.1.Left, .w x.1.Right, .i64 x.1.Home]), .p 3000000, .p 3000001, .p 3000002] (.bool r) [(3000000, [.v (.i64 x.2.1.Pred.Kind), .v (.i64 x.2.1.Pred.Truth), .v (.i64 x.2.1.Pred.Op), .v (.i64 x.2.1.Pred.A.Kind), .v (.i64 x.2.1.Pred.A.Table), .v (.i64 x.2.1.Pred.A.Col), .v (.bool x.2.1.Pred.A.Value.Null), .v (.i64 x.2.1.Pred.A.Value.N), .v (.i64 x.2.1.Pred.B.Kind), .v (.i64 x.2.1.Pred.B.Table), .v (.i64 x.2.1.Pred.B.Col), .v (.bool x.2.1.Pred.B.Value.Null), .v (.i64 x.2.1.Pred.B.Value.N), .v (.slice .foreign (x.2.1.Pred.Parts.map T_api_Pred.av)), .v (.w x.2.1.Left), .v (.w x.2.1.Right), .v (.i64 x.2.1.Home)]), (3000001, [.v (.slice .foreign (x.2.2.1.Joins.map T_levels_Join.av)), .v (.slice .foreign (x.2.2.1.Ops.map T_levels_Op.av))]), (3000002, [.v (.slice .foreign (x.2.2.2.Joins.map T_levels_Join.av)), .v (.slice .foreign (x.2.2.2.Ops.map T_levels_Op.av))])]) x r := by
  intro x r h
  rw [M_levels_Same_2_1] at h
  try dsimp only
  refine FnB.of_lc mix fn_93 lok_93 (by rfl) (by rfl) fun c => ?_
  simp -implicitDefEqProofs only [go_sem, Try.f93]
  obtain ⟨r1, h2, h⟩ := bind_some' h
  refine .plain _ _ rfl (M_pred_Same.w (x.1.Pred, x.2.1.Pred) _ h2) ?_
  try simp -implicitDefEqProofs only [go_sem]
  by_cases h3 : r1 = true
  · replace h := ite_some h h3
    try simp -implicitDefEqProofs only [go_sem, h3]
    obtain ⟨r4, h5, h⟩ := bind_some' h
    refine .plain _ _ rfl (M_levels_Levels_own.w (x.2.2.1, x.1.Home) _ h5) ?_
    try simp -implicitDefEqProofs only [go_sem, h3]
    obtain ⟨r6, h7, h⟩ := bind_some' h
    refine .plain _ _ rfl (M_levels_Levels_own.w (x.2.2.2, x.2.1.Home) _ h7) ?_
    try simp -implicitDefEqProofs only [go_sem, h3]
    injection h with h; subst h
    first | exact ⟨by (first | rfl | (simp -implicitDefEqProofs only [go_sem, h3] <;> rfl)), [], by rfl, by (first | rfl | (simp -implicitDefEqProofs only [go_sem, h3] <;> rfl))⟩ | exact ⟨by (first | rfl | (simp -implicitDefEqProofs only [go_sem, h3] <;> rfl)), [], by rfl⟩ | exact ⟨by (first | rfl | (simp -implicitDefEqProofs only [go_sem, h3] <;> rfl)), [], by (simp -implicitDefEqProofs only [go_sem, h3] <;> first | done | rfl | trivial)⟩ | exact ⟨[], by rfl, by (first | rfl | (simp -implicitDefEqProofs only [go_sem, h3] <;> rfl))⟩ | exact ⟨[], by rfl, by (simp -implicitDefEqProofs only [go_sem, h3] <;> first | done | rfl | trivial)⟩
  · replace h := ite_none h h3; replace h3 := bfalse h3
    try simp -implicitDefEqProofs only [go_sem, h3]
    injection h with h; subst h
    first | exact ⟨by (first | rfl | (simp -implicitDefEqProofs only [go_sem, h3] <;> rfl)), [], by rfl, by (first | rfl | (simp -implicitDefEqProofs only [go_sem, h3] <;> rfl))⟩ | exact ⟨by (first | rfl | (simp -implicitDefEqProofs only [go_sem, h3] <;> rfl)), [], by rfl⟩ | exact ⟨by (first | rfl | (simp -implicitDefEqProofs only [go_sem, h3] <;> rfl)), [], by (simp -implicitDefEqProofs only [go_sem, h3] <;> first | done | rfl | trivial)⟩ | exact ⟨[], by rfl, by (first | rfl | (simp -implicitDefEqProofs only [go_sem, h3] <;> rfl))⟩ | exact ⟨[], by rfl, by (simp -implicitDefEqProofs only [go_sem, h3] <;> first | done | rfl | trivial)⟩
def M_levels_times_levels_Join__levels_Same_2_1.l0 (x : Int × List T_levels_Join × Int × Int × T_levels_Join × T_levels_Levels × T_levels_Levels) : Option (Int) :=
  if (decide (x.2.2.2.1 < x.2.2.1)) = true then
    (getI x.2.1 x.2.2.2.1) >>= fun (e2 : T_levels_Join) =>
    M_levels_Same_2_1 (e2, x.2.2.2.2.1, x.2.2.2.2.2.1, x.2.2.2.2.2.2) >>= fun r4 =>
    if r4 = true then
      M_levels_times_levels_Join__levels_Same_2_1.l0 ((w64 (x.1 + 1)), x.2.1, x.2.2.1, (w64 (x.2.2.2.1 + 1)), x.2.2.2.2.1, x.2.2.2.2.2.1, x.2.2.2.2.2.2)
    else
      M_levels_times_levels_Join__levels_Same_2_1.l0 (x.1, x.2.1, x.2.2.1, (w64 (x.2.2.2.1 + 1)), x.2.2.2.2.1, x.2.2.2.2.2.1, x.2.2.2.2.2.2)
  else
    some x.1
  partial_fixpoint
theorem M_levels_times_levels_Join__levels_Same_2_1.l0.ws : (∀ (x : Int × List T_levels_Join × Int × Int × T_levels_Join × T_levels_Levels × T_levels_Levels) (o : Int), M_levels_times_levels_Join__levels_Same_2_1.l0 x = some o → (fun (x : Int × List T_levels_Join × Int × Int × T_levels_Join × T_levels_Levels × T_levels_Levels) (o : Int) => ∀ (lo : Option Nat) (c : LCtx) (Q : Exit → LEnv → Prop) (hb : ∀ s : Int, o = s → Q (.exit 0) ⟨[(5, .v (.i64 s))], [(3000000, [.v (.i64 x.2.2.2.2.1.Pred.Kind), .v (.i64 x.2.2.2.2.1.Pred.Truth), .v (.i64 x.2.2.2.2.1.Pred.Op), .v (.i64 x.2.2.2.2.1.Pred.A.Kind), .v (.i64 x.2.2.2.2.1.Pred.A.Table), .v (.i64 x.2.2.2.2.1.Pred.A.Col), .v (.bool x.2.2.2.2.1.Pred.A.Value.Null), .v (.i64 x.2.2.2.2.1.Pred.A.Value.N), .v (.i64 x.2.2.2.2.1.Pred.B.Kind), .v (.i64 x.2.2.2.2.1.Pred.B.Table), .v (.i64 x.2.2.2.2.1.Pred.B.Col), .v (.bool x.2.2.2.2.1.Pred.B.Value.Null), .v (.i64 x.2.2.2.2.1.Pred.B.Value.N), .v (.slice .foreign (x.2.2.2.2.1.Pred.Parts.map T_api_Pred.av)), .v (.w x.2.2.2.2.1.Left), .v (.w x.2.2.2.2.1.Right), .v (.i64 x.2.2.2.2.1.Home)]), (3000001, [.v (.slice .foreign (x.2.2.2.2.2.1.Joins.map T_levels_Join.av)), .v (.slice .foreign (x.2.2.2.2.2.1.Ops.map T_levels_Op.av))]), (3000002, [.v (.slice .foreign (x.2.2.2.2.2.2.Joins.map T_levels_Join.av)), .v (.slice .foreign (x.2.2.2.2.2.2.Ops.map T_levels_Op.av))])]⟩), LLoop Try.prog 92 lo c 0 (VQ Q) ⟨[(1, .fn 93 [] [.p 3000000, .p 3000001, .p 3000002]), (5, .v (.i64 x.1)), (8, .v (.slice .foreign (x.2.1.map T_levels_Join.av))), (9, .v (.i64 x.2.2.1)), (10, .v (.i64 x.2.2.2.1))], [(3000000, [.v (.i64 x.2.2.2.2.1.Pred.Kind), .v (.i64 x.2.2.2.2.1.Pred.Truth), .v (.i64 x.2.2.2.2.1.Pred.Op), .v (.i64 x.2.2.2.2.1.Pred.A.Kind), .v (.i64 x.2.2.2.2.1.Pred.A.Table), .v (.i64 x.2.2.2.2.1.Pred.A.Col), .v (.bool x.2.2.2.2.1.Pred.A.Value.Null), .v (.i64 x.2.2.2.2.1.Pred.A.Value.N), .v (.i64 x.2.2.2.2.1.Pred.B.Kind), .v (.i64 x.2.2.2.2.1.Pred.B.Table), .v (.i64 x.2.2.2.2.1.Pred.B.Col), .v (.bool x.2.2.2.2.1.Pred.B.Value.Null), .v (.i64 x.2.2.2.2.1.Pred.B.Value.N), .v (.slice .foreign (x.2.2.2.2.1.Pred.Parts.map T_api_Pred.av)), .v (.w x.2.2.2.2.1.Left), .v (.w x.2.2.2.2.1.Right), .v (.i64 x.2.2.2.2.1.Home)]), (3000001, [.v (.slice .foreign (x.2.2.2.2.2.1.Joins.map T_levels_Join.av)), .v (.slice .foreign (x.2.2.2.2.2.1.Ops.map T_levels_Op.av))]), (3000002, [.v (.slice .foreign (x.2.2.2.2.2.2.Joins.map T_levels_Join.av)), .v (.slice .foreign (x.2.2.2.2.2.2.Ops.map T_levels_Op.av))])]⟩) x o) := by
  refine M_levels_times_levels_Join__levels_Same_2_1.l0.partial_correctness _ ?_
  · intro M_M_levels_times_levels_Join__levels_Same_2_1_l0 ih_M_levels_times_levels_Join__levels_Same_2_1_l0 x o h
    intro lo c Q hb
    refine LLoop.step mix fn_92 (by kernel_rfl) ?_
    simp -implicitDefEqProofs only [go_sem, Try.f92]
    by_cases h1 : (decide (x.2.2.2.1 < x.2.2.1)) = true
    · replace h := ite_some h h1
      try simp -implicitDefEqProofs only [go_sem, h1]
      obtain ⟨e2, h3, h⟩ := bind_some' h; replace h3 := getI_some h3; obtain ⟨h3', h3⟩ := h3
      try simp -implicitDefEqProofs only [go_sem, h1, h3, h3']
      obtain ⟨r4, h5, h⟩ := bind_some' h
      have hw := M_levels_Same_2_1.w (e2, x.2.2.2.2.1, x.2.2.2.2.2.1, x.2.2.2.2.2.2) _ h5
      refine .vars [] [(3000000, 3000000), (3000001, 3000001), (3000002, 3000002)] _ _ _ _ hw (by (first | rfl | (simp -implicitDefEqProofs only [go_sem, h1, h3, h3'] <;> rfl))) (by rfl) (by rfl) (by rfl) (by rfl) (by (first | rfl | (simp -implicitDefEqProofs only [go_sem, h1, h3, h3'] <;> rfl))) (by (first | rfl | (simp -implicitDefEqProofs only [go_sem, h1, h3, h3'] <;> rfl))) (by (first | rfl | (simp -implicitDefEqProofs only [go_sem, h1, h3, h3'] <;> rfl))) ?_
      clear hw
      try simp -implicitDefEqProofs only [go_sem, h1, h3, h3']
      by_cases h6 : r4 = true
      · replace h := ite_some h h6
        try simp -implicitDefEqProofs only [go_sem, h1, h3, h3', h6]
        exact LLoop.view [] (by (first | rfl | (simp -implicitDefEqProofs only [go_sem, h1, h3, h3', h6] <;> rfl))) (ih_M_levels_times_levels_Join__levels_Same_2_1_l0 _ _ h lo c Q hb)
      · replace h := ite_none h h6; replace h6 := bfalse h6
        try simp -implicitDefEqProofs only [go_sem, h1, h3, h3', h6]
        exact LLoop.view [] (by (first | rfl | (simp -implicitDefEqProofs only [go_sem, h1, h3, h3', h6] <;> rfl))) (ih_M_levels_times_levels_Join__levels_Same_2_1_l0 _ _ h lo c Q hb)
    · replace h := ite_none h h1; replace h1 := bfalse h1
      try simp -implicitDefEqProofs only [go_sem, h1]
      injection h with h; subst h
      exact .inr ⟨[], _, by (simp -implicitDefEqProofs only [go_sem, h1] <;> first | done | rfl | trivial), hb _ rfl⟩
theorem M_levels_times_levels_Join__levels_Same_2_1.l0.w : type_of% (M_levels_times_levels_Join__levels_Same_2_1.l0.ws) := M_levels_times_levels_Join__levels_Same_2_1.l0.ws
def M_levels_times_levels_Join__levels_Same_2_1 (x : List T_levels_Join × T_levels_Join × T_levels_Levels × T_levels_Levels) : Option (Int) :=
  M_levels_times_levels_Join__levels_Same_2_1.l0 (0, x.1, (x.1.length : Int), 0, x.2.1, x.2.2.1, x.2.2.2) >>= fun (o7 : Int) =>
  some o7
theorem M_levels_times_levels_Join__levels_Same_2_1.w : ∀ (x : List T_levels_Join × T_levels_Join × T_levels_Levels × T_levels_Levels) (r : Int), M_levels_times_levels_Join__levels_Same_2_1 x = some r → (fun (x : List T_levels_Join × T_levels_Join × T_levels_Levels × T_levels_Levels) (r : Int) => FnB Try.prog 92 [(3000000, [.v (.i64 x.2.1.Pred.Kind), .v (.i64 x.2.1.Pred.Truth), .v (.i64 x.2.1.Pred.Op), .v (.i64 x.2.1.Pred.A.Kind), .v (.i64 x.2.1.Pred.A.Table), .v (.i64 x.2.1.Pred.A.Col), .v (.bool x.2.1.Pred.A.Value.Null), .v (.i64 x.2.1.Pred.A.Value.N), .v (.i64 x.2.1.Pred.B.Kind), .v (.i64 x.2.1.Pred.B.Table), .v (.i64 x.2.1.Pred.B.Col), .v (.bool x.2.1.Pred.B.Value.Null), .v (.i64 x.2.1.Pred.B.Value.N), .v (.slice .foreign (x.2.1.Pred.Parts.map T_api_Pred.av)), .v (.w x.2.1.Left), .v (.w x.2.1.Right), .v (.i64 x.2.1.Home)]), (3000001, [.v (.slice .foreign (x.2.2.1.Joins.map T_levels_Join.av)), .v (.slice .foreign (x.2.2.1.Ops.map T_levels_Op.av))]), (3000002, [.v (.slice .foreign (x.2.2.2.Joins.map T_levels_Join.av)), .v (.slice .foreign (x.2.2.2.Ops.map T_levels_Op.av))])] [.a (.slice .foreign (x.1.map T_levels_Join.av)), .fn 93 [] [.p 3000000, .p 3000001, .p 3000002]] (.i64 r) [(3000000, [.v (.i64 x.2.1.Pred.Kind), .v (.i64 x.2.1.Pred.Truth), .v (.i64 x.2.1.Pred.Op), .v (.i64 x.2.1.Pred.A.Kind), .v (.i64 x.2.1.Pred.A.Table), .v (.i64 x.2.1.Pred.A.Col), .v (.bool x.2.1.Pred.A.Value.Null), .v (.i64 x.2.1.Pred.A.Value.N), .v (.i64 x.2.1.Pred.B.Kind), .v (.i64 x.2.1.Pred.B.Table), .v (.i64 x.2.1.Pred.B.Col), .v (.bool x.2.1.Pred.B.Value.Null), .v (.i64 x.2.1.Pred.B.Value.N), .v (.slice .foreign (x.2.1.Pred.Parts.map T_api_Pred.av)), .v (.w x.2.1.Left), .v (.w x.2.1.Right), .v (.i64 x.2.1.Home)]), (3000001, [.v (.slice .foreign (x.2.2.1.Joins.map T_levels_Join.av)), .v (.slice .foreign (x.2.2.1.Ops.map T_levels_Op.av))]), (3000002, [.v (.slice .foreign (x.2.2.2.Joins.map T_levels_Join.av)), .v (.slice .foreign (x.2.2.2.Ops.map T_levels_Op.av))])]) x r := by
  intro x r h
  rw [M_levels_times_levels_Join__levels_Same_2_1] at h
  try dsimp only
  refine FnB.of_lc mix fn_92 lok_92 (by rfl) (by rfl) fun c => ?_
  simp -implicitDefEqProofs only [go_sem, Try.f92]
  obtain ⟨o7, h8, h⟩ := bind_some' h
  refine LLoop.viewQ (LLoop.view [] (by (first | rfl | (simp -implicitDefEqProofs only [go_sem] <;> rfl))) (M_levels_times_levels_Join__levels_Same_2_1.l0.w (0, x.1, (x.1.length : Int), 0, x.2.1, x.2.2.1, x.2.2.2) _ h8 _ _ _ ?_))
  intro s' hs'; subst hs'
  try simp -implicitDefEqProofs only [go_sem]
  injection h with h; subst h
  first | exact ⟨by (first | rfl | (simp -implicitDefEqProofs only [go_sem] <;> rfl)), [], by rfl, by (first | rfl | (simp -implicitDefEqProofs only [go_sem] <;> rfl))⟩ | exact ⟨by (first | rfl | (simp -implicitDefEqProofs only [go_sem] <;> rfl)), [], by rfl⟩ | exact ⟨by (first | rfl | (simp -implicitDefEqProofs only [go_sem] <;> rfl)), [], by (simp -implicitDefEqProofs only [go_sem] <;> first | done | rfl | trivial)⟩ | exact ⟨[], by rfl, by (first | rfl | (simp -implicitDefEqProofs only [go_sem] <;> rfl))⟩ | exact ⟨[], by rfl, by (simp -implicitDefEqProofs only [go_sem] <;> first | done | rfl | trivial)⟩
def M_levels_Same_2 (x : T_levels_Levels × T_levels_Join × T_levels_Levels) : Option (Int) :=
  M_levels_times_levels_Join__levels_Same_2_1 (x.1.Joins, x.2.1, x.1, x.2.2) >>= fun r1 =>
  some r1
theorem M_levels_Same_2.w : ∀ (x : T_levels_Levels × T_levels_Join × T_levels_Levels) (r : Int), M_levels_Same_2 x = some r → (fun (x : T_levels_Levels × T_levels_Join × T_levels_Levels) (r : Int) => FnB Try.prog 91 [(3000000, [.v (.i64 x.2.1.Pred.Kind), .v (.i64 x.2.1.Pred.Truth), .v (.i64 x.2.1.Pred.Op), .v (.i64 x.2.1.Pred.A.Kind), .v (.i64 x.2.1.Pred.A.Table), .v (.i64 x.2.1.Pred.A.Col), .v (.bool x.2.1.Pred.A.Value.Null), .v (.i64 x.2.1.Pred.A.Value.N), .v (.i64 x.2.1.Pred.B.Kind), .v (.i64 x.2.1.Pred.B.Table), .v (.i64 x.2.1.Pred.B.Col), .v (.bool x.2.1.Pred.B.Value.Null), .v (.i64 x.2.1.Pred.B.Value.N), .v (.slice .foreign (x.2.1.Pred.Parts.map T_api_Pred.av)), .v (.w x.2.1.Left), .v (.w x.2.1.Right), .v (.i64 x.2.1.Home)]), (3000001, [.v (.slice .foreign (x.2.2.Joins.map T_levels_Join.av)), .v (.slice .foreign (x.2.2.Ops.map T_levels_Op.av))])] [.a (.agg [.slice .foreign (x.1.Joins.map T_levels_Join.av), .slice .foreign (x.1.Ops.map T_levels_Op.av)]), .p 3000000, .p 3000001] (.i64 r) [(3000000, [.v (.i64 x.2.1.Pred.Kind), .v (.i64 x.2.1.Pred.Truth), .v (.i64 x.2.1.Pred.Op), .v (.i64 x.2.1.Pred.A.Kind), .v (.i64 x.2.1.Pred.A.Table), .v (.i64 x.2.1.Pred.A.Col), .v (.bool x.2.1.Pred.A.Value.Null), .v (.i64 x.2.1.Pred.A.Value.N), .v (.i64 x.2.1.Pred.B.Kind), .v (.i64 x.2.1.Pred.B.Table), .v (.i64 x.2.1.Pred.B.Col), .v (.bool x.2.1.Pred.B.Value.Null), .v (.i64 x.2.1.Pred.B.Value.N), .v (.slice .foreign (x.2.1.Pred.Parts.map T_api_Pred.av)), .v (.w x.2.1.Left), .v (.w x.2.1.Right), .v (.i64 x.2.1.Home)]), (3000001, [.v (.slice .foreign (x.2.2.Joins.map T_levels_Join.av)), .v (.slice .foreign (x.2.2.Ops.map T_levels_Op.av))])]) x r := by
  intro x r h
  rw [M_levels_Same_2] at h
  try dsimp only
  refine FnB.of_lc mix fn_91 lok_91 (by rfl) (by rfl) fun c => ?_
  simp -implicitDefEqProofs only [go_sem, Try.f91]
  obtain ⟨r1, h2, h⟩ := bind_some' h
  have hw := M_levels_times_levels_Join__levels_Same_2_1.w (x.1.Joins, x.2.1, x.1, x.2.2) _ h2
  refine .vars [] [(3000000, 3000000), (3000001, 3), (3000002, 3000001)] _ _ _ _ hw (by (first | rfl | (simp -implicitDefEqProofs only [go_sem] <;> rfl))) (by rfl) (by rfl) (by rfl) (by rfl) (by (first | rfl | (simp -implicitDefEqProofs only [go_sem] <;> rfl))) (by (first | rfl | (simp -implicitDefEqProofs only [go_sem] <;> rfl))) (by (first | rfl | (simp -implicitDefEqProofs only [go_sem] <;> rfl))) ?_
  clear hw
  try simp -implicitDefEqProofs only [go_sem]
  injection h with h; subst h
  first | exact ⟨by (first | rfl | (simp -implicitDefEqProofs only [go_sem] <;> rfl)), [], by rfl, by (first | rfl | (simp -implicitDefEqProofs only [go_sem] <;> rfl))⟩ | exact ⟨by (first | rfl | (simp -implicitDefEqProofs only [go_sem] <;> rfl)), [], by rfl⟩ | exact ⟨by (first | rfl | (simp -implicitDefEqProofs only [go_sem] <;> rfl)), [], by (simp -implicitDefEqProofs only [go_sem] <;> first | done | rfl | trivial)⟩ | exact ⟨[], by rfl, by (first | rfl | (simp -implicitDefEqProofs only [go_sem] <;> rfl))⟩ | exact ⟨[], by rfl, by (simp -implicitDefEqProofs only [go_sem] <;> first | done | rfl | trivial)⟩
def M_levels_Same.l1 (x : List T_levels_Join × Int × Int × T_levels_Levels × T_levels_Levels) : Option (Lp (Unit) (Bool)) :=
  if (decide (x.2.2.1 < x.2.1)) = true then
    (getI x.1 x.2.2.1) >>= fun (e14 : T_levels_Join) =>
    M_levels_Same_2 (x.2.2.2.1, e14, x.2.2.2.1) >>= fun r16 =>
    M_levels_Same_2 (x.2.2.2.2, e14, x.2.2.2.1) >>= fun r18 =>
    if (r16 != r18) = true then
      some (.ret false)
    else
      M_levels_Same.l1 (x.1, x.2.1, (w64 (x.2.2.1 + 1)), x.2.2.2.1, x.2.2.2.2)
  else
    some (.brk ())
  partial_fixpoint
theorem M_levels_Same.l1.ws : (∀ (x : List T_levels_Join × Int × Int × T_levels_Levels × T_levels_Levels) (o : Lp (Unit) (Bool)), M_levels_Same.l1 x = some o → (fun (x : List T_levels_Join × Int × Int × T_levels_Levels × T_levels_Levels) (o : Lp (Unit) (Bool)) => ∀ (lo : Option Nat) (c : LCtx) (Q : Exit → LEnv → Prop) (hb : ∀ s : Unit, o = Lp.brk s → Q (.exit 2) ⟨[], []⟩) (hr : ∀ (r : Bool) (L : LEnv), o = .ret r → LPostF Try.prog [.tmp 4] (.bool r) (fun _ => True) .ret L → Q .ret L), LLoop Try.prog 37 lo c 1 (VQ Q) ⟨[(2, .lref 2 0), (3, .lref 3 0), (40, .v (.slice .foreign (x.1.map T_levels_Join.av))), (41, .v (.i64 x.2.1)), (42, .v (.i64 x.2.2.1))], [(2, [.v (.slice .foreign (x.2.2.2.1.Joins.map T_levels_Join.av)), .v (.slice .foreign (x.2.2.2.1.Ops.map T_levels_Op.av))]), (3, [.v (.slice .foreign (x.2.2.2.2.Joins.map T_levels_Join.av)), .v (.slice .foreign (x.2.2.2.2.Ops.map T_levels_Op.av))])]⟩) x o) := by
  refine M_levels_Same.l1.partial_correctness _ ?_
  · intro M_M_levels_Same_l1 ih_M_levels_Same_l1 x o h
    intro lo c Q hb hr
    refine LLoop.step mix fn_37 (by kernel_rfl) ?_
    simp -implicitDefEqProofs only [go_sem, Try.f37]
    by_cases h13 : (decide (x.2.2.1 < x.2.1)) = true
    · replace h := ite_some h h13
      try simp -implicitDefEqProofs only [go_sem, h13]
      obtain ⟨e14, h15, h⟩ := bind_some' h; replace h15 := getI_some h15; obtain ⟨h15', h15⟩ := h15
      try simp -implicitDefEqProofs only [go_sem, h13, h15, h15']
      obtain ⟨r16, h17, h⟩ := bind_some' h
      have hw := M_levels_Same_2.w (x.2.2.2.1, e14, x.2.2.2.1) _ h17
      refine .vars [] [(3000000, 8), (3000001, 2)] _ _ _ _ hw (by (first | rfl | (simp -implicitDefEqProofs only [go_sem, h13, h15, h15'] <;> rfl))) (by rfl) (by rfl) (by rfl) (by rfl) (by (first | rfl | (simp -implicitDefEqProofs only [go_sem, h13, h15, h15'] <;> rfl))) (by (first | rfl | (simp -implicitDefEqProofs only [go_sem, h13, h15, h15'] <;> rfl))) (by (first | rfl | (simp -implicitDefEqProofs only [go_sem, h13, h15, h15'] <;> rfl))) ?_
      clear hw
      try simp -implicitDefEqProofs only [go_sem, h13, h15, h15']
      obtain ⟨r18, h19, h⟩ := bind_some' h
      have hw := M_levels_Same_2.w (x.2.2.2.2, e14, x.2.2.2.1) _ h19
      refine .vars [] [(3000000, 8), (3000001, 2)] _ _ _ _ hw (by (first | rfl | (simp -implicitDefEqProofs only [go_sem, h13, h15, h15'] <;> rfl))) (by rfl) (by rfl) (by rfl) (by rfl) (by (first | rfl | (simp -implicitDefEqProofs only [go_sem, h13, h15, h15'] <;> rfl))) (by (first | rfl | (simp -implicitDefEqProofs only [go_sem, h13, h15, h15'] <;> rfl))) (by (first | rfl | (simp -implicitDefEqProofs only [go_sem, h13, h15, h15'] <;> rfl))) ?_
      clear hw
      try simp -implicitDefEqProofs only [go_sem, h13, h15, h15']
      by_cases h20 : (r16 != r18) = true
      · replace h := ite_some h h20
        try simp -implicitDefEqProofs only [go_sem, h13, h15, h15', h20]
        injection h with h; subst h
        exact .inl (hr _ _ rfl (by (first | rfl | (simp -implicitDefEqProofs only [go_sem, h13, h15, h15', h20] <;> rfl))))
      · replace h := ite_none h h20; replace h20 := bfalse h20
        try simp -implicitDefEqProofs only [go_sem, h13, h15, h15', h20]
        exact LLoop.view [] (by (first | rfl | (simp -implicitDefEqProofs only [go_sem, h13, h15, h15', h20] <;> rfl))) (ih_M_levels_Same_l1 _ _ h lo c Q hb hr)
    · replace h := ite_none h h13; replace h13 := bfalse h13
      try simp -implicitDefEqProofs only [go_sem, h13]
      injection h with h; subst h
      exact .inr ⟨[], _, by (simp -implicitDefEqProofs only [go_sem, h13] <;> first | done | rfl | trivial), hb _ rfl⟩
theorem M_levels_Same.l1.w : type_of% (M_levels_Same.l1.ws) := M_levels_Same.l1.ws
def M_levels_Same (x : T_levels_Levels × T_levels_Levels) : Option (Bool) :=
  if ((x.1.Joins.length : Int) != (x.2.Joins.length : Int)) = true then
    some false
  else
    if ((x.1.Ops.length : Int) != (x.2.Ops.length : Int)) = true then
      some false
    else
      M_levels_Same.l0 (x.1.Ops, (x.1.Ops.length : Int), 0, x.1, x.2) >>= fun (o9 : Lp (T_levels_Levels × T_levels_Levels) (Bool)) => match o9 with
      | .brk s12 =>
        M_levels_Same.l1 (s12.1.Joins, (s12.1.Joins.length : Int), 0, s12.1, s12.2) >>= fun (o21 : Lp (Unit) (Bool)) => match o21 with
        | .brk s24 =>
          some true
        | .ret r23 =>
          some r23
      | .ret r11 =>
        some r11
theorem M_levels_Same.w : ∀ (x : T_levels_Levels × T_levels_Levels) (r : Bool), M_levels_Same x = some r → (fun (x : T_levels_Levels × T_levels_Levels) (r : Bool) => Fn Try.prog 37 [.agg (T_levels_Levels.C x.1), .agg (T_levels_Levels.C x.2)] (.bool r)) x r := by
  intro x r h
  rw [M_levels_Same] at h
  try dsimp only
  refine Fn.of_lc mix fn_37 lok_37 (by rfl) (flC (T_levels_Levels.flatC _) (flC (T_levels_Levels.flatC _) (flN))) (.atom _) ?_
  simp -implicitDefEqProofs only [go_sem, Try.f37]
  by_cases h1 : ((x.1.Joins.length : Int) != (x.2.Joins.length : Int)) = true
  · replace h := ite_some h h1
    try simp -implicitDefEqProofs only [go_sem, h1]
    injection h with h; subst h
    first | rfl | (simp -implicitDefEqProofs only [go_sem, h1] <;> rfl)
  · replace h := ite_none h h1; replace h1 := bfalse h1
    try simp -implicitDefEqProofs only [go_sem, h1]
    by_cases h2 : ((x.1.Ops.length : Int) != (x.2.Ops.length : Int)) = true
    · replace h := ite_some h h2
      try simp -implicitDefEqProofs only [go_sem, h1, h2]
      injection h with h; subst h
      first | rfl | (simp -implicitDefEqProofs only [go_sem, h1, h2] <;> rfl)
    · replace h := ite_none h h2; replace h2 := bfalse h2
      try simp -implicitDefEqProofs only [go_sem, h1, h2]
      obtain ⟨o9, h10, h⟩ := bind_some' h
      refine LLoop.viewQ (LLoop.view [] (by (first | rfl | (simp -implicitDefEqProofs only [go_sem, h1, h2] <;> rfl))) (M_levels_Same.l0.w (x.1.Ops, (x.1.Ops.length : Int), 0, x.1, x.2) _ h10 _ _ _ ?_ ?_))
      · intro s12 hs'; subst hs'
        try simp -implicitDefEqProofs only [go_sem, h1, h2]
        obtain ⟨o21, h22, h⟩ := bind_some' h
        refine LLoop.viewQ (LLoop.view [] (by (first | rfl | (simp -implicitDefEqProofs only [go_sem, h1, h2] <;> rfl))) (M_levels_Same.l1.w (s12.1.Joins, (s12.1.Joins.length : Int), 0, s12.1, s12.2) _ h22 _ _ _ ?_ ?_))
        · intro s24 hs'; subst hs'
          try simp -implicitDefEqProofs only [go_sem, h1, h2]
          injection h with h; subst h
          first | rfl | (simp -implicitDefEqProofs only [go_sem, h1, h2] <;> rfl)
        · intro r23 L' hs' hL'; subst hs'
          injection h with h; subst h
          first | exact hL' | (simp -implicitDefEqProofs only [go_sem]; exact hL') | (simp -implicitDefEqProofs only [go_sem]; simp -implicitDefEqProofs only [go_sem] at hL'; exact hL')
      · intro r11 L' hs' hL'; subst hs'
        injection h with h; subst h
        first | exact hL' | (simp -implicitDefEqProofs only [go_sem]; exact hL') | (simp -implicitDefEqProofs only [go_sem]; simp -implicitDefEqProofs only [go_sem] at hL'; exact hL')
end Go.Proofs.Ytakmilmckdllfaa.G
set_option linter.unusedVariables false
set_option linter.unusedSimpArgs false
set_option maxRecDepth 100000
namespace Go.Proofs.Ytakmilmckdllfaa.G
theorem lok_39 : (Try.f39.body.isSome && !(Try.f39.name == "runtime.NumGoroutine") && okL (bodyF Try.f39) Try.f39.ntmps (bodyF Try.f39)) = true := by kernel_rfl
def M_levels_Within.l0 (x : Int × Int × Int × Int × T_levels_Levels) : Option (Lp (Unit) (Bool)) :=
  if (decide (x.2.2.2.1 < x.2.2.1)) = true then
    if (decide (x.1 < 0)) = true then
      some (.ret false)
    else
      if (decide (x.1 ≥ (x.2.2.2.2.Ops.length : Int))) = true then
        some (.ret false)
      else
        (getI x.2.2.2.2.Ops x.1) >>= fun (e4 : T_levels_Op) =>
        if (e4.Home == x.2.1) = true then
          some (.ret true)
        else
          M_levels_Within.l0 (e4.Home, x.2.1, x.2.2.1, (w64 (x.2.2.2.1 + 1)), x.2.2.2.2)
  else
    some (.brk ())
  partial_fixpoint
theorem M_levels_Within.l0.ws : (∀ (x : Int × Int × Int × Int × T_levels_Levels) (o : Lp (Unit) (Bool)), M_levels_Within.l0 x = some o → (fun (x : Int × Int × Int × Int × T_levels_Levels) (o : Lp (Unit) (Bool)) => ∀ (lo : Option Nat) (c : LCtx) (Q : Exit → LEnv → Prop) (hb : ∀ s : Unit, o = Lp.brk s → Q (.exit 0) ⟨[], []⟩) (hr : ∀ (r : Bool) (L : LEnv), o = .ret r → LPostF Try.prog [.tmp 6] (.bool r) (fun _ => True) .ret L → Q .ret L), LLoop Try.prog 39 lo c 0 (VQ Q) ⟨[(1, .v (.i64 x.1)), (2, .v (.i64 x.2.1)), (3, .lref 3 0), (9, .v (.i64 x.2.2.1)), (10, .v (.i64 x.2.2.2.1))], [(3, [.v (.slice .foreign (x.2.2.2.2.Joins.map T_levels_Join.av)), .v (.slice .foreign (x.2.2.2.2.Ops.map T_levels_Op.av))])]⟩) x o) := by
  refine M_levels_Within.l0.partial_correctness _ ?_
  · intro M_M_levels_Within_l0 ih_M_levels_Within_l0 x o h
    intro lo c Q hb hr
    refine LLoop.step mix fn_39 (by kernel_rfl) ?_
    simp -implicitDefEqProofs only [go_sem, Try.f39]
    by_cases h1 : (decide (x.2.2.2.1 < x.2.2.1)) = true
    · replace h := ite_some h h1
      try simp -implicitDefEqProofs only [go_sem, h1]
      by_cases h2 : (decide (x.1 < 0)) = true
      · replace h := ite_some h h2
        try simp -implicitDefEqProofs only [go_sem, h1, h2]
        injection h with h; subst h
        exact .inl (hr _ _ rfl (by (first | rfl | (simp -implicitDefEqProofs only [go_sem, h1, h2] <;> rfl))))
      · replace h := ite_none h h2; replace h2 := bfalse h2
        try simp -implicitDefEqProofs only [go_sem, h1, h2]
        by_cases h3 : (decide (x.1 ≥ (x.2.2.2.2.Ops.length : Int))) = true
        · replace h := ite_some h h3
          try simp -implicitDefEqProofs only [go_sem, h1, h2, h3]
          injection h with h; subst h
          exact .inl (hr _ _ rfl (by (first | rfl | (simp -implicitDefEqProofs only [go_sem, h1, h2, h3] <;> rfl))))
        · replace h := ite_none h h3; replace h3 := bfalse h3
          try simp -implicitDefEqProofs only [go_sem, h1, h2, h3]
          obtain ⟨e4, h5, h⟩ := bind_some' h; replace h5 := getI_some h5; obtain ⟨h5', h5⟩ := h5
          try simp -implicitDefEqProofs only [go_sem, h1, h2, h3, h5, h5']
          by_cases h6 : (e4.Home == x.2.1) = true
          · replace h := ite_some h h6
            try simp -implicitDefEqProofs only [go_sem, h1, h2, h3, h5, h5', h6]
            injection h with h; subst h
            exact .inl (hr _ _ rfl (by (first | rfl | (simp -implicitDefEqProofs only [go_sem, h1, h2, h3, h5, h5', h6] <;> rfl))))
          · replace h := ite_none h h6; replace h6 := bfalse h6
            try simp -implicitDefEqProofs only [go_sem, h1, h2, h3, h5, h5', h6]
            exact LLoop.view [] (by (first | rfl | (simp -implicitDefEqProofs only [go_sem, h1, h2, h3, h5, h5', h6] <;> rfl))) (ih_M_levels_Within_l0 _ _ h lo c Q hb hr)
    · replace h := ite_none h h1; replace h1 := bfalse h1
      try simp -implicitDefEqProofs only [go_sem, h1]
      injection h with h; subst h
      exact .inr ⟨[], _, by (simp -implicitDefEqProofs only [go_sem, h1] <;> first | done | rfl | trivial), hb _ rfl⟩
theorem M_levels_Within.l0.w : type_of% (M_levels_Within.l0.ws) := M_levels_Within.l0.ws
def M_levels_Within (x : T_levels_Levels × Int × Int) : Option (Bool) :=
  M_levels_Within.l0 (x.2.1, x.2.2, (x.1.Ops.length : Int), 0, x.1) >>= fun (o7 : Lp (Unit) (Bool)) => match o7 with
  | .brk s10 =>
    some false
  | .ret r9 =>
    some r9
theorem M_levels_Within.w : ∀ (x : T_levels_Levels × Int × Int) (r : Bool), M_levels_Within x = some r → (fun (x : T_levels_Levels × Int × Int) (r : Bool) => Fn Try.prog 39 [.agg (T_levels_Levels.C x.1), .i64 x.2.1, .i64 x.2.2] (.bool r)) x r := by
  intro x r h
  rw [M_levels_Within] at h
  try dsimp only
  refine Fn.of_lc mix fn_39 lok_39 (by rfl) (flC (T_levels_Levels.flatC _) (flC (.atom _) (flC (.atom _) (flN)))) (.atom _) ?_
  simp -implicitDefEqProofs only [go_sem, Try.f39]
  obtain ⟨o7, h8, h⟩ := bind_some' h
  refine LLoop.viewQ (LLoop.view [] (by (first | rfl | (simp -implicitDefEqProofs only [go_sem] <;> rfl))) (M_levels_Within.l0.w (x.2.1, x.2.2, (x.1.Ops.length : Int), 0, x.1) _ h8 _ _ _ ?_ ?_))
  · intro s10 hs'; subst hs'
    try simp -implicitDefEqProofs only [go_sem]
    injection h with h; subst h
    first | rfl | (simp -implicitDefEqProofs only [go_sem] <;> rfl)
  · intro r9 L' hs' hL'; subst hs'
    injection h with h; subst h
    first | exact hL' | (simp -implicitDefEqProofs only [go_sem]; exact hL') | (simp -implicitDefEqProofs only [go_sem]; simp -implicitDefEqProofs only [go_sem] at hL'; exact hL')
end Go.Proofs.Ytakmilmckdllfaa.G
set_option linter.unusedVariables false
set_option linter.unusedSimpArgs false
set_option maxRecDepth 100000
namespace Go.Proofs.Ytakmilmckdllfaa.G
@[go_sem] theorem lrp_74_6 : lrp Try.prog 74 6 = (12, []) := by kernel_rfl
theorem lok_74 : (Try.f74.body.isSome && !(Try.f74.name == "runtime.NumGoroutine") && okL (bodyF Try.f74) Try.f74.ntmps (bodyF Try.f74)) = true := by kernel_rfl
mutual
def M_ref06_Same.l0 (x : Int × T_api_Pred × T_api_Pred) : Option (Lp (Unit) (Bool)) :=
  if (decide (x.1 < (x.2.1.Parts.length : Int))) = true then
    (getI x.2.1.Parts x.1) >>= fun (e8 : T_api_Pred) =>
    (getI x.2.2.Parts x.1) >>= fun (e10 : T_api_Pred) =>
    M_ref06_Same (e8, e10) >>= fun r12 =>
    if r12 = true then
      M_ref06_Same.l0 ((w64 (x.1 + 1)), x.2.1, x.2.2)
    else
      some (.ret false)
  else
    some (.brk ())
  partial_fixpoint
def M_ref06_Same (x : T_api_Pred × T_api_Pred) : Option (Bool) :=
  if (x.1.Kind != x.2.Kind) = true then
    some false
  else
    if (x.1.Truth != x.2.Truth) = true then
      some false
    else
      if (x.1.Op != x.2.Op) = true then
        some false
      else
        if ((x.1.A.Kind == x.2.A.Kind) && ((x.1.A.Table == x.2.A.Table) && ((x.1.A.Col == x.2.A.Col) && ((x.1.A.Value.Null == x.2.A.Value.Null) && (x.1.A.Value.N == x.2.A.Value.N))))) = true then
          if ((x.1.B.Kind == x.2.B.Kind) && ((x.1.B.Table == x.2.B.Table) && ((x.1.B.Col == x.2.B.Col) && ((x.1.B.Value.Null == x.2.B.Value.Null) && (x.1.B.Value.N == x.2.B.Value.N))))) = true then
            if ((x.1.Parts.length : Int) != (x.2.Parts.length : Int)) = true then
              some false
            else
              M_ref06_Same.l0 (0, x.1, x.2) >>= fun (o15 : Lp (Unit) (Bool)) => match o15 with
              | .brk s18 =>
                some true
              | .ret r17 =>
                some r17
          else
            some false
        else
          some false
  partial_fixpoint
end
theorem M_ref06_Same.l0.ws : (∀ (x : Int × T_api_Pred × T_api_Pred) (o : Lp (Unit) (Bool)), M_ref06_Same.l0 x = some o → (fun (x : Int × T_api_Pred × T_api_Pred) (o : Lp (Unit) (Bool)) => ∀ (lo : Option Nat) (c : LCtx) (Q : Exit → LEnv → Prop) (hb : ∀ s : Unit, o = Lp.brk s → Q (.exit 0) ⟨[], []⟩) (hr : ∀ (r : Bool) (L : LEnv), o = .ret r → LPostF Try.prog [.tmp 4] (.bool r) (fun _ => True) .ret L → Q .ret L), LLoop Try.prog 74 lo c 0 (VQ Q) ⟨[(2, .lref 2 0), (3, .lref 3 0), (5, .v (.i64 x.1))], [(2, [.v (.i64 x.2.1.Kind), .v (.i64 x.2.1.Truth), .v (.i64 x.2.1.Op), .v (.i64 x.2.1.A.Kind), .v (.i64 x.2.1.A.Table), .v (.i64 x.2.1.A.Col), .v (.bool x.2.1.A.Value.Null), .v (.i64 x.2.1.A.Value.N), .v (.i64 x.2.1.B.Kind), .v (.i64 x.2.1.B.Table), .v (.i64 x.2.1.B.Col), .v (.bool x.2.1.B.Value.Null), .v (.i64 x.2.1.B.Value.N), .v (.slice .foreign (x.2.1.Parts.map T_api_Pred.av))]), (3, [.v (.i64 x.2.2.Kind), .v (.i64 x.2.2.Truth), .v (.i64 x.2.2.Op), .v (.i64 x.2.2.A.Kind), .v (.i64 x.2.2.A.Table), .v (.i64 x.2.2.A.Col), .v (.bool x.2.2.A.Value.Null), .v (.i64 x.2.2.A.Value.N), .v (.i64 x.2.2.B.Kind), .v (.i64 x.2.2.B.Table), .v (.i64 x.2.2.B.Col), .v (.bool x.2.2.B.Value.Null), .v (.i64 x.2.2.B.Value.N), .v (.slice .foreign (x.2.2.Parts.map T_api_Pred.av))])]⟩) x o) ∧ (∀ (x : T_api_Pred × T_api_Pred) (o : Bool), M_ref06_Same x = some o → (fun (x : T_api_Pred × T_api_Pred) (r : Bool) => Fn Try.prog 74 [.agg (T_api_Pred.C x.1), .agg (T_api_Pred.C x.2)] (.bool r)) x o) := by
  refine M_ref06_Same.l0.mutual_partial_correctness _ _ ?_ ?_
  · intro M_M_ref06_Same_l0 M_M_ref06_Same ih_M_ref06_Same_l0 ih_M_ref06_Same x o h
    intro lo c Q hb hr
    refine LLoop.step mix fn_74 (by kernel_rfl) ?_
    simp -implicitDefEqProofs only [go_sem, Try.f74]
    by_cases h7 : (decide (x.1 < (x.2.1.Parts.length : Int))) = true
    · replace h := ite_some h h7
      try simp -implicitDefEqProofs only [go_sem, h7]
      obtain ⟨e8, h9, h⟩ := bind_some' h; replace h9 := getI_some h9; obtain ⟨h9', h9⟩ := h9
      try simp -implicitDefEqProofs only [go_sem, h7, h9, h9']
      obtain ⟨e10, h11, h⟩ := bind_some' h; replace h11 := getI_some h11; obtain ⟨h11', h11⟩ := h11
      try simp -implicitDefEqProofs only [go_sem, h7, h9, h9', h11, h11']
      obtain ⟨r12, h13, h⟩ := bind_some' h
      refine .plain _ _ rfl (ih_M_ref06_Same (e8, e10) _ h13) ?_
      try simp -implicitDefEqProofs only [go_sem, h7, h9, h9', h11, h11']
      by_cases h14 : r12 = true
      · replace h := ite_some h h14
        try simp -implicitDefEqProofs only [go_sem, h7, h9, h9', h11, h11', h14]
        exact LLoop.view [] (by (first | rfl | (simp -implicitDefEqProofs only [go_sem, h7, h9, h9', h11, h11', h14] <;> rfl))) (ih_M_ref06_Same_l0 _ _ h lo c Q hb hr)
      · replace h := ite_none h h14; replace h14 := bfalse h14
        try simp -implicitDefEqProofs only [go_sem, h7, h9, h9', h11, h11', h14]
        injection h with h; subst h
        exact .inl (hr _ _ rfl (by (first | rfl | (simp -implicitDefEqProofs only [go_sem, h7, h9, h9', h11, h11', h14] <;> rfl))))
    · replace h := ite_none h h7; replace h7 := bfalse h7
      try simp -implicitDefEqProofs only [go_sem, h7]
      injection h with h; subst h
      exact .inr ⟨[], _, by (simp -implicitDefEqProofs only [go_sem, h7] <;> first | done | rfl | trivial), hb _ rfl⟩
  · intro M_M_ref06_Same_l0 ih_M_ref06_Same_l0 x r h
    refine Fn.of_lc mix fn_74 lok_74 (by rfl) (flC (T_api_Pred.flatC _) (flC (T_api_Pred.flatC _) (flN))) (.atom _) ?_
    simp -implicitDefEqProofs only [go_sem, Try.f74]
    by_cases h1 : (x.1.Kind != x.2.Kind) = true
    · replace h := ite_some h h1
      try simp -implicitDefEqProofs only [go_sem, h1]
      injection h with h; subst h
      first | rfl | (simp -implicitDefEqProofs only [go_sem, h1] <;> rfl)
    · replace h := ite_none h h1; replace h1 := bfalse h1
      try simp -implicitDefEqProofs only [go_sem, h1]
      by_cases h2 : (x.1.Truth != x.2.Truth) = true
      · replace h := ite_some h h2
        try simp -implicitDefEqProofs only [go_sem, h1, h2]
        injection h with h; subst h
        first | rfl | (simp -implicitDefEqProofs only [go_sem, h1, h2] <;> rfl)
      · replace h := ite_none h h2; replace h2 := bfalse h2
        try simp -implicitDefEqProofs only [go_sem, h1, h2]
        by_cases h3 : (x.1.Op != x.2.Op) = true
        · replace h := ite_some h h3
          try simp -implicitDefEqProofs only [go_sem, h1, h2, h3]
          injection h with h; subst h
          first | rfl | (simp -implicitDefEqProofs only [go_sem, h1, h2, h3] <;> rfl)
        · replace h := ite_none h h3; replace h3 := bfalse h3
          try simp -implicitDefEqProofs only [go_sem, h1, h2, h3]
          by_cases h4 : ((x.1.A.Kind == x.2.A.Kind) && ((x.1.A.Table == x.2.A.Table) && ((x.1.A.Col == x.2.A.Col) && ((x.1.A.Value.Null == x.2.A.Value.Null) && (x.1.A.Value.N == x.2.A.Value.N))))) = true
          · replace h := ite_some h h4
            try simp -implicitDefEqProofs only [go_sem, h1, h2, h3, h4]
            by_cases h5 : ((x.1.B.Kind == x.2.B.Kind) && ((x.1.B.Table == x.2.B.Table) && ((x.1.B.Col == x.2.B.Col) && ((x.1.B.Value.Null == x.2.B.Value.Null) && (x.1.B.Value.N == x.2.B.Value.N))))) = true
            · replace h := ite_some h h5
              try simp -implicitDefEqProofs only [go_sem, h1, h2, h3, h4, h5]
              by_cases h6 : ((x.1.Parts.length : Int) != (x.2.Parts.length : Int)) = true
              · replace h := ite_some h h6
                try simp -implicitDefEqProofs only [go_sem, h1, h2, h3, h4, h5, h6]
                injection h with h; subst h
                first | rfl | (simp -implicitDefEqProofs only [go_sem, h1, h2, h3, h4, h5, h6] <;> rfl)
              · replace h := ite_none h h6; replace h6 := bfalse h6
                try simp -implicitDefEqProofs only [go_sem, h1, h2, h3, h4, h5, h6]
                obtain ⟨o15, h16, h⟩ := bind_some' h
                refine LLoop.viewQ (LLoop.view [] (by (first | rfl | (simp -implicitDefEqProofs only [go_sem, h1, h2, h3, h4, h5, h6] <;> rfl))) (ih_M_ref06_Same_l0 (0, x.1, x.2) _ h16 _ _ _ ?_ ?_))
                · intro s18 hs'; subst hs'
                  try simp -implicitDefEqProofs only [go_sem, h1, h2, h3, h4, h5, h6]
                  injection h with h; subst h
                  first | rfl | (simp -implicitDefEqProofs only [go_sem, h1, h2, h3, h4, h5, h6] <;> rfl)
                · intro r17 L' hs' hL'; subst hs'
                  injection h with h; subst h
                  first | exact hL' | (simp -implicitDefEqProofs only [go_sem]; exact hL') | (simp -implicitDefEqProofs only [go_sem]; simp -implicitDefEqProofs only [go_sem] at hL'; exact hL')
            · replace h := ite_none h h5; replace h5 := bfalse h5
              try simp -implicitDefEqProofs only [go_sem, h1, h2, h3, h4, h5]
              injection h with h; subst h
              first | rfl | (simp -implicitDefEqProofs only [go_sem, h1, h2, h3, h4, h5] <;> rfl)
          · replace h := ite_none h h4; replace h4 := bfalse h4
            try simp -implicitDefEqProofs only [go_sem, h1, h2, h3, h4]
            injection h with h; subst h
            first | rfl | (simp -implicitDefEqProofs only [go_sem, h1, h2, h3, h4] <;> rfl)
theorem M_ref06_Same.w : type_of% (M_ref06_Same.l0.ws.2) := M_ref06_Same.l0.ws.2
end Go.Proofs.Ytakmilmckdllfaa.G
set_option linter.unusedVariables false
set_option linter.unusedSimpArgs false
set_option maxRecDepth 100000
namespace Go.Proofs.Ytakmilmckdllfaa.G
@[go_sem] theorem lrp_27_6 : lrp Try.prog 27 6 = (10, []) := by kernel_rfl
theorem lok_27 : (Try.f27.body.isSome && !(Try.f27.name == "runtime.NumGoroutine") && okL (bodyF Try.f27) Try.f27.ntmps (bodyF Try.f27)) = true := by kernel_rfl
def M_ref06_List.l0 (x : List T_api_Pred × List T_api_Pred × Int) : Option (Lp (Unit) (Bool)) :=
  if (decide (x.2.2 < (x.1.length : Int))) = true then
    (getI x.1 x.2.2) >>= fun (e3 : T_api_Pred) =>
    (getI x.2.1 x.2.2) >>= fun (e5 : T_api_Pred) =>
    M_ref06_Same (e3, e5) >>= fun r7 =>
    if r7 = true then
      M_ref06_List.l0 (x.1, x.2.1, (w64 (x.2.2 + 1)))
    else
      some (.ret false)
  else
    some (.brk ())
  partial_fixpoint
theorem M_ref06_List.l0.ws : (∀ (x : List T_api_Pred × List T_api_Pred × Int) (o : Lp (Unit) (Bool)), M_ref06_List.l0 x = some o → (fun (x : List T_api_Pred × List T_api_Pred × Int) (o : Lp (Unit) (Bool)) => ∀ (lo : Option Nat) (c : LCtx) (Q : Exit → LEnv → Prop) (hb : ∀ s : Unit, o = Lp.brk s → Q (.exit 0) ⟨[], []⟩) (hr : ∀ (r : Bool) (L : LEnv), o = .ret r → LPostF Try.prog [.tmp 4] (.bool r) (fun _ => True) .ret L → Q .ret L), LLoop Try.prog 27 lo c 0 (VQ Q) ⟨[(0, .v (.slice .foreign (x.1.map T_api_Pred.av))), (1, .v (.slice .foreign (x.2.1.map T_api_Pred.av))), (5, .v (.i64 x.2.2))], []⟩) x o) := by
  refine M_ref06_List.l0.partial_correctness _ ?_
  · intro M_M_ref06_List_l0 ih_M_ref06_List_l0 x o h
    intro lo c Q hb hr
    refine LLoop.step mix fn_27 (by kernel_rfl) ?_
    simp -implicitDefEqProofs only [go_sem, Try.f27]
    by_cases h2 : (decide (x.2.2 < (x.1.length : Int))) = true
    · replace h := ite_some h h2
      try simp -implicitDefEqProofs only [go_sem, h2]
      obtain ⟨e3, h4, h⟩ := bind_some' h; replace h4 := getI_some h4; obtain ⟨h4', h4⟩ := h4
      try simp -implicitDefEqProofs only [go_sem, h2, h4, h4']
      obtain ⟨e5, h6, h⟩ := bind_some' h; replace h6 := getI_some h6; obtain ⟨h6', h6⟩ := h6
      try simp -implicitDefEqProofs only [go_sem, h2, h4, h4', h6, h6']
      obtain ⟨r7, h8, h⟩ := bind_some' h
      refine .plain _ _ rfl (M_ref06_Same.w (e3, e5) _ h8) ?_
      try simp -implicitDefEqProofs only [go_sem, h2, h4, h4', h6, h6']
      by_cases h9 : r7 = true
      · replace h := ite_some h h9
        try simp -implicitDefEqProofs only [go_sem, h2, h4, h4', h6, h6', h9]
        exact LLoop.view [] (by (first | rfl | (simp -implicitDefEqProofs only [go_sem, h2, h4, h4', h6, h6', h9] <;> rfl))) (ih_M_ref06_List_l0 _ _ h lo c Q hb hr)
      · replace h := ite_none h h9; replace h9 := bfalse h9
        try simp -implicitDefEqProofs only [go_sem, h2, h4, h4', h6, h6', h9]
        injection h with h; subst h
        exact .inl (hr _ _ rfl (by (first | rfl | (simp -implicitDefEqProofs only [go_sem, h2, h4, h4', h6, h6', h9] <;> rfl))))
    · replace h := ite_none h h2; replace h2 := bfalse h2
      try simp -implicitDefEqProofs only [go_sem, h2]
      injection h with h; subst h
      exact .inr ⟨[], _, by (simp -implicitDefEqProofs only [go_sem, h2] <;> first | done | rfl | trivial), hb _ rfl⟩
theorem M_ref06_List.l0.w : type_of% (M_ref06_List.l0.ws) := M_ref06_List.l0.ws
def M_ref06_List (x : List T_api_Pred × List T_api_Pred) : Option (Bool) :=
  if ((x.1.length : Int) != (x.2.length : Int)) = true then
    some false
  else
    M_ref06_List.l0 (x.1, x.2, 0) >>= fun (o10 : Lp (Unit) (Bool)) => match o10 with
    | .brk s13 =>
      some true
    | .ret r12 =>
      some r12
theorem M_ref06_List.w : ∀ (x : List T_api_Pred × List T_api_Pred) (r : Bool), M_ref06_List x = some r → (fun (x : List T_api_Pred × List T_api_Pred) (r : Bool) => Fn Try.prog 27 [.slice .foreign (x.1.map T_api_Pred.av), .slice .foreign (x.2.map T_api_Pred.av)] (.bool r)) x r := by
  intro x r h
  rw [M_ref06_List] at h
  try dsimp only
  refine Fn.of_lc mix fn_27 lok_27 (by rfl) (flC (flat_slice _ T_api_Pred.flat _) (flC (flat_slice _ T_api_Pred.flat _) (flN))) (.atom _) ?_
  simp -implicitDefEqProofs only [go_sem, Try.f27]
  by_cases h1 : ((x.1.length : Int) != (x.2.length : Int)) = true
  · replace h := ite_some h h1
    try simp -implicitDefEqProofs only [go_sem, h1]
    injection h with h; subst h
    first | rfl | (simp -implicitDefEqProofs only [go_sem, h1] <;> rfl)
  · replace h := ite_none h h1; replace h1 := bfalse h1
    try simp -implicitDefEqProofs only [go_sem, h1]
    obtain ⟨o10, h11, h⟩ := bind_some' h
    refine LLoop.viewQ (LLoop.view [] (by (first | rfl | (simp -implicitDefEqProofs only [go_sem, h1] <;> rfl))) (M_ref06_List.l0.w (x.1, x.2, 0) _ h11 _ _ _ ?_ ?_))
    · intro s13 hs'; subst hs'
      try simp -implicitDefEqProofs only [go_sem, h1]
      injection h with h; subst h
      first | rfl | (simp -implicitDefEqProofs only [go_sem, h1] <;> rfl)
    · intro r12 L' hs' hL'; subst hs'
      injection h with h; subst h
      first | exact hL' | (simp -implicitDefEqProofs only [go_sem]; exact hL') | (simp -implicitDefEqProofs only [go_sem]; simp -implicitDefEqProofs only [go_sem] at hL'; exact hL')
end Go.Proofs.Ytakmilmckdllfaa.G
set_option linter.unusedVariables false
set_option linter.unusedSimpArgs false
set_option maxRecDepth 100000
namespace Go.Proofs.Ytakmilmckdllfaa.G
@[go_sem] theorem lrp_35_6 : lrp Try.prog 35 6 = (12, [6, 9]) := by kernel_rfl
@[go_sem] theorem lrp_35_12 : lrp Try.prog 35 12 = (12, [6, 9]) := by kernel_rfl
theorem lok_35 : (Try.f35.body.isSome && !(Try.f35.name == "runtime.NumGoroutine") && okL (bodyF Try.f35) Try.f35.ntmps (bodyF Try.f35)) = true := by kernel_rfl
def M_ref18_List.l0 (x : Int × T_ref18_Levels × T_ref18_Levels) : Option (Lp (Unit) (Bool)) :=
  if (decide (x.1 < (x.2.1.Joins.length : Int))) = true then
    (getI x.2.1.Joins x.1) >>= fun (e4 : T_ref18_Join) =>
    (getI x.2.2.Joins x.1) >>= fun (e6 : T_ref18_Join) =>
    M_ref06_Same (e4.Pred, e6.Pred) >>= fun r8 =>
    if r8 = true then
      if (e4.Left != e6.Left) = true then
        some (.ret false)
      else
        if (e4.Right != e6.Right) = true then
          some (.ret false)
        else
          if (e4.Home != e6.Home) = true then
            some (.ret false)
          else
            M_ref18_List.l0 ((w64 (x.1 + 1)), x.2.1, x.2.2)
    else
      some (.ret false)
  else
    some (.brk ())
  partial_fixpoint
theorem M_ref18_List.l0.ws : (∀ (x : Int × T_ref18_Levels × T_ref18_Levels) (o : Lp (Unit) (Bool)), M_ref18_List.l0 x = some o → (fun (x : Int × T_ref18_Levels × T_ref18_Levels) (o : Lp (Unit) (Bool)) => ∀ (lo : Option Nat) (c : LCtx) (Q : Exit → LEnv → Prop) (hb : ∀ s : Unit, o = Lp.brk s → Q (.exit 0) ⟨[(2, .lref 2 0), (3, .lref 3 0)], [(2, [.v (.slice .foreign (x.2.1.Joins.map T_ref18_Join.av)), .v (.slice .foreign (x.2.1.Ops.map T_ref18_Op.av))]), (3, [.v (.slice .foreign (x.2.2.Joins.map T_ref18_Join.av)), .v (.slice .foreign (x.2.2.Ops.map T_ref18_Op.av))])]⟩) (hr : ∀ (r : Bool) (L : LEnv), o = .ret r → LPostF Try.prog [.tmp 4] (.bool r) (fun _ => True) .ret L → Q .ret L), LLoop Try.prog 35 lo c 0 (VQ Q) ⟨[(2, .lref 2 0), (3, .lref 3 0), (5, .v (.i64 x.1))], [(2, [.v (.slice .foreign (x.2.1.Joins.map T_ref18_Join.av)), .v (.slice .foreign (x.2.1.Ops.map T_ref18_Op.av))]), (3, [.v (.slice .foreign (x.2.2.Joins.map T_ref18_Join.av)), .v (.slice .foreign (x.2.2.Ops.map T_ref18_Op.av))])]⟩) x o) := by
  refine M_ref18_List.l0.partial_correctness _ ?_
  · intro M_M_ref18_List_l0 ih_M_ref18_List_l0 x o h
    intro lo c Q hb hr
    refine LLoop.step mix fn_35 (by kernel_rfl) ?_
    simp -implicitDefEqProofs only [go_sem, Try.f35]
    by_cases h3 : (decide (x.1 < (x.2.1.Joins.length : Int))) = true
    · replace h := ite_some h h3
      try simp -implicitDefEqProofs only [go_sem, h3]
      obtain ⟨e4, h5, h⟩ := bind_some' h; replace h5 := getI_some h5; obtain ⟨h5', h5⟩ := h5
      try simp -implicitDefEqProofs only [go_sem, h3, h5, h5']
      obtain ⟨e6, h7, h⟩ := bind_some' h; replace h7 := getI_some h7; obtain ⟨h7', h7⟩ := h7
      try simp -implicitDefEqProofs only [go_sem, h3, h5, h5', h7, h7']
      obtain ⟨r8, h9, h⟩ := bind_some' h
      refine .plain _ _ rfl (M_ref06_Same.w (e4.Pred, e6.Pred) _ h9) ?_
      try simp -implicitDefEqProofs only [go_sem, h3, h5, h5', h7, h7']
      by_cases h10 : r8 = true
      · replace h := ite_some h h10
        try simp -implicitDefEqProofs only [go_sem, h3, h5, h5', h7, h7', h10]
        by_cases h11 : (e4.Left != e6.Left) = true
        · replace h := ite_some h h11
          try simp -implicitDefEqProofs only [go_sem, h3, h5, h5', h7, h7', h10, h11]
          injection h with h; subst h
          exact .inl (hr _ _ rfl (by (first | rfl | (simp -implicitDefEqProofs only [go_sem, h3, h5, h5', h7, h7', h10, h11] <;> rfl))))
        · replace h := ite_none h h11; replace h11 := bfalse h11
          try simp -implicitDefEqProofs only [go_sem, h3, h5, h5', h7, h7', h10, h11]
          by_cases h12 : (e4.Right != e6.Right) = true
          · replace h := ite_some h h12
            try simp -implicitDefEqProofs only [go_sem, h3, h5, h5', h7, h7', h10, h11, h12]
            injection h with h; subst h
            exact .inl (hr _ _ rfl (by (first | rfl | (simp -implicitDefEqProofs only [go_sem, h3, h5, h5', h7, h7', h10, h11, h12] <;> rfl))))
          · replace h := ite_none h h12; replace h12 := bfalse h12
            try simp -implicitDefEqProofs only [go_sem, h3, h5, h5', h7, h7', h10, h11, h12]
            by_cases h13 : (e4.Home != e6.Home) = true
            · replace h := ite_some h h13
              try simp -implicitDefEqProofs only [go_sem, h3, h5, h5', h7, h7', h10, h11, h12, h13]
              injection h with h; subst h
              exact .inl (hr _ _ rfl (by (first | rfl | (simp -implicitDefEqProofs only [go_sem, h3, h5, h5', h7, h7', h10, h11, h12, h13] <;> rfl))))
            · replace h := ite_none h h13; replace h13 := bfalse h13
              try simp -implicitDefEqProofs only [go_sem, h3, h5, h5', h7, h7', h10, h11, h12, h13]
              exact LLoop.view [] (by (first | rfl | (simp -implicitDefEqProofs only [go_sem, h3, h5, h5', h7, h7', h10, h11, h12, h13] <;> rfl))) (ih_M_ref18_List_l0 _ _ h lo c Q hb hr)
      · replace h := ite_none h h10; replace h10 := bfalse h10
        try simp -implicitDefEqProofs only [go_sem, h3, h5, h5', h7, h7', h10]
        injection h with h; subst h
        exact .inl (hr _ _ rfl (by (first | rfl | (simp -implicitDefEqProofs only [go_sem, h3, h5, h5', h7, h7', h10] <;> rfl))))
    · replace h := ite_none h h3; replace h3 := bfalse h3
      try simp -implicitDefEqProofs only [go_sem, h3]
      injection h with h; subst h
      exact .inr ⟨[], _, by (simp -implicitDefEqProofs only [go_sem, h3] <;> first | done | rfl | trivial), hb _ rfl⟩
theorem M_ref18_List.l0.w : type_of% (M_ref18_List.l0.ws) := M_ref18_List.l0.ws
def M_ref18_List.l1 (x : Int × T_ref18_Levels × T_ref18_Levels) : Option (Lp (Unit) (Bool)) :=
  if (decide (x.1 < (x.2.1.Ops.length : Int))) = true then
    (getI x.2.1.Ops x.1) >>= fun (e19 : T_ref18_Op) =>
    (getI x.2.2.Ops x.1) >>= fun (e21 : T_ref18_Op) =>
    if (e19.Kind != e21.Kind) = true then
      some (.ret false)
    else
      M_ref06_List (e19.Conj, e21.Conj) >>= fun r24 =>
      if r24 = true then
        if (e19.Left != e21.Left) = true then
          some (.ret false)
        else
          if (e19.Right != e21.Right) = true then
            some (.ret false)
          else
            if (e19.Own != e21.Own) = true then
              some (.ret false)
            else
              if (e19.Home != e21.Home) = true then
                some (.ret false)
              else
                M_ref18_List.l1 ((w64 (x.1 + 1)), x.2.1, x.2.2)
      else
        some (.ret false)
  else
    some (.brk ())
  partial_fixpoint
theorem M_ref18_List.l1.ws : (∀ (x : Int × T_ref18_Levels × T_ref18_Levels) (o : Lp (Unit) (Bool)), M_ref18_List.l1 x = some o → (fun (x : Int × T_ref18_Levels × T_ref18_Levels) (o : Lp (Unit) (Bool)) => ∀ (lo : Option Nat) (c : LCtx) (Q : Exit → LEnv → Prop) (hb : ∀ s : Unit, o = Lp.brk s → Q (.exit 2) ⟨[], []⟩) (hr : ∀ (r : Bool) (L : LEnv), o = .ret r → LPostF Try.prog [.tmp 4] (.bool r) (fun _ => True) .ret L → Q .ret L), LLoop Try.prog 35 lo c 1 (VQ Q) ⟨[(2, .lref 2 0), (3, .lref 3 0), (8, .v (.i64 x.1))], [(2, [.v (.slice .foreign (x.2.1.Joins.map T_ref18_Join.av)), .v (.slice .foreign (x.2.1.Ops.map T_ref18_Op.av))]), (3, [.v (.slice .foreign (x.2.2.Joins.map T_ref18_Join.av)), .v (.slice .foreign (x.2.2.Ops.map T_ref18_Op.av))])]⟩) x o) := by
  refine M_ref18_List.l1.partial_correctness _ ?_
  · intro M_M_ref18_List_l1 ih_M_ref18_List_l1 x o h
    intro lo c Q hb hr
    refine LLoop.step mix fn_35 (by kernel_rfl) ?_
    simp -implicitDefEqProofs only [go_sem, Try.f35]
    by_cases h18 : (decide (x.1 < (x.2.1.Ops.length : Int))) = true
    · replace h := ite_some h h18
      try simp -implicitDefEqProofs only [go_sem, h18]
      obtain ⟨e19, h20, h⟩ := bind_some' h; replace h20 := getI_some h20; obtain ⟨h20', h20⟩ := h20
      try simp -implicitDefEqProofs only [go_sem, h18, h20, h20']
      obtain ⟨e21, h22, h⟩ := bind_some' h; replace h22 := getI_some h22; obtain ⟨h22', h22⟩ := h22
      try simp -implicitDefEqProofs only [go_sem, h18, h20, h20', h22, h22']
      by_cases h23 : (e19.Kind != e21.Kind) = true
      · replace h := ite_some h h23
        try simp -implicitDefEqProofs only [go_sem, h18, h20, h20', h22, h22', h23]
        injection h with h; subst h
        exact .inl (hr _ _ rfl (by (first | rfl | (simp -implicitDefEqProofs only [go_sem, h18, h20, h20', h22, h22', h23] <;> rfl))))
      · replace h := ite_none h h23; replace h23 := bfalse h23
        try simp -implicitDefEqProofs only [go_sem, h18, h20, h20', h22, h22', h23]
        obtain ⟨r24, h25, h⟩ := bind_some' h
        refine .plain _ _ rfl (M_ref06_List.w (e19.Conj, e21.Conj) _ h25) ?_
        try simp -implicitDefEqProofs only [go_sem, h18, h20, h20', h22, h22', h23]
        by_cases h26 : r24 = true
        · replace h := ite_some h h26
          try simp -implicitDefEqProofs only [go_sem, h18, h20, h20', h22, h22', h23, h26]
          by_cases h27 : (e19.Left != e21.Left) = true
          · replace h := ite_some h h27
            try simp -implicitDefEqProofs only [go_sem, h18, h20, h20', h22, h22', h23, h26, h27]
            injection h with h; subst h
            exact .inl (hr _ _ rfl (by (first | rfl | (simp -implicitDefEqProofs only [go_sem, h18, h20, h20', h22, h22', h23, h26, h27] <;> rfl))))
          · replace h := ite_none h h27; replace h27 := bfalse h27
            try simp -implicitDefEqProofs only [go_sem, h18, h20, h20', h22, h22', h23, h26, h27]
            by_cases h28 : (e19.Right != e21.Right) = true
            · replace h := ite_some h h28
              try simp -implicitDefEqProofs only [go_sem, h18, h20, h20', h22, h22', h23, h26, h27, h28]
              injection h with h; subst h
              exact .inl (hr _ _ rfl (by (first | rfl | (simp -implicitDefEqProofs only [go_sem, h18, h20, h20', h22, h22', h23, h26, h27, h28] <;> rfl))))
            · replace h := ite_none h h28; replace h28 := bfalse h28
              try simp -implicitDefEqProofs only [go_sem, h18, h20, h20', h22, h22', h23, h26, h27, h28]
              by_cases h29 : (e19.Own != e21.Own) = true
              · replace h := ite_some h h29
                try simp -implicitDefEqProofs only [go_sem, h18, h20, h20', h22, h22', h23, h26, h27, h28, h29]
                injection h with h; subst h
                exact .inl (hr _ _ rfl (by (first | rfl | (simp -implicitDefEqProofs only [go_sem, h18, h20, h20', h22, h22', h23, h26, h27, h28, h29] <;> rfl))))
              · replace h := ite_none h h29; replace h29 := bfalse h29
                try simp -implicitDefEqProofs only [go_sem, h18, h20, h20', h22, h22', h23, h26, h27, h28, h29]
                by_cases h30 : (e19.Home != e21.Home) = true
                · replace h := ite_some h h30
                  try simp -implicitDefEqProofs only [go_sem, h18, h20, h20', h22, h22', h23, h26, h27, h28, h29, h30]
                  injection h with h; subst h
                  exact .inl (hr _ _ rfl (by (first | rfl | (simp -implicitDefEqProofs only [go_sem, h18, h20, h20', h22, h22', h23, h26, h27, h28, h29, h30] <;> rfl))))
                · replace h := ite_none h h30; replace h30 := bfalse h30
                  try simp -implicitDefEqProofs only [go_sem, h18, h20, h20', h22, h22', h23, h26, h27, h28, h29, h30]
                  exact LLoop.view [] (by (first | rfl | (simp -implicitDefEqProofs only [go_sem, h18, h20, h20', h22, h22', h23, h26, h27, h28, h29, h30] <;> rfl))) (ih_M_ref18_List_l1 _ _ h lo c Q hb hr)
        · replace h := ite_none h h26; replace h26 := bfalse h26
          try simp -implicitDefEqProofs only [go_sem, h18, h20, h20', h22, h22', h23, h26]
          injection h with h; subst h
          exact .inl (hr _ _ rfl (by (first | rfl | (simp -implicitDefEqProofs only [go_sem, h18, h20, h20', h22, h22', h23, h26] <;> rfl))))
    · replace h := ite_none h h18; replace h18 := bfalse h18
      try simp -implicitDefEqProofs only [go_sem, h18]
      injection h with h; subst h
      exact .inr ⟨[], _, by (simp -implicitDefEqProofs only [go_sem, h18] <;> first | done | rfl | trivial), hb _ rfl⟩
theorem M_ref18_List.l1.w : type_of% (M_ref18_List.l1.ws) := M_ref18_List.l1.ws
def M_ref18_List (x : T_ref18_Levels × T_ref18_Levels) : Option (Bool) :=
  if ((x.1.Joins.length : Int) != (x.2.Joins.length : Int)) = true then
    some false
  else
    if ((x.1.Ops.length : Int) != (x.2.Ops.length : Int)) = true then
      some false
    else
      M_ref18_List.l0 (0, x.1, x.2) >>= fun (o14 : Lp (Unit) (Bool)) => match o14 with
      | .brk s17 =>
        M_ref18_List.l1 (0, x.1, x.2) >>= fun (o31 : Lp (Unit) (Bool)) => match o31 with
        | .brk s34 =>
          some true
        | .ret r33 =>
          some r33
      | .ret r16 =>
        some r16
theorem M_ref18_List.w : ∀ (x : T_ref18_Levels × T_ref18_Levels) (r : Bool), M_ref18_List x = some r → (fun (x : T_ref18_Levels × T_ref18_Levels) (r : Bool) => Fn Try.prog 35 [.agg (T_ref18_Levels.C x.1), .agg (T_ref18_Levels.C x.2)] (.bool r)) x r := by
  intro x r h
  rw [M_ref18_List] at h
  try dsimp only
  refine Fn.of_lc mix fn_35 lok_35 (by rfl) (flC (T_ref18_Levels.flatC _) (flC (T_ref18_Levels.flatC _) (flN))) (.atom _) ?_
  simp -implicitDefEqProofs only [go_sem, Try.f35]
  by_cases h1 : ((x.1.Joins.length : Int) != (x.2.Joins.length : Int)) = true
  · replace h := ite_some h h1
    try simp -implicitDefEqProofs only [go_sem, h1]
    injection h with h; subst h
    first | rfl | (simp -implicitDefEqProofs only [go_sem, h1] <;> rfl)
  · replace h := ite_none h h1; replace h1 := bfalse h1
    try simp -implicitDefEqProofs only [go_sem, h1]
    by_cases h2 : ((x.1.Ops.length : Int) != (x.2.Ops.length : Int)) = true
    · replace h := ite_some h h2
      try simp -implicitDefEqProofs only [go_sem, h1, h2]
      injection h with h; subst h
      first | rfl | (simp -implicitDefEqProofs only [go_sem, h1, h2] <;> rfl)
    · replace h := ite_none h h2; replace h2 := bfalse h2
      try simp -implicitDefEqProofs only [go_sem, h1, h2]
      obtain ⟨o14, h15, h⟩ := bind_some' h
      refine LLoop.viewQ (LLoop.view [] (by (first | rfl | (simp -implicitDefEqProofs only [go_sem, h1, h2] <;> rfl))) (M_ref18_List.l0.w (0, x.1, x.2) _ h15 _ _ _ ?_ ?_))
      · intro s17 hs'; subst hs'
        try simp -implicitDefEqProofs only [go_sem, h1, h2]
        obtain ⟨o31, h32, h⟩ := bind_some' h
        refine LLoop.viewQ (LLoop.view [] (by (first | rfl | (simp -implicitDefEqProofs only [go_sem, h1, h2] <;> rfl))) (M_ref18_List.l1.w (0, x.1, x.2) _ h32 _ _ _ ?_ ?_))
        · intro s34 hs'; subst hs'
          try simp -implicitDefEqProofs only [go_sem, h1, h2]
          injection h with h; subst h
          first | rfl | (simp -implicitDefEqProofs only [go_sem, h1, h2] <;> rfl)
        · intro r33 L' hs' hL'; subst hs'
          injection h with h; subst h
          first | exact hL' | (simp -implicitDefEqProofs only [go_sem]; exact hL') | (simp -implicitDefEqProofs only [go_sem]; simp -implicitDefEqProofs only [go_sem] at hL'; exact hL')
      · intro r16 L' hs' hL'; subst hs'
        injection h with h; subst h
        first | exact hL' | (simp -implicitDefEqProofs only [go_sem]; exact hL') | (simp -implicitDefEqProofs only [go_sem]; simp -implicitDefEqProofs only [go_sem] at hL'; exact hL')
end Go.Proofs.Ytakmilmckdllfaa.G
set_option linter.unusedVariables false
set_option linter.unusedSimpArgs false
set_option maxRecDepth 100000
namespace Go.Proofs.Ytakmilmckdllfaa.G
theorem lok_84 : (Try.f84.body.isSome && !(Try.f84.name == "runtime.NumGoroutine") && okL (bodyF Try.f84) Try.f84.ntmps (bodyF Try.f84)) = true := by kernel_rfl
def M_ref01_Count (x : Set64) : Option (Int) :=
  M_ref01_List x >>= fun r1 =>
  some (r1.length : Int)
theorem M_ref01_Count.w : ∀ (x : Set64) (r : Int), M_ref01_Count x = some r → (fun (x : Set64) (r : Int) => Fn Try.prog 84 [.w x] (.i64 r)) x r := by
  intro x r h
  rw [M_ref01_Count] at h
  try dsimp only
  refine Fn.of_lc mix fn_84 lok_84 (by rfl) (flC (.atom _) (flN)) (.atom _) ?_
  simp -implicitDefEqProofs only [go_sem, Try.f84]
  obtain ⟨r1, h2, h⟩ := bind_some' h
  refine .plain _ _ rfl (M_ref01_List.w x _ h2) ?_
  try simp -implicitDefEqProofs only [go_sem]
  injection h with h; subst h
  first | rfl | simp -implicitDefEqProofs only [go_sem] <;> rfl
end Go.Proofs.Ytakmilmckdllfaa.G
set_option linter.unusedVariables false
set_option linter.unusedSimpArgs false
set_option maxRecDepth 100000
namespace Go.Proofs.Ytakmilmckdllfaa.G
@[go_sem] theorem lrp_34_14 : lrp Try.prog 34 14 = (12, []) := by kernel_rfl
@[go_sem] theorem lrp_34_19 : lrp Try.prog 34 19 = (25, []) := by kernel_rfl
@[go_sem] theorem lrp_34_28 : lrp Try.prog 34 28 = (16, []) := by kernel_rfl
theorem lok_34 : (Try.f34.body.isSome && !(Try.f34.name == "runtime.NumGoroutine") && okL (bodyF Try.f34) Try.f34.ntmps (bodyF Try.f34)) = true := by kernel_rfl
def M_ref18_Of.l0 (x : List T_api_Tree × List Set64 × Int × T_ref18_Levels × T_ref18_Levels) : Option (List Set64) :=
  if (decide (x.2.2.1 < (x.1.length : Int))) = true then
    (getI x.1 x.2.2.1) >>= fun (e4 : T_api_Tree) =>
    if (decide (e4.Kind > 1)) = true then
      (e4.Kids[1]?) >>= fun (e7 : T_api_Tree) =>
      M_ref10_Tables e7 >>= fun r9 =>
      (room 8 x.2.1 ([r9])) >>= fun (z11 : List Set64) =>
      M_ref18_Of.l0 (x.1, z11, (w64 (x.2.2.1 + 1)), x.2.2.2.1, x.2.2.2.2)
    else
      M_ref18_Of.l0 (x.1, x.2.1, (w64 (x.2.2.1 + 1)), x.2.2.2.1, x.2.2.2.2)
  else
    some x.2.1
  partial_fixpoint
theorem M_ref18_Of.l0.ws : (∀ (x : List T_api_Tree × List Set64 × Int × T_ref18_Levels × T_ref18_Levels) (o : List Set64), M_ref18_Of.l0 x = some o → (fun (x : List T_api_Tree × List Set64 × Int × T_ref18_Levels × T_ref18_Levels) (o : List Set64) => ∀ (lo : Option Nat) (c : LCtx) (Q : Exit → LEnv → Prop) (hb : ∀ s : List Set64, o = s → Q (.exit 0) ⟨[(2, .lref 2 0), (3, .lref 3 0), (4, .v (.slice .foreign (x.1.map T_api_Tree.av))), (5, .own 100500 1 (s.map AV.w))], [(2, [.own 20000200 17 (x.2.2.2.1.Joins.map T_ref18_Join.av), .own 20000201 6 (x.2.2.2.1.Ops.map T_ref18_Op.av)]), (3, [.own 20000300 17 (x.2.2.2.2.Joins.map T_ref18_Join.av), .own 20000301 6 (x.2.2.2.2.Ops.map T_ref18_Op.av)])]⟩), LLoop Try.prog 34 lo c 0 (VQ Q) ⟨[(2, .lref 2 0), (3, .lref 3 0), (4, .v (.slice .foreign (x.1.map T_api_Tree.av))), (5, .own 100500 1 (x.2.1.map AV.w)), (6, .v (.i64 x.2.2.1))], [(2, [.own 20000200 17 (x.2.2.2.1.Joins.map T_ref18_Join.av), .own 20000201 6 (x.2.2.2.1.Ops.map T_ref18_Op.av)]), (3, [.own 20000300 17 (x.2.2.2.2.Joins.map T_ref18_Join.av), .own 20000301 6 (x.2.2.2.2.Ops.map T_ref18_Op.av)])]⟩) x o) := by
  refine M_ref18_Of.l0.partial_correctness _ ?_
  · intro M_M_ref18_Of_l0 ih_M_ref18_Of_l0 x o h
    intro lo c Q hb
    refine LLoop.step mix fn_34 (by kernel_rfl) ?_
    simp -implicitDefEqProofs only [go_sem, Try.f34]
    by_cases h3 : (decide (x.2.2.1 < (x.1.length : Int))) = true
    · replace h := ite_some h h3
      try simp -implicitDefEqProofs only [go_sem, h3]
      obtain ⟨e4, h5, h⟩ := bind_some' h; replace h5 := getI_some h5; obtain ⟨h5', h5⟩ := h5
      try simp -implicitDefEqProofs only [go_sem, h3, h5, h5']
      by_cases h6 : (decide (e4.Kind > 1)) = true
      · replace h := ite_some h h6
        try simp -implicitDefEqProofs only [go_sem, h3, h5, h5', h6]
        obtain ⟨e7, h8, h⟩ := bind_some' h
        try simp -implicitDefEqProofs only [go_sem, h3, h5, h5', h6, h8]
        obtain ⟨r9, h10, h⟩ := bind_some' h
        refine .plain _ _ rfl (M_ref10_Tables.w e7 _ h10) ?_
        try simp -implicitDefEqProofs only [go_sem, h3, h5, h5', h6, h8]
        obtain ⟨z11, h12, h⟩ := bind_some' h; replace h12 := room_some h12; obtain ⟨h12', rfl⟩ := h12
        refine LApp.map (F := AV.w) (xs := x.2.1) (ys := [r9]) t77_elem t32_size t32_bytes t32_zsize rfl (fun _ => rfl) (by (first | rfl | simp -implicitDefEqProofs only [go_sem, h3, h5, h5', h6, h8] <;> rfl)) (by (first | rfl | simp -implicitDefEqProofs only [go_sem, h3, h5, h5', h6, h8] <;> rfl)) h12' ?_
        try simp -implicitDefEqProofs only [go_sem, h3, h5, h5', h6, h8]
        exact LLoop.view [(100500, some 42), (20000200, some 20000200), (20000201, some 20000201), (20000300, some 20000300), (20000301, some 20000301)] (by (first | rfl | simp -implicitDefEqProofs only [go_sem, h3, h5, h5', h6, h8] <;> rfl)) (ih_M_ref18_Of_l0 _ _ h lo c Q hb)
      · replace h := ite_none h h6; replace h6 := bfalse h6
        try simp -implicitDefEqProofs only [go_sem, h3, h5, h5', h6]
        exact LLoop.view [(100500, some 100500), (20000200, some 20000200), (20000201, some 20000201), (20000300, some 20000300), (20000301, some 20000301)] (by (first | rfl | simp -implicitDefEqProofs only [go_sem, h3, h5, h5', h6] <;> rfl)) (ih_M_ref18_Of_l0 _ _ h lo c Q hb)
    · replace h := ite_none h h3; replace h3 := bfalse h3
      try simp -implicitDefEqProofs only [go_sem, h3]
      injection h with h; subst h
      exact .inr ⟨[(100500, some 100500), (20000200, some 20000200), (20000201, some 20000201), (20000300, some 20000300), (20000301, some 20000301)], _, by (simp -implicitDefEqProofs only [go_sem, h3] <;> first | done | rfl | trivial), hb _ rfl⟩
theorem M_ref18_Of.l0.w : type_of% (@M_ref18_Of.l0.ws) := @M_ref18_Of.l0.ws
def M_ref18_Of.l2 (x : List T_api_Tree × List Set64 × Int × Set64 × Set64 × Int × Int × T_ref18_Levels × T_ref18_Levels × T_api_Tree) : Option (Int) :=
  if (decide (x.2.2.2.2.2.2.1 < (x.2.1.length : Int))) = true then
    (getI x.2.1 x.2.2.2.2.2.2.1) >>= fun (e28 : Set64) =>
    M_ref01_In ((x.2.2.2.1 ||| x.2.2.2.2.1), e28) >>= fun r30 =>
    if r30 = true then
      if (decide (x.2.2.2.2.2.1 < 0)) = true then
        M_ref18_Of.l2 (x.1, x.2.1, x.2.2.1, x.2.2.2.1, x.2.2.2.2.1, x.2.2.2.2.2.2.1, (w64 (x.2.2.2.2.2.2.1 + 1)), x.2.2.2.2.2.2.2.1, x.2.2.2.2.2.2.2.2.1, x.2.2.2.2.2.2.2.2.2)
      else
        M_ref01_Count e28 >>= fun r34 =>
        (getI x.2.1 x.2.2.2.2.2.1) >>= fun (e36 : Set64) =>
        M_ref01_Count e36 >>= fun r38 =>
        if (decide (r34 < r38)) = true then
          M_ref18_Of.l2 (x.1, x.2.1, x.2.2.1, x.2.2.2.1, x.2.2.2.2.1, x.2.2.2.2.2.2.1, (w64 (x.2.2.2.2.2.2.1 + 1)), x.2.2.2.2.2.2.2.1, x.2.2.2.2.2.2.2.2.1, x.2.2.2.2.2.2.2.2.2)
        else
          M_ref18_Of.l2 (x.1, x.2.1, x.2.2.1, x.2.2.2.1, x.2.2.2.2.1, x.2.2.2.2.2.1, (w64 (x.2.2.2.2.2.2.1 + 1)), x.2.2.2.2.2.2.2.1, x.2.2.2.2.2.2.2.2.1, x.2.2.2.2.2.2.2.2.2)
    else
      M_ref18_Of.l2 (x.1, x.2.1, x.2.2.1, x.2.2.2.1, x.2.2.2.2.1, x.2.2.2.2.2.1, (w64 (x.2.2.2.2.2.2.1 + 1)), x.2.2.2.2.2.2.2.1, x.2.2.2.2.2.2.2.2.1, x.2.2.2.2.2.2.2.2.2)
  else
    some x.2.2.2.2.2.1
  partial_fixpoint
theorem M_ref18_Of.l2.ws : (∀ (x : List T_api_Tree × List Set64 × Int × Set64 × Set64 × Int × Int × T_ref18_Levels × T_ref18_Levels × T_api_Tree) (o : Int), M_ref18_Of.l2 x = some o → (fun (x : List T_api_Tree × List Set64 × Int × Set64 × Set64 × Int × Int × T_ref18_Levels × T_ref18_Levels × T_api_Tree) (o : Int) => ∀ (lo : Option Nat) (c : LCtx) (Q : Exit → LEnv → Prop) (hb : ∀ s : Int, o = s → Q (.exit 4) ⟨[(2, .lref 2 0), (3, .lref 3 0), (4, .v (.slice .foreign (x.1.map T_api_Tree.av))), (5, .own 100500 1 (x.2.1.map AV.w)), (7, .v (.i64 x.2.2.1)), (8, .lref 8 0), (9, .v (.w x.2.2.2.1)), (10, .v (.w x.2.2.2.2.1)), (11, .v (.i64 s))], [(2, [.own 20000200 17 (x.2.2.2.2.2.2.2.1.Joins.map T_ref18_Join.av), .own 20000201 6 (x.2.2.2.2.2.2.2.1.Ops.map T_ref18_Op.av)]), (3, [.own 20000300 17 (x.2.2.2.2.2.2.2.2.1.Joins.map T_ref18_Join.av), .own 20000301 6 (x.2.2.2.2.2.2.2.2.1.Ops.map T_ref18_Op.av)]), (8, [.v (.i64 x.2.2.2.2.2.2.2.2.2.Kind), .v (.i64 x.2.2.2.2.2.2.2.2.2.Table), .v (.slice .foreign (x.2.2.2.2.2.2.2.2.2.Kids.map T_api_Tree.av)), .v (.slice .foreign (x.2.2.2.2.2.2.2.2.2.Conj.map T_api_Pred.av)), .v (.bool x.2.2.2.2.2.2.2.2.2.Hash)])]⟩), LLoop Try.prog 34 lo c 2 (VQ Q) ⟨[(2, .lref 2 0), (3, .lref 3 0), (4, .v (.slice .foreign (x.1.map T_api_Tree.av))), (5, .own 100500 1 (x.2.1.map AV.w)), (7, .v (.i64 x.2.2.1)), (8, .lref 8 0), (9, .v (.w x.2.2.2.1)), (10, .v (.w x.2.2.2.2.1)), (11, .v (.i64 x.2.2.2.2.2.1)), (12, .v (.i64 x.2.2.2.2.2.2.1))], [(2, [.own 20000200 17 (x.2.2.2.2.2.2.2.1.Joins.map T_ref18_Join.av), .own 20000201 6 (x.2.2.2.2.2.2.2.1.Ops.map T_ref18_Op.av)]), (3, [.own 20000300 17 (x.2.2.2.2.2.2.2.2.1.Joins.map T_ref18_Join.av), .own 20000301 6 (x.2.2.2.2.2.2.2.2.1.Ops.map T_ref18_Op.av)]), (8, [.v (.i64 x.2.2.2.2.2.2.2.2.2.Kind), .v (.i64 x.2.2.2.2.2.2.2.2.2.Table), .v (.slice .foreign (x.2.2.2.2.2.2.2.2.2.Kids.map T_api_Tree.av)), .v (.slice .foreign (x.2.2.2.2.2.2.2.2.2.Conj.map T_api_Pred.av)), .v (.bool x.2.2.2.2.2.2.2.2.2.Hash)])]⟩) x o) := by
  refine M_ref18_Of.l2.partial_correctness _ ?_
  · intro M_M_ref18_Of_l2 ih_M_ref18_Of_l2 x o h
    intro lo c Q hb
    refine LLoop.step mix fn_34 (by kernel_rfl) ?_
    simp -implicitDefEqProofs only [go_sem, Try.f34]
    by_cases h27 : (decide (x.2.2.2.2.2.2.1 < (x.2.1.length : Int))) = true
    · replace h := ite_some h h27
      try simp -implicitDefEqProofs only [go_sem, h27]
      obtain ⟨e28, h29, h⟩ := bind_some' h; replace h29 := getI_some h29; obtain ⟨h29', h29⟩ := h29
      try simp -implicitDefEqProofs only [go_sem, h27, h29, h29']
      obtain ⟨r30, h31, h⟩ := bind_some' h
      refine .plain _ _ rfl (M_ref01_In.w ((x.2.2.2.1 ||| x.2.2.2.2.1), e28) _ h31) ?_
      try simp -implicitDefEqProofs only [go_sem, h27, h29, h29']
      by_cases h32 : r30 = true
      · replace h := ite_some h h32
        try simp -implicitDefEqProofs only [go_sem, h27, h29, h29', h32]
        by_cases h33 : (decide (x.2.2.2.2.2.1 < 0)) = true
        · replace h := ite_some h h33
          try simp -implicitDefEqProofs only [go_sem, h27, h29, h29', h32, h33]
          exact LLoop.view [(100500, some 100500), (20000200, some 20000200), (20000201, some 20000201), (20000300, some 20000300), (20000301, some 20000301)] (by (first | rfl | simp -implicitDefEqProofs only [go_sem, h27, h29, h29', h32, h33] <;> rfl)) (ih_M_ref18_Of_l2 _ _ h lo c Q hb)
        · replace h := ite_none h h33; replace h33 := bfalse h33
          try simp -implicitDefEqProofs only [go_sem, h27, h29, h29', h32, h33]
          obtain ⟨r34, h35, h⟩ := bind_some' h
          refine .plain _ _ rfl (M_ref01_Count.w e28 _ h35) ?_
          try simp -implicitDefEqProofs only [go_sem, h27, h29, h29', h32, h33]
          obtain ⟨e36, h37, h⟩ := bind_some' h; replace h37 := getI_some h37; obtain ⟨h37', h37⟩ := h37
          try simp -implicitDefEqProofs only [go_sem, h27, h29, h29', h32, h33, h37, h37']
          obtain ⟨r38, h39, h⟩ := bind_some' h
          refine .plain _ _ rfl (M_ref01_Count.w e36 _ h39) ?_
          try simp -implicitDefEqProofs only [go_sem, h27, h29, h29', h32, h33, h37, h37']
          by_cases h40 : (decide (r34 < r38)) = true
          · replace h := ite_some h h40
            try simp -implicitDefEqProofs only [go_sem, h27, h29, h29', h32, h33, h37, h37', h40]
            exact LLoop.view [(100500, some 100500), (20000200, some 20000200), (20000201, some 20000201), (20000300, some 20000300), (20000301, some 20000301)] (by (first | rfl | simp -implicitDefEqProofs only [go_sem, h27, h29, h29', h32, h33, h37, h37', h40] <;> rfl)) (ih_M_ref18_Of_l2 _ _ h lo c Q hb)
          · replace h := ite_none h h40; replace h40 := bfalse h40
            try simp -implicitDefEqProofs only [go_sem, h27, h29, h29', h32, h33, h37, h37', h40]
            exact LLoop.view [(100500, some 100500), (20000200, some 20000200), (20000201, some 20000201), (20000300, some 20000300), (20000301, some 20000301)] (by (first | rfl | simp -implicitDefEqProofs only [go_sem, h27, h29, h29', h32, h33, h37, h37', h40] <;> rfl)) (ih_M_ref18_Of_l2 _ _ h lo c Q hb)
      · replace h := ite_none h h32; replace h32 := bfalse h32
        try simp -implicitDefEqProofs only [go_sem, h27, h29, h29', h32]
        exact LLoop.view [(100500, some 100500), (20000200, some 20000200), (20000201, some 20000201), (20000300, some 20000300), (20000301, some 20000301)] (by (first | rfl | simp -implicitDefEqProofs only [go_sem, h27, h29, h29', h32] <;> rfl)) (ih_M_ref18_Of_l2 _ _ h lo c Q hb)
    · replace h := ite_none h h27; replace h27 := bfalse h27
      try simp -implicitDefEqProofs only [go_sem, h27]
      injection h with h; subst h
      exact .inr ⟨[(100500, some 100500), (20000200, some 20000200), (20000201, some 20000201), (20000300, some 20000300), (20000301, some 20000301)], _, by (simp -implicitDefEqProofs only [go_sem, h27] <;> first | done | rfl | trivial), hb _ rfl⟩
theorem M_ref18_Of.l2.w : type_of% (@M_ref18_Of.l2.ws) := @M_ref18_Of.l2.ws
def M_ref18_Of.l3 (x : List T_api_Tree × List Set64 × Int × Set64 × Set64 × Int × Set64 × Int × T_ref18_Levels × T_ref18_Levels × T_api_Tree) : Option (Set64 × T_ref18_Levels) :=
  if (decide (x.2.2.2.2.2.2.2.1 < (x.2.2.2.2.2.2.2.2.2.2.Conj.length : Int))) = true then
    (getI x.2.2.2.2.2.2.2.2.2.2.Conj x.2.2.2.2.2.2.2.1) >>= fun (e44 : T_api_Pred) =>
    M_ref06_Tables e44 >>= fun r46 =>
    if (x.2.2.2.2.2.2.2.2.2.2.Kind == 1) = true then
      (room 152 x.2.2.2.2.2.2.2.2.2.1.Joins ([(⟨e44, (r46 &&& x.2.2.2.1), (r46 &&& x.2.2.2.2.1), x.2.2.2.2.2.1⟩ : T_ref18_Join)])) >>= fun (z49 : List T_ref18_Join) =>
      M_ref18_Of.l3 (x.1, x.2.1, x.2.2.1, x.2.2.2.1, x.2.2.2.2.1, x.2.2.2.2.2.1, (x.2.2.2.2.2.2.1 ||| r46), (w64 (x.2.2.2.2.2.2.2.1 + 1)), x.2.2.2.2.2.2.2.2.1, (⟨z49, x.2.2.2.2.2.2.2.2.2.1.Ops⟩ : T_ref18_Levels), x.2.2.2.2.2.2.2.2.2.2)
    else
      M_ref18_Of.l3 (x.1, x.2.1, x.2.2.1, x.2.2.2.1, x.2.2.2.2.1, x.2.2.2.2.2.1, (x.2.2.2.2.2.2.1 ||| r46), (w64 (x.2.2.2.2.2.2.2.1 + 1)), x.2.2.2.2.2.2.2.2.1, x.2.2.2.2.2.2.2.2.2.1, x.2.2.2.2.2.2.2.2.2.2)
  else
    some (x.2.2.2.2.2.2.1, x.2.2.2.2.2.2.2.2.2.1)
  partial_fixpoint
theorem M_ref18_Of.l3.ws : (∀ (x : List T_api_Tree × List Set64 × Int × Set64 × Set64 × Int × Set64 × Int × T_ref18_Levels × T_ref18_Levels × T_api_Tree) (o : Set64 × T_ref18_Levels), M_ref18_Of.l3 x = some o → (fun (x : List T_api_Tree × List Set64 × Int × Set64 × Set64 × Int × Set64 × Int × T_ref18_Levels × T_ref18_Levels × T_api_Tree) (o : Set64 × T_ref18_Levels) => ∀ (lo : Option Nat) (c : LCtx) (Q : Exit → LEnv → Prop) (hb : ∀ s : Set64 × T_ref18_Levels, o = s → Q (.exit 6) ⟨[(2, .lref 2 0), (3, .lref 3 0), (4, .v (.slice .foreign (x.1.map T_api_Tree.av))), (5, .own 100500 1 (x.2.1.map AV.w)), (7, .v (.i64 x.2.2.1)), (8, .lref 8 0), (9, .v (.w x.2.2.2.1)), (10, .v (.w x.2.2.2.2.1)), (11, .v (.i64 x.2.2.2.2.2.1)), (13, .v (.w s.1))], [(2, [.own 20000200 17 (x.2.2.2.2.2.2.2.2.1.Joins.map T_ref18_Join.av), .own 20000201 6 (x.2.2.2.2.2.2.2.2.1.Ops.map T_ref18_Op.av)]), (3, [.own 20000300 17 (s.2.Joins.map T_ref18_Join.av), .own 20000301 6 (s.2.Ops.map T_ref18_Op.av)]), (8, [.v (.i64 x.2.2.2.2.2.2.2.2.2.2.Kind), .v (.i64 x.2.2.2.2.2.2.2.2.2.2.Table), .v (.slice .foreign (x.2.2.2.2.2.2.2.2.2.2.Kids.map T_api_Tree.av)), .v (.slice .foreign (x.2.2.2.2.2.2.2.2.2.2.Conj.map T_api_Pred.av)), .v (.bool x.2.2.2.2.2.2.2.2.2.2.Hash)])]⟩), LLoop Try.prog 34 lo c 3 (VQ Q) ⟨[(2, .lref 2 0), (3, .lref 3 0), (4, .v (.slice .foreign (x.1.map T_api_Tree.av))), (5, .own 100500 1 (x.2.1.map AV.w)), (7, .v (.i64 x.2.2.1)), (8, .lref 8 0), (9, .v (.w x.2.2.2.1)), (10, .v (.w x.2.2.2.2.1)), (11, .v (.i64 x.2.2.2.2.2.1)), (13, .v (.w x.2.2.2.2.2.2.1)), (14, .v (.i64 x.2.2.2.2.2.2.2.1))], [(2, [.own 20000200 17 (x.2.2.2.2.2.2.2.2.1.Joins.map T_ref18_Join.av), .own 20000201 6 (x.2.2.2.2.2.2.2.2.1.Ops.map T_ref18_Op.av)]), (3, [.own 20000300 17 (x.2.2.2.2.2.2.2.2.2.1.Joins.map T_ref18_Join.av), .own 20000301 6 (x.2.2.2.2.2.2.2.2.2.1.Ops.map T_ref18_Op.av)]), (8, [.v (.i64 x.2.2.2.2.2.2.2.2.2.2.Kind), .v (.i64 x.2.2.2.2.2.2.2.2.2.2.Table), .v (.slice .foreign (x.2.2.2.2.2.2.2.2.2.2.Kids.map T_api_Tree.av)), .v (.slice .foreign (x.2.2.2.2.2.2.2.2.2.2.Conj.map T_api_Pred.av)), .v (.bool x.2.2.2.2.2.2.2.2.2.2.Hash)])]⟩) x o) := by
  refine M_ref18_Of.l3.partial_correctness _ ?_
  · intro M_M_ref18_Of_l3 ih_M_ref18_Of_l3 x o h
    intro lo c Q hb
    refine LLoop.step mix fn_34 (by kernel_rfl) ?_
    simp -implicitDefEqProofs only [go_sem, Try.f34]
    by_cases h43 : (decide (x.2.2.2.2.2.2.2.1 < (x.2.2.2.2.2.2.2.2.2.2.Conj.length : Int))) = true
    · replace h := ite_some h h43
      try simp -implicitDefEqProofs only [go_sem, h43]
      obtain ⟨e44, h45, h⟩ := bind_some' h; replace h45 := getI_some h45; obtain ⟨h45', h45⟩ := h45
      try simp -implicitDefEqProofs only [go_sem, h43, h45, h45']
      obtain ⟨r46, h47, h⟩ := bind_some' h
      refine .plain _ _ rfl (M_ref06_Tables.w e44 _ h47) ?_
      try simp -implicitDefEqProofs only [go_sem, h43, h45, h45']
      by_cases h48 : (x.2.2.2.2.2.2.2.2.2.2.Kind == 1) = true
      · replace h := ite_some h h48
        try simp -implicitDefEqProofs only [go_sem, h43, h45, h45', h48]
        obtain ⟨z49, h50, h⟩ := bind_some' h; replace h50 := room_some h50; obtain ⟨h50', rfl⟩ := h50
        refine LApp.map (F := T_ref18_Join.av) (xs := x.2.2.2.2.2.2.2.2.2.1.Joins) (ys := [(⟨e44, (r46 &&& x.2.2.2.1), (r46 &&& x.2.2.2.2.1), x.2.2.2.2.2.1⟩ : T_ref18_Join)]) t64_elem t126_size t126_bytes t126_zsize rfl T_ref18_Join.len (by (first | rfl | simp -implicitDefEqProofs only [go_sem, h43, h45, h45', h48] <;> rfl)) (by (first | rfl | simp -implicitDefEqProofs only [go_sem, h43, h45, h45', h48] <;> rfl)) h50' ?_
        try simp -implicitDefEqProofs only [go_sem, h43, h45, h45', h48]
        exact LLoop.view [(100500, some 100500), (20000200, some 20000200), (20000201, some 20000201), (20000300, some 133), (20000301, some 20000301)] (by (first | rfl | simp -implicitDefEqProofs only [go_sem, h43, h45, h45', h48] <;> rfl)) (ih_M_ref18_Of_l3 _ _ h lo c Q hb)
      · replace h := ite_none h h48; replace h48 := bfalse h48
        try simp -implicitDefEqProofs only [go_sem, h43, h45, h45', h48]
        exact LLoop.view [(100500, some 100500), (20000200, some 20000200), (20000201, some 20000201), (20000300, some 20000300), (20000301, some 20000301)] (by (first | rfl | simp -implicitDefEqProofs only [go_sem, h43, h45, h45', h48] <;> rfl)) (ih_M_ref18_Of_l3 _ _ h lo c Q hb)
    · replace h := ite_none h h43; replace h43 := bfalse h43
      try simp -implicitDefEqProofs only [go_sem, h43]
      injection h with h; subst h
      exact .inr ⟨[(100500, some 100500), (20000200, some 20000200), (20000201, some 20000201), (20000300, some 20000300), (20000301, some 20000301)], _, by (simp -implicitDefEqProofs only [go_sem, h43] <;> first | done | rfl | trivial), hb _ rfl⟩
theorem M_ref18_Of.l3.w : type_of% (@M_ref18_Of.l3.ws) := @M_ref18_Of.l3.ws
def M_ref18_Of.l1 (x : List T_api_Tree × List Set64 × Int × T_ref18_Levels × T_ref18_Levels) : Option (T_ref18_Levels) :=
  if (decide (x.2.2.1 < (x.1.length : Int))) = true then
    (getI x.1 x.2.2.1) >>= fun (e16 : T_api_Tree) =>
    if (e16.Kind == 0) = true then
      M_ref18_Of.l1 (x.1, x.2.1, (w64 (x.2.2.1 + 1)), x.2.2.2.1, x.2.2.2.2)
    else
      (e16.Kids[0]?) >>= fun (e19 : T_api_Tree) =>
      M_ref10_Tables e19 >>= fun r21 =>
      (e16.Kids[1]?) >>= fun (e23 : T_api_Tree) =>
      M_ref10_Tables e23 >>= fun r25 =>
      M_ref18_Of.l2 (x.1, x.2.1, x.2.2.1, r21, r25, -1, 0, x.2.2.2.1, x.2.2.2.2, e16) >>= fun (o41 : Int) =>
      M_ref18_Of.l3 (x.1, x.2.1, x.2.2.1, r21, r25, o41, 0#64, 0, x.2.2.2.1, x.2.2.2.2, e16) >>= fun (o51 : Set64 × T_ref18_Levels) =>
      if (decide (e16.Kind > 1)) = true then
        (room 64 o51.2.Ops ([(⟨e16.Kind, e16.Conj, (o51.1 &&& r21), (o51.1 &&& r25), r25, o41⟩ : T_ref18_Op)])) >>= fun (z54 : List T_ref18_Op) =>
        M_ref18_Of.l1 (x.1, x.2.1, (w64 (x.2.2.1 + 1)), x.2.2.2.1, (⟨o51.2.Joins, z54⟩ : T_ref18_Levels))
      else
        M_ref18_Of.l1 (x.1, x.2.1, (w64 (x.2.2.1 + 1)), x.2.2.2.1, o51.2)
  else
    some x.2.2.2.2
  partial_fixpoint
theorem M_ref18_Of.l1.ws : (∀ (x : List T_api_Tree × List Set64 × Int × T_ref18_Levels × T_ref18_Levels) (o : T_ref18_Levels), M_ref18_Of.l1 x = some o → (fun (x : List T_api_Tree × List Set64 × Int × T_ref18_Levels × T_ref18_Levels) (o : T_ref18_Levels) => ∀ (lo : Option Nat) (c : LCtx) (Q : Exit → LEnv → Prop) (hb : ∀ s : T_ref18_Levels, o = s → Q (.exit 2) ⟨[(2, .lref 2 0), (3, .lref 3 0)], [(2, [.own 20000200 17 (x.2.2.2.1.Joins.map T_ref18_Join.av), .own 20000201 6 (x.2.2.2.1.Ops.map T_ref18_Op.av)]), (3, [.own 20000300 17 (s.Joins.map T_ref18_Join.av), .own 20000301 6 (s.Ops.map T_ref18_Op.av)])]⟩), LLoop Try.prog 34 lo c 1 (VQ Q) ⟨[(2, .lref 2 0), (3, .lref 3 0), (4, .v (.slice .foreign (x.1.map T_api_Tree.av))), (5, .own 100500 1 (x.2.1.map AV.w)), (7, .v (.i64 x.2.2.1))], [(2, [.own 20000200 17 (x.2.2.2.1.Joins.map T_ref18_Join.av), .own 20000201 6 (x.2.2.2.1.Ops.map T_ref18_Op.av)]), (3, [.own 20000300 17 (x.2.2.2.2.Joins.map T_ref18_Join.av), .own 20000301 6 (x.2.2.2.2.Ops.map T_ref18_Op.av)])]⟩) x o) := by
  refine M_ref18_Of.l1.partial_correctness _ ?_
  · intro M_M_ref18_Of_l1 ih_M_ref18_Of_l1 x o h
    intro lo c Q hb
    refine LLoop.step mix fn_34 (by kernel_rfl) ?_
    simp -implicitDefEqProofs only [go_sem, Try.f34]
    by_cases h15 : (decide (x.2.2.1 < (x.1.length : Int))) = true
    · replace h := ite_some h h15
      try simp -implicitDefEqProofs only [go_sem, h15]
      obtain ⟨e16, h17, h⟩ := bind_some' h; replace h17 := getI_some h17; obtain ⟨h17', h17⟩ := h17
      try simp -implicitDefEqProofs only [go_sem, h15, h17, h17']
      by_cases h18 : (e16.Kind == 0) = true
      · replace h := ite_some h h18
        try simp -implicitDefEqProofs only [go_sem, h15, h17, h17', h18]
        exact LLoop.view [(100500, some 100500), (20000200, some 20000200), (20000201, some 20000201), (20000300, some 20000300), (20000301, some 20000301)] (by (first | rfl | simp -implicitDefEqProofs only [go_sem, h15, h17, h17', h18] <;> rfl)) (ih_M_ref18_Of_l1 _ _ h lo c Q hb)
      · replace h := ite_none h h18; replace h18 := bfalse h18
        try simp -implicitDefEqProofs only [go_sem, h15, h17, h17', h18]
        obtain ⟨e19, h20, h⟩ := bind_some' h
        try simp -implicitDefEqProofs only [go_sem, h15, h17, h17', h18, h20]
        obtain ⟨r21, h22, h⟩ := bind_some' h
        refine .plain _ _ rfl (M_ref10_Tables.w e19 _ h22) ?_
        try simp -implicitDefEqProofs only [go_sem, h15, h17, h17', h18, h20]
        obtain ⟨e23, h24, h⟩ := bind_some' h
        try simp -implicitDefEqProofs only [go_sem, h15, h17, h17', h18, h20, h24]
        obtain ⟨r25, h26, h⟩ := bind_some' h
        refine .plain _ _ rfl (M_ref10_Tables.w e23 _ h26) ?_
        try simp -implicitDefEqProofs only [go_sem, h15, h17, h17', h18, h20, h24]
        obtain ⟨o41, h42, h⟩ := bind_some' h
        refine LLoop.viewQ (LLoop.view [(100500, some 100500), (20000200, some 20000200), (20000201, some 20000201), (20000300, some 20000300), (20000301, some 20000301)] (by (first | rfl | simp -implicitDefEqProofs only [go_sem, h15, h17, h17', h18, h20, h24] <;> rfl)) (M_ref18_Of.l2.w (x.1, x.2.1, x.2.2.1, r21, r25, -1, 0, x.2.2.2.1, x.2.2.2.2, e16) _ h42 _ _ _ ?_))
        intro s' hs'; subst hs'
        try simp -implicitDefEqProofs only [go_sem, h15, h17, h17', h18, h20, h24]
        obtain ⟨o51, h52, h⟩ := bind_some' h
        refine LLoop.viewQ (LLoop.view [(100500, some 100500), (20000200, some 20000200), (20000201, some 20000201), (20000300, some 20000300), (20000301, some 20000301)] (by (first | rfl | simp -implicitDefEqProofs only [go_sem, h15, h17, h17', h18, h20, h24] <;> rfl)) (M_ref18_Of.l3.w (x.1, x.2.1, x.2.2.1, r21, r25, o41, 0#64, 0, x.2.2.2.1, x.2.2.2.2, e16) _ h52 _ _ _ ?_))
        intro s' hs'; subst hs'
        try simp -implicitDefEqProofs only [go_sem, h15, h17, h17', h18, h20, h24]
        by_cases h53 : (decide (e16.Kind > 1)) = true
        · replace h := ite_some h h53
          try simp -implicitDefEqProofs only [go_sem, h15, h17, h17', h18, h20, h24, h53]
          obtain ⟨z54, h55, h⟩ := bind_some' h; replace h55 := room_some h55; obtain ⟨h55', rfl⟩ := h55
          refine LApp.map (F := T_ref18_Op.av) (xs := o51.2.Ops) (ys := [(⟨e16.Kind, e16.Conj, (o51.1 &&& r21), (o51.1 &&& r25), r25, o41⟩ : T_ref18_Op)]) t65_elem t127_size t127_bytes t127_zsize rfl T_ref18_Op.len (by (first | rfl | simp -implicitDefEqProofs only [go_sem, h15, h17, h17', h18, h20, h24, h53] <;> rfl)) (by (first | rfl | simp -implicitDefEqProofs only [go_sem, h15, h17, h17', h18, h20, h24, h53] <;> rfl)) h55' ?_
          try simp -implicitDefEqProofs only [go_sem, h15, h17, h17', h18, h20, h24, h53]
          exact LLoop.view [(100500, some 100500), (20000200, some 20000200), (20000201, some 20000201), (20000300, some 20000300), (20000301, some 154)] (by (first | rfl | simp -implicitDefEqProofs only [go_sem, h15, h17, h17', h18, h20, h24, h53] <;> rfl)) (ih_M_ref18_Of_l1 _ _ h lo c Q hb)
        · replace h := ite_none h h53; replace h53 := bfalse h53
          try simp -implicitDefEqProofs only [go_sem, h15, h17, h17', h18, h20, h24, h53]
          exact LLoop.view [(100500, some 100500), (20000200, some 20000200), (20000201, some 20000201), (20000300, some 20000300), (20000301, some 20000301)] (by (first | rfl | simp -implicitDefEqProofs only [go_sem, h15, h17, h17', h18, h20, h24, h53] <;> rfl)) (ih_M_ref18_Of_l1 _ _ h lo c Q hb)
    · replace h := ite_none h h15; replace h15 := bfalse h15
      try simp -implicitDefEqProofs only [go_sem, h15]
      injection h with h; subst h
      exact .inr ⟨[(20000200, some 20000200), (20000201, some 20000201), (20000300, some 20000300), (20000301, some 20000301)], _, by (simp -implicitDefEqProofs only [go_sem, h15] <;> first | done | rfl | trivial), hb _ rfl⟩
theorem M_ref18_Of.l1.w : type_of% (@M_ref18_Of.l1.ws) := @M_ref18_Of.l1.ws
def M_ref18_Of (x : T_api_Tree) : Option (T_ref18_Levels) :=
  M_ref10_All x >>= fun r1 =>
  M_ref18_Of.l0 (r1, ([] : List Set64), 0, (⟨[], []⟩ : T_ref18_Levels), (⟨[], []⟩ : T_ref18_Levels)) >>= fun (o13 : List Set64) =>
  M_ref18_Of.l1 (r1, o13, 0, (⟨[], []⟩ : T_ref18_Levels), (⟨[], []⟩ : T_ref18_Levels)) >>= fun (o56 : T_ref18_Levels) =>
  some o56
theorem M_ref18_Of.w : ∀ (x : T_api_Tree) (r : T_ref18_Levels), M_ref18_Of x = some r → (fun (x : T_api_Tree) (r : T_ref18_Levels) => Fn Try.prog 34 [.agg (T_api_Tree.C x)] (.agg (T_ref18_Levels.C r))) x r := by
  intro x r h
  rw [M_ref18_Of] at h
  try dsimp only
  refine Fn.of_lc mix fn_34 lok_34 (by rfl) (flC (T_api_Tree.flatC _) (flN)) (T_ref18_Levels.flatC _) ?_
  simp -implicitDefEqProofs only [go_sem, Try.f34]
  obtain ⟨r1, h2, h⟩ := bind_some' h
  refine .plain _ _ rfl (M_ref10_All.w x _ h2) ?_
  try simp -implicitDefEqProofs only [go_sem]
  obtain ⟨o13, h14, h⟩ := bind_some' h
  refine LLoop.viewQ (LLoop.view [(100500, none), (20000200, none), (20000201, none), (20000300, none), (20000301, none)] (by (first | rfl | simp -implicitDefEqProofs only [go_sem] <;> rfl)) (M_ref18_Of.l0.w (r1, ([] : List Set64), 0, (⟨[], []⟩ : T_ref18_Levels), (⟨[], []⟩ : T_ref18_Levels)) _ h14 _ _ _ ?_))
  intro s' hs'; subst hs'
  try simp -implicitDefEqProofs only [go_sem]
  obtain ⟨o56, h57, h⟩ := bind_some' h
  refine LLoop.viewQ (LLoop.view [(100500, some 100500), (20000200, some 20000200), (20000201, some 20000201), (20000300, some 20000300), (20000301, some 20000301)] (by (first | rfl | simp -implicitDefEqProofs only [go_sem] <;> rfl)) (M_ref18_Of.l1.w (r1, o13, 0, (⟨[], []⟩ : T_ref18_Levels), (⟨[], []⟩ : T_ref18_Levels)) _ h57 _ _ _ ?_))
  intro s' hs'; subst hs'
  try simp -implicitDefEqProofs only [go_sem]
  injection h with h; subst h
  first | rfl | simp -implicitDefEqProofs only [go_sem] <;> rfl
end Go.Proofs.Ytakmilmckdllfaa.G
set_option linter.unusedVariables false
set_option linter.unusedSimpArgs false
set_option maxRecDepth 100000
namespace Go.Proofs.Ytakmilmckdllfaa.G
theorem lok_95 : (Try.f95.body.isSome && !(Try.f95.name == "runtime.NumGoroutine") && okL (bodyF Try.f95) Try.f95.ntmps (bodyF Try.f95)) = true := by kernel_rfl
def M_ref18_own (x : T_ref18_Levels × Int) : Option (Set64) :=
  if (decide (x.2 < 0)) = true then
    some (0#64)
  else
    (getI x.1.Ops x.2) >>= fun (e2 : T_ref18_Op) =>
    some e2.Own
theorem M_ref18_own.w : ∀ (x : T_ref18_Levels × Int) (r : Set64), M_ref18_own x = some r → (fun (x : T_ref18_Levels × Int) (r : Set64) => Fn Try.prog 95 [.agg (T_ref18_Levels.C x.1), .i64 x.2] (.w r)) x r := by
  intro x r h
  rw [M_ref18_own] at h
  try dsimp only
  refine Fn.of_lc mix fn_95 lok_95 (by rfl) (flC (T_ref18_Levels.flatC _) (flC (.atom _) (flN))) (.atom _) ?_
  simp -implicitDefEqProofs only [go_sem, Try.f95]
  by_cases h1 : (decide (x.2 < 0)) = true
  · replace h := ite_some h h1
    try simp -implicitDefEqProofs only [go_sem, h1]
    injection h with h; subst h
    first | rfl | (simp -implicitDefEqProofs only [go_sem, h1] <;> rfl)
  · replace h := ite_none h h1; replace h1 := bfalse h1
    try simp -implicitDefEqProofs only [go_sem, h1]
    obtain ⟨e2, h3, h⟩ := bind_some' h; replace h3 := getI_some h3; obtain ⟨h3', h3⟩ := h3
    try simp -implicitDefEqProofs only [go_sem, h1, h3, h3']
    injection h with h; subst h
    first | rfl | (simp -implicitDefEqProofs only [go_sem, h1, h3, h3'] <;> rfl)
end Go.Proofs.Ytakmilmckdllfaa.G
set_option linter.unusedVariables false
set_option linter.unusedSimpArgs false
set_option maxRecDepth 100000
namespace Go.Proofs.Ytakmilmckdllfaa.G
@[go_sem] theorem lrp_96_5 : lrp Try.prog 96 5 = (20, []) := by kernel_rfl
theorem lok_96 : (Try.f96.body.isSome && !(Try.f96.name == "runtime.NumGoroutine") && okL (bodyF Try.f96) Try.f96.ntmps (bodyF Try.f96)) = true := by kernel_rfl
def M_ref18_joins.l0 (x : Set64 × Int × Int × T_ref18_Levels × T_api_Pred) : Option (Int) :=
  if (decide (x.2.2.1 < (x.2.2.2.1.Joins.length : Int))) = true then
    (getI x.2.2.2.1.Joins x.2.2.1) >>= fun (e2 : T_ref18_Join) =>
    M_ref06_Same (e2.Pred, x.2.2.2.2) >>= fun r4 =>
    if r4 = true then
      M_ref18_own (x.2.2.2.1, e2.Home) >>= fun r7 =>
      if (r7 == x.1) = true then
        M_ref18_joins.l0 (x.1, (w64 (x.2.1 + 1)), (w64 (x.2.2.1 + 1)), x.2.2.2.1, x.2.2.2.2)
      else
        M_ref18_joins.l0 (x.1, x.2.1, (w64 (x.2.2.1 + 1)), x.2.2.2.1, x.2.2.2.2)
    else
      M_ref18_joins.l0 (x.1, x.2.1, (w64 (x.2.2.1 + 1)), x.2.2.2.1, x.2.2.2.2)
  else
    some x.2.1
  partial_fixpoint
theorem M_ref18_joins.l0.ws : (∀ (x : Set64 × Int × Int × T_ref18_Levels × T_api_Pred) (o : Int), M_ref18_joins.l0 x = some o → (fun (x : Set64 × Int × Int × T_ref18_Levels × T_api_Pred) (o : Int) => ∀ (lo : Option Nat) (c : LCtx) (Q : Exit → LEnv → Prop) (hb : ∀ s : Int, o = s → Q (.exit 0) ⟨[(7, .v (.i64 s))], []⟩), LLoop Try.prog 96 lo c 0 (VQ Q) ⟨[(2, .v (.w x.1)), (3, .lref 3 0), (4, .lref 4 0), (7, .v (.i64 x.2.1)), (8, .v (.i64 x.2.2.1))], [(3, [.v (.slice .foreign (x.2.2.2.1.Joins.map T_ref18_Join.av)), .v (.slice .foreign (x.2.2.2.1.Ops.map T_ref18_Op.av))]), (4, [.v (.i64 x.2.2.2.2.Kind), .v (.i64 x.2.2.2.2.Truth), .v (.i64 x.2.2.2.2.Op), .v (.i64 x.2.2.2.2.A.Kind), .v (.i64 x.2.2.2.2.A.Table), .v (.i64 x.2.2.2.2.A.Col), .v (.bool x.2.2.2.2.A.Value.Null), .v (.i64 x.2.2.2.2.A.Value.N), .v (.i64 x.2.2.2.2.B.Kind), .v (.i64 x.2.2.2.2.B.Table), .v (.i64 x.2.2.2.2.B.Col), .v (.bool x.2.2.2.2.B.Value.Null), .v (.i64 x.2.2.2.2.B.Value.N), .v (.slice .foreign (x.2.2.2.2.Parts.map T_api_Pred.av))])]⟩) x o) := by
  refine M_ref18_joins.l0.partial_correctness _ ?_
  · intro M_M_ref18_joins_l0 ih_M_ref18_joins_l0 x o h
    intro lo c Q hb
    refine LLoop.step mix fn_96 (by kernel_rfl) ?_
    simp -implicitDefEqProofs only [go_sem, Try.f96]
    by_cases h1 : (decide (x.2.2.1 < (x.2.2.2.1.Joins.length : Int))) = true
    · replace h := ite_some h h1
      try simp -implicitDefEqProofs only [go_sem, h1]
      obtain ⟨e2, h3, h⟩ := bind_some' h; replace h3 := getI_some h3; obtain ⟨h3', h3⟩ := h3
      try simp -implicitDefEqProofs only [go_sem, h1, h3, h3']
      obtain ⟨r4, h5, h⟩ := bind_some' h
      refine .plain _ _ rfl (M_ref06_Same.w (e2.Pred, x.2.2.2.2) _ h5) ?_
      try simp -implicitDefEqProofs only [go_sem, h1, h3, h3']
      by_cases h6 : r4 = true
      · replace h := ite_some h h6
        try simp -implicitDefEqProofs only [go_sem, h1, h3, h3', h6]
        obtain ⟨r7, h8, h⟩ := bind_some' h
        refine .plain _ _ rfl (M_ref18_own.w (x.2.2.2.1, e2.Home) _ h8) ?_
        try simp -implicitDefEqProofs only [go_sem, h1, h3, h3', h6]
        by_cases h9 : (r7 == x.1) = true
        · replace h := ite_some h h9
          try simp -implicitDefEqProofs only [go_sem, h1, h3, h3', h6, h9]
          exact LLoop.view [] (by (first | rfl | (simp -implicitDefEqProofs only [go_sem, h1, h3, h3', h6, h9] <;> rfl))) (ih_M_ref18_joins_l0 _ _ h lo c Q hb)
        · replace h := ite_none h h9; replace h9 := bfalse h9
          try simp -implicitDefEqProofs only [go_sem, h1, h3, h3', h6, h9]
          exact LLoop.view [] (by (first | rfl | (simp -implicitDefEqProofs only [go_sem, h1, h3, h3', h6, h9] <;> rfl))) (ih_M_ref18_joins_l0 _ _ h lo c Q hb)
      · replace h := ite_none h h6; replace h6 := bfalse h6
        try simp -implicitDefEqProofs only [go_sem, h1, h3, h3', h6]
        exact LLoop.view [] (by (first | rfl | (simp -implicitDefEqProofs only [go_sem, h1, h3, h3', h6] <;> rfl))) (ih_M_ref18_joins_l0 _ _ h lo c Q hb)
    · replace h := ite_none h h1; replace h1 := bfalse h1
      try simp -implicitDefEqProofs only [go_sem, h1]
      injection h with h; subst h
      exact .inr ⟨[], _, by (simp -implicitDefEqProofs only [go_sem, h1] <;> first | done | rfl | trivial), hb _ rfl⟩
theorem M_ref18_joins.l0.w : type_of% (M_ref18_joins.l0.ws) := M_ref18_joins.l0.ws
def M_ref18_joins (x : T_ref18_Levels × T_api_Pred × Set64) : Option (Int) :=
  M_ref18_joins.l0 (x.2.2, 0, 0, x.1, x.2.1) >>= fun (o10 : Int) =>
  some o10
theorem M_ref18_joins.w : ∀ (x : T_ref18_Levels × T_api_Pred × Set64) (r : Int), M_ref18_joins x = some r → (fun (x : T_ref18_Levels × T_api_Pred × Set64) (r : Int) => Fn Try.prog 96 [.agg (T_ref18_Levels.C x.1), .agg (T_api_Pred.C x.2.1), .w x.2.2] (.i64 r)) x r := by
  intro x r h
  rw [M_ref18_joins] at h
  try dsimp only
  refine Fn.of_lc mix fn_96 lok_96 (by rfl) (flC (T_ref18_Levels.flatC _) (flC (T_api_Pred.flatC _) (flC (.atom _) (flN)))) (.atom _) ?_
  simp -implicitDefEqProofs only [go_sem, Try.f96]
  obtain ⟨o10, h11, h⟩ := bind_some' h
  refine LLoop.viewQ (LLoop.view [] (by (first | rfl | (simp -implicitDefEqProofs only [go_sem] <;> rfl))) (M_ref18_joins.l0.w (x.2.2, 0, 0, x.1, x.2.1) _ h11 _ _ _ ?_))
  intro s' hs'; subst hs'
  try simp -implicitDefEqProofs only [go_sem]
  injection h with h; subst h
  first | rfl | (simp -implicitDefEqProofs only [go_sem] <;> rfl)
end Go.Proofs.Ytakmilmckdllfaa.G
set_option linter.unusedVariables false
set_option linter.unusedSimpArgs false
set_option maxRecDepth 100000
namespace Go.Proofs.Ytakmilmckdllfaa.G
@[go_sem] theorem lrp_38_10 : lrp Try.prog 38 10 = (12, [6, 9]) := by kernel_rfl
@[go_sem] theorem lrp_38_11 : lrp Try.prog 38 11 = (34, []) := by kernel_rfl
@[go_sem] theorem lrp_38_17 : lrp Try.prog 38 17 = (9, []) := by kernel_rfl
@[go_sem] theorem lrp_38_18 : lrp Try.prog 38 18 = (19, []) := by kernel_rfl
theorem lok_38 : (Try.f38.body.isSome && !(Try.f38.name == "runtime.NumGoroutine") && okL (bodyF Try.f38) Try.f38.ntmps (bodyF Try.f38)) = true := by kernel_rfl
def M_ref18_Same.l1 (x : Int × Bool × Int × T_ref18_Levels × T_ref18_Levels) : Option (Bool) :=
  if (decide (x.2.2.1 < (x.2.2.2.2.Ops.length : Int))) = true then
    (getI x.2.2.2.1.Ops x.1) >>= fun (e5 : T_ref18_Op) =>
    (getI x.2.2.2.2.Ops x.2.2.1) >>= fun (e7 : T_ref18_Op) =>
    if x.2.1 = true then
      M_ref18_Same.l1 (x.1, true, (w64 (x.2.2.1 + 1)), x.2.2.2.1, x.2.2.2.2)
    else
      if (e5.Kind == e7.Kind) = true then
        if (e5.Own == e7.Own) = true then
          M_ref06_List (e5.Conj, e7.Conj) >>= fun r12 =>
          if r12 = true then
            M_ref18_own (x.2.2.2.1, e5.Home) >>= fun r15 =>
            M_ref18_own (x.2.2.2.2, e7.Home) >>= fun r17 =>
            M_ref18_Same.l1 (x.1, (r15 == r17), (w64 (x.2.2.1 + 1)), x.2.2.2.1, x.2.2.2.2)
          else
            M_ref18_Same.l1 (x.1, false, (w64 (x.2.2.1 + 1)), x.2.2.2.1, x.2.2.2.2)
        else
          M_ref18_Same.l1 (x.1, false, (w64 (x.2.2.1 + 1)), x.2.2.2.1, x.2.2.2.2)
      else
        M_ref18_Same.l1 (x.1, false, (w64 (x.2.2.1 + 1)), x.2.2.2.1, x.2.2.2.2)
  else
    some x.2.1
  partial_fixpoint
theorem M_ref18_Same.l1.ws : (∀ (x : Int × Bool × Int × T_ref18_Levels × T_ref18_Levels) (o : Bool), M_ref18_Same.l1 x = some o → (fun (x : Int × Bool × Int × T_ref18_Levels × T_ref18_Levels) (o : Bool) => ∀ (lo : Option Nat) (c : LCtx) (Q : Exit → LEnv → Prop) (hb : ∀ s : Bool, o = s → Q (.exit 2) ⟨[(2, .lref 2 0), (3, .lref 3 0), (5, .v (.i64 x.1)), (6, .v (.bool s))], [(2, [.v (.slice .foreign (x.2.2.2.1.Joins.map T_ref18_Join.av)), .v (.slice .foreign (x.2.2.2.1.Ops.map T_ref18_Op.av))]), (3, [.v (.slice .foreign (x.2.2.2.2.Joins.map T_ref18_Join.av)), .v (.slice .foreign (x.2.2.2.2.Ops.map T_ref18_Op.av))])]⟩), LLoop Try.prog 38 lo c 1 (VQ Q) ⟨[(2, .lref 2 0), (3, .lref 3 0), (5, .v (.i64 x.1)), (6, .v (.bool x.2.1)), (7, .v (.i64 x.2.2.1))], [(2, [.v (.slice .foreign (x.2.2.2.1.Joins.map T_ref18_Join.av)), .v (.slice .foreign (x.2.2.2.1.Ops.map T_ref18_Op.av))]), (3, [.v (.slice .foreign (x.2.2.2.2.Joins.map T_ref18_Join.av)), .v (.slice .foreign (x.2.2.2.2.Ops.map T_ref18_Op.av))])]⟩) x o) := by
  refine M_ref18_Same.l1.partial_correctness _ ?_
  · intro M_M_ref18_Same_l1 ih_M_ref18_Same_l1 x o h
    intro lo c Q hb
    refine LLoop.step mix fn_38 (by kernel_rfl) ?_
    simp -implicitDefEqProofs only [go_sem, Try.f38]
    by_cases h4 : (decide (x.2.2.1 < (x.2.2.2.2.Ops.length : Int))) = true
    · replace h := ite_some h h4
      try simp -implicitDefEqProofs only [go_sem, h4]
      obtain ⟨e5, h6, h⟩ := bind_some' h; replace h6 := getI_some h6; obtain ⟨h6', h6⟩ := h6
      try simp -implicitDefEqProofs only [go_sem, h4, h6, h6']
      obtain ⟨e7, h8, h⟩ := bind_some' h; replace h8 := getI_some h8; obtain ⟨h8', h8⟩ := h8
      try simp -implicitDefEqProofs only [go_sem, h4, h6, h6', h8, h8']
      by_cases h9 : x.2.1 = true
      · replace h := ite_some h h9
        try simp -implicitDefEqProofs only [go_sem, h4, h6, h6', h8, h8', h9]
        exact LLoop.view [] (by (first | rfl | (simp -implicitDefEqProofs only [go_sem, h4, h6, h6', h8, h8', h9] <;> rfl))) (ih_M_ref18_Same_l1 _ _ h lo c Q hb)
      · replace h := ite_none h h9; replace h9 := bfalse h9
        try simp -implicitDefEqProofs only [go_sem, h4, h6, h6', h8, h8', h9]
        by_cases h10 : (e5.Kind == e7.Kind) = true
        · replace h := ite_some h h10
          try simp -implicitDefEqProofs only [go_sem, h4, h6, h6', h8, h8', h9, h10]
          by_cases h11 : (e5.Own == e7.Own) = true
          · replace h := ite_some h h11
            try simp -implicitDefEqProofs only [go_sem, h4, h6, h6', h8, h8', h9, h10, h11]
            obtain ⟨r12, h13, h⟩ := bind_some' h
            refine .plain _ _ rfl (M_ref06_List.w (e5.Conj, e7.Conj) _ h13) ?_
            try simp -implicitDefEqProofs only [go_sem, h4, h6, h6', h8, h8', h9, h10, h11]
            by_cases h14 : r12 = true
            · replace h := ite_some h h14
              try simp -implicitDefEqProofs only [go_sem, h4, h6, h6', h8, h8', h9, h10, h11, h14]
              obtain ⟨r15, h16, h⟩ := bind_some' h
              refine .plain _ _ rfl (M_ref18_own.w (x.2.2.2.1, e5.Home) _ h16) ?_
              try simp -implicitDefEqProofs only [go_sem, h4, h6, h6', h8, h8', h9, h10, h11, h14]
              obtain ⟨r17, h18, h⟩ := bind_some' h
              refine .plain _ _ rfl (M_ref18_own.w (x.2.2.2.2, e7.Home) _ h18) ?_
              try simp -implicitDefEqProofs only [go_sem, h4, h6, h6', h8, h8', h9, h10, h11, h14]
              exact LLoop.view [] (by (first | rfl | (simp -implicitDefEqProofs only [go_sem, h4, h6, h6', h8, h8', h9, h10, h11, h14] <;> rfl))) (ih_M_ref18_Same_l1 _ _ h lo c Q hb)
            · replace h := ite_none h h14; replace h14 := bfalse h14
              try simp -implicitDefEqProofs only [go_sem, h4, h6, h6', h8, h8', h9, h10, h11, h14]
              exact LLoop.view [] (by (first | rfl | (simp -implicitDefEqProofs only [go_sem, h4, h6, h6', h8, h8', h9, h10, h11, h14] <;> rfl))) (ih_M_ref18_Same_l1 _ _ h lo c Q hb)
          · replace h := ite_none h h11; replace h11 := bfalse h11
            try simp -implicitDefEqProofs only [go_sem, h4, h6, h6', h8, h8', h9, h10, h11]
            exact LLoop.view [] (by (first | rfl | (simp -implicitDefEqProofs only [go_sem, h4, h6, h6', h8, h8', h9, h10, h11] <;> rfl))) (ih_M_ref18_Same_l1 _ _ h lo c Q hb)
        · replace h := ite_none h h10; replace h10 := bfalse h10
          try simp -implicitDefEqProofs only [go_sem, h4, h6, h6', h8, h8', h9, h10]
          exact LLoop.view [] (by (first | rfl | (simp -implicitDefEqProofs only [go_sem, h4, h6, h6', h8, h8', h9, h10] <;> rfl))) (ih_M_ref18_Same_l1 _ _ h lo c Q hb)
    · replace h := ite_none h h4; replace h4 := bfalse h4
      try simp -implicitDefEqProofs only [go_sem, h4]
      injection h with h; subst h
      exact .inr ⟨[], _, by (simp -implicitDefEqProofs only [go_sem, h4] <;> first | done | rfl | trivial), hb _ rfl⟩
theorem M_ref18_Same.l1.w : type_of% (M_ref18_Same.l1.ws) := M_ref18_Same.l1.ws
def M_ref18_Same.l0 (x : Int × T_ref18_Levels × T_ref18_Levels) : Option (Lp (Unit) (Bool)) :=
  if (decide (x.1 < (x.2.1.Ops.length : Int))) = true then
    M_ref18_Same.l1 (x.1, false, 0, x.2.1, x.2.2) >>= fun (o19 : Bool) =>
    if o19 = true then
      M_ref18_Same.l0 ((w64 (x.1 + 1)), x.2.1, x.2.2)
    else
      some (.ret false)
  else
    some (.brk ())
  partial_fixpoint
theorem M_ref18_Same.l0.ws : (∀ (x : Int × T_ref18_Levels × T_ref18_Levels) (o : Lp (Unit) (Bool)), M_ref18_Same.l0 x = some o → (fun (x : Int × T_ref18_Levels × T_ref18_Levels) (o : Lp (Unit) (Bool)) => ∀ (lo : Option Nat) (c : LCtx) (Q : Exit → LEnv → Prop) (hb : ∀ s : Unit, o = Lp.brk s → Q (.exit 0) ⟨[(2, .lref 2 0), (3, .lref 3 0)], [(2, [.v (.slice .foreign (x.2.1.Joins.map T_ref18_Join.av)), .v (.slice .foreign (x.2.1.Ops.map T_ref18_Op.av))]), (3, [.v (.slice .foreign (x.2.2.Joins.map T_ref18_Join.av)), .v (.slice .foreign (x.2.2.Ops.map T_ref18_Op.av))])]⟩) (hr : ∀ (r : Bool) (L : LEnv), o = .ret r → LPostF Try.prog [.tmp 4] (.bool r) (fun _ => True) .ret L → Q .ret L), LLoop Try.prog 38 lo c 0 (VQ Q) ⟨[(2, .lref 2 0), (3, .lref 3 0), (5, .v (.i64 x.1))], [(2, [.v (.slice .foreign (x.2.1.Joins.map T_ref18_Join.av)), .v (.slice .foreign (x.2.1.Ops.map T_ref18_Op.av))]), (3, [.v (.slice .foreign (x.2.2.Joins.map T_ref18_Join.av)), .v (.slice .foreign (x.2.2.Ops.map T_ref18_Op.av))])]⟩) x o) := by
  refine M_ref18_Same.l0.partial_correctness _ ?_
  · intro M_M_ref18_Same_l0 ih_M_ref18_Same_l0 x o h
    intro lo c Q hb hr
    refine LLoop.step mix fn_38 (by kernel_rfl) ?_
    simp -implicitDefEqProofs only [go_sem, Try.f38]
    by_cases h3 : (decide (x.1 < (x.2.1.Ops.length : Int))) = true
    · replace h := ite_some h h3
      try simp -implicitDefEqProofs only [go_sem, h3]
      obtain ⟨o19, h20, h⟩ := bind_some' h
      refine LLoop.viewQ (LLoop.view [] (by (first | rfl | (simp -implicitDefEqProofs only [go_sem, h3] <;> rfl))) (M_ref18_Same.l1.w (x.1, false, 0, x.2.1, x.2.2) _ h20 _ _ _ ?_))
      intro s' hs'; subst hs'
      try simp -implicitDefEqProofs only [go_sem, h3]
      by_cases h21 : o19 = true
      · replace h := ite_some h h21
        try simp -implicitDefEqProofs only [go_sem, h3, h21]
        exact LLoop.view [] (by (first | rfl | (simp -implicitDefEqProofs only [go_sem, h3, h21] <;> rfl))) (ih_M_ref18_Same_l0 _ _ h lo c Q hb hr)
      · replace h := ite_none h h21; replace h21 := bfalse h21
        try simp -implicitDefEqProofs only [go_sem, h3, h21]
        injection h with h; subst h
        exact .inl (hr _ _ rfl (by (first | rfl | (simp -implicitDefEqProofs only [go_sem, h3, h21] <;> rfl))))
    · replace h := ite_none h h3; replace h3 := bfalse h3
      try simp -implicitDefEqProofs only [go_sem, h3]
      injection h with h; subst h
      exact .inr ⟨[], _, by (simp -implicitDefEqProofs only [go_sem, h3] <;> first | done | rfl | trivial), hb _ rfl⟩
theorem M_ref18_Same.l0.w : type_of% (M_ref18_Same.l0.ws) := M_ref18_Same.l0.ws
def M_ref18_Same.l2 (x : Int × T_ref18_Levels × T_ref18_Levels) : Option (Lp (Unit) (Bool)) :=
  if (decide (x.1 < (x.2.1.Joins.length : Int))) = true then
    (getI x.2.1.Joins x.1) >>= fun (e27 : T_ref18_Join) =>
    M_ref18_own (x.2.1, e27.Home) >>= fun r29 =>
    M_ref18_joins (x.2.1, e27.Pred, r29) >>= fun r31 =>
    M_ref18_joins (x.2.2, e27.Pred, r29) >>= fun r33 =>
    if (r31 != r33) = true then
      some (.ret false)
    else
      M_ref18_Same.l2 ((w64 (x.1 + 1)), x.2.1, x.2.2)
  else
    some (.brk ())
  partial_fixpoint
theorem M_ref18_Same.l2.ws : (∀ (x : Int × T_ref18_Levels × T_ref18_Levels) (o : Lp (Unit) (Bool)), M_ref18_Same.l2 x = some o → (fun (x : Int × T_ref18_Levels × T_ref18_Levels) (o : Lp (Unit) (Bool)) => ∀ (lo : Option Nat) (c : LCtx) (Q : Exit → LEnv → Prop) (hb : ∀ s : Unit, o = Lp.brk s → Q (.exit 4) ⟨[], []⟩) (hr : ∀ (r : Bool) (L : LEnv), o = .ret r → LPostF Try.prog [.tmp 4] (.bool r) (fun _ => True) .ret L → Q .ret L), LLoop Try.prog 38 lo c 2 (VQ Q) ⟨[(2, .lref 2 0), (3, .lref 3 0), (10, .v (.i64 x.1))], [(2, [.v (.slice .foreign (x.2.1.Joins.map T_ref18_Join.av)), .v (.slice .foreign (x.2.1.Ops.map T_ref18_Op.av))]), (3, [.v (.slice .foreign (x.2.2.Joins.map T_ref18_Join.av)), .v (.slice .foreign (x.2.2.Ops.map T_ref18_Op.av))])]⟩) x o) := by
  refine M_ref18_Same.l2.partial_correctness _ ?_
  · intro M_M_ref18_Same_l2 ih_M_ref18_Same_l2 x o h
    intro lo c Q hb hr
    refine LLoop.step mix fn_38 (by kernel_rfl) ?_
    simp -implicitDefEqProofs only [go_sem, Try.f38]
    by_cases h26 : (decide (x.1 < (x.2.1.Joins.length : Int))) = true
    · replace h := ite_some h h26
      try simp -implicitDefEqProofs only [go_sem, h26]
      obtain ⟨e27, h28, h⟩ := bind_some' h; replace h28 := getI_some h28; obtain ⟨h28', h28⟩ := h28
      try simp -implicitDefEqProofs only [go_sem, h26, h28, h28']
      obtain ⟨r29, h30, h⟩ := bind_some' h
      refine .plain _ _ rfl (M_ref18_own.w (x.2.1, e27.Home) _ h30) ?_
      try simp -implicitDefEqProofs only [go_sem, h26, h28, h28']
      obtain ⟨r31, h32, h⟩ := bind_some' h
      refine .plain _ _ rfl (M_ref18_joins.w (x.2.1, e27.Pred, r29) _ h32) ?_
      try simp -implicitDefEqProofs only [go_sem, h26, h28, h28']
      obtain ⟨r33, h34, h⟩ := bind_some' h
      refine .plain _ _ rfl (M_ref18_joins.w (x.2.2, e27.Pred, r29) _ h34) ?_
      try simp -implicitDefEqProofs only [go_sem, h26, h28, h28']
      by_cases h35 : (r31 != r33) = true
      · replace h := ite_some h h35
        try simp -implicitDefEqProofs only [go_sem, h26, h28, h28', h35]
        injection h with h; subst h
        exact .inl (hr _ _ rfl (by (first | rfl | (simp -implicitDefEqProofs only [go_sem, h26, h28, h28', h35] <;> rfl))))
      · replace h := ite_none h h35; replace h35 := bfalse h35
        try simp -implicitDefEqProofs only [go_sem, h26, h28, h28', h35]
        exact LLoop.view [] (by (first | rfl | (simp -implicitDefEqProofs only [go_sem, h26, h28, h28', h35] <;> rfl))) (ih_M_ref18_Same_l2 _ _ h lo c Q hb hr)
    · replace h := ite_none h h26; replace h26 := bfalse h26
      try simp -implicitDefEqProofs only [go_sem, h26]
      injection h with h; subst h
      exact .inr ⟨[], _, by (simp -implicitDefEqProofs only [go_sem, h26] <;> first | done | rfl | trivial), hb _ rfl⟩
theorem M_ref18_Same.l2.w : type_of% (M_ref18_Same.l2.ws) := M_ref18_Same.l2.ws
def M_ref18_Same (x : T_ref18_Levels × T_ref18_Levels) : Option (Bool) :=
  if ((x.1.Joins.length : Int) != (x.2.Joins.length : Int)) = true then
    some false
  else
    if ((x.1.Ops.length : Int) != (x.2.Ops.length : Int)) = true then
      some false
    else
      M_ref18_Same.l0 (0, x.1, x.2) >>= fun (o22 : Lp (Unit) (Bool)) => match o22 with
      | .brk s25 =>
        M_ref18_Same.l2 (0, x.1, x.2) >>= fun (o36 : Lp (Unit) (Bool)) => match o36 with
        | .brk s39 =>
          some true
        | .ret r38 =>
          some r38
      | .ret r24 =>
        some r24
theorem M_ref18_Same.w : ∀ (x : T_ref18_Levels × T_ref18_Levels) (r : Bool), M_ref18_Same x = some r → (fun (x : T_ref18_Levels × T_ref18_Levels) (r : Bool) => Fn Try.prog 38 [.agg (T_ref18_Levels.C x.1), .agg (T_ref18_Levels.C x.2)] (.bool r)) x r := by
  intro x r h
  rw [M_ref18_Same] at h
  try dsimp only
  refine Fn.of_lc mix fn_38 lok_38 (by rfl) (flC (T_ref18_Levels.flatC _) (flC (T_ref18_Levels.flatC _) (flN))) (.atom _) ?_
  simp -implicitDefEqProofs only [go_sem, Try.f38]
  by_cases h1 : ((x.1.Joins.length : Int) != (x.2.Joins.length : Int)) = true
  · replace h := ite_some h h1
    try simp -implicitDefEqProofs only [go_sem, h1]
    injection h with h; subst h
    first | rfl | (simp -implicitDefEqProofs only [go_sem, h1] <;> rfl)
  · replace h := ite_none h h1; replace h1 := bfalse h1
    try simp -implicitDefEqProofs only [go_sem, h1]
    by_cases h2 : ((x.1.Ops.length : Int) != (x.2.Ops.length : Int)) = true
    · replace h := ite_some h h2
      try simp -implicitDefEqProofs only [go_sem, h1, h2]
      injection h with h; subst h
      first | rfl | (simp -implicitDefEqProofs only [go_sem, h1, h2] <;> rfl)
    · replace h := ite_none h h2; replace h2 := bfalse h2
      try simp -implicitDefEqProofs only [go_sem, h1, h2]
      obtain ⟨o22, h23, h⟩ := bind_some' h
      refine LLoop.viewQ (LLoop.view [] (by (first | rfl | (simp -implicitDefEqProofs only [go_sem, h1, h2] <;> rfl))) (M_ref18_Same.l0.w (0, x.1, x.2) _ h23 _ _ _ ?_ ?_))
      · intro s25 hs'; subst hs'
        try simp -implicitDefEqProofs only [go_sem, h1, h2]
        obtain ⟨o36, h37, h⟩ := bind_some' h
        refine LLoop.viewQ (LLoop.view [] (by (first | rfl | (simp -implicitDefEqProofs only [go_sem, h1, h2] <;> rfl))) (M_ref18_Same.l2.w (0, x.1, x.2) _ h37 _ _ _ ?_ ?_))
        · intro s39 hs'; subst hs'
          try simp -implicitDefEqProofs only [go_sem, h1, h2]
          injection h with h; subst h
          first | rfl | (simp -implicitDefEqProofs only [go_sem, h1, h2] <;> rfl)
        · intro r38 L' hs' hL'; subst hs'
          injection h with h; subst h
          first | exact hL' | (simp -implicitDefEqProofs only [go_sem]; exact hL') | (simp -implicitDefEqProofs only [go_sem]; simp -implicitDefEqProofs only [go_sem] at hL'; exact hL')
      · intro r24 L' hs' hL'; subst hs'
        injection h with h; subst h
        first | exact hL' | (simp -implicitDefEqProofs only [go_sem]; exact hL') | (simp -implicitDefEqProofs only [go_sem]; simp -implicitDefEqProofs only [go_sem] at hL'; exact hL')
end Go.Proofs.Ytakmilmckdllfaa.G
set_option linter.unusedVariables false
set_option linter.unusedSimpArgs false
set_option maxRecDepth 100000
namespace Go.Proofs.Ytakmilmckdllfaa.G
theorem lok_40 : (Try.f40.body.isSome && !(Try.f40.name == "runtime.NumGoroutine") && okL (bodyF Try.f40) Try.f40.ntmps (bodyF Try.f40)) = true := by kernel_rfl
def M_ref18_Within (x : T_ref18_Levels × Int × Int) : Option (Bool) :=
  if (decide (x.2.1 < 0)) = true then
    some false
  else
    if (decide (x.2.1 ≥ (x.1.Ops.length : Int))) = true then
      some false
    else
      (getI x.1.Ops x.2.1) >>= fun (e3 : T_ref18_Op) =>
      if (e3.Home == x.2.2) = true then
        some true
      else
        M_ref18_Within (x.1, e3.Home, x.2.2) >>= fun r6 =>
        some r6
  partial_fixpoint
theorem M_ref18_Within.ws : (∀ (x : T_ref18_Levels × Int × Int) (o : Bool), M_ref18_Within x = some o → (fun (x : T_ref18_Levels × Int × Int) (r : Bool) => Fn Try.prog 40 [.agg (T_ref18_Levels.C x.1), .i64 x.2.1, .i64 x.2.2] (.bool r)) x o) := by
  refine M_ref18_Within.partial_correctness _ ?_
  · intro M_M_ref18_Within ih_M_ref18_Within x r h
    refine Fn.of_lc mix fn_40 lok_40 (by rfl) (flC (T_ref18_Levels.flatC _) (flC (.atom _) (flC (.atom _) (flN)))) (.atom _) ?_
    simp -implicitDefEqProofs only [go_sem, Try.f40]
    by_cases h1 : (decide (x.2.1 < 0)) = true
    · replace h := ite_some h h1
      try simp -implicitDefEqProofs only [go_sem, h1]
      injection h with h; subst h
      first | rfl | simp -implicitDefEqProofs only [go_sem, h1] <;> rfl
    · replace h := ite_none h h1; replace h1 := bfalse h1
      try simp -implicitDefEqProofs only [go_sem, h1]
      by_cases h2 : (decide (x.2.1 ≥ (x.1.Ops.length : Int))) = true
      · replace h := ite_some h h2
        try simp -implicitDefEqProofs only [go_sem, h1, h2]
        injection h with h; subst h
        first | rfl | simp -implicitDefEqProofs only [go_sem, h1, h2] <;> rfl
      · replace h := ite_none h h2; replace h2 := bfalse h2
        try simp -implicitDefEqProofs only [go_sem, h1, h2]
        obtain ⟨e3, h4, h⟩ := bind_some' h; replace h4 := getI_some h4; obtain ⟨h4', h4⟩ := h4
        try simp -implicitDefEqProofs only [go_sem, h1, h2, h4, h4']
        by_cases h5 : (e3.Home == x.2.2) = true
        · replace h := ite_some h h5
          try simp -implicitDefEqProofs only [go_sem, h1, h2, h4, h4', h5]
          injection h with h; subst h
          first | rfl | simp -implicitDefEqProofs only [go_sem, h1, h2, h4, h4', h5] <;> rfl
        · replace h := ite_none h h5; replace h5 := bfalse h5
          try simp -implicitDefEqProofs only [go_sem, h1, h2, h4, h4', h5]
          obtain ⟨r6, h7, h⟩ := bind_some' h
          refine .plain _ _ rfl (ih_M_ref18_Within (x.1, e3.Home, x.2.2) _ h7) ?_
          try simp -implicitDefEqProofs only [go_sem, h1, h2, h4, h4', h5]
          injection h with h; subst h
          first | rfl | simp -implicitDefEqProofs only [go_sem, h1, h2, h4, h4', h5] <;> rfl
theorem M_ref18_Within.w : type_of% (@M_ref18_Within.ws) := @M_ref18_Within.ws
end Go.Proofs.Ytakmilmckdllfaa.G
set_option maxRecDepth 100000
namespace Go.Proofs.Ytakmilmckdllfaa.G
theorem aw_law18 : Fn Try.prog 32 [] (.bool true) := Fn.run_bool mix okBits_ok (n := 1000) (μ := fun _ => true) (by kernel_rfl)
end Go.Proofs.Ytakmilmckdllfaa.G
set_option linter.unusedVariables false
set_option linter.unusedSimpArgs false
set_option maxRecDepth 100000
namespace Go.Proofs.Ytakmilmckdllfaa.G
@[go_sem] theorem lrp_6_3 : lrp Try.prog 6 3 = (8, []) := by kernel_rfl
@[go_sem] theorem lrp_6_4 : lrp Try.prog 6 4 = (8, []) := by kernel_rfl
@[go_sem] theorem lrp_6_5 : lrp Try.prog 6 5 = (23, []) := by kernel_rfl
@[go_sem] theorem lrp_6_13 : lrp Try.prog 6 13 = (9, []) := by kernel_rfl
theorem lok_6 : (Try.f6.body.isSome && !(Try.f6.name == "runtime.NumGoroutine") && okL (bodyF Try.f6) Try.f6.ntmps (bodyF Try.f6)) = true := by kernel_rfl
def M_law18_LevelsTells.l1 (x : Int × Int × T_levels_Levels × T_ref18_Levels) : Option (Lp (Unit) (Bool)) :=
  if (decide (x.2.1 < (x.2.2.2.Ops.length : Int))) = true then
    M_levels_Within (x.2.2.1, x.1, x.2.1) >>= fun r40 =>
    M_ref18_Within (x.2.2.2, x.1, x.2.1) >>= fun r42 =>
    if r40 = true then
      if r42 = true then
        M_law18_LevelsTells.l1 (x.1, (w64 (x.2.1 + 1)), x.2.2.1, x.2.2.2)
      else
        some (.ret false)
    else
      if r42 = true then
        some (.ret false)
      else
        M_law18_LevelsTells.l1 (x.1, (w64 (x.2.1 + 1)), x.2.2.1, x.2.2.2)
  else
    some (.brk ())
  partial_fixpoint
theorem M_law18_LevelsTells.l1.ws : (∀ (x : Int × Int × T_levels_Levels × T_ref18_Levels) (o : Lp (Unit) (Bool)), M_law18_LevelsTells.l1 x = some o → (fun (x : Int × Int × T_levels_Levels × T_ref18_Levels) (o : Lp (Unit) (Bool)) => ∀ (lo : Option Nat) (c : LCtx) (Q : Exit → LEnv → Prop) (hb : ∀ s : Unit, o = Lp.brk s → Q (.exit 2) ⟨[(5, .lref 5 0), (7, .lref 7 0), (9, .v (.i64 x.1))], [(5, [.v (.slice .foreign (x.2.2.1.Joins.map T_levels_Join.av)), .v (.slice .foreign (x.2.2.1.Ops.map T_levels_Op.av))]), (7, [.v (.slice .foreign (x.2.2.2.Joins.map T_ref18_Join.av)), .v (.slice .foreign (x.2.2.2.Ops.map T_ref18_Op.av))])]⟩) (hr : ∀ (r : Bool) (L : LEnv), o = .ret r → LPostF Try.prog [.tmp 4] (.bool r) (fun _ => True) .ret L → Q .ret L), LLoop Try.prog 6 lo c 1 (VQ Q) ⟨[(5, .lref 5 0), (7, .lref 7 0), (9, .v (.i64 x.1)), (10, .v (.i64 x.2.1))], [(5, [.v (.slice .foreign (x.2.2.1.Joins.map T_levels_Join.av)), .v (.slice .foreign (x.2.2.1.Ops.map T_levels_Op.av))]), (7, [.v (.slice .foreign (x.2.2.2.Joins.map T_ref18_Join.av)), .v (.slice .foreign (x.2.2.2.Ops.map T_ref18_Op.av))])]⟩) x o) := by
  refine M_law18_LevelsTells.l1.partial_correctness _ ?_
  · intro M_M_law18_LevelsTells_l1 ih_M_law18_LevelsTells_l1 x o h
    intro lo c Q hb hr
    refine LLoop.step mix fn_6 (by kernel_rfl) ?_
    simp -implicitDefEqProofs only [go_sem, Try.f6]
    by_cases h39 : (decide (x.2.1 < (x.2.2.2.Ops.length : Int))) = true
    · replace h := ite_some h h39
      try simp -implicitDefEqProofs only [go_sem, h39]
      obtain ⟨r40, h41, h⟩ := bind_some' h
      refine .plain _ _ rfl (M_levels_Within.w (x.2.2.1, x.1, x.2.1) _ h41) ?_
      try simp -implicitDefEqProofs only [go_sem, h39]
      obtain ⟨r42, h43, h⟩ := bind_some' h
      refine .plain _ _ rfl (M_ref18_Within.w (x.2.2.2, x.1, x.2.1) _ h43) ?_
      try simp -implicitDefEqProofs only [go_sem, h39]
      by_cases h44 : r40 = true
      · replace h := ite_some h h44
        try simp -implicitDefEqProofs only [go_sem, h39, h44]
        by_cases h45 : r42 = true
        · replace h := ite_some h h45
          try simp -implicitDefEqProofs only [go_sem, h39, h44, h45]
          exact LLoop.view [] (by (first | rfl | (simp -implicitDefEqProofs only [go_sem, h39, h44, h45] <;> rfl))) (ih_M_law18_LevelsTells_l1 _ _ h lo c Q hb hr)
        · replace h := ite_none h h45; replace h45 := bfalse h45
          try simp -implicitDefEqProofs only [go_sem, h39, h44, h45]
          injection h with h; subst h
          exact .inl (hr _ _ rfl (by (first | rfl | (simp -implicitDefEqProofs only [go_sem, h39, h44, h45] <;> rfl))))
      · replace h := ite_none h h44; replace h44 := bfalse h44
        try simp -implicitDefEqProofs only [go_sem, h39, h44]
        by_cases h46 : r42 = true
        · replace h := ite_some h h46
          try simp -implicitDefEqProofs only [go_sem, h39, h44, h46]
          injection h with h; subst h
          exact .inl (hr _ _ rfl (by (first | rfl | (simp -implicitDefEqProofs only [go_sem, h39, h44, h46] <;> rfl))))
        · replace h := ite_none h h46; replace h46 := bfalse h46
          try simp -implicitDefEqProofs only [go_sem, h39, h44, h46]
          exact LLoop.view [] (by (first | rfl | (simp -implicitDefEqProofs only [go_sem, h39, h44, h46] <;> rfl))) (ih_M_law18_LevelsTells_l1 _ _ h lo c Q hb hr)
    · replace h := ite_none h h39; replace h39 := bfalse h39
      try simp -implicitDefEqProofs only [go_sem, h39]
      injection h with h; subst h
      exact .inr ⟨[], _, by (simp -implicitDefEqProofs only [go_sem, h39] <;> first | done | rfl | trivial), hb _ rfl⟩
theorem M_law18_LevelsTells.l1.w : type_of% (M_law18_LevelsTells.l1.ws) := M_law18_LevelsTells.l1.ws
def M_law18_LevelsTells.l0 (x : Int × T_levels_Levels × T_ref18_Levels) : Option (Lp (Unit) (Bool)) :=
  if (decide (x.1 ≤ (x.2.2.Ops.length : Int))) = true then
    M_law18_LevelsTells.l1 (x.1, -1, x.2.1, x.2.2) >>= fun (o47 : Lp (Unit) (Bool)) => match o47 with
    | .brk s50 =>
      M_law18_LevelsTells.l0 ((w64 (x.1 + 1)), x.2.1, x.2.2)
    | .ret r49 =>
      some (.ret r49)
  else
    some (.brk ())
  partial_fixpoint
theorem M_law18_LevelsTells.l0.ws : (∀ (x : Int × T_levels_Levels × T_ref18_Levels) (o : Lp (Unit) (Bool)), M_law18_LevelsTells.l0 x = some o → (fun (x : Int × T_levels_Levels × T_ref18_Levels) (o : Lp (Unit) (Bool)) => ∀ (lo : Option Nat) (c : LCtx) (Q : Exit → LEnv → Prop) (hb : ∀ s : Unit, o = Lp.brk s → Q (.exit 0) ⟨[], []⟩) (hr : ∀ (r : Bool) (L : LEnv), o = .ret r → LPostF Try.prog [.tmp 4] (.bool r) (fun _ => True) .ret L → Q .ret L), LLoop Try.prog 6 lo c 0 (VQ Q) ⟨[(5, .lref 5 0), (7, .lref 7 0), (9, .v (.i64 x.1))], [(5, [.v (.slice .foreign (x.2.1.Joins.map T_levels_Join.av)), .v (.slice .foreign (x.2.1.Ops.map T_levels_Op.av))]), (7, [.v (.slice .foreign (x.2.2.Joins.map T_ref18_Join.av)), .v (.slice .foreign (x.2.2.Ops.map T_ref18_Op.av))])]⟩) x o) := by
  refine M_law18_LevelsTells.l0.partial_correctness _ ?_
  · intro M_M_law18_LevelsTells_l0 ih_M_law18_LevelsTells_l0 x o h
    intro lo c Q hb hr
    refine LLoop.step mix fn_6 (by kernel_rfl) ?_
    simp -implicitDefEqProofs only [go_sem, Try.f6]
    by_cases h38 : (decide (x.1 ≤ (x.2.2.Ops.length : Int))) = true
    · replace h := ite_some h h38
      try simp -implicitDefEqProofs only [go_sem, h38]
      obtain ⟨o47, h48, h⟩ := bind_some' h
      refine LLoop.viewQ (LLoop.view [] (by (first | rfl | (simp -implicitDefEqProofs only [go_sem, h38] <;> rfl))) (M_law18_LevelsTells.l1.w (x.1, -1, x.2.1, x.2.2) _ h48 _ _ _ ?_ ?_))
      · intro s50 hs'; subst hs'
        try simp -implicitDefEqProofs only [go_sem, h38]
        exact LLoop.view [] (by (first | rfl | (simp -implicitDefEqProofs only [go_sem, h38] <;> rfl))) (ih_M_law18_LevelsTells_l0 _ _ h lo c Q hb hr)
      · intro r49 L' hs' hL'; subst hs'
        injection h with h; subst h
        simp -implicitDefEqProofs only [go_sem]
        exact .inl (hr _ _ rfl hL')
    · replace h := ite_none h h38; replace h38 := bfalse h38
      try simp -implicitDefEqProofs only [go_sem, h38]
      injection h with h; subst h
      exact .inr ⟨[], _, by (simp -implicitDefEqProofs only [go_sem, h38] <;> first | done | rfl | trivial), hb _ rfl⟩
theorem M_law18_LevelsTells.l0.w : type_of% (M_law18_LevelsTells.l0.ws) := M_law18_LevelsTells.l0.ws
def M_law18_LevelsTells (x : T_api_Query × T_api_Query) : Option (Bool) :=
  M_law11_Few x.1 >>= fun r1 =>
  if r1 = true then
    M_law11_Few x.2 >>= fun r4 =>
    if r4 = true then
      M_ref11_Right x.1 >>= fun r7 =>
      if r7 = true then
        M_ref11_Right x.2 >>= fun r10 =>
        if r10 = true then
          M_levels_Of x.1.Root >>= fun r13 =>
          M_levels_Of x.2.Root >>= fun r15 =>
          M_ref18_Of x.1.Root >>= fun r17 =>
          M_ref18_Of x.2.Root >>= fun r19 =>
          M_law18_As r13 >>= fun r21 =>
          M_ref18_List (r21, r17) >>= fun r23 =>
          if r23 = true then
            M_levels_Same (r13, r15) >>= fun r26 =>
            M_ref18_Same (r17, r19) >>= fun r28 =>
            if r26 = true then
              if r28 = true then
                M_levels_Same (r13, r13) >>= fun r32 =>
                M_ref18_Same (r17, r17) >>= fun r34 =>
                if r32 = true then
                  if r34 = true then
                    M_law18_LevelsTells.l0 (-1, r13, r17) >>= fun (o51 : Lp (Unit) (Bool)) => match o51 with
                    | .brk s54 =>
                      some true
                    | .ret r53 =>
                      some r53
                  else
                    some false
                else
                  if r34 = true then
                    some false
                  else
                    M_law18_LevelsTells.l0 (-1, r13, r17) >>= fun (o56 : Lp (Unit) (Bool)) => match o56 with
                    | .brk s59 =>
                      some true
                    | .ret r58 =>
                      some r58
              else
                some false
            else
              if r28 = true then
                some false
              else
                M_levels_Same (r13, r13) >>= fun r61 =>
                M_ref18_Same (r17, r17) >>= fun r63 =>
                if r61 = true then
                  if r63 = true then
                    M_law18_LevelsTells.l0 (-1, r13, r17) >>= fun (o67 : Lp (Unit) (Bool)) => match o67 with
                    | .brk s70 =>
                      some true
                    | .ret r69 =>
                      some r69
                  else
                    some false
                else
                  if r63 = true then
                    some false
                  else
                    M_law18_LevelsTells.l0 (-1, r13, r17) >>= fun (o72 : Lp (Unit) (Bool)) => match o72 with
                    | .brk s75 =>
                      some true
                    | .ret r74 =>
                      some r74
          else
            some false
        else
          some true
      else
        some true
    else
      some true
  else
    some true
set_option maxHeartbeats 8000000 in
theorem M_law18_LevelsTells.w : ∀ (x : T_api_Query × T_api_Query) (r : Bool), M_law18_LevelsTells x = some r → (fun (x : T_api_Query × T_api_Query) (r : Bool) => Fn Try.prog 6 [.agg (T_api_Query.C x.1), .agg (T_api_Query.C x.2)] (.bool r)) x r := by
  intro x r h
  rw [M_law18_LevelsTells] at h
  try dsimp only
  refine Fn.of_lc mix fn_6 lok_6 (by rfl) (flC (T_api_Query.flatC _) (flC (T_api_Query.flatC _) (flN))) (.atom _) ?_
  simp -implicitDefEqProofs only [go_sem, Try.f6]
  obtain ⟨r1, h2, h⟩ := bind_some' h
  refine .plain _ _ rfl (M_law11_Few.w x.1 _ h2) ?_
  try simp -implicitDefEqProofs only [go_sem]
  by_cases h3 : r1 = true
  · replace h := ite_some h h3
    try simp -implicitDefEqProofs only [go_sem, h3]
    obtain ⟨r4, h5, h⟩ := bind_some' h
    refine .plain _ _ rfl (M_law11_Few.w x.2 _ h5) ?_
    try simp -implicitDefEqProofs only [go_sem, h3]
    by_cases h6 : r4 = true
    · replace h := ite_some h h6
      try simp -implicitDefEqProofs only [go_sem, h3, h6]
      obtain ⟨r7, h8, h⟩ := bind_some' h
      refine .plain _ _ rfl (M_ref11_Right.w x.1 _ h8) ?_
      try simp -implicitDefEqProofs only [go_sem, h3, h6]
      by_cases h9 : r7 = true
      · replace h := ite_some h h9
        try simp -implicitDefEqProofs only [go_sem, h3, h6, h9]
        obtain ⟨r10, h11, h⟩ := bind_some' h
        refine .plain _ _ rfl (M_ref11_Right.w x.2 _ h11) ?_
        try simp -implicitDefEqProofs only [go_sem, h3, h6, h9]
        by_cases h12 : r10 = true
        · replace h := ite_some h h12
          try simp -implicitDefEqProofs only [go_sem, h3, h6, h9, h12]
          obtain ⟨r13, h14, h⟩ := bind_some' h
          refine .plain _ _ rfl (M_levels_Of.w x.1.Root _ h14) ?_
          try simp -implicitDefEqProofs only [go_sem, h3, h6, h9, h12]
          obtain ⟨r15, h16, h⟩ := bind_some' h
          refine .plain _ _ rfl (M_levels_Of.w x.2.Root _ h16) ?_
          try simp -implicitDefEqProofs only [go_sem, h3, h6, h9, h12]
          obtain ⟨r17, h18, h⟩ := bind_some' h
          refine .plain _ _ rfl (M_ref18_Of.w x.1.Root _ h18) ?_
          try simp -implicitDefEqProofs only [go_sem, h3, h6, h9, h12]
          obtain ⟨r19, h20, h⟩ := bind_some' h
          refine .plain _ _ rfl (M_ref18_Of.w x.2.Root _ h20) ?_
          try simp -implicitDefEqProofs only [go_sem, h3, h6, h9, h12]
          obtain ⟨r21, h22, h⟩ := bind_some' h
          refine .plain _ _ rfl (M_law18_As.w r13 _ h22) ?_
          try simp -implicitDefEqProofs only [go_sem, h3, h6, h9, h12]
          obtain ⟨r23, h24, h⟩ := bind_some' h
          refine .plain _ _ rfl (M_ref18_List.w (r21, r17) _ h24) ?_
          try simp -implicitDefEqProofs only [go_sem, h3, h6, h9, h12]
          by_cases h25 : r23 = true
          · replace h := ite_some h h25
            try simp -implicitDefEqProofs only [go_sem, h3, h6, h9, h12, h25]
            obtain ⟨r26, h27, h⟩ := bind_some' h
            refine .plain _ _ rfl (M_levels_Same.w (r13, r15) _ h27) ?_
            try simp -implicitDefEqProofs only [go_sem, h3, h6, h9, h12, h25]
            obtain ⟨r28, h29, h⟩ := bind_some' h
            refine .plain _ _ rfl (M_ref18_Same.w (r17, r19) _ h29) ?_
            try simp -implicitDefEqProofs only [go_sem, h3, h6, h9, h12, h25]
            by_cases h30 : r26 = true
            · replace h := ite_some h h30
              try simp -implicitDefEqProofs only [go_sem, h3, h6, h9, h12, h25, h30]
              by_cases h31 : r28 = true
              · replace h := ite_some h h31
                try simp -implicitDefEqProofs only [go_sem, h3, h6, h9, h12, h25, h30, h31]
                obtain ⟨r32, h33, h⟩ := bind_some' h
                refine .plain _ _ rfl (M_levels_Same.w (r13, r13) _ h33) ?_
                try simp -implicitDefEqProofs only [go_sem, h3, h6, h9, h12, h25, h30, h31]
                obtain ⟨r34, h35, h⟩ := bind_some' h
                refine .plain _ _ rfl (M_ref18_Same.w (r17, r17) _ h35) ?_
                try simp -implicitDefEqProofs only [go_sem, h3, h6, h9, h12, h25, h30, h31]
                by_cases h36 : r32 = true
                · replace h := ite_some h h36
                  try simp -implicitDefEqProofs only [go_sem, h3, h6, h9, h12, h25, h30, h31, h36]
                  by_cases h37 : r34 = true
                  · replace h := ite_some h h37
                    try simp -implicitDefEqProofs only [go_sem, h3, h6, h9, h12, h25, h30, h31, h36, h37]
                    obtain ⟨o51, h52, h⟩ := bind_some' h
                    refine LLoop.viewQ (LLoop.view [] (by (first | rfl | (simp -implicitDefEqProofs only [go_sem, h3, h6, h9, h12, h25, h30, h31, h36, h37] <;> rfl))) (M_law18_LevelsTells.l0.w (-1, r13, r17) _ h52 _ _ _ ?_ ?_))
                    · intro s54 hs'; subst hs'
                      try simp -implicitDefEqProofs only [go_sem, h3, h6, h9, h12, h25, h30, h31, h36, h37]
                      refine .plain _ _ rfl aw_law18 ?_
                      try simp -implicitDefEqProofs only [go_sem, h3, h6, h9, h12, h25, h30, h31, h36, h37]
                      injection h with h; subst h
                      first | rfl | (simp -implicitDefEqProofs only [go_sem, h3, h6, h9, h12, h25, h30, h31, h36, h37] <;> rfl)
                    · intro r53 L' hs' hL'; subst hs'
                      injection h with h; subst h
                      first | exact hL' | (simp -implicitDefEqProofs only [go_sem]; exact hL') | (simp -implicitDefEqProofs only [go_sem]; simp -implicitDefEqProofs only [go_sem] at hL'; exact hL')
                  · replace h := ite_none h h37; replace h37 := bfalse h37
                    try simp -implicitDefEqProofs only [go_sem, h3, h6, h9, h12, h25, h30, h31, h36, h37]
                    injection h with h; subst h
                    first | rfl | (simp -implicitDefEqProofs only [go_sem, h3, h6, h9, h12, h25, h30, h31, h36, h37] <;> rfl)
                · replace h := ite_none h h36; replace h36 := bfalse h36
                  try simp -implicitDefEqProofs only [go_sem, h3, h6, h9, h12, h25, h30, h31, h36]
                  by_cases h55 : r34 = true
                  · replace h := ite_some h h55
                    try simp -implicitDefEqProofs only [go_sem, h3, h6, h9, h12, h25, h30, h31, h36, h55]
                    injection h with h; subst h
                    first | rfl | (simp -implicitDefEqProofs only [go_sem, h3, h6, h9, h12, h25, h30, h31, h36, h55] <;> rfl)
                  · replace h := ite_none h h55; replace h55 := bfalse h55
                    try simp -implicitDefEqProofs only [go_sem, h3, h6, h9, h12, h25, h30, h31, h36, h55]
                    obtain ⟨o56, h57, h⟩ := bind_some' h
                    refine LLoop.viewQ (LLoop.view [] (by (first | rfl | (simp -implicitDefEqProofs only [go_sem, h3, h6, h9, h12, h25, h30, h31, h36, h55] <;> rfl))) (M_law18_LevelsTells.l0.w (-1, r13, r17) _ h57 _ _ _ ?_ ?_))
                    · intro s59 hs'; subst hs'
                      try simp -implicitDefEqProofs only [go_sem, h3, h6, h9, h12, h25, h30, h31, h36, h55]
                      refine .plain _ _ rfl aw_law18 ?_
                      try simp -implicitDefEqProofs only [go_sem, h3, h6, h9, h12, h25, h30, h31, h36, h55]
                      injection h with h; subst h
                      first | rfl | (simp -implicitDefEqProofs only [go_sem, h3, h6, h9, h12, h25, h30, h31, h36, h55] <;> rfl)
                    · intro r58 L' hs' hL'; subst hs'
                      injection h with h; subst h
                      first | exact hL' | (simp -implicitDefEqProofs only [go_sem]; exact hL') | (simp -implicitDefEqProofs only [go_sem]; simp -implicitDefEqProofs only [go_sem] at hL'; exact hL')
              · replace h := ite_none h h31; replace h31 := bfalse h31
                try simp -implicitDefEqProofs only [go_sem, h3, h6, h9, h12, h25, h30, h31]
                injection h with h; subst h
                first | rfl | (simp -implicitDefEqProofs only [go_sem, h3, h6, h9, h12, h25, h30, h31] <;> rfl)
            · replace h := ite_none h h30; replace h30 := bfalse h30
              try simp -implicitDefEqProofs only [go_sem, h3, h6, h9, h12, h25, h30]
              by_cases h60 : r28 = true
              · replace h := ite_some h h60
                try simp -implicitDefEqProofs only [go_sem, h3, h6, h9, h12, h25, h30, h60]
                injection h with h; subst h
                first | rfl | (simp -implicitDefEqProofs only [go_sem, h3, h6, h9, h12, h25, h30, h60] <;> rfl)
              · replace h := ite_none h h60; replace h60 := bfalse h60
                try simp -implicitDefEqProofs only [go_sem, h3, h6, h9, h12, h25, h30, h60]
                obtain ⟨r61, h62, h⟩ := bind_some' h
                refine .plain _ _ rfl (M_levels_Same.w (r13, r13) _ h62) ?_
                try simp -implicitDefEqProofs only [go_sem, h3, h6, h9, h12, h25, h30, h60]
                obtain ⟨r63, h64, h⟩ := bind_some' h
                refine .plain _ _ rfl (M_ref18_Same.w (r17, r17) _ h64) ?_
                try simp -implicitDefEqProofs only [go_sem, h3, h6, h9, h12, h25, h30, h60]
                by_cases h65 : r61 = true
                · replace h := ite_some h h65
                  try simp -implicitDefEqProofs only [go_sem, h3, h6, h9, h12, h25, h30, h60, h65]
                  by_cases h66 : r63 = true
                  · replace h := ite_some h h66
                    try simp -implicitDefEqProofs only [go_sem, h3, h6, h9, h12, h25, h30, h60, h65, h66]
                    obtain ⟨o67, h68, h⟩ := bind_some' h
                    refine LLoop.viewQ (LLoop.view [] (by (first | rfl | (simp -implicitDefEqProofs only [go_sem, h3, h6, h9, h12, h25, h30, h60, h65, h66] <;> rfl))) (M_law18_LevelsTells.l0.w (-1, r13, r17) _ h68 _ _ _ ?_ ?_))
                    · intro s70 hs'; subst hs'
                      try simp -implicitDefEqProofs only [go_sem, h3, h6, h9, h12, h25, h30, h60, h65, h66]
                      refine .plain _ _ rfl aw_law18 ?_
                      try simp -implicitDefEqProofs only [go_sem, h3, h6, h9, h12, h25, h30, h60, h65, h66]
                      injection h with h; subst h
                      first | rfl | (simp -implicitDefEqProofs only [go_sem, h3, h6, h9, h12, h25, h30, h60, h65, h66] <;> rfl)
                    · intro r69 L' hs' hL'; subst hs'
                      injection h with h; subst h
                      first | exact hL' | (simp -implicitDefEqProofs only [go_sem]; exact hL') | (simp -implicitDefEqProofs only [go_sem]; simp -implicitDefEqProofs only [go_sem] at hL'; exact hL')
                  · replace h := ite_none h h66; replace h66 := bfalse h66
                    try simp -implicitDefEqProofs only [go_sem, h3, h6, h9, h12, h25, h30, h60, h65, h66]
                    injection h with h; subst h
                    first | rfl | (simp -implicitDefEqProofs only [go_sem, h3, h6, h9, h12, h25, h30, h60, h65, h66] <;> rfl)
                · replace h := ite_none h h65; replace h65 := bfalse h65
                  try simp -implicitDefEqProofs only [go_sem, h3, h6, h9, h12, h25, h30, h60, h65]
                  by_cases h71 : r63 = true
                  · replace h := ite_some h h71
                    try simp -implicitDefEqProofs only [go_sem, h3, h6, h9, h12, h25, h30, h60, h65, h71]
                    injection h with h; subst h
                    first | rfl | (simp -implicitDefEqProofs only [go_sem, h3, h6, h9, h12, h25, h30, h60, h65, h71] <;> rfl)
                  · replace h := ite_none h h71; replace h71 := bfalse h71
                    try simp -implicitDefEqProofs only [go_sem, h3, h6, h9, h12, h25, h30, h60, h65, h71]
                    obtain ⟨o72, h73, h⟩ := bind_some' h
                    refine LLoop.viewQ (LLoop.view [] (by (first | rfl | (simp -implicitDefEqProofs only [go_sem, h3, h6, h9, h12, h25, h30, h60, h65, h71] <;> rfl))) (M_law18_LevelsTells.l0.w (-1, r13, r17) _ h73 _ _ _ ?_ ?_))
                    · intro s75 hs'; subst hs'
                      try simp -implicitDefEqProofs only [go_sem, h3, h6, h9, h12, h25, h30, h60, h65, h71]
                      refine .plain _ _ rfl aw_law18 ?_
                      try simp -implicitDefEqProofs only [go_sem, h3, h6, h9, h12, h25, h30, h60, h65, h71]
                      injection h with h; subst h
                      first | rfl | (simp -implicitDefEqProofs only [go_sem, h3, h6, h9, h12, h25, h30, h60, h65, h71] <;> rfl)
                    · intro r74 L' hs' hL'; subst hs'
                      injection h with h; subst h
                      first | exact hL' | (simp -implicitDefEqProofs only [go_sem]; exact hL') | (simp -implicitDefEqProofs only [go_sem]; simp -implicitDefEqProofs only [go_sem] at hL'; exact hL')
          · replace h := ite_none h h25; replace h25 := bfalse h25
            try simp -implicitDefEqProofs only [go_sem, h3, h6, h9, h12, h25]
            injection h with h; subst h
            first | rfl | (simp -implicitDefEqProofs only [go_sem, h3, h6, h9, h12, h25] <;> rfl)
        · replace h := ite_none h h12; replace h12 := bfalse h12
          try simp -implicitDefEqProofs only [go_sem, h3, h6, h9, h12]
          refine .plain _ _ rfl aw_law18 ?_
          try simp -implicitDefEqProofs only [go_sem, h3, h6, h9, h12]
          injection h with h; subst h
          first | rfl | (simp -implicitDefEqProofs only [go_sem, h3, h6, h9, h12] <;> rfl)
      · replace h := ite_none h h9; replace h9 := bfalse h9
        try simp -implicitDefEqProofs only [go_sem, h3, h6, h9]
        refine .plain _ _ rfl aw_law18 ?_
        try simp -implicitDefEqProofs only [go_sem, h3, h6, h9]
        injection h with h; subst h
        first | rfl | (simp -implicitDefEqProofs only [go_sem, h3, h6, h9] <;> rfl)
    · replace h := ite_none h h6; replace h6 := bfalse h6
      try simp -implicitDefEqProofs only [go_sem, h3, h6]
      refine .plain _ _ rfl aw_law18 ?_
      try simp -implicitDefEqProofs only [go_sem, h3, h6]
      injection h with h; subst h
      first | rfl | (simp -implicitDefEqProofs only [go_sem, h3, h6] <;> rfl)
  · replace h := ite_none h h3; replace h3 := bfalse h3
    try simp -implicitDefEqProofs only [go_sem, h3]
    refine .plain _ _ rfl aw_law18 ?_
    try simp -implicitDefEqProofs only [go_sem, h3]
    injection h with h; subst h
    first | rfl | (simp -implicitDefEqProofs only [go_sem, h3] <;> rfl)
end Go.Proofs.Ytakmilmckdllfaa.G
