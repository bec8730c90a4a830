/-
admit.Join, and what the document says of it.
-/
import Derived.Test.YtakmilmckdllfaaL6
set_option linter.unusedVariables false
set_option linter.unusedSimpArgs false
set_option maxRecDepth 100000
namespace Go.Proofs.Ytakmilmckdllfaa.G

def innerE (a b : Set64) (e : Edg) : Bool := e.kind == 1 && (fits e a b || fits e b a)
def otherE (a b : Set64) (e : Edg) : Bool := decide (e.kind > 1) && decide (e.kind ≤ 4) && (e.kind != 1 && fits e a b)
theorem turned_fits (e : Edg) (a b : Set64) : (insub e.right a && insub e.left b) = fits e b a := by
  unfold fits; exact Bool.and_comm _ _
theorem admit_Join2 (e : Edg) (a b : Set64) (la lb : Nat) (m : Mem) (ha : m.boxes[la]? = some (.cells [.set a])) (hb : m.boxes[lb]? = some (.cells [.set b])) : Does Try.prog 69 [e.av, .ptr la 0, .ptr lb 0] m fun r m1 => r = .bool (innerE a b e) ∧ Ext m m1 := by
  obtain ⟨B, R, μ⟩ := m
  dsimp only at ha hb
  refine Does.of_slim mix fn_69 ok_69 (by rfl) ?_; simp -implicitDefEqProofs only [go_sem, Try.f69]
  simp -implicitDefEqProofs only [go_sem, app_old ha, app_old hb]
  refine DoesV.fn (admit_wayOf e a b) ?_
  rw [turned_fits]
  simp -implicitDefEqProofs only [go_sem]
  cases h1 : (e.kind == 1) with
  | false => simp -implicitDefEqProofs only [go_sem]; exact ⟨by simp [innerE, h1], Ext.mkB _ _ _ _⟩
  | true =>
    simp -implicitDefEqProofs only [go_sem]
    cases h2 : fits e a b with
    | true => simp -implicitDefEqProofs only [go_sem]; exact ⟨by simp [innerE, h1, h2], Ext.mkB _ _ _ _⟩
    | false => simp -implicitDefEqProofs only [go_sem]; exact ⟨by simp [innerE, h1, h2], Ext.mkB _ _ _ _⟩
theorem admit_Join3 (e : Edg) (a b : Set64) (la lb : Nat) (m : Mem) (ha : m.boxes[la]? = some (.cells [.set a])) (hb : m.boxes[lb]? = some (.cells [.set b])) : Does Try.prog 71 [e.av, .ptr la 0, .ptr lb 0] m fun r m1 => r = .bool (otherE a b e) ∧ Ext m m1 := by
  obtain ⟨B, R, μ⟩ := m
  dsimp only at ha hb
  refine Does.of_slim mix fn_71 ok_71 (by rfl) ?_; simp -implicitDefEqProofs only [go_sem, Try.f71]
  simp -implicitDefEqProofs only [go_sem, app_old ha, app_old hb]
  refine DoesV.fn (admit_wayOf e a b) ?_
  rw [turned_fits]
  simp -implicitDefEqProofs only [go_sem]
  by_cases h1 : e.kind > 1
  · by_cases h2 : e.kind ≤ 4
    · simp -implicitDefEqProofs only [go_sem, decide_eq_true h1, decide_eq_true h2]
      refine ⟨?_, Ext.mkB _ _ _ _⟩
      unfold otherE
      rw [decide_eq_true h1, decide_eq_true h2]
      cases h3 : (e.kind == 1) <;> simp [bne, h3]
    · simp -implicitDefEqProofs only [go_sem, decide_eq_true h1, decide_eq_false h2]
      exact ⟨by simp [otherE, h1, h2], Ext.mkB _ _ _ _⟩
  · simp -implicitDefEqProofs only [go_sem, decide_eq_false h1]
    exact ⟨by simp [otherE, h1], Ext.mkB _ _ _ _⟩
theorem admit_Join1 (ns : List Nat) (l : List Edg) (hns : ∀ i ∈ ns, i < l.length) (hnl : ns.length < 1000000) (k : AV) (pv : AV) (l1 l2 : Nat) (m : Mem) (h1 : m.boxes[l1]? = some (.cells [k, .slice .foreign ((ns.map fun (i : Nat) => (i : Int)).map .i64), pv])) (h2 : m.boxes[l2]? = some (.cells [.edgs l])) (p : Edg → Bool) (fv : AV) (hs : fv.strip = fv)
    (hf : ∀ m1, Ext m m1 → ∀ e : Edg, DoesV Try.prog fv [e.av] m1 fun r m2 => r = .bool (p e) ∧ Ext m1 m2) : Does Try.prog 68 [fv, .ptr l1 0, .ptr l2 0] m fun r m1 => r = .bool (ns.all fun i => (l[i]?).all p) ∧ Ext m m1 := by
  refine Does.of_slim mix fn_68 ok_68 (by rfl) ?_; simp -implicitDefEqProofs only [go_sem, Try.f68]
  simp -implicitDefEqProofs only [go_sem, h1]
  refine SLoop.induct mix fn_68 (by kernel_rfl) (fun n e m' => ∃ (j : Nat), e = [(0, fv), (2, .ptr l2 0), (8, .slice .foreign ((ns.map fun (i : Nat) => (i : Int)).map .i64)), (9, .i64 ns.length), (10, .i64 j)] ∧ Ext m m' ∧ j ≤ ns.length ∧ n = ns.length - j ∧ ∀ i ∈ ns.take j, (l[i]?).all p = true) ns.length ⟨0, rfl, Ext.refl _, by omega, by omega, by simp⟩ (by simp -implicitDefEqProofs only [go_sem] <;> repeat' (first | rfl | apply And.intro)) ?_
  rintro n e m' ⟨j, rfl, he, hj, hn, hp⟩ ih
  simp -implicitDefEqProofs only [go_sem, Try.f68]
  refine SCond_dec (fun h => ?_) fun h => ?_
  · have hj' : j < ns.length := by omega
    have hlt := hns _ (List.getElem_mem hj')
    simp -implicitDefEqProofs only [go_sem, getL hj', he.get h2, getL hlt]
    refine DoesV.extV (hf m' he _) fun r m1 hr e1 => ?_
    subst hr
    cases hpe : p l[ns[j]] with
    | true =>
      simp -implicitDefEqProofs only [go_sem, inc64 j (by omega)]
      refine ih (ns.length - (j + 1)) _ _ _ (by omega) ⟨j + 1, rfl, he.trans e1, by omega, rfl, fun i hi => ?_⟩ (by simp -implicitDefEqProofs only [go_sem] <;> repeat' (first | rfl | apply And.intro))
      rw [List.take_succ_eq_append_getElem hj'] at hi
      rcases List.mem_append.1 hi with hi | hi
      · exact hp i hi
      · simp at hi; subst hi; rw [getL hlt]; exact hpe
    | false =>
      simp -implicitDefEqProofs only [go_sem]
      refine ⟨?_, he.trans e1⟩
      have : (ns.all fun i => (l[i]?).all p) = false := by
        rw [← Bool.not_eq_true, List.all_eq_true]
        intro h
        have := h _ (List.getElem_mem hj')
        rw [getL hlt] at this
        simp only [Option.all_some] at this
        rw [hpe] at this; cases this
      rw [this]
  · simp -implicitDefEqProofs only [go_sem]
    have : j = ns.length := by omega
    subst this
    rw [List.take_length] at hp
    exact ⟨by rw [List.all_eq_true.2 hp], he⟩

/-- What an append to a row that is turned in place comes to. -/
def Vec (R : List (Option (Nat × List AV))) (v : AV) (cells : List AV) (n s : Nat) : Prop := (v = .slice .full [] ∧ n = 0 ∧ cells = []) ∨ ∃ id, v = .vec id 0 n s .opn ∧ R[id]? = some (some (0, cells)) ∧ cells.length = n * s
theorem append_vec {P : Program} {B : List ABox} {R : List (Option (Nat × List AV))} {μ : TypeId → Bool} {t el s b n : Nat} {o : Own} {v z : AV} {cells : List AV} (h1 : elemT P t = some el) (h3 : sizeT P el = some s) (h4 : bytesT P el = some b) (h5 : zsizeT P el = some s) (hμ : μ el = true)
    (hc : (decide (0 < s) && decide (0 < b)) = true) (hv : Vec R v cells n s) (hz : z.cells.length = s) (hlen : (n + 1) * b ≤ 140737488355328) :
    ∃ R', aappend P ⟨B, R, μ⟩ t t v (.slice o [z]) = some (.vec R.length 0 (n + 1) s .opn, ⟨B, R', μ⟩) ∧ R'[R.length]? = some (some (0, cells ++ z.cells)) ∧ (cells ++ z.cells).length = (n + 1) * s ∧ (∀ id, v ≠ .vec id 0 n s .opn → ∀ x, R[id]? = some x → R'[id]? = some x) ∧ R'.length = R.length + 1 := by
  simp only [Bool.and_eq_true, decide_eq_true_eq] at hc
  obtain ⟨hs, hb⟩ := hc
  have hcy : ∀ m, cellsIn m s (.slice o [z]) = some (z.cells, 1) := by
    intro m
    simp [cellsIn, hz, flatC]
  rcases hv with ⟨rfl, rfl, rfl⟩ | ⟨id, rfl, hr, hl⟩
  · have hcx : ∀ m, cellsIn m s (.slice .full []) = some ([], 0) := by intro m; simp [cellsIn, flatC]
    have hcond : 0 < s ∧ 0 < b ∧ zsizeT P el = some s ∧ (0 + 1) * b ≤ roomBytes' := ⟨hs, hb, h5, hlen⟩
    refine ⟨R ++ [some (0, z.cells)], ?_, by simp, by simp [hz], fun id _ x hx => by rw [List.getElem?_append_left (List.getElem?_eq_some_iff.1 hx).1]; exact hx, by simp⟩
    simp only [aappend, h1, hμ, if_true, aappendV, h3, h4, hcx, hcy]
    rw [if_pos hcond, if_neg (by omega)]
    simp [avec, Mem.pushRow]
  · have hlt : id < R.length := (List.getElem?_eq_some_iff.1 hr).1
    have hcx : cellsIn ⟨B, R, μ⟩ s (.vec id 0 n s .opn) = some (cells, n) := by
      simp only [cellsIn, hr]
      rw [if_pos ⟨trivial, by omega⟩]
      simp [← hl]
    have hcond : 0 < s ∧ 0 < b ∧ zsizeT P el = some s ∧ (n + 1) * b ≤ roomBytes' := ⟨hs, hb, h5, hlen⟩
    refine ⟨(R.set id none) ++ [some (0, cells ++ z.cells)], ?_, by simp, by simp [hz, hl, Nat.add_mul], fun id' hne x hx => ?_, by simp⟩
    · simp only [aappend, aappendV, h1, h3, h4, hcx, hcy]
      rw [if_pos hcond, if_neg (by omega)]
      simp only [avec, hr]
      rw [if_neg (by rw [hl, Nat.add_mul]; omega), if_pos trivial]
      simp [Mem.pushRow, Mem.retire]
    · have hd : id ≠ id' := fun e => hne (by rw [e])
      rw [List.getElem?_append_left (by rw [List.length_set]; exact (List.getElem?_eq_some_iff.1 hx).1), List.getElem?_set_ne hd]; exact hx

theorem flatC_prds (l : List Prd) : (flatC (l.map Prd.av)).length = l.length * 14 := by
  rw [flatC_length (s := 14) (fun e he => by obtain ⟨p, _, rfl⟩ := List.mem_map.1 he; exact prd_len p), List.length_map]
theorem flatC_snoc (l : List Prd) (p : Prd) : flatC ((l ++ [p]).map Prd.av) = flatC (l.map Prd.av) ++ p.av.cells := by
  rw [List.map_append, flatC_append]; simp [flatC]
abbrev cutAV (k : Int) (es : List Int) (ps : List Prd) : AV := .agg [.i64 k, .slice .foreign (es.map .i64), .prds ps]
theorem cut_flat (k : Int) (es : List Int) (ps : List Prd) : Flat (cutAV k es ps) := .agg _ (flC (.atom _) (flC (flat_ints _) (flC (flat_prds _) flN)))
theorem frz_vec {B : List ABox} {R : List (Option (Nat × List AV))} {μ : TypeId → Bool} {v : AV} {ps : List Prd} (h : Vec R v (flatC (ps.map Prd.av)) ps.length 14) : Frz ⟨B, R, μ⟩ v.strip1 (.prds ps) := by
  rcases h with ⟨rfl, h1, h2⟩ | ⟨id, rfl, hr, hl⟩
  · have : ps = [] := List.eq_nil_of_length_eq_zero h1
    subst this
    exact Frz.mk (es := []) (by simp)
  · refine .vec id 0 ps.length 14 0 .opn (flatC (ps.map Prd.av)) _ hr (by simp) (by rw [hl]; omega) (fun e he => by obtain ⟨p, _, rfl⟩ := List.mem_map.1 he; exact prd_len p) (fun i j e' c c' h1 h2 h3 => ?_)
    have hj : j < 14 := by
      have := (List.getElem?_eq_some_iff.1 h3).1
      obtain ⟨p, _, rfl⟩ := List.mem_map.1 (List.mem_of_getElem? h1)
      rw [prd_len] at this; exact this
    rw [Nat.zero_add, flatC_get (s := 14) (fun e he => by obtain ⟨p, _, rfl⟩ := List.mem_map.1 he; exact prd_len p) h1 hj, h3] at h2
    injection h2 with h2; subst h2
    obtain ⟨p, _, rfl⟩ := List.mem_map.1 (List.mem_of_getElem? h1)
    exact (flat_cells (Prd.flat p) c' (List.mem_of_getElem? h3)).frz
theorem frz_cut {B : List ABox} {R : List (Option (Nat × List AV))} {μ : TypeId → Bool} {k : Int} {es : List Int} {v : AV} {ps : List Prd} {t : Bool} (h : Vec R v (flatC (ps.map Prd.av)) ps.length 14) : Frz ⟨B, R, μ⟩ (.tuple [.agg [.i64 k, .slice .foreign (es.map .i64), v.strip1], .bool t]) (.tuple [cutAV k es ps, .bool t]) := by
  refine .tuple _ _ rfl (fun j c c' h1 h2 => ?_)
  match j with
  | 0 =>
    simp at h1 h2; subst h1 h2
    refine .agg _ _ rfl (fun j c c' h1 h2 => ?_)
    match j with
    | 0 => simp at h1 h2; subst h1 h2; exact .atom _
    | 1 => simp at h1 h2; subst h1 h2; exact (flat_ints es).frz
    | 2 => simp at h1 h2; subst h1 h2; exact frz_vec h
    | j + 3 => simp at h1
  | 1 => simp at h1 h2; subst h1 h2; exact .atom _
  | j + 2 => simp at h1

abbrev zeroPrd : List AV := [.i64 0, .i64 0, .i64 0, .i64 0, .i64 0, .i64 0, .bool false, .i64 0, .i64 0, .i64 0, .i64 0, .bool false, .i64 0, .slice .foreign []]
abbrev μJ : TypeId → Bool := fun t => t == 42
theorem join_inner {Q : Exit → SEnv → Mem → Prop} {N T J k N' : AV} {ps D : List Prd} {c0 c1 c2 c3 : ABox} {X : List ABox} {R : List (Option (Nat × List AV))} {v : AV} {env : SEnv} (hps : ∀ p ∈ ps, p.small 1000000) (hlen : D.length + ps.length ≤ 1000000) (hv : Vec R v (flatC (D.map Prd.av)) D.length 14)
    (henv : ∀ p ∈ ([(3, .ptr 0 0), (6, .ptr 3 0), (8, .ptr 4 0), (63, N), (64, T), (65, J), (73, .prds ps), (74, .i64 ps.length), (75, .i64 0)] : SEnv), sget env p.1 = some p.2)
    (hQ : ∀ b X' R' v', Vec R' v' (flatC ((D ++ ps).map Prd.av)) (D ++ ps).length 14 → Q (.exit 2) [(76, .bool b), (3, .ptr 0 0), (6, .ptr 3 0), (8, .ptr 4 0), (63, N), (64, T), (65, J), (73, .prds ps), (74, .i64 ps.length), (75, .i64 ps.length)] ⟨c0 :: c1 :: c2 :: c3 :: .cells [k, N', v'] :: X', R', μJ⟩) :
    SLoop Try.prog 24 none 1 Q env ⟨c0 :: c1 :: c2 :: c3 :: .cells [k, N', v] :: X, R, μJ⟩ := by
  refine SLoop.induct mix fn_24 (by kernel_rfl) (fun n e m' => ∃ (j : Nat) (X : List ABox) (R : List (Option (Nat × List AV))) (v : AV), e = [(3, .ptr 0 0), (6, .ptr 3 0), (8, .ptr 4 0), (63, N), (64, T), (65, J), (73, .prds ps), (74, .i64 ps.length), (75, .i64 j)] ∧ m' = ⟨c0 :: c1 :: c2 :: c3 :: .cells [k, N', v] :: X, R, μJ⟩ ∧ Vec R v (flatC ((D ++ ps.take j).map Prd.av)) (D ++ ps.take j).length 14 ∧ j ≤ ps.length ∧ n = ps.length - j) ps.length ⟨0, X, R, v, rfl, rfl, by simpa using hv, by omega, by omega⟩ henv ?_
  rintro n e m' ⟨j, X, R, v, rfl, rfl, hv, hj, hn⟩ ih
  simp -implicitDefEqProofs only [go_sem, Try.f24]
  refine SCond_dec (fun h => ?_) fun h => ?_
  · have hj' : j < ps.length := by omega
    simp -implicitDefEqProofs only [go_sem, getL hj']
    refine DoesV.fn (pred_Copy _ (hps _ (List.getElem_mem hj'))) ?_
    have hnl : (D ++ ps.take j).length + 1 ≤ 1000000 := by simp; omega
    have hcl : (flatC ((D ++ ps.take j).map Prd.av)).length = (D ++ ps.take j).length * 14 := flatC_prds _
    have hfin : flatC ((D ++ ps.take (j + 1)).map Prd.av) = flatC ((D ++ ps.take j).map Prd.av) ++ ps[j].av.cells := by
      rw [List.take_succ_eq_append_getElem hj', ← List.append_assoc, flatC_snoc]
    have hfl : (D ++ ps.take (j + 1)).length = (D ++ ps.take j).length + 1 := by
      rw [List.take_succ_eq_append_getElem hj', ← List.append_assoc, List.length_append]; rfl
    generalize hC : flatC ((D ++ ps.take j).map Prd.av) = C at *
    generalize hN : (D ++ ps.take j).length = nn at *
    obtain ⟨R', hA, hR', hl', hoth, hRl⟩ := append_vec (P := Try.prog) (B := c0 :: c1 :: c2 :: c3 :: .cells [k, N', v] :: (X ++ [.cells ps[j].av.cells])) (μ := μJ) (o := .full) (z := .agg zeroPrd) t33_elem t42_size t42_bytes t42_zsize rfl rfl hv rfl (by omega)
    have hlt : R.length < R'.length := by omega
    have hend : Vec (R'.set R.length (some (0, C ++ ps[j].av.cells))) (.vec R.length 0 (nn + 1) 14 .opn) (flatC ((D ++ ps.take (j + 1)).map Prd.av)) (D ++ ps.take (j + 1)).length 14 := by
      rw [hfin, hfl]
      exact .inr ⟨R.length, rfl, by rw [List.getElem?_set_self hlt], by rw [List.length_append, hcl, prd_len]; omega⟩
    rcases hv with ⟨rfl, rfl, rfl⟩ | ⟨id, rfl, hr, hlc⟩
    · simp -implicitDefEqProofs only [go_sem, hA, hR', eq_true (show (0 : Int) < 0 + 1 by omega), Int.toNat_zero, Nat.zero_mul, Nat.le_refl, inc64 j (by omega)]
      exact ih (ps.length - (j + 1)) _ _ _ (by omega) ⟨j + 1, _, _, _, rfl, rfl, hend, hj', rfl⟩ (by simp -implicitDefEqProofs only [go_sem] <;> repeat' (first | rfl | apply And.intro))
    · have htake : List.take (nn * 14) (C ++ zeroPrd) = C := by rw [List.take_append_of_le_length (by omega), List.take_of_length_le (by omega)]
      have hdrop : List.drop (nn * 14 + 14) (C ++ zeroPrd) = [] := List.drop_eq_nil_of_le (by rw [List.length_append, hcl]; exact Nat.le_refl _)
      simp -implicitDefEqProofs only [go_sem, hA, hR', eq_true (show (nn : Int) < (nn : Int) + 1 by omega), hcl, Nat.le_refl, htake, hdrop, inc64 j (by omega)]
      exact ih (ps.length - (j + 1)) _ _ _ (by omega) ⟨j + 1, _, _, _, rfl, rfl, hend, hj', rfl⟩ (by simp -implicitDefEqProofs only [go_sem] <;> repeat' (first | rfl | apply And.intro))
  · simp -implicitDefEqProofs only [go_sem]
    have : j = ps.length := by omega
    subst this
    rw [List.take_length] at hv
    exact hQ _ _ _ _ hv
/-- How two sets are joined. -/
def joinNs (l : List Edg) (a b : Set64) : List Nat := freshN l a b l.length
def joinOk (l : List Edg) (a b : Set64) : Bool := !(joinNs l a b).isEmpty && (a &&& b == 0#64) && ((joinNs l a b).all (fun i => (l[i]?).all (innerE a b)) || ((joinNs l a b).length == 1 && (joinNs l a b).all (fun i => (l[i]?).all (otherE a b))))
def predsAt (l : List Edg) (i : Nat) : List Prd := ((l[i]?).map Edg.preds).getD []
def joinPs (l : List Edg) (a b : Set64) : List Prd := (joinNs l a b).flatMap (predsAt l)
def joinKind (l : List Edg) (a b : Set64) : Int := (((joinNs l a b)[0]?).bind fun i => (l[i]?).map Edg.kind).getD 0
def joinAV (l : List Edg) (a b : Set64) : AV := if joinOk l a b = true then .tuple [cutAV (joinKind l a b) (newI l a b l.length) (joinPs l a b), .bool true] else .tuple [cutAV 0 [] [], .bool false]
theorem joinNs_lt (l : List Edg) (a b : Set64) : ∀ i ∈ joinNs l a b, i < l.length := fun i hi => by
  have := List.mem_filter.1 hi
  simpa using this.1
theorem joinNs_len (l : List Edg) (a b : Set64) : (joinNs l a b).length ≤ l.length := Nat.le_trans (List.length_filter_le _ _) (by simp)
theorem newI_joinNs (l : List Edg) (a b : Set64) : newI l a b l.length = (joinNs l a b).map fun (i : Nat) => (i : Int) := rfl

theorem join_outer {Q : Exit → SEnv → Mem → Prop} {l : List Edg} {ns : List Nat} {k N' : AV} {c1 c2 c3 : ABox} {X : List ABox} {R : List (Option (Nat × List AV))} {env : SEnv} (hns : ∀ i ∈ ns, i < l.length) (hnl : ns.length < 1000000) (hsm : ∀ i ∈ ns, ∀ p ∈ predsAt l i, p.small 1000000) (htot : (ns.flatMap (predsAt l)).length ≤ 1000000)
    (henv : ∀ p ∈ ([(3, .ptr 0 0), (6, .ptr 3 0), (8, .ptr 4 0), (63, .slice .foreign ((ns.map fun (i : Nat) => (i : Int)).map .i64)), (64, .i64 ns.length), (65, .i64 0)] : SEnv), sget env p.1 = some p.2)
    (hQ : ∀ b X' R' v', Vec R' v' (flatC ((ns.flatMap (predsAt l)).map Prd.av)) (ns.flatMap (predsAt l)).length 14 → Q (.exit 0) [(66, .bool b), (3, .ptr 0 0), (6, .ptr 3 0), (8, .ptr 4 0), (63, .slice .foreign ((ns.map fun (i : Nat) => (i : Int)).map .i64)), (64, .i64 ns.length), (65, .i64 ns.length)] ⟨.cells [.edgs l] :: c1 :: c2 :: c3 :: .cells [k, N', v'] :: X', R', μJ⟩) :
    SLoop Try.prog 24 none 0 Q env ⟨.cells [.edgs l] :: c1 :: c2 :: c3 :: .cells [k, N', .slice .full []] :: X, R, μJ⟩ := by
  refine SLoop.induct mix fn_24 (by kernel_rfl) (fun n e m' => ∃ (j : Nat) (X : List ABox) (R : List (Option (Nat × List AV))) (v : AV), e = [(3, .ptr 0 0), (6, .ptr 3 0), (8, .ptr 4 0), (63, .slice .foreign ((ns.map fun (i : Nat) => (i : Int)).map .i64)), (64, .i64 ns.length), (65, .i64 j)] ∧ m' = ⟨.cells [.edgs l] :: c1 :: c2 :: c3 :: .cells [k, N', v] :: X, R, μJ⟩ ∧ Vec R v (flatC (((ns.take j).flatMap (predsAt l)).map Prd.av)) ((ns.take j).flatMap (predsAt l)).length 14 ∧ j ≤ ns.length ∧ n = ns.length - j) ns.length ⟨0, X, R, .slice .full [], rfl, rfl, .inl ⟨rfl, rfl, rfl⟩, by omega, by omega⟩ henv ?_
  rintro n e m' ⟨j, X, R, v, rfl, rfl, hv, hj, hn⟩ ih
  simp -implicitDefEqProofs only [go_sem, Try.f24]
  refine SCond_dec (fun h => ?_) fun h => ?_
  · have hj' : j < ns.length := by omega
    have hlt := hns _ (List.getElem_mem hj')
    have hpa : predsAt l ns[j] = l[ns[j]].preds := by simp [predsAt, getL hlt]
    have htk : (ns.take (j + 1)).flatMap (predsAt l) = (ns.take j).flatMap (predsAt l) ++ l[ns[j]].preds := by
      rw [List.take_succ_eq_append_getElem hj', List.flatMap_append, ← hpa]; simp
    have hle : ((ns.take j).flatMap (predsAt l)).length + l[ns[j]].preds.length ≤ 1000000 := by
      rw [← List.length_append, ← htk]
      refine Nat.le_trans ?_ htot
      conv => rhs; rw [← List.take_append_drop (j + 1) ns, List.flatMap_append, List.length_append]
      exact Nat.le_add_right _ _
    simp -implicitDefEqProofs only [go_sem, getL hj', getL hlt]
    refine join_inner (fun p hp => hsm _ (List.getElem_mem hj') p (hpa ▸ hp)) hle hv (by simp -implicitDefEqProofs only [go_sem] <;> repeat' (first | rfl | apply And.intro)) fun b X' R' v' hv' => ?_
    simp -implicitDefEqProofs only [go_sem, inc64 j (by omega)]
    refine ih (ns.length - (j + 1)) _ _ _ (by omega) ⟨j + 1, _, _, _, rfl, rfl, ?_, hj', rfl⟩ (by simp -implicitDefEqProofs only [go_sem] <;> repeat' (first | rfl | apply And.intro))
    rw [htk]; exact hv'
  · simp -implicitDefEqProofs only [go_sem]
    have : j = ns.length := by omega
    subst this
    rw [List.take_length] at hv
    exact hQ _ _ _ _ hv
theorem admit_Join (l : List Edg) (a b : Set64) (hl : l.length ≤ 1000) (hps : (joinPs l a b).length ≤ 1000000) (hsm : ∀ e ∈ l, e.preds.length ≤ 1000000 ∧ ∀ p ∈ e.preds, p.small 1000000) : Fn Try.prog 24 [.edgs l, .set a, .set b] (joinAV l a b) := by
  refine Does.fn (fun t => t == 42) (flC (flat_edgs _) (flC (.atom _) (flC (.atom _) flN))) ?_; refine Does.of_slim mix fn_24 ok_24 (by rfl) ?_; simp -implicitDefEqProofs only [go_sem, Try.f24]
  refine DoesV.fn (admit_New l a b (by omega)) ?_
  rw [newI_joinNs]
  have hlt := joinNs_lt l a b
  have hlen := joinNs_len l a b
  have bad : ∀ {m : Mem}, joinOk l a b = false → Frz m (.tuple [cutAV 0 [] [], .bool false]) (joinAV l a b) := by
    intro m h
    unfold joinAV
    rw [h]
    exact (Flat.tuple _ (flC (cut_flat 0 [] []) (flC (.atom _) flN))).frz
  generalize hns : joinNs l a b = ns at *
  cases ns with
  | nil =>
    simp -implicitDefEqProofs only [go_sem]
    exact bad (by simp [joinOk, hns])
  | cons i0 ns =>
    have e0 : ((ns.length : Int) + 1 == 0) = false := eqI (by omega)
    by_cases hab : a &&& b = 0#64
    case neg =>
      have hab' : (a &&& b != 0#64) = true := by simpa using hab
      have hab2 : (a &&& b == 0#64) = false := by simpa using hab
      simp -implicitDefEqProofs only [go_sem, e0, hab']
      exact bad (by simp [joinOk, hns, hab2])
    have hab' : (a &&& b != 0#64) = false := by simp [hab]
    simp -implicitDefEqProofs only [go_sem, e0, hab']
    refine DoesV.ext (admit_Join1 (i0 :: ns) l hlt (by simp only [List.length_cons] at hlen ⊢; omega) (.i64 0) (.slice .full []) _ _ _ (by simp -implicitDefEqProofs only [go_sem]) (by simp -implicitDefEqProofs only [go_sem]) (innerE a b) _ rfl fun m1 e1 e => .of (admit_Join2 e a b _ _ m1 (e1.get (by simp -implicitDefEqProofs only [go_sem])) (e1.get (by simp -implicitDefEqProofs only [go_sem]))) fun r m1 h => h) fun r m1 hr e1 => ?_
    subst hr
    obtain ⟨X, R, rfl⟩ := e1.mk_inv
    have hi0 : i0 < l.length := hlt i0 (by simp)
    have hbi : joinKind l a b = l[i0].kind := by simp [joinKind, hns, getL hi0]
    have hsm' : ∀ i ∈ i0 :: ns, ∀ p ∈ predsAt l i, p.small 1000000 := fun i hi p hp => by
      have h := hlt i hi
      rw [show predsAt l i = l[i].preds by simp [predsAt, getL h]] at hp
      exact (hsm _ (List.getElem_mem h)).2 p hp
    have good : ((i0 :: ns).all (fun i => (l[i]?).all (innerE a b)) || ((i0 :: ns).length == 1 && (i0 :: ns).all (fun i => (l[i]?).all (otherE a b)))) = true → joinAV l a b = .tuple [cutAV l[i0].kind ((i0 :: ns).map fun (i : Nat) => (i : Int)) ((i0 :: ns).flatMap (predsAt l)), .bool true] := fun h => by
      have : joinOk l a b = true := by unfold joinOk; rw [hns, h, hab]; rfl
      unfold joinAV
      rw [if_pos this, hbi, newI_joinNs, joinPs, hns]
    unfold joinPs at hps
    rw [hns] at hps
    cases hin : (i0 :: ns).all (fun i => (l[i]?).all (innerE a b)) with
    | true =>
      simp -implicitDefEqProofs only [go_sem, getL hi0]
      refine join_outer hlt (by omega) hsm' hps (by simp -implicitDefEqProofs only [go_sem] <;> repeat' (first | rfl | apply And.intro)) fun b X' R' v' hv' => ?_
      simp -implicitDefEqProofs only [go_sem]
      rw [good (by rw [hin]; simp)]
      exact frz_cut (es := (i0 :: ns).map fun (i : Nat) => (i : Int)) hv'
    | false =>
      by_cases h1 : ns = []
      case neg =>
        have e1' : ((ns.length : Int) + 1 == 1) = false := eqI (by have := List.length_pos_iff.2 h1; omega)
        simp -implicitDefEqProofs only [go_sem, e1']
        exact bad (by simp [joinOk, hns, hin, h1])
      subst h1
      simp -implicitDefEqProofs only [go_sem]
      refine DoesV.ext (admit_Join1 [i0] l hlt (by simp) (.i64 0) (.slice .full []) _ _ _ (by simp -implicitDefEqProofs only [go_sem]) (by simp -implicitDefEqProofs only [go_sem]) (otherE a b) _ rfl fun m1 e1 e => .of (admit_Join3 e a b _ _ m1 (e1.get (by simp -implicitDefEqProofs only [go_sem])) (e1.get (by simp -implicitDefEqProofs only [go_sem]))) fun r m1 h => h) fun r m1 hr e2 => ?_
      subst hr
      obtain ⟨X2, R2, rfl⟩ := e2.mk_inv
      cases hot : ([i0] : List Nat).all (fun i => (l[i]?).all (otherE a b)) with
      | true =>
        simp -implicitDefEqProofs only [go_sem, getL hi0]
        refine join_outer hlt (by simp) hsm' hps (by simp -implicitDefEqProofs only [go_sem] <;> repeat' (first | rfl | apply And.intro)) fun b X' R' v' hv' => ?_
        simp -implicitDefEqProofs only [go_sem]
        rw [good (by rw [hin, hot]; rfl)]
        exact frz_cut (es := [i0].map fun (i : Nat) => (i : Int)) hv'
      | false =>
        simp -implicitDefEqProofs only [go_sem]
        exact bad (by simp only [joinOk, hns, hin, hot]; simp)
end Go.Proofs.Ytakmilmckdllfaa.G
