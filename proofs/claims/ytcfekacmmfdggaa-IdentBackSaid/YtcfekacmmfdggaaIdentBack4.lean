/-
Part 4 of the proof of IdentBack: merged by mkclaim.py (a program of this repo) out of texts of wip/g and printed models.
-/
import Derived.Test.YtcfekacmmfdggaaIdentBack3
set_option linter.unusedVariables false
set_option linter.unusedSimpArgs false
set_option maxRecDepth 100000
namespace Go.Proofs.Ytcfekacmmfdggaa.G
@[go_sem] theorem arr_parts2 (t k : Nat) : List.map (fun i => (t, i * k)) (List.range' 0 2) = [(t, 0), (t, k)] := by simp [List.range']
/-- The nodes, kids ahead. -/
def T_api_Tree.tour : T_api_Tree → List T_api_Tree
  | ⟨a, b, ks, c, d⟩ => tourL ks ++ [⟨a, b, ks, c, d⟩]
where tourL : List T_api_Tree → List T_api_Tree
  | [] => []
  | x :: l => x.tour ++ tourL l
theorem tourL_eq' (l : List T_api_Tree) : T_api_Tree.tour.tourL l = l.flatMap T_api_Tree.tour := by
  induction l with
  | nil => simp only [T_api_Tree.tour.tourL, List.flatMap_nil]
  | cons x l ih => simp only [T_api_Tree.tour.tourL, List.flatMap_cons, ih]
theorem tour_eq (x : T_api_Tree) : x.tour = x.Kids.flatMap T_api_Tree.tour ++ [x] := by
  obtain ⟨a, b, ks, c, d⟩ := x
  simp only [T_api_Tree.tour, tourL_eq']
/-- The tour's function, called on a node: of what is yielded from the place i on. -/
theorem walk_tour (x : T_api_Tree) : ∀ (hsm : ∀ y ∈ x.tour, y.Kids.length < 9223372036854775808) (b : Nat) (yv : AV) (xs : List T_api_Tree) (I : Nat → Mem → Prop) (D : Mem → Prop) (lt ly : Nat), yv.strip = yv → b ≤ lt → b ≤ ly → (∀ i m m', I i m → Ext m m' → I i m') → (∀ m m', D m → Ext m m' → D m') →
    (∀ i x m1, xs[i]? = some x → I i m1 → DoesV Try.prog yv [.agg x.C] m1 fun r m2 => KeepB b m1 m2 ∧ ((r = .bool true ∧ I (i + 1) m2) ∨ (r = .bool false ∧ D m2))) →
    ∀ (i : Nat) (m : Mem), I i m → m.boxes[lt]? = some (.cells [.func 132 [] [.ptr lt 0, .ptr ly 0]]) → m.boxes[ly]? = some (.cells [yv]) → (∃ rest, xs.drop i = x.tour ++ rest) →
    Does Try.prog 132 [.agg x.C, .ptr lt 0, .ptr ly 0] m fun r m' => KeepB b m m' ∧ ((r = .bool true ∧ I (i + x.tour.length) m') ∨ (r = .bool false ∧ D m')) := by
  induction x using T_api_Tree.induct with
  | h x ih =>
    intro hsm b yv xs I D lt ly hy hbt hby hI hD hY i m h0 h1 h2 ⟨rest, hr⟩
    rw [tour_eq] at hr hsm ⊢
    have hkl : x.Kids.length < 9223372036854775808 := hsm (x) (by simp)
    obtain ⟨B, R, μ⟩ := m
    dsimp only at h1 h2
    have hlt := (List.getElem?_eq_some_iff.1 h1).1
    refine Does.of_slim mix fn_132 ok_132 (by rfl) ?_; simp -implicitDefEqProofs only [go_sem, Try.f132]
    refine SLoop.induct mix fn_132 (by kernel_rfl) (fun n e m' => ∃ (j : Nat), e = [(1, .ptr lt 0), (2, .ptr ly 0), (3, .ptr B.length 0), (8, .slice .foreign (x.Kids.map T_api_Tree.av)), (9, .i64 x.Kids.length), (10, .i64 j)] ∧ KeepB b ⟨B ++ [.cells (x.C)], R, μ⟩ m' ∧ I (i + ((x.Kids.take j).flatMap T_api_Tree.tour).length) m' ∧ j ≤ x.Kids.length ∧ n = x.Kids.length - j) x.Kids.length ⟨0, rfl, KeepB.refl _ _, hI _ _ _ h0 (Ext.mkB _ _ _ _), by omega, by omega⟩ (by simp -implicitDefEqProofs only [go_sem] <;> repeat' (first | rfl | apply And.intro)) ?_
    rintro n e m' ⟨j, rfl, hk, hi, hj, hn⟩ ih2
    obtain ⟨B', R', μ'⟩ := m'
    have b1 := hk.1 lt _ hbt (app_old h1 _)
    have b2 := hk.1 ly _ hby (app_old h2 _)
    have b3 := hk.1 B.length (.cells (x.C)) (by omega) (by simp)
    dsimp only at b1 b2 b3
    simp -implicitDefEqProofs only [go_sem, Try.f132]
    refine SCond_dec (fun hc => ?_) fun hc => ?_
    · have hj' : j < x.Kids.length := by omega
      simp -implicitDefEqProofs only [go_sem, getL hj', app_old b1, app_old b2, app_old b3]
      have hsp : x.Kids.flatMap T_api_Tree.tour = (x.Kids.take j).flatMap T_api_Tree.tour ++ (x.Kids[j].tour ++ (x.Kids.drop (j + 1)).flatMap T_api_Tree.tour) := by
        conv => lhs; rw [← List.take_append_drop j x.Kids, List.drop_eq_getElem_cons hj', List.flatMap_append, List.flatMap_cons]
      have hdr : xs.drop (i + ((x.Kids.take j).flatMap T_api_Tree.tour).length) = x.Kids[j].tour ++ ((x.Kids.drop (j + 1)).flatMap T_api_Tree.tour ++ [x] ++ rest) := by
        rw [← List.drop_drop, hr, hsp]
        simp [List.append_assoc]
      refine (DoesV.func (first := []) (args := [.agg x.Kids[j].C]) (cap := [.ptr lt 0, .ptr ly 0]) (ih x.Kids[j] (List.getElem_mem hj') (fun y hy => hsm y (List.mem_append_left _ (List.mem_flatMap.2 ⟨_, List.getElem_mem hj', hy⟩))) b yv xs I D lt ly hy hbt hby hI hD hY (i + ((x.Kids.take j).flatMap T_api_Tree.tour).length) _ (hI _ _ _ hi (Ext.mkB _ _ _ _)) (app_old b1 _) (app_old b2 _) ⟨_, hdr⟩)).mono ?_
      rintro r m2 ⟨hk2, hcase⟩
      refine ⟨False.elim, ?_⟩
      have hk3 := (hk.trans ((Ext.mkB B' [.cells x.Kids[j].C] R' μ').keepB b)).trans hk2
      rcases hcase with ⟨rfl, hi2⟩ | ⟨rfl, hd2⟩
      · simp -implicitDefEqProofs only [go_sem, inc64 j (by omega)]
        refine ih2 (x.Kids.length - (j + 1)) _ _ _ (by omega) ⟨j + 1, rfl, hk3, ?_, by omega, rfl⟩ (by simp -implicitDefEqProofs only [go_sem] <;> repeat' (first | rfl | apply And.intro))
        rw [List.take_succ_eq_append_getElem hj', List.flatMap_append, List.length_append, ← Nat.add_assoc]
        simpa using hi2
      · simp -implicitDefEqProofs only [go_sem]
        exact ⟨((Ext.mkB B [.cells (x.C)] R μ).keepB b).trans hk3, .inr hd2⟩
    · have hjj : j = x.Kids.length := by omega
      subst hjj
      rw [List.take_length] at hi
      have hx : xs[i + (x.Kids.flatMap T_api_Tree.tour).length]? = some (x) := by
        rw [← List.getElem?_drop, hr]
        simp [List.append_assoc]
      simp -implicitDefEqProofs only [go_sem, b1, b2, b3]
      have hy1 := hY _ _ _ hx hi
      refine hy1.mono ?_
      rintro r m2 ⟨hk2, hcase⟩
      refine ⟨False.elim, ?_⟩
      have hk3 := ((Ext.mkB B [.cells (x.C)] R μ).keepB b).trans (hk.trans hk2)
      rcases hcase with ⟨rfl, hi2⟩ | ⟨rfl, hd2⟩
      · simp -implicitDefEqProofs only [go_sem]
        exact ⟨hk3, by simpa [Nat.add_assoc] using hi2⟩
      · simp -implicitDefEqProofs only [go_sem]
        exact ⟨hk3, .inr hd2⟩
/-- **tree.Walk's iterator yields the tour.** -/
theorem walk_iter (x : T_api_Tree) (hsm : ∀ y ∈ x.tour, y.Kids.length < 9223372036854775808) (l : Nat) : Iter Try.prog 131 [] [.ptr l 0] (fun m => m.boxes[l]? = some (.cells x.C)) (x.tour.map fun y => [.agg y.C]) := by
  intro b yv I D m hy hb hC hI hD h0 hY
  obtain ⟨B, R, μ⟩ := m
  dsimp only at hb
  have hbl := hC 0 _ h0
  dsimp only at hbl
  show Does Try.prog 131 [yv, .ptr l 0] _ _
  have z : zeroT Try.prog 151 = some [.atom .nilFunc] := by kernel_rfl
  refine Does.of_slim mix fn_131 ok_131 (by rfl) ?_; simp -implicitDefEqProofs only [go_sem, Try.f131]
  simp -implicitDefEqProofs only [go_sem, hy.1, hy.2.1, hy.2.2, app_old hbl, z]
  refine (DoesV.func (first := []) (args := [.agg x.C]) (cap := [.ptr (B.length + 1) 0, .ptr B.length 0]) (walk_tour x hsm b yv x.tour (fun i m1 => I i m1 ∧ KeepB b ⟨B, R, μ⟩ m1) D (B.length + 1) B.length hy.1 (by omega) hb (fun i m m' h he => ⟨hI i m m' h.1 he, h.2.trans (he.keepB b)⟩) hD (fun i y m1 hx hi => ?_) 0 _ ⟨hI _ _ _ h0 (Ext.mkB _ _ _ _), (Ext.mkB _ _ _ _).keepB b⟩ (by simp) (by simp) ⟨[], by simp⟩)).mono ?_
  · refine (hY i [.agg y.C] m1 (by simp [hx]) hi.2 hi.1).mono ?_
    rintro r m2 ⟨hk, h | h⟩
    · exact ⟨hk, .inl ⟨h.1, h.2, hi.2.trans hk⟩⟩
    · exact ⟨hk, .inr h⟩
  · rintro r m2 ⟨hk, h⟩
    refine ⟨False.elim, ?_⟩
    simp -implicitDefEqProofs only [go_sem]
    refine ⟨((Ext.mkB B _ R μ).keepB b).trans hk, ?_⟩
    rcases h with ⟨_, h, _⟩ | ⟨_, h⟩
    · left; simpa using h
    · exact .inr h
@[go_sem] theorem constAV_nilFunc' : constAV .nilFunc = some (.atom .nilFunc) := rfl
theorem tree_Walk (x : T_api_Tree) (B : List ABox) (R : List (Option (Nat × List AV))) (μ : TypeId → Bool) : Does Try.prog 89 [.agg x.C] ⟨B, R, μ⟩ fun r m1 => r = .func 131 [] [.ptr B.length 0] ∧ m1 = ⟨B ++ [.cells x.C], R, μ⟩ := by
  refine Does.of_slim mix fn_89 ok_89 (by rfl) ?_; simp -implicitDefEqProofs only [go_sem, Try.f89]
/-- The nodes, kids ahead, where all are counted by numbers that Go has. -/
def M_tree_Walk (x : T_api_Tree) : Option (List T_api_Tree) := if (x.tour.all fun y => decide (y.Kids.length < 9223372036854775808)) = true then some x.tour else none
theorem M_tree_Walk.w : ∀ (x : T_api_Tree) (r : List T_api_Tree), M_tree_Walk x = some r → FnI Try.prog 89 [.agg x.C] (r.map fun y => [.agg y.C]) := by
  intro x r h m
  unfold M_tree_Walk at h
  split at h
  · rename_i hs
    injection h with h
    subst h
    have hs : ∀ y ∈ x.tour, y.Kids.length < 9223372036854775808 := fun y hy => of_decide_eq_true (List.all_eq_true.1 hs y hy)
    obtain ⟨B, R, μ⟩ := m
    obtain ⟨r, m', h1, rfl, rfl⟩ := tree_Walk x B R μ
    refine ⟨_, _, _, _, [(B.length, .cells x.C)], h1, ⟨⟨[.cells x.C], rfl⟩, ⟨[], by simp⟩, rfl⟩, ?_, ?_, ?_⟩
    · intro q hq
      rcases List.mem_cons.1 hq with rfl | hq
      · simp
      · cases hq
    · intro b yv I D m hy hb hC hI hD h0 hY
      exact walk_iter x hs B.length b yv I D m hy hb (fun i m h => hC i m h (B.length, .cells x.C) (List.mem_cons_self)) hI hD h0 hY
    · intro q hq
      rcases List.mem_cons.1 hq with rfl | hq
      · exact Nat.le_refl _
      · cases hq
  · cases h
end Go.Proofs.Ytcfekacmmfdggaa.G
set_option linter.unusedVariables false
set_option linter.unusedSimpArgs false
set_option maxRecDepth 100000
namespace Go.Proofs.Ytcfekacmmfdggaa.G
theorem lok_124 : (Try.f124.body.isSome && !(Try.f124.name == "runtime.NumGoroutine") && okL (bodyF Try.f124) Try.f124.ntmps (bodyF Try.f124)) = true := by kernel_rfl
def M_sets_one (x : Int) : Option (Set64) :=
  if (decide (x < 0)) = true then
    some (0#64)
  else
    if (decide (x ≥ 64)) = true then
      some (0#64)
    else
      some (1#64 <<< ((BitVec.ofInt 64 x)).toNat)
set_option maxHeartbeats 8000000 in
theorem M_sets_one.w : ∀ (x : Int) (r : Set64), M_sets_one x = some r → (fun (x : Int) (r : Set64) => Fn Try.prog 124 [.i64 x] (.w r)) x r := by
  intro x r h
  rw [M_sets_one] at h
  try dsimp only
  refine Fn.of_lc mix fn_124 lok_124 (by rfl) (flC (.atom _) (flN)) (.atom _) ?_
  simp -implicitDefEqProofs only [go_sem, Try.f124]
  by_cases h1 : (decide (x < 0)) = true
  · replace h := ite_some h h1
    try simp -implicitDefEqProofs only [go_sem, h1]
    injection h with h; subst h
    first | rfl | simp -implicitDefEqProofs only [go_sem, h1] <;> rfl
  · replace h := ite_none h h1; replace h1 := bfalse h1
    try simp -implicitDefEqProofs only [go_sem, h1]
    by_cases h2 : (decide (x ≥ 64)) = true
    · replace h := ite_some h h2
      try simp -implicitDefEqProofs only [go_sem, h1, h2]
      injection h with h; subst h
      first | rfl | simp -implicitDefEqProofs only [go_sem, h1, h2] <;> rfl
    · replace h := ite_none h h2; replace h2 := bfalse h2
      try simp -implicitDefEqProofs only [go_sem, h1, h2]
      injection h with h; subst h
      first | rfl | simp -implicitDefEqProofs only [go_sem, h1, h2] <;> rfl
end Go.Proofs.Ytcfekacmmfdggaa.G
set_option linter.unusedVariables false
set_option linter.unusedSimpArgs false
set_option maxRecDepth 100000
namespace Go.Proofs.Ytcfekacmmfdggaa.G
theorem lok_81 : (Try.f81.body.isSome && !(Try.f81.name == "runtime.NumGoroutine") && okL (bodyF Try.f81) Try.f81.ntmps (bodyF Try.f81)) = true := by kernel_rfl
def M_sets_Has (x : Set64 × Int) : Option (Bool) :=
  M_sets_one x.2 >>= fun r1 =>
  some ((x.1 &&& r1) != 0#64)
set_option maxHeartbeats 8000000 in
theorem M_sets_Has.w : ∀ (x : Set64 × Int) (r : Bool), M_sets_Has x = some r → (fun (x : Set64 × Int) (r : Bool) => Fn Try.prog 81 [.w x.1, .i64 x.2] (.bool r)) x r := by
  intro x r h
  rw [M_sets_Has] at h
  try dsimp only
  refine Fn.of_lc mix fn_81 lok_81 (by rfl) (flC (.atom _) (flC (.atom _) (flN))) (.atom _) ?_
  simp -implicitDefEqProofs only [go_sem, Try.f81]
  obtain ⟨r1, h2, h⟩ := bind_some' h
  refine .plain _ _ rfl (M_sets_one.w x.2 _ h2) ?_
  try simp -implicitDefEqProofs only [go_sem]
  injection h with h; subst h
  first | rfl | simp -implicitDefEqProofs only [go_sem] <;> rfl
end Go.Proofs.Ytcfekacmmfdggaa.G
set_option linter.unusedVariables false
set_option linter.unusedSimpArgs false
set_option maxRecDepth 100000
namespace Go.Proofs.Ytcfekacmmfdggaa.G

theorem has_bit (s : Set64) (i : Nat) (h : i < 64) : M_sets_Has (s, (i : Int)) = some (s.getLsbD i) := by
  have h1 : decide ((i : Int) < 0) = false := by simp
  have h2 : decide ((i : Int) ≥ 64) = false := by simp; omega
  have h3 : (BitVec.ofInt 64 (i : Int)).toNat = i := by
    rw [BitVec.ofInt_natCast, BitVec.toNat_ofNat]; omega
  have e : M_sets_one (i : Int) = some (1#64 <<< i) := by
    unfold M_sets_one
    rw [h1, h2, h3]; rfl
  unfold M_sets_Has
  simp only [e, Option.bind_eq_bind, Option.bind_some]
  congr 1
  have h4 : s &&& 1#64 <<< i = if s.getLsbD i then BitVec.twoPow 64 i else 0#64 := by
    rw [← BitVec.and_twoPow]; rfl
  rw [h4]
  split
  · rename_i hb
    rw [hb]
    have h5 : BitVec.twoPow 64 i ≠ 0#64 := by
      intro e
      have := congrArg (fun x => x.getLsbD i) e
      simp [BitVec.getLsbD_twoPow, h] at this
    simp [h5]
  · rename_i hb
    simp at hb
    simp [hb]
end Go.Proofs.Ytcfekacmmfdggaa.G
set_option linter.unusedVariables false
set_option linter.unusedSimpArgs false
set_option maxRecDepth 100000
namespace Go.Proofs.Ytcfekacmmfdggaa.G
theorem lok_90 : (Try.f90.body.isSome && !(Try.f90.name == "runtime.NumGoroutine") && okL (bodyF Try.f90) Try.f90.ntmps (bodyF Try.f90)) = true := by kernel_rfl
def M_sets_Of.l0 (x : Set64 × List Int × Int × Int) : Option (Set64) :=
  if (decide (x.2.2.2 < x.2.2.1)) = true then
    (getI x.2.1 x.2.2.2) >>= fun (e2 : Int) =>
    M_sets_one e2 >>= fun r4 =>
    M_sets_Of.l0 ((x.1 ||| r4), x.2.1, x.2.2.1, (w64 (x.2.2.2 + 1)))
  else
    some x.1
  partial_fixpoint
theorem M_sets_Of.l0.ws : (∀ (x : Set64 × List Int × Int × Int) (o : Set64), M_sets_Of.l0 x = some o → (fun (x : Set64 × List Int × Int × Int) (o : Set64) => ∀ (lo : Option Nat) (c : LCtx) (Q : Exit → LEnv → Prop) (hb : ∀ s : Set64, o = s → Q (.exit 0) ⟨[(3, .v (.w s))], []⟩), LLoop Try.prog 90 lo c 0 (VQ Q) ⟨[(3, .v (.w x.1)), (6, .v (.slice .foreign (x.2.1.map AV.i64))), (7, .v (.i64 x.2.2.1)), (8, .v (.i64 x.2.2.2))], []⟩) x o) := by
  refine M_sets_Of.l0.partial_correctness _ ?_
  · intro M_M_sets_Of_l0 ih_M_sets_Of_l0 x o h
    intro lo c Q hb
    refine LLoop.step mix fn_90 (by kernel_rfl) ?_
    simp -implicitDefEqProofs only [go_sem, Try.f90]
    by_cases h1 : (decide (x.2.2.2 < x.2.2.1)) = true
    · replace h := ite_some h h1
      try simp -implicitDefEqProofs only [go_sem, h1]
      obtain ⟨e2, h3, h⟩ := bind_some' h; replace h3 := getI_some h3; obtain ⟨h3', h3⟩ := h3
      try simp -implicitDefEqProofs only [go_sem, h1, h3, h3']
      obtain ⟨r4, h5, h⟩ := bind_some' h
      refine .plain _ _ rfl (M_sets_one.w e2 _ h5) ?_
      try simp -implicitDefEqProofs only [go_sem, h1, h3, h3']
      exact LLoop.view [] (by (first | rfl | simp -implicitDefEqProofs only [go_sem, h1, h3, h3'] <;> rfl)) (ih_M_sets_Of_l0 _ _ h lo c Q hb)
    · replace h := ite_none h h1; replace h1 := bfalse h1
      try simp -implicitDefEqProofs only [go_sem, h1]
      injection h with h; subst h
      exact .inr ⟨[], _, by (simp -implicitDefEqProofs only [go_sem, h1] <;> first | done | rfl | trivial), hb _ rfl⟩
theorem M_sets_Of.l0.w : type_of% @M_sets_Of.l0.ws := @M_sets_Of.l0.ws
def M_sets_Of (x : List Int) : Option (Set64) :=
  M_sets_Of.l0 (0#64, x, (x.length : Int), 0) >>= fun (o6 : Set64) =>
  some o6
set_option maxHeartbeats 8000000 in
theorem M_sets_Of.w : ∀ (x : List Int) (r : Set64), M_sets_Of x = some r → (fun (x : List Int) (r : Set64) => Fn Try.prog 90 [.slice .foreign (x.map AV.i64)] (.w r)) x r := by
  intro x r h
  rw [M_sets_Of] at h
  try dsimp only
  refine Fn.of_lc mix fn_90 lok_90 (by rfl) (flC (flat_slice _ (fun _ => .atom _) _) (flN)) (.atom _) ?_
  simp -implicitDefEqProofs only [go_sem, Try.f90]
  obtain ⟨o6, h7, h⟩ := bind_some' h
  refine LLoop.viewQ (LLoop.view [] (by (first | rfl | simp -implicitDefEqProofs only [go_sem] <;> rfl)) (M_sets_Of.l0.w (0#64, x, (x.length : Int), 0) _ h7 _ _ _ ?_))
  intro s' hs'; subst hs'
  try simp -implicitDefEqProofs only [go_sem]
  injection h with h; subst h
  first | rfl | simp -implicitDefEqProofs only [go_sem] <;> rfl
end Go.Proofs.Ytcfekacmmfdggaa.G
set_option linter.unusedVariables false
set_option linter.unusedSimpArgs false
set_option maxRecDepth 100000
namespace Go.Proofs.Ytcfekacmmfdggaa.G
end Go.Proofs.Ytcfekacmmfdggaa.G
set_option linter.unusedVariables false
set_option linter.unusedSimpArgs false
set_option maxRecDepth 100000
namespace Go.Proofs.Ytcfekacmmfdggaa.G
theorem lok_93 : (Try.f93.body.isSome && !(Try.f93.name == "runtime.NumGoroutine") && okL (bodyF Try.f93) Try.f93.ntmps (bodyF Try.f93)) = true := by kernel_rfl
def M_ref01_power.l0 (x : Int × Set64 × Int) : Option (Set64) :=
  if (decide (x.2.2 < x.1)) = true then
    M_ref01_power.l0 (x.1, (x.2.1 * 2#64), (w64 (x.2.2 + 1)))
  else
    some x.2.1
  partial_fixpoint
theorem M_ref01_power.l0.ws : (∀ (x : Int × Set64 × Int) (o : Set64), M_ref01_power.l0 x = some o → (fun (x : Int × Set64 × Int) (o : Set64) => ∀ (lo : Option Nat) (c : LCtx) (Q : Exit → LEnv → Prop) (hb : ∀ s : Set64, o = s → Q (.exit 0) ⟨[(3, .v (.w s))], []⟩), LLoop Try.prog 93 lo c 0 (VQ Q) ⟨[(0, .v (.i64 x.1)), (3, .v (.w x.2.1)), (4, .v (.i64 x.2.2))], []⟩) x o) := by
  refine M_ref01_power.l0.partial_correctness _ ?_
  · intro M_M_ref01_power_l0 ih_M_ref01_power_l0 x o h
    intro lo c Q hb
    refine LLoop.step mix fn_93 (by kernel_rfl) ?_
    simp -implicitDefEqProofs only [go_sem, Try.f93]
    by_cases h1 : (decide (x.2.2 < x.1)) = true
    · replace h := ite_some h h1
      try simp -implicitDefEqProofs only [go_sem, h1]
      exact LLoop.view [] (by (first | rfl | simp -implicitDefEqProofs only [go_sem, h1] <;> rfl)) (ih_M_ref01_power_l0 _ _ h lo c Q hb)
    · replace h := ite_none h h1; replace h1 := bfalse h1
      try simp -implicitDefEqProofs only [go_sem, h1]
      injection h with h; subst h
      exact .inr ⟨[], _, by (simp -implicitDefEqProofs only [go_sem, h1] <;> first | done | rfl | trivial), hb _ rfl⟩
theorem M_ref01_power.l0.w : type_of% @M_ref01_power.l0.ws := @M_ref01_power.l0.ws
def M_ref01_power (x : Int) : Option (Set64) :=
  M_ref01_power.l0 (x, 1#64, 0) >>= fun (o2 : Set64) =>
  some o2
set_option maxHeartbeats 8000000 in
theorem M_ref01_power.w : ∀ (x : Int) (r : Set64), M_ref01_power x = some r → (fun (x : Int) (r : Set64) => Fn Try.prog 93 [.i64 x] (.w r)) x r := by
  intro x r h
  rw [M_ref01_power] at h
  try dsimp only
  refine Fn.of_lc mix fn_93 lok_93 (by rfl) (flC (.atom _) (flN)) (.atom _) ?_
  simp -implicitDefEqProofs only [go_sem, Try.f93]
  obtain ⟨o2, h3, h⟩ := bind_some' h
  refine LLoop.viewQ (LLoop.view [] (by (first | rfl | simp -implicitDefEqProofs only [go_sem] <;> rfl)) (M_ref01_power.l0.w (x, 1#64, 0) _ h3 _ _ _ ?_))
  intro s' hs'; subst hs'
  try simp -implicitDefEqProofs only [go_sem]
  injection h with h; subst h
  first | rfl | simp -implicitDefEqProofs only [go_sem] <;> rfl
end Go.Proofs.Ytcfekacmmfdggaa.G
set_option linter.unusedVariables false
set_option linter.unusedSimpArgs false
set_option maxRecDepth 100000
namespace Go.Proofs.Ytcfekacmmfdggaa.G
theorem lok_57 : (Try.f57.body.isSome && !(Try.f57.name == "runtime.NumGoroutine") && okL (bodyF Try.f57) Try.f57.ntmps (bodyF Try.f57)) = true := by kernel_rfl
def M_ref01_Of.l1 (x : List Int × Set64 × Int × Int) : Option (Set64) :=
  if (decide (x.2.2.2 < (x.1.length : Int))) = true then
    (getI x.1 x.2.2.2) >>= fun (e3 : Int) =>
    if (e3 == x.2.2.1) = true then
      M_ref01_power x.2.2.1 >>= fun r6 =>
      some (x.2.1 + r6)
    else
      M_ref01_Of.l1 (x.1, x.2.1, x.2.2.1, (w64 (x.2.2.2 + 1)))
  else
    some x.2.1
  partial_fixpoint
theorem M_ref01_Of.l1.ws : (∀ (x : List Int × Set64 × Int × Int) (o : Set64), M_ref01_Of.l1 x = some o → (fun (x : List Int × Set64 × Int × Int) (o : Set64) => ∀ (lo : Option Nat) (c : LCtx) (Q : Exit → LEnv → Prop) (hb : ∀ s : Set64, o = s → Q (.exit 2) ⟨[(0, .v (.slice .foreign (x.1.map AV.i64))), (3, .v (.w s)), (4, .v (.i64 x.2.2.1))], []⟩), LLoop Try.prog 57 lo c 1 (VQ Q) ⟨[(0, .v (.slice .foreign (x.1.map AV.i64))), (3, .v (.w x.2.1)), (4, .v (.i64 x.2.2.1)), (5, .v (.i64 x.2.2.2))], []⟩) x o) := by
  refine M_ref01_Of.l1.partial_correctness _ ?_
  · intro M_M_ref01_Of_l1 ih_M_ref01_Of_l1 x o h
    intro lo c Q hb
    refine LLoop.step mix fn_57 (by kernel_rfl) ?_
    simp -implicitDefEqProofs only [go_sem, Try.f57]
    by_cases h2 : (decide (x.2.2.2 < (x.1.length : Int))) = true
    · replace h := ite_some h h2
      try simp -implicitDefEqProofs only [go_sem, h2]
      obtain ⟨e3, h4, h⟩ := bind_some' h; replace h4 := getI_some h4; obtain ⟨h4', h4⟩ := h4
      try simp -implicitDefEqProofs only [go_sem, h2, h4, h4']
      by_cases h5 : (e3 == x.2.2.1) = true
      · replace h := ite_some h h5
        try simp -implicitDefEqProofs only [go_sem, h2, h4, h4', h5]
        obtain ⟨r6, h7, h⟩ := bind_some' h
        refine .plain _ _ rfl (M_ref01_power.w x.2.2.1 _ h7) ?_
        try simp -implicitDefEqProofs only [go_sem, h2, h4, h4', h5]
        injection h with h; subst h
        exact .inr ⟨[], _, by (simp -implicitDefEqProofs only [go_sem, h2, h4, h4', h5] <;> first | done | rfl | trivial), hb _ rfl⟩
      · replace h := ite_none h h5; replace h5 := bfalse h5
        try simp -implicitDefEqProofs only [go_sem, h2, h4, h4', h5]
        exact LLoop.view [] (by (first | rfl | simp -implicitDefEqProofs only [go_sem, h2, h4, h4', h5] <;> rfl)) (ih_M_ref01_Of_l1 _ _ h lo c Q hb)
    · replace h := ite_none h h2; replace h2 := bfalse h2
      try simp -implicitDefEqProofs only [go_sem, h2]
      injection h with h; subst h
      exact .inr ⟨[], _, by (simp -implicitDefEqProofs only [go_sem, h2] <;> first | done | rfl | trivial), hb _ rfl⟩
theorem M_ref01_Of.l1.w : type_of% @M_ref01_Of.l1.ws := @M_ref01_Of.l1.ws
def M_ref01_Of.l0 (x : List Int × Set64 × Int) : Option (Set64) :=
  if (decide (x.2.2 < 64)) = true then
    M_ref01_Of.l1 (x.1, x.2.1, x.2.2, 0) >>= fun (o8 : Set64) =>
    M_ref01_Of.l0 (x.1, o8, (w64 (x.2.2 + 1)))
  else
    some x.2.1
  partial_fixpoint
theorem M_ref01_Of.l0.ws : (∀ (x : List Int × Set64 × Int) (o : Set64), M_ref01_Of.l0 x = some o → (fun (x : List Int × Set64 × Int) (o : Set64) => ∀ (lo : Option Nat) (c : LCtx) (Q : Exit → LEnv → Prop) (hb : ∀ s : Set64, o = s → Q (.exit 0) ⟨[(3, .v (.w s))], []⟩), LLoop Try.prog 57 lo c 0 (VQ Q) ⟨[(0, .v (.slice .foreign (x.1.map AV.i64))), (3, .v (.w x.2.1)), (4, .v (.i64 x.2.2))], []⟩) x o) := by
  refine M_ref01_Of.l0.partial_correctness _ ?_
  · intro M_M_ref01_Of_l0 ih_M_ref01_Of_l0 x o h
    intro lo c Q hb
    refine LLoop.step mix fn_57 (by kernel_rfl) ?_
    simp -implicitDefEqProofs only [go_sem, Try.f57]
    by_cases h1 : (decide (x.2.2 < 64)) = true
    · replace h := ite_some h h1
      try simp -implicitDefEqProofs only [go_sem, h1]
      obtain ⟨o8, h9, h⟩ := bind_some' h
      refine LLoop.viewQ (LLoop.view [] (by (first | rfl | simp -implicitDefEqProofs only [go_sem, h1] <;> rfl)) (M_ref01_Of.l1.w (x.1, x.2.1, x.2.2, 0) _ h9 _ _ _ ?_))
      intro s' hs'; subst hs'
      try simp -implicitDefEqProofs only [go_sem, h1]
      exact LLoop.view [] (by (first | rfl | simp -implicitDefEqProofs only [go_sem, h1] <;> rfl)) (ih_M_ref01_Of_l0 _ _ h lo c Q hb)
    · replace h := ite_none h h1; replace h1 := bfalse h1
      try simp -implicitDefEqProofs only [go_sem, h1]
      injection h with h; subst h
      exact .inr ⟨[], _, by (simp -implicitDefEqProofs only [go_sem, h1] <;> first | done | rfl | trivial), hb _ rfl⟩
theorem M_ref01_Of.l0.w : type_of% @M_ref01_Of.l0.ws := @M_ref01_Of.l0.ws
def M_ref01_Of (x : List Int) : Option (Set64) :=
  M_ref01_Of.l0 (x, 0#64, 0) >>= fun (o10 : Set64) =>
  some o10
set_option maxHeartbeats 8000000 in
theorem M_ref01_Of.w : ∀ (x : List Int) (r : Set64), M_ref01_Of x = some r → (fun (x : List Int) (r : Set64) => Fn Try.prog 57 [.slice .foreign (x.map AV.i64)] (.w r)) x r := by
  intro x r h
  rw [M_ref01_Of] at h
  try dsimp only
  refine Fn.of_lc mix fn_57 lok_57 (by rfl) (flC (flat_slice _ (fun _ => .atom _) _) (flN)) (.atom _) ?_
  simp -implicitDefEqProofs only [go_sem, Try.f57]
  obtain ⟨o10, h11, h⟩ := bind_some' h
  refine LLoop.viewQ (LLoop.view [] (by (first | rfl | simp -implicitDefEqProofs only [go_sem] <;> rfl)) (M_ref01_Of.l0.w (x, 0#64, 0) _ h11 _ _ _ ?_))
  intro s' hs'; subst hs'
  try simp -implicitDefEqProofs only [go_sem]
  injection h with h; subst h
  first | rfl | simp -implicitDefEqProofs only [go_sem] <;> rfl
end Go.Proofs.Ytcfekacmmfdggaa.G
set_option linter.unusedVariables false
set_option linter.unusedSimpArgs false
set_option maxRecDepth 100000
namespace Go.Proofs.Ytcfekacmmfdggaa.G
theorem lok_83 : (Try.f83.body.isSome && !(Try.f83.name == "runtime.NumGoroutine") && okL (bodyF Try.f83) Try.f83.ntmps (bodyF Try.f83)) = true := by kernel_rfl
def M_ref01_Has (x : Set64 × Int) : Option (Bool) :=
  if (decide (x.2 ≥ 0)) = true then
    if (decide (x.2 < 64)) = true then
      M_ref01_power x.2 >>= fun r3 =>
      if r3 = 0#64 then none else
      some (((x.1 / r3) % 2#64) == 1#64)
    else
      some false
  else
    some false
set_option maxHeartbeats 8000000 in
theorem M_ref01_Has.w : ∀ (x : Set64 × Int) (r : Bool), M_ref01_Has x = some r → (fun (x : Set64 × Int) (r : Bool) => Fn Try.prog 83 [.w x.1, .i64 x.2] (.bool r)) x r := by
  intro x r h
  rw [M_ref01_Has] at h
  try dsimp only
  refine Fn.of_lc mix fn_83 lok_83 (by rfl) (flC (.atom _) (flC (.atom _) (flN))) (.atom _) ?_
  simp -implicitDefEqProofs only [go_sem, Try.f83]
  by_cases h1 : (decide (x.2 ≥ 0)) = true
  · replace h := ite_some h h1
    try simp -implicitDefEqProofs only [go_sem, h1]
    by_cases h2 : (decide (x.2 < 64)) = true
    · replace h := ite_some h h2
      try simp -implicitDefEqProofs only [go_sem, h1, h2]
      obtain ⟨r3, h4, h⟩ := bind_some' h
      refine .plain _ _ rfl (M_ref01_power.w x.2 _ h4) ?_
      try simp -implicitDefEqProofs only [go_sem, h1, h2]
      obtain ⟨h5, h⟩ := nz_some h
      try simp -implicitDefEqProofs only [go_sem, h1, h2, h5]
      injection h with h; subst h
      first | rfl | simp -implicitDefEqProofs only [go_sem, h1, h2, h5] <;> rfl
    · replace h := ite_none h h2; replace h2 := bfalse h2
      try simp -implicitDefEqProofs only [go_sem, h1, h2]
      injection h with h; subst h
      first | rfl | simp -implicitDefEqProofs only [go_sem, h1, h2] <;> rfl
  · replace h := ite_none h h1; replace h1 := bfalse h1
    try simp -implicitDefEqProofs only [go_sem, h1]
    injection h with h; subst h
    first | rfl | simp -implicitDefEqProofs only [go_sem, h1] <;> rfl
end Go.Proofs.Ytcfekacmmfdggaa.G
set_option linter.unusedVariables false
set_option linter.unusedSimpArgs false
set_option maxRecDepth 100000
namespace Go.Proofs.Ytcfekacmmfdggaa.G
end Go.Proofs.Ytcfekacmmfdggaa.G
set_option linter.unusedVariables false
set_option linter.unusedSimpArgs false
set_option maxRecDepth 100000
namespace Go.Proofs.Ytcfekacmmfdggaa.G
end Go.Proofs.Ytcfekacmmfdggaa.G
set_option linter.unusedVariables false
set_option linter.unusedSimpArgs false
namespace Go.Proofs.Ytcfekacmmfdggaa.G

theorem w64_of {x : Int} (h1 : -9223372036854775808 ≤ x) (h2 : x < 9223372036854775808) : w64 x = x := by
  simp only [w64, IntKind.wrap, IntKind.bits, IntKind.signed, Bool.true_and, decide_eq_true_eq, Nat.reduceSub, Int.reducePow, ge_iff_le]
  split <;> omega
theorem w64_succ {i : Nat} (h : i + 1 < 9223372036854775808) : w64 ((i : Int) + 1) = ((i + 1 : Nat) : Int) := by
  rw [w64_of (by omega) (by omega)]; omega
theorem getI_nat {α : Type} {l : List α} {i : Nat} (h : i < l.length) : getI l (i : Int) = some l[i] := by
  unfold getI
  rw [if_pos (by omega), Int.toNat_natCast, List.getElem?_eq_getElem h]
theorem room_of {α : Type} {b : Nat} {xs ys : List α} (h : (xs.length + ys.length) * b ≤ 140737488355328) : room b xs ys = some (xs ++ ys) := if_pos h
/-- A loop over a list, from a place on. -/
theorem loop_inv {α σ ρ : Type} (l : List α) (I : Nat → σ → Prop) (F : Nat → σ → ρ) (G : σ → List α → ρ) (h0 : ∀ s, I l.length s → F l.length s = G s [])
    (hs : ∀ i s (h : i < l.length), I i s → (∀ s', I (i + 1) s' → F (i + 1) s' = G s' (l.drop (i + 1))) → F i s = G s (l[i] :: l.drop (i + 1))) : ∀ i s, i ≤ l.length → I i s → F i s = G s (l.drop i) := by
  have key : ∀ n i s, l.length - i = n → i ≤ l.length → I i s → F i s = G s (l.drop i) := by
    intro n
    induction n with
    | zero =>
      intro i s h1 h2 hi
      obtain rfl : i = l.length := by omega
      rw [List.drop_length]; exact h0 s hi
    | succ n ih =>
      intro i s h1 h2 hi
      have hlt : i < l.length := by omega
      rw [List.drop_eq_getElem_cons hlt]
      exact hs i s hlt hi (fun s' hi' => ih (i + 1) s' (by omega) (by omega) hi')
  intro i s h hi
  exact key _ i s rfl h hi
theorem loop_all {α σ ρ : Type} (l : List α) (F : Nat → σ → ρ) (G : σ → List α → ρ) (h0 : ∀ s, F l.length s = G s [])
    (hs : ∀ i s (h : i < l.length), (∀ s', F (i + 1) s' = G s' (l.drop (i + 1))) → F i s = G s (l[i] :: l.drop (i + 1))) (s : σ) : F 0 s = G s l := by
  have := loop_inv l (fun _ _ => True) F G (fun s _ => h0 s) (fun i s h _ ih => hs i s h (fun s' => ih s' trivial)) 0 s (Nat.zero_le _) trivial
  rwa [List.drop_zero] at this
theorem dlt {a b : Int} (h : a < b) : (decide (a < b)) = true := decide_eq_true h
theorem dge {a b : Int} (h : ¬ a < b) : ¬ (decide (a < b)) = true := by simpa using h

/- Sets. -/
def bitI (n : Int) : Set64 := if 0 ≤ n ∧ n < 64 then 1#64 <<< n.toNat else 0#64
def hasI (s : Set64) (n : Int) : Bool := decide (0 ≤ n ∧ n < 64) && s.getLsbD n.toNat
def ofL (l : List Int) : Set64 := l.foldl (fun s n => s ||| bitI n) 0#64
theorem bitI_lsb (n : Int) (i : Nat) : (bitI n).getLsbD i = (decide (i < 64) && decide (n = (i : Int))) := by
  unfold bitI
  split
  · rename_i h
    obtain ⟨k, rfl⟩ : ∃ k : Nat, n = k := ⟨n.toNat, by omega⟩
    rw [Int.toNat_natCast]
    have : (1#64 <<< k) = BitVec.twoPow 64 k := rfl
    rw [this, BitVec.getLsbD_twoPow]
    rw [Bool.eq_iff_iff]
    simp only [Bool.and_eq_true, decide_eq_true_eq]
    omega
  · rename_i h
    rw [BitVec.getLsbD_zero]
    by_cases h1 : i < 64
    · have : n ≠ (i : Int) := by omega
      simp [this]
    · simp [h1]
theorem sets_one_eq (n : Int) : M_sets_one n = some (bitI n) := by
  unfold M_sets_one bitI
  by_cases h1 : n < 0
  · rw [if_pos (by simpa using h1), if_neg (by omega)]
  · rw [if_neg (by simpa using h1)]
    by_cases h2 : n ≥ 64
    · rw [if_pos (by simpa using h2), if_neg (by omega)]
    · rw [if_neg (by simpa using h2), if_pos (by omega)]
      congr 2
      rw [BitVec.toNat_ofInt]; omega
theorem sets_Has_eq (s : Set64) (n : Int) : M_sets_Has (s, n) = some (hasI s n) := by
  unfold hasI
  by_cases h : 0 ≤ n ∧ n < 64
  · obtain ⟨k, rfl⟩ : ∃ k : Nat, n = k := ⟨n.toNat, by omega⟩
    rw [has_bit s k (by omega)]
    simp; omega
  · unfold M_sets_Has
    rw [sets_one_eq]
    simp only [Option.bind_eq_bind, Option.bind_some, bitI, if_neg h, h, decide_false, Bool.false_and]
    simp
theorem foldl_or (l : List Int) (s : Set64) : l.foldl (fun s n => s ||| bitI n) s = s ||| ofL l := by
  unfold ofL
  have : ∀ (l : List Int) (s : Set64), l.foldl (fun s n => s ||| bitI n) s = s ||| l.foldl (fun s n => s ||| bitI n) 0#64 := by
    intro l
    induction l with
    | nil => intro s; simp
    | cons x l ih =>
      intro s
      simp only [List.foldl_cons]
      rw [ih (s ||| bitI x), ih (0#64 ||| bitI x), BitVec.zero_or, BitVec.or_assoc]
  exact this l s
theorem ofL_cons (x : Int) (l : List Int) : ofL (x :: l) = bitI x ||| ofL l := by
  unfold ofL
  simp only [List.foldl_cons]
  rw [foldl_or, BitVec.zero_or]; rfl
theorem ofL_nil : ofL [] = 0#64 := rfl
theorem ofL_append (l l' : List Int) : ofL (l ++ l') = ofL l ||| ofL l' := by
  induction l with
  | nil => rw [List.nil_append, ofL_nil, BitVec.zero_or]
  | cons x l ih => rw [List.cons_append, ofL_cons, ofL_cons, ih, BitVec.or_assoc]
theorem ofL_lsb (l : List Int) (i : Nat) (h : i < 64) : (ofL l).getLsbD i = l.any fun n => decide (n = (i : Int)) := by
  induction l with
  | nil => simp [ofL_nil]
  | cons x l ih => rw [ofL_cons, BitVec.getLsbD_or, ih, bitI_lsb, List.any_cons]; simp [h]
theorem sets_Of_eq (l : List Int) (hl : l.length < 9223372036854775808) : M_sets_Of l = some (ofL l) := by
  have key := loop_all l (fun i (s : Set64) => M_sets_Of.l0 (s, l, (l.length : Int), (i : Int))) (fun s l => some (l.foldl (fun s n => s ||| bitI n) s)) (fun s => by
      show M_sets_Of.l0 _ = _
      rw [M_sets_Of.l0, if_neg (dge (by dsimp only; omega))]; rfl)
    (fun i s h ih => by
      show M_sets_Of.l0 _ = _
      rw [M_sets_Of.l0, if_pos (dlt (by dsimp only; omega))]
      dsimp only
      rw [getI_nat h]
      simp only [Option.bind_eq_bind, Option.bind_some, sets_one_eq]
      rw [w64_succ (by omega)]
      exact ih (s ||| bitI l[i])) 0#64
  unfold M_sets_Of
  have key' : M_sets_Of.l0 (0#64, l, (l.length : Int), 0) = some (ofL l) := key
  rw [key']; rfl

theorem power_eq (n : Nat) (h : n < 64) : M_ref01_power (n : Int) = some (BitVec.twoPow 64 n) := by
  have key : ∀ k i, n - i = k → i ≤ n → M_ref01_power.l0 ((n : Int), BitVec.twoPow 64 i, (i : Int)) = some (BitVec.twoPow 64 n) := by
    intro k
    induction k with
    | zero =>
      intro i h1 h2
      obtain rfl : i = n := by omega
      rw [M_ref01_power.l0, if_neg (dge (by dsimp only; omega))]
    | succ k ih =>
      intro i h1 h2
      rw [M_ref01_power.l0, if_pos (dlt (by dsimp only; omega))]
      dsimp only
      rw [w64_succ (by omega)]
      have : BitVec.twoPow 64 i * 2#64 = BitVec.twoPow 64 (i + 1) := by
        apply BitVec.eq_of_toNat_eq
        rw [BitVec.toNat_mul, BitVec.toNat_twoPow, BitVec.toNat_twoPow]
        simp only [BitVec.toNat_ofNat]
        rw [Nat.pow_succ]
        omega
      rw [this]
      exact ih (i + 1) (by omega) (by omega)
  unfold M_ref01_power
  have := key n 0 (by omega) (by omega)
  rw [show BitVec.twoPow 64 0 = 1#64 from rfl] at this
  rw [show ((0 : Nat) : Int) = 0 from rfl] at this
  rw [this]; rfl
theorem ref01_Has_eq (s : Set64) (n : Int) : M_ref01_Has (s, n) = some (hasI s n) := by
  unfold M_ref01_Has hasI
  dsimp only
  by_cases h1 : n ≥ 0
  · rw [if_pos (by simpa using h1)]
    by_cases h2 : n < 64
    · rw [if_pos (by simpa using h2)]
      obtain ⟨k, rfl⟩ : ∃ k : Nat, n = k := ⟨n.toNat, by omega⟩
      rw [power_eq k (by omega)]
      simp only [Option.bind_eq_bind, Option.bind_some, Int.toNat_natCast]
      have hk : k < 64 := by omega
      have h0 : BitVec.twoPow 64 k ≠ 0#64 := by
        intro e
        have := congrArg (fun x => x.getLsbD k) e
        simp [BitVec.getLsbD_twoPow, hk] at this
      rw [if_neg h0]
      congr 1
      have h3 : (0 ≤ (k : Int) ∧ (k : Int) < 64) := by omega
      simp only [h3, decide_true, Bool.true_and]
      rw [Bool.eq_iff_iff, beq_iff_eq, ← BitVec.toNat_inj, BitVec.toNat_umod, BitVec.toNat_udiv, BitVec.toNat_twoPow]
      have e : (2 ^ k % 2 ^ 64) = 2 ^ k := Nat.mod_eq_of_lt (Nat.pow_lt_pow_right (by omega) hk)
      rw [e]
      simp only [BitVec.toNat_ofNat]
      show s.toNat / 2 ^ k % 2 = 1 ↔ s.toNat.testBit k = true
      rw [Nat.testBit_eq_decide_div_mod_eq]
      simp
    · rw [if_neg (by simpa using h2)]
      simp only [h2, and_false, decide_false, Bool.false_and]
  · rw [if_neg (by simpa using h1)]
    have : ¬ (0 ≤ n ∧ n < 64) := by omega
    simp only [this, decide_false, Bool.false_and]
theorem hasI_nat (s : Set64) (k : Nat) (h : k < 64) : hasI s (k : Int) = s.getLsbD k := by
  unfold hasI
  have : (0 ≤ (k : Int) ∧ (k : Int) < 64) := by omega
  rw [decide_eq_true this, Bool.true_and, Int.toNat_natCast]
/-- The members below a place. -/
def upTo (f : Nat → Bool) : Nat → Set64
  | 0 => 0#64
  | i + 1 => if f i = true then upTo f i + BitVec.twoPow 64 i else upTo f i
theorem upTo_lsb (f : Nat → Bool) : ∀ (n : Nat), n ≤ 64 → ∀ j, (upTo f n).getLsbD j = (decide (j < n) && f j) := by
  intro n
  induction n with
  | zero => intro _ j; simp [upTo]
  | succ n ih =>
    intro hn j
    have ih := ih (by omega)
    simp only [upTo]
    split
    · rename_i hf
      have h0 : upTo f n &&& BitVec.twoPow 64 n = 0#64 := by
        apply BitVec.eq_of_getLsbD_eq
        intro k hk
        rw [BitVec.getLsbD_and, ih, BitVec.getLsbD_twoPow, BitVec.getLsbD_zero]
        by_cases e : n = k
        · subst e; simp
        · simp [e]
      rw [BitVec.add_eq_or_of_and_eq_zero _ _ h0, BitVec.getLsbD_or, ih, BitVec.getLsbD_twoPow]
      rw [Bool.eq_iff_iff]
      simp only [Bool.or_eq_true, Bool.and_eq_true, decide_eq_true_eq]
      constructor
      · rintro (⟨h1, h2⟩ | ⟨h1, h2⟩)
        · exact ⟨by omega, h2⟩
        · exact ⟨by omega, h2 ▸ hf⟩
      · rintro ⟨h1, h2⟩
        by_cases e : j = n
        · exact .inr ⟨by omega, e.symm⟩
        · exact .inl ⟨by omega, h2⟩
    · rename_i hf
      rw [ih]
      rw [Bool.eq_iff_iff]
      simp only [Bool.and_eq_true, decide_eq_true_eq]
      constructor
      · rintro ⟨h1, h2⟩; exact ⟨by omega, h2⟩
      · rintro ⟨h1, h2⟩
        refine ⟨?_, h2⟩
        rcases Nat.lt_or_ge j n with h3 | h3
        · exact h3
        · obtain rfl : j = n := by omega
          exact absurd h2 hf
theorem ref01_Of_eq (l : List Int) (hl : l.length < 9223372036854775808) : M_ref01_Of l = some (ofL l) := by
  have inner : ∀ (i : Nat), i < 64 → ∀ s, M_ref01_Of.l1 (l, s, (i : Int), 0) = some (if (l.any fun n => decide (n = (i : Int))) = true then s + BitVec.twoPow 64 i else s) := by
    intro i hi s
    exact loop_all l (fun k (s : Set64) => M_ref01_Of.l1 (l, s, (i : Int), (k : Int))) (fun s l => some (if (l.any fun n => decide (n = (i : Int))) = true then s + BitVec.twoPow 64 i else s)) (fun s => by
      show M_ref01_Of.l1 _ = _
      rw [M_ref01_Of.l1, if_neg (dge (by dsimp only; omega))]; simp)
      (fun k s h ih => by
      show M_ref01_Of.l1 _ = _
      rw [M_ref01_Of.l1, if_pos (dlt (by dsimp only; omega))]
      dsimp only
      rw [getI_nat h]
      simp only [Option.bind_eq_bind, Option.bind_some]
      by_cases e : l[k] = (i : Int)
      · rw [if_pos (by simpa using e), power_eq i hi]
        simp [e]
      · rw [if_neg (by simpa using e), w64_succ (by omega)]
        rw [ih s, List.any_cons, decide_eq_false e, Bool.false_or]) s
  have outer : ∀ k i, 64 - i = k → i ≤ 64 → M_ref01_Of.l0 (l, upTo (fun j => l.any fun n => decide (n = (j : Int))) i, (i : Int)) = some (upTo (fun j => l.any fun n => decide (n = (j : Int))) 64) := by
    intro k
    induction k with
    | zero =>
      intro i h1 h2
      obtain rfl : i = 64 := by omega
      rw [M_ref01_Of.l0, if_neg (dge (by dsimp only; omega))]
    | succ k ih =>
      intro i h1 h2
      rw [M_ref01_Of.l0, if_pos (dlt (by dsimp only; omega))]
      dsimp only
      rw [inner i (by omega)]
      simp only [Option.bind_eq_bind, Option.bind_some]
      rw [w64_succ (by omega)]
      have := ih (i + 1) (by omega) (by omega)
      simp only [upTo] at this
      exact this
  unfold M_ref01_Of
  have h := outer 64 0 (by omega) (by omega)
  rw [show ((0 : Nat) : Int) = 0 from rfl, show upTo (fun j => l.any fun n => decide (n = (j : Int))) 0 = 0#64 from rfl] at h
  rw [h]
  simp only [Option.bind_eq_bind, Option.bind_some]
  congr 1
  apply BitVec.eq_of_getLsbD_eq
  intro j hj
  rw [upTo_lsb _ 64 (by omega), ofL_lsb l j hj]
  simp [hj]
end Go.Proofs.Ytcfekacmmfdggaa.G
set_option linter.unusedVariables false
set_option linter.unusedSimpArgs false
set_option maxRecDepth 100000
namespace Go.Proofs.Ytcfekacmmfdggaa.G
end Go.Proofs.Ytcfekacmmfdggaa.G
set_option linter.unusedVariables false
set_option linter.unusedSimpArgs false
set_option maxRecDepth 100000
namespace Go.Proofs.Ytcfekacmmfdggaa.G
end Go.Proofs.Ytcfekacmmfdggaa.G
set_option linter.unusedVariables false
set_option linter.unusedSimpArgs false
set_option maxRecDepth 100000
namespace Go.Proofs.Ytcfekacmmfdggaa.G
end Go.Proofs.Ytcfekacmmfdggaa.G
set_option linter.unusedVariables false
set_option linter.unusedSimpArgs false
set_option maxRecDepth 100000
namespace Go.Proofs.Ytcfekacmmfdggaa.G
end Go.Proofs.Ytcfekacmmfdggaa.G
set_option linter.unusedVariables false
set_option linter.unusedSimpArgs false
set_option maxRecDepth 100000
namespace Go.Proofs.Ytcfekacmmfdggaa.G
end Go.Proofs.Ytcfekacmmfdggaa.G
set_option linter.unusedVariables false
set_option linter.unusedSimpArgs false
set_option maxRecDepth 100000
namespace Go.Proofs.Ytcfekacmmfdggaa.G
end Go.Proofs.Ytcfekacmmfdggaa.G
set_option linter.unusedVariables false
set_option linter.unusedSimpArgs false
set_option maxRecDepth 100000
namespace Go.Proofs.Ytcfekacmmfdggaa.G
end Go.Proofs.Ytcfekacmmfdggaa.G
set_option linter.unusedVariables false
set_option linter.unusedSimpArgs false
set_option maxRecDepth 100000
namespace Go.Proofs.Ytcfekacmmfdggaa.G
end Go.Proofs.Ytcfekacmmfdggaa.G
set_option linter.unusedVariables false
set_option linter.unusedSimpArgs false
namespace Go.Proofs.Ytcfekacmmfdggaa.G

end Go.Proofs.Ytcfekacmmfdggaa.G
set_option linter.unusedVariables false
set_option linter.unusedSimpArgs false
set_option maxRecDepth 100000
namespace Go.Proofs.Ytcfekacmmfdggaa.G
theorem lok_38 : (Try.f38.body.isSome && !(Try.f38.name == "runtime.NumGoroutine") && okL (bodyF Try.f38) Try.f38.ntmps (bodyF Try.f38)) = true := by kernel_rfl
mutual
def M_ref06_Size.l0 (x : Int × Int × Int × T_api_Pred) : Option (Int) :=
  if (decide (x.2.2.1 < (x.2.2.2.Parts.length : Int))) = true then
    if (decide (x.2.1 < x.1)) = true then
      (getI x.2.2.2.Parts x.2.2.1) >>= fun (e3 : T_api_Pred) =>
      M_ref06_Size (e3, (w64 (x.1 - x.2.1))) >>= fun r5 =>
      M_ref06_Size.l0 (x.1, (w64 (x.2.1 + r5)), (w64 (x.2.2.1 + 1)), x.2.2.2)
    else
      some x.2.1
  else
    some x.2.1
  partial_fixpoint
def M_ref06_Size (x : T_api_Pred × Int) : Option (Int) :=
  M_ref06_Size.l0 (x.2, 1, 0, x.1) >>= fun (o7 : Int) =>
  some o7
  partial_fixpoint
end
theorem M_ref06_Size.l0.ws : (∀ (x : Int × Int × Int × T_api_Pred) (o : Int), M_ref06_Size.l0 x = some o → (fun (x : Int × Int × Int × T_api_Pred) (o : Int) => ∀ (lo : Option Nat) (c : LCtx) (Q : Exit → LEnv → Prop) (hb : ∀ s : Int, o = s → Q (.exit 0) ⟨[(5, .v (.i64 s))], []⟩), LLoop Try.prog 38 lo c 0 (VQ Q) ⟨[(1, .v (.i64 x.1)), (2, .lref 2 0), (5, .v (.i64 x.2.1)), (6, .v (.i64 x.2.2.1))], [(2, [.v (.i64 x.2.2.2.Kind), .v (.i64 x.2.2.2.Truth), .v (.i64 x.2.2.2.Op), .v (.i64 x.2.2.2.A.Kind), .v (.i64 x.2.2.2.A.Table), .v (.i64 x.2.2.2.A.Col), .v (.bool x.2.2.2.A.Value.Null), .v (.i64 x.2.2.2.A.Value.N), .v (.i64 x.2.2.2.B.Kind), .v (.i64 x.2.2.2.B.Table), .v (.i64 x.2.2.2.B.Col), .v (.bool x.2.2.2.B.Value.Null), .v (.i64 x.2.2.2.B.Value.N), .v (.slice .foreign (x.2.2.2.Parts.map T_api_Pred.av))])]⟩) x o) ∧ (∀ (x : T_api_Pred × Int) (o : Int), M_ref06_Size x = some o → (fun (x : T_api_Pred × Int) (r : Int) => Fn Try.prog 38 [.agg (T_api_Pred.C x.1), .i64 x.2] (.i64 r)) x o) := by
  refine M_ref06_Size.l0.mutual_partial_correctness _ _ ?_ ?_
  · intro M_M_ref06_Size_l0 M_M_ref06_Size ih_M_ref06_Size_l0 ih_M_ref06_Size x o h
    intro lo c Q hb
    refine LLoop.step mix fn_38 (by kernel_rfl) ?_
    simp -implicitDefEqProofs only [go_sem, Try.f38]
    by_cases h1 : (decide (x.2.2.1 < (x.2.2.2.Parts.length : Int))) = true
    · replace h := ite_some h h1
      try simp -implicitDefEqProofs only [go_sem, h1]
      by_cases h2 : (decide (x.2.1 < x.1)) = true
      · replace h := ite_some h h2
        try simp -implicitDefEqProofs only [go_sem, h1, h2]
        obtain ⟨e3, h4, h⟩ := bind_some' h; replace h4 := getI_some h4; obtain ⟨h4', h4⟩ := h4
        try simp -implicitDefEqProofs only [go_sem, h1, h2, h4, h4']
        obtain ⟨r5, h6, h⟩ := bind_some' h
        refine .plain _ _ rfl (ih_M_ref06_Size (e3, (w64 (x.1 - x.2.1))) _ h6) ?_
        try simp -implicitDefEqProofs only [go_sem, h1, h2, h4, h4']
        exact LLoop.view [] (by (first | rfl | simp -implicitDefEqProofs only [go_sem, h1, h2, h4, h4'] <;> rfl)) (ih_M_ref06_Size_l0 _ _ h lo c Q hb)
      · replace h := ite_none h h2; replace h2 := bfalse h2
        try simp -implicitDefEqProofs only [go_sem, h1, h2]
        injection h with h; subst h
        exact .inr ⟨[], _, by (simp -implicitDefEqProofs only [go_sem, h1, h2] <;> first | done | rfl | trivial), hb _ rfl⟩
    · replace h := ite_none h h1; replace h1 := bfalse h1
      try simp -implicitDefEqProofs only [go_sem, h1]
      injection h with h; subst h
      exact .inr ⟨[], _, by (simp -implicitDefEqProofs only [go_sem, h1] <;> first | done | rfl | trivial), hb _ rfl⟩
  · intro M_M_ref06_Size_l0 ih_M_ref06_Size_l0 x r h
    refine Fn.of_lc mix fn_38 lok_38 (by rfl) (flC (T_api_Pred.flatC _) (flC (.atom _) (flN))) (.atom _) ?_
    simp -implicitDefEqProofs only [go_sem, Try.f38]
    obtain ⟨o7, h8, h⟩ := bind_some' h
    refine LLoop.viewQ (LLoop.view [] (by (first | rfl | simp -implicitDefEqProofs only [go_sem] <;> rfl)) (ih_M_ref06_Size_l0 (x.2, 1, 0, x.1) _ h8 _ _ _ ?_))
    intro s' hs'; subst hs'
    try simp -implicitDefEqProofs only [go_sem]
    injection h with h; subst h
    first | rfl | simp -implicitDefEqProofs only [go_sem] <;> rfl
theorem M_ref06_Size.w : type_of% (M_ref06_Size.l0.ws.2) := (M_ref06_Size.l0.ws.2)
end Go.Proofs.Ytcfekacmmfdggaa.G
set_option linter.unusedVariables false
set_option linter.unusedSimpArgs false
set_option maxRecDepth 100000
namespace Go.Proofs.Ytcfekacmmfdggaa.G
theorem lok_10 : (Try.f10.body.isSome && !(Try.f10.name == "runtime.NumGoroutine") && okL (bodyF Try.f10) Try.f10.ntmps (bodyF Try.f10)) = true := by kernel_rfl
def M_ref10_Size.l0 (x : Int × Int × Int × T_api_Tree) : Option (Int) :=
  if (decide (x.2.2.1 < (x.2.2.2.Conj.length : Int))) = true then
    if (decide (x.2.1 < x.1)) = true then
      (getI x.2.2.2.Conj x.2.2.1) >>= fun (e3 : T_api_Pred) =>
      M_ref06_Size (e3, (w64 (x.1 - x.2.1))) >>= fun r5 =>
      M_ref10_Size.l0 (x.1, (w64 (x.2.1 + r5)), (w64 (x.2.2.1 + 1)), x.2.2.2)
    else
      some x.2.1
  else
    some x.2.1
  partial_fixpoint
theorem M_ref10_Size.l0.ws : (∀ (x : Int × Int × Int × T_api_Tree) (o : Int), M_ref10_Size.l0 x = some o → (fun (x : Int × Int × Int × T_api_Tree) (o : Int) => ∀ (lo : Option Nat) (c : LCtx) (Q : Exit → LEnv → Prop) (hb : ∀ s : Int, o = s → Q (.exit 0) ⟨[(1, .v (.i64 x.1)), (2, .lref 2 0), (5, .v (.i64 s))], [(2, [.v (.i64 x.2.2.2.Kind), .v (.i64 x.2.2.2.Table), .v (.slice .foreign (x.2.2.2.Kids.map T_api_Tree.av)), .v (.slice .foreign (x.2.2.2.Conj.map T_api_Pred.av)), .v (.bool x.2.2.2.Hash)])]⟩), LLoop Try.prog 10 lo c 0 (VQ Q) ⟨[(1, .v (.i64 x.1)), (2, .lref 2 0), (5, .v (.i64 x.2.1)), (6, .v (.i64 x.2.2.1))], [(2, [.v (.i64 x.2.2.2.Kind), .v (.i64 x.2.2.2.Table), .v (.slice .foreign (x.2.2.2.Kids.map T_api_Tree.av)), .v (.slice .foreign (x.2.2.2.Conj.map T_api_Pred.av)), .v (.bool x.2.2.2.Hash)])]⟩) x o) := by
  refine M_ref10_Size.l0.partial_correctness _ ?_
  · intro M_M_ref10_Size_l0 ih_M_ref10_Size_l0 x o h
    intro lo c Q hb
    refine LLoop.step mix fn_10 (by kernel_rfl) ?_
    simp -implicitDefEqProofs only [go_sem, Try.f10]
    by_cases h1 : (decide (x.2.2.1 < (x.2.2.2.Conj.length : Int))) = true
    · replace h := ite_some h h1
      try simp -implicitDefEqProofs only [go_sem, h1]
      by_cases h2 : (decide (x.2.1 < x.1)) = true
      · replace h := ite_some h h2
        try simp -implicitDefEqProofs only [go_sem, h1, h2]
        obtain ⟨e3, h4, h⟩ := bind_some' h; replace h4 := getI_some h4; obtain ⟨h4', h4⟩ := h4
        try simp -implicitDefEqProofs only [go_sem, h1, h2, h4, h4']
        obtain ⟨r5, h6, h⟩ := bind_some' h
        refine .plain _ _ rfl (M_ref06_Size.w (e3, (w64 (x.1 - x.2.1))) _ h6) ?_
        try simp -implicitDefEqProofs only [go_sem, h1, h2, h4, h4']
        exact LLoop.view [] (by (first | rfl | simp -implicitDefEqProofs only [go_sem, h1, h2, h4, h4'] <;> rfl)) (ih_M_ref10_Size_l0 _ _ h lo c Q hb)
      · replace h := ite_none h h2; replace h2 := bfalse h2
        try simp -implicitDefEqProofs only [go_sem, h1, h2]
        injection h with h; subst h
        exact .inr ⟨[], _, by (simp -implicitDefEqProofs only [go_sem, h1, h2] <;> first | done | rfl | trivial), hb _ rfl⟩
    · replace h := ite_none h h1; replace h1 := bfalse h1
      try simp -implicitDefEqProofs only [go_sem, h1]
      injection h with h; subst h
      exact .inr ⟨[], _, by (simp -implicitDefEqProofs only [go_sem, h1] <;> first | done | rfl | trivial), hb _ rfl⟩
theorem M_ref10_Size.l0.w : type_of% @M_ref10_Size.l0.ws := @M_ref10_Size.l0.ws
mutual
def M_ref10_Size.l1 (x : Int × Int × Int × T_api_Tree) : Option (Int) :=
  if (decide (x.2.2.1 < (x.2.2.2.Kids.length : Int))) = true then
    if (decide (x.2.1 < x.1)) = true then
      (getI x.2.2.2.Kids x.2.2.1) >>= fun (e11 : T_api_Tree) =>
      M_ref10_Size (e11, (w64 (x.1 - x.2.1))) >>= fun r13 =>
      M_ref10_Size.l1 (x.1, (w64 (x.2.1 + r13)), (w64 (x.2.2.1 + 1)), x.2.2.2)
    else
      some x.2.1
  else
    some x.2.1
  partial_fixpoint
def M_ref10_Size (x : T_api_Tree × Int) : Option (Int) :=
  M_ref10_Size.l0 (x.2, 1, 0, x.1) >>= fun (o7 : Int) =>
  M_ref10_Size.l1 (x.2, o7, 0, x.1) >>= fun (o15 : Int) =>
  some o15
  partial_fixpoint
end
theorem M_ref10_Size.l1.ws : (∀ (x : Int × Int × Int × T_api_Tree) (o : Int), M_ref10_Size.l1 x = some o → (fun (x : Int × Int × Int × T_api_Tree) (o : Int) => ∀ (lo : Option Nat) (c : LCtx) (Q : Exit → LEnv → Prop) (hb : ∀ s : Int, o = s → Q (.exit 2) ⟨[(5, .v (.i64 s))], []⟩), LLoop Try.prog 10 lo c 1 (VQ Q) ⟨[(1, .v (.i64 x.1)), (2, .lref 2 0), (5, .v (.i64 x.2.1)), (7, .v (.i64 x.2.2.1))], [(2, [.v (.i64 x.2.2.2.Kind), .v (.i64 x.2.2.2.Table), .v (.slice .foreign (x.2.2.2.Kids.map T_api_Tree.av)), .v (.slice .foreign (x.2.2.2.Conj.map T_api_Pred.av)), .v (.bool x.2.2.2.Hash)])]⟩) x o) ∧ (∀ (x : T_api_Tree × Int) (o : Int), M_ref10_Size x = some o → (fun (x : T_api_Tree × Int) (r : Int) => Fn Try.prog 10 [.agg (T_api_Tree.C x.1), .i64 x.2] (.i64 r)) x o) := by
  refine M_ref10_Size.l1.mutual_partial_correctness _ _ ?_ ?_
  · intro M_M_ref10_Size_l1 M_M_ref10_Size ih_M_ref10_Size_l1 ih_M_ref10_Size x o h
    intro lo c Q hb
    refine LLoop.step mix fn_10 (by kernel_rfl) ?_
    simp -implicitDefEqProofs only [go_sem, Try.f10]
    by_cases h9 : (decide (x.2.2.1 < (x.2.2.2.Kids.length : Int))) = true
    · replace h := ite_some h h9
      try simp -implicitDefEqProofs only [go_sem, h9]
      by_cases h10 : (decide (x.2.1 < x.1)) = true
      · replace h := ite_some h h10
        try simp -implicitDefEqProofs only [go_sem, h9, h10]
        obtain ⟨e11, h12, h⟩ := bind_some' h; replace h12 := getI_some h12; obtain ⟨h12', h12⟩ := h12
        try simp -implicitDefEqProofs only [go_sem, h9, h10, h12, h12']
        obtain ⟨r13, h14, h⟩ := bind_some' h
        refine .plain _ _ rfl (ih_M_ref10_Size (e11, (w64 (x.1 - x.2.1))) _ h14) ?_
        try simp -implicitDefEqProofs only [go_sem, h9, h10, h12, h12']
        exact LLoop.view [] (by (first | rfl | simp -implicitDefEqProofs only [go_sem, h9, h10, h12, h12'] <;> rfl)) (ih_M_ref10_Size_l1 _ _ h lo c Q hb)
      · replace h := ite_none h h10; replace h10 := bfalse h10
        try simp -implicitDefEqProofs only [go_sem, h9, h10]
        injection h with h; subst h
        exact .inr ⟨[], _, by (simp -implicitDefEqProofs only [go_sem, h9, h10] <;> first | done | rfl | trivial), hb _ rfl⟩
    · replace h := ite_none h h9; replace h9 := bfalse h9
      try simp -implicitDefEqProofs only [go_sem, h9]
      injection h with h; subst h
      exact .inr ⟨[], _, by (simp -implicitDefEqProofs only [go_sem, h9] <;> first | done | rfl | trivial), hb _ rfl⟩
  · intro M_M_ref10_Size_l1 ih_M_ref10_Size_l1 x r h
    refine Fn.of_lc mix fn_10 lok_10 (by rfl) (flC (T_api_Tree.flatC _) (flC (.atom _) (flN))) (.atom _) ?_
    simp -implicitDefEqProofs only [go_sem, Try.f10]
    obtain ⟨o7, h8, h⟩ := bind_some' h
    refine LLoop.viewQ (LLoop.view [] (by (first | rfl | simp -implicitDefEqProofs only [go_sem] <;> rfl)) (M_ref10_Size.l0.w (x.2, 1, 0, x.1) _ h8 _ _ _ ?_))
    intro s' hs'; subst hs'
    try simp -implicitDefEqProofs only [go_sem]
    obtain ⟨o15, h16, h⟩ := bind_some' h
    refine LLoop.viewQ (LLoop.view [] (by (first | rfl | simp -implicitDefEqProofs only [go_sem] <;> rfl)) (ih_M_ref10_Size_l1 (x.2, o7, 0, x.1) _ h16 _ _ _ ?_))
    intro s' hs'; subst hs'
    try simp -implicitDefEqProofs only [go_sem]
    injection h with h; subst h
    first | rfl | simp -implicitDefEqProofs only [go_sem] <;> rfl
theorem M_ref10_Size.w : type_of% (M_ref10_Size.l1.ws.2) := (M_ref10_Size.l1.ws.2)
end Go.Proofs.Ytcfekacmmfdggaa.G
set_option linter.unusedVariables false
set_option linter.unusedSimpArgs false
set_option maxRecDepth 100000
namespace Go.Proofs.Ytcfekacmmfdggaa.G
theorem lok_56 : (Try.f56.body.isSome && !(Try.f56.name == "runtime.NumGoroutine") && okL (bodyF Try.f56) Try.f56.ntmps (bodyF Try.f56)) = true := by kernel_rfl
mutual
def M_ref10_All.l0 (x : List T_api_Tree × Int × T_api_Tree) : Option (List T_api_Tree) :=
  if (decide (x.2.1 < (x.2.2.Kids.length : Int))) = true then
    (getI x.2.2.Kids x.2.1) >>= fun (e2 : T_api_Tree) =>
    M_ref10_All e2 >>= fun r4 =>
    (room 72 x.1 r4) >>= fun (z6 : List T_api_Tree) =>
    M_ref10_All.l0 (z6, (w64 (x.2.1 + 1)), x.2.2)
  else
    some x.1
  partial_fixpoint
def M_ref10_All (x : T_api_Tree) : Option (List T_api_Tree) :=
  M_ref10_All.l0 (([] : List T_api_Tree), 0, x) >>= fun (o8 : List T_api_Tree) =>
  (room 72 o8 ([x])) >>= fun (z10 : List T_api_Tree) =>
  some z10
  partial_fixpoint
end
theorem M_ref10_All.l0.ws : (∀ (x : List T_api_Tree × Int × T_api_Tree) (o : List T_api_Tree), M_ref10_All.l0 x = some o → (fun (x : List T_api_Tree × Int × T_api_Tree) (o : List T_api_Tree) => ∀ (lo : Option Nat) (c : LCtx) (Q : Exit → LEnv → Prop) (hb : ∀ s : List T_api_Tree, o = s → Q (.exit 0) ⟨[(1, .lref 1 0), (3, .own 100300 5 (s.map T_api_Tree.av))], [(1, [.v (.i64 x.2.2.Kind), .v (.i64 x.2.2.Table), .v (.slice .foreign (x.2.2.Kids.map T_api_Tree.av)), .v (.slice .foreign (x.2.2.Conj.map T_api_Pred.av)), .v (.bool x.2.2.Hash)])]⟩), LLoop Try.prog 56 lo c 0 (VQ Q) ⟨[(1, .lref 1 0), (3, .own 100300 5 (x.1.map T_api_Tree.av)), (4, .v (.i64 x.2.1))], [(1, [.v (.i64 x.2.2.Kind), .v (.i64 x.2.2.Table), .v (.slice .foreign (x.2.2.Kids.map T_api_Tree.av)), .v (.slice .foreign (x.2.2.Conj.map T_api_Pred.av)), .v (.bool x.2.2.Hash)])]⟩) x o) ∧ (∀ (x : T_api_Tree) (o : List T_api_Tree), M_ref10_All x = some o → (fun (x : T_api_Tree) (r : List T_api_Tree) => Fn Try.prog 56 [.agg (T_api_Tree.C x)] (.slice .foreign (r.map T_api_Tree.av))) x o) := by
  refine M_ref10_All.l0.mutual_partial_correctness _ _ ?_ ?_
  · intro M_M_ref10_All_l0 M_M_ref10_All ih_M_ref10_All_l0 ih_M_ref10_All x o h
    intro lo c Q hb
    refine LLoop.step mix fn_56 (by kernel_rfl) ?_
    simp -implicitDefEqProofs only [go_sem, Try.f56]
    by_cases h1 : (decide (x.2.1 < (x.2.2.Kids.length : Int))) = true
    · replace h := ite_some h h1
      try simp -implicitDefEqProofs only [go_sem, h1]
      obtain ⟨e2, h3, h⟩ := bind_some' h; replace h3 := getI_some h3; obtain ⟨h3', h3⟩ := h3
      try simp -implicitDefEqProofs only [go_sem, h1, h3, h3']
      obtain ⟨r4, h5, h⟩ := bind_some' h
      refine .plain _ _ rfl (ih_M_ref10_All e2 _ h5) ?_
      try simp -implicitDefEqProofs only [go_sem, h1, h3, h3']
      obtain ⟨z6, h7, h⟩ := bind_some' h; replace h7 := room_some h7; obtain ⟨h7', rfl⟩ := h7
      refine LApp.map (F := T_api_Tree.av) (xs := x.1) (ys := r4) t28_elem t31_size t31_bytes t31_zsize rfl T_api_Tree.len (by (first | rfl | simp -implicitDefEqProofs only [go_sem, h1, h3, h3'] <;> rfl)) (by (first | rfl | simp -implicitDefEqProofs only [go_sem, h1, h3, h3'] <;> rfl)) h7' ?_
      try simp -implicitDefEqProofs only [go_sem, h1, h3, h3']
      exact LLoop.view [(100300, some 20)] (by (first | rfl | simp -implicitDefEqProofs only [go_sem, h1, h3, h3'] <;> rfl)) (ih_M_ref10_All_l0 _ _ h lo c Q hb)
    · replace h := ite_none h h1; replace h1 := bfalse h1
      try simp -implicitDefEqProofs only [go_sem, h1]
      injection h with h; subst h
      exact .inr ⟨[(100300, some 100300)], _, by (simp -implicitDefEqProofs only [go_sem, h1] <;> first | done | rfl | trivial), hb _ rfl⟩
  · intro M_M_ref10_All_l0 ih_M_ref10_All_l0 x r h
    refine Fn.of_lc mix fn_56 lok_56 (by rfl) (flC (T_api_Tree.flatC _) (flN)) (flat_slice _ T_api_Tree.flat _) ?_
    simp -implicitDefEqProofs only [go_sem, Try.f56]
    obtain ⟨o8, h9, h⟩ := bind_some' h
    refine LLoop.viewQ (LLoop.view [(100300, none)] (by (first | rfl | simp -implicitDefEqProofs only [go_sem] <;> rfl)) (ih_M_ref10_All_l0 (([] : List T_api_Tree), 0, x) _ h9 _ _ _ ?_))
    intro s' hs'; subst hs'
    try simp -implicitDefEqProofs only [go_sem]
    obtain ⟨z10, h11, h⟩ := bind_some' h; replace h11 := room_some h11; obtain ⟨h11', rfl⟩ := h11
    refine LApp.map (F := T_api_Tree.av) (xs := o8) (ys := [x]) t28_elem t31_size t31_bytes t31_zsize rfl T_api_Tree.len (by (first | rfl | simp -implicitDefEqProofs only [go_sem] <;> rfl)) (by (first | rfl | simp -implicitDefEqProofs only [go_sem] <;> rfl)) h11' ?_
    try simp -implicitDefEqProofs only [go_sem]
    injection h with h; subst h
    first | rfl | simp -implicitDefEqProofs only [go_sem] <;> rfl
theorem M_ref10_All.w : type_of% (M_ref10_All.l0.ws.2) := (M_ref10_All.l0.ws.2)
end Go.Proofs.Ytcfekacmmfdggaa.G
set_option linter.unusedVariables false
set_option linter.unusedSimpArgs false
set_option maxRecDepth 100000
namespace Go.Proofs.Ytcfekacmmfdggaa.G
theorem lok_21 : (Try.f21.body.isSome && !(Try.f21.name == "runtime.NumGoroutine") && okL (bodyF Try.f21) Try.f21.ntmps (bodyF Try.f21)) = true := by kernel_rfl
def M_ref10_Tables.l0 (x : List Int × List T_api_Tree × Int) : Option (List Int) :=
  if (decide (x.2.2 < (x.2.1.length : Int))) = true then
    (getI x.2.1 x.2.2) >>= fun (e4 : T_api_Tree) =>
    if (e4.Kind == 0) = true then
      (room 8 x.1 ([e4.Table])) >>= fun (z7 : List Int) =>
      M_ref10_Tables.l0 (z7, x.2.1, (w64 (x.2.2 + 1)))
    else
      M_ref10_Tables.l0 (x.1, x.2.1, (w64 (x.2.2 + 1)))
  else
    some x.1
  partial_fixpoint
theorem M_ref10_Tables.l0.ws : (∀ (x : List Int × List T_api_Tree × Int) (o : List Int), M_ref10_Tables.l0 x = some o → (fun (x : List Int × List T_api_Tree × Int) (o : List Int) => ∀ (lo : Option Nat) (c : LCtx) (Q : Exit → LEnv → Prop) (hb : ∀ s : List Int, o = s → Q (.exit 0) ⟨[(3, .own 100300 1 (s.map AV.i64))], []⟩), LLoop Try.prog 21 lo c 0 (VQ Q) ⟨[(3, .own 100300 1 (x.1.map AV.i64)), (4, .v (.slice .foreign (x.2.1.map T_api_Tree.av))), (5, .v (.i64 x.2.2))], []⟩) x o) := by
  refine M_ref10_Tables.l0.partial_correctness _ ?_
  · intro M_M_ref10_Tables_l0 ih_M_ref10_Tables_l0 x o h
    intro lo c Q hb
    refine LLoop.step mix fn_21 (by kernel_rfl) ?_
    simp -implicitDefEqProofs only [go_sem, Try.f21]
    by_cases h3 : (decide (x.2.2 < (x.2.1.length : Int))) = true
    · replace h := ite_some h h3
      try simp -implicitDefEqProofs only [go_sem, h3]
      obtain ⟨e4, h5, h⟩ := bind_some' h; replace h5 := getI_some h5; obtain ⟨h5', h5⟩ := h5
      try simp -implicitDefEqProofs only [go_sem, h3, h5, h5']
      by_cases h6 : (e4.Kind == 0) = true
      · replace h := ite_some h h6
        try simp -implicitDefEqProofs only [go_sem, h3, h5, h5', h6]
        obtain ⟨z7, h8, h⟩ := bind_some' h; replace h8 := room_some h8; obtain ⟨h8', rfl⟩ := h8
        refine LApp.map (F := AV.i64) (xs := x.1) (ys := [e4.Table]) t45_elem t3_size t3_bytes t3_zsize rfl (fun _ => rfl) (by (first | rfl | simp -implicitDefEqProofs only [go_sem, h3, h5, h5', h6] <;> rfl)) (by (first | rfl | simp -implicitDefEqProofs only [go_sem, h3, h5, h5', h6] <;> rfl)) h8' ?_
        try simp -implicitDefEqProofs only [go_sem, h3, h5, h5', h6]
        exact LLoop.view [(100300, some 28)] (by (first | rfl | simp -implicitDefEqProofs only [go_sem, h3, h5, h5', h6] <;> rfl)) (ih_M_ref10_Tables_l0 _ _ h lo c Q hb)
      · replace h := ite_none h h6; replace h6 := bfalse h6
        try simp -implicitDefEqProofs only [go_sem, h3, h5, h5', h6]
        exact LLoop.view [(100300, some 100300)] (by (first | rfl | simp -implicitDefEqProofs only [go_sem, h3, h5, h5', h6] <;> rfl)) (ih_M_ref10_Tables_l0 _ _ h lo c Q hb)
    · replace h := ite_none h h3; replace h3 := bfalse h3
      try simp -implicitDefEqProofs only [go_sem, h3]
      injection h with h; subst h
      exact .inr ⟨[(100300, some 100300)], _, by (simp -implicitDefEqProofs only [go_sem, h3] <;> first | done | rfl | trivial), hb _ rfl⟩
theorem M_ref10_Tables.l0.w : type_of% @M_ref10_Tables.l0.ws := @M_ref10_Tables.l0.ws
def M_ref10_Tables (x : T_api_Tree) : Option (Set64) :=
  M_ref10_All x >>= fun r1 =>
  M_ref10_Tables.l0 (([] : List Int), r1, 0) >>= fun (o9 : List Int) =>
  M_ref01_Of o9 >>= fun r11 =>
  some r11
set_option maxHeartbeats 8000000 in
theorem M_ref10_Tables.w : ∀ (x : T_api_Tree) (r : Set64), M_ref10_Tables x = some r → (fun (x : T_api_Tree) (r : Set64) => Fn Try.prog 21 [.agg (T_api_Tree.C x)] (.w r)) x r := by
  intro x r h
  rw [M_ref10_Tables] at h
  try dsimp only
  refine Fn.of_lc mix fn_21 lok_21 (by rfl) (flC (T_api_Tree.flatC _) (flN)) (.atom _) ?_
  simp -implicitDefEqProofs only [go_sem, Try.f21]
  obtain ⟨r1, h2, h⟩ := bind_some' h
  refine .plain _ _ rfl (M_ref10_All.w x _ h2) ?_
  try simp -implicitDefEqProofs only [go_sem]
  obtain ⟨o9, h10, h⟩ := bind_some' h
  refine LLoop.viewQ (LLoop.view [(100300, none)] (by (first | rfl | simp -implicitDefEqProofs only [go_sem] <;> rfl)) (M_ref10_Tables.l0.w (([] : List Int), r1, 0) _ h10 _ _ _ ?_))
  intro s' hs'; subst hs'
  try simp -implicitDefEqProofs only [go_sem]
  obtain ⟨r11, h12, h⟩ := bind_some' h
  refine .plain _ _ rfl (M_ref01_Of.w o9 _ h12) ?_
  try simp -implicitDefEqProofs only [go_sem]
  injection h with h; subst h
  first | rfl | simp -implicitDefEqProofs only [go_sem] <;> rfl
end Go.Proofs.Ytcfekacmmfdggaa.G
set_option linter.unusedVariables false
set_option linter.unusedSimpArgs false
set_option maxRecDepth 100000
namespace Go.Proofs.Ytcfekacmmfdggaa.G
@[go_sem] theorem lrp_52_5 : lrp Try.prog 52 5 = (6, []) := by kernel_rfl
theorem lok_52 : (Try.f52.body.isSome && !(Try.f52.name == "runtime.NumGoroutine") && okL (bodyF Try.f52) Try.f52.ntmps (bodyF Try.f52)) = true := by kernel_rfl
def M_tree_Tables.r0 (x : List T_api_Tree × Set64) : Option (Set64) :=
  match x.1 with
  | [] => some x.2
  | e3 :: l4 =>
    if (e3.Kind == 0) = true then
      M_sets_Of ([e3.Table]) >>= fun r6 =>
      M_tree_Tables.r0 (l4, (x.2 ||| r6))
    else
      M_tree_Tables.r0 (l4, x.2)
  partial_fixpoint
theorem M_tree_Tables.r0.ws : (∀ (x : List T_api_Tree × Set64) (o : Set64), M_tree_Tables.r0 x = some o → (fun (x : List T_api_Tree × Set64) (o : Set64) => ∀ (Fin : Exit → List (Nat × List CV) → Prop) (hb : ∀ (s : Set64), o = s → Fin .normal [(2100003, [.v (.w s)])]), RRun Try.prog 52 Try.f52 0 1 #[7] [(3, .lref 2100003 0)] Fin (x.1.map (fun (y : T_api_Tree) => [.agg (T_api_Tree.C y)])) [(2100003, [.v (.w x.2)])]) x o) := by
  refine M_tree_Tables.r0.partial_correctness _ ?_
  · intro M_M_tree_Tables_r0 ih_M_tree_Tables_r0 x o h
    intro Fin hb
    generalize hx1 : x.1 = ys at h ⊢
    cases ys with
    | nil => injection h with h; subst h; exact RRun.nil (hb _ rfl)
    | cons e3 l4 =>
      refine RRun.cons rfl fun l0 c1 hlo1 => ?_
      dsimp only at h
      simp -implicitDefEqProofs only [go_sem, Try.f52]
      refine RMid.mk (by rfl) fun c2 hlo2 => ?_
      simp -implicitDefEqProofs only [go_sem, Try.f52]
      by_cases h5 : (e3.Kind == 0) = true
      · replace h := ite_some h h5
        try simp -implicitDefEqProofs only [go_sem, h5]
        obtain ⟨r6, h7, h⟩ := bind_some' h
        have hw := M_sets_Of.w ([e3.Table]) _ h7
        simp -implicitDefEqProofs only [go_sem] at hw
        refine .plain _ _ rfl hw ?_
        clear hw
        try simp -implicitDefEqProofs only [go_sem, h5]
        exact REnd.next [] (by rfl) (by (first | rfl | simp -implicitDefEqProofs only [go_sem, h5] <;> rfl)) (by rfl) (ih_M_tree_Tables_r0 (l4, (x.2 ||| r6)) _ h Fin hb)
      · replace h := ite_none h h5; replace h5 := bfalse h5
        try simp -implicitDefEqProofs only [go_sem, h5]
        exact REnd.next [] (by rfl) (by (first | rfl | simp -implicitDefEqProofs only [go_sem, h5] <;> rfl)) (by rfl) (ih_M_tree_Tables_r0 (l4, x.2) _ h Fin hb)
theorem M_tree_Tables.r0.w : type_of% @M_tree_Tables.r0.ws := @M_tree_Tables.r0.ws
def M_tree_Tables (x : T_api_Tree) : Option (Set64) :=
  M_tree_Walk x >>= fun l1 =>
  M_tree_Tables.r0 (l1, 0#64) >>= fun (s10 : Set64) =>
  some s10
set_option maxHeartbeats 8000000 in
theorem M_tree_Tables.w : ∀ (x : T_api_Tree) (r : Set64), M_tree_Tables x = some r → (fun (x : T_api_Tree) (r : Set64) => Fn Try.prog 52 [.agg (T_api_Tree.C x)] (.w r)) x r := by
  intro x r h
  rw [M_tree_Tables] at h
  try dsimp only
  refine Fn.of_lc mix fn_52 lok_52 (by rfl) (flC (T_api_Tree.flatC _) (flN)) (.atom _) ?_
  simp -implicitDefEqProofs only [go_sem, Try.f52]
  obtain ⟨l1, h2, h⟩ := bind_some' h
  refine .iter _ _ rfl (M_tree_Walk.w x _ h2) ?_
  try simp -implicitDefEqProofs only [go_sem]
  obtain ⟨s10, h9, h⟩ := bind_some' h
  refine LRange.iter mix fn_52 (LoOk.none _) (by kernel_rfl) (by kernel_rfl) (by rfl) rfl [] [(2100003, 3)] (by rfl) (by rfl) (by (first | rfl | simp -implicitDefEqProofs only [go_sem] <;> rfl)) (by (first | rfl | simp -implicitDefEqProofs only [go_sem] <;> rfl)) (M_tree_Tables.r0.w (l1, 0#64) _ h9 _ ?_)
  intro s0 hs'; subst hs'
  try simp -implicitDefEqProofs only [go_sem]
  injection h with h; subst h
  first | rfl | simp -implicitDefEqProofs only [go_sem] <;> rfl
end Go.Proofs.Ytcfekacmmfdggaa.G
set_option linter.unusedVariables false
set_option linter.unusedSimpArgs false
namespace Go.Proofs.Ytcfekacmmfdggaa.G

def T_api_Pred.size : T_api_Pred → Nat
  | ⟨a, b, c, d, e, ps⟩ => 1 + sizeL ps
where sizeL : List T_api_Pred → Nat
  | [] => 0
  | x :: l => x.size + sizeL l
theorem predSizeL (l : List T_api_Pred) : T_api_Pred.size.sizeL l = (l.map T_api_Pred.size).sum := by
  induction l with
  | nil => simp only [T_api_Pred.size.sizeL, List.map_nil, List.sum_nil]
  | cons x l ih => simp only [T_api_Pred.size.sizeL, List.map_cons, List.sum_cons, ih]
theorem psize_eq (x : T_api_Pred) : x.size = 1 + (x.Parts.map T_api_Pred.size).sum := by
  obtain ⟨a, b, c, d, e, ps⟩ := x
  simp only [T_api_Pred.size, predSizeL]
def T_api_Tree.size : T_api_Tree → Nat
  | ⟨a, b, ks, c, d⟩ => 1 + (c.map T_api_Pred.size).sum + sizeL ks
where sizeL : List T_api_Tree → Nat
  | [] => 0
  | x :: l => x.size + sizeL l
theorem treeSizeL (l : List T_api_Tree) : T_api_Tree.size.sizeL l = (l.map T_api_Tree.size).sum := by
  induction l with
  | nil => simp only [T_api_Tree.size.sizeL, List.map_nil, List.sum_nil]
  | cons x l ih => simp only [T_api_Tree.size.sizeL, List.map_cons, List.sum_cons, ih]
theorem tsize_eq (x : T_api_Tree) : x.size = 1 + (x.Conj.map T_api_Pred.size).sum + (x.Kids.map T_api_Tree.size).sum := by
  obtain ⟨a, b, ks, c, d⟩ := x
  simp only [T_api_Tree.size, treeSizeL]
theorem psize_pos (x : T_api_Pred) : 1 ≤ x.size := by rw [psize_eq]; omega
theorem tsize_pos (x : T_api_Tree) : 1 ≤ x.size := by rw [tsize_eq]; omega
theorem sum_mem {α : Type} (f : α → Nat) : ∀ {l : List α} {x : α}, x ∈ l → f x ≤ (l.map f).sum := by
  intro l
  induction l with
  | nil => intro x h; cases h
  | cons y l ih =>
    intro x h
    simp only [List.map_cons, List.sum_cons]
    rcases List.mem_cons.1 h with rfl | h
    · omega
    · have := ih h; omega
theorem len_sum {α : Type} (f : α → Nat) (h1 : ∀ x, 1 ≤ f x) : ∀ (l : List α), l.length ≤ (l.map f).sum := by
  intro l
  induction l with
  | nil => simp
  | cons y l ih => simp only [List.map_cons, List.sum_cons, List.length_cons]; have := h1 y; omega
theorem ref06_Size_eq (p : T_api_Pred) : ∀ k : Nat, 1 ≤ k → k < 9223372036854775808 → M_ref06_Size (p, (k : Int)) = some ((min p.size k : Nat) : Int) := by
  induction p using T_api_Pred.induct with
  | h p ih =>
    intro k hk1 hk2
    have key := loop_inv p.Parts (fun i n => 1 ≤ n ∧ n ≤ k ∧ i < n) (fun i (n : Nat) => M_ref06_Size.l0 ((k : Int), (n : Int), (i : Int), p)) (fun n l => some ((min (n + (l.map T_api_Pred.size).sum) k : Nat) : Int))
      (fun n hn => by
        show M_ref06_Size.l0 _ = _
        rw [M_ref06_Size.l0, if_neg (dge (by dsimp only; omega))]
        simp only [List.map_nil, List.sum_nil, Nat.add_zero]
        rw [Nat.min_eq_left hn.2.1])
      (fun i n h hn ih2 => by
        show M_ref06_Size.l0 _ = _
        rw [M_ref06_Size.l0, if_pos (dlt (by dsimp only; omega))]
        dsimp only
        by_cases h1 : n < k
        · rw [if_pos (dlt (by omega)), getI_nat h]
          have e1 : w64 ((k : Int) - (n : Int)) = ((k - n : Nat) : Int) := by rw [w64_of (by omega) (by omega)]; omega
          simp only [Option.bind_eq_bind, Option.bind_some]
          rw [e1, ih _ (List.getElem_mem h) (k - n) (by omega) (by omega)]
          simp only [Option.bind_some]
          have hp := psize_pos p.Parts[i]
          have e2 : w64 ((n : Int) + ((min p.Parts[i].size (k - n) : Nat) : Int)) = ((min (n + p.Parts[i].size) k : Nat) : Int) := by rw [w64_of (by omega) (by omega)]; omega
          rw [e2, w64_succ (by omega)]
          have := ih2 (min (n + p.Parts[i].size) k) (by omega)
          try dsimp only at this
          rw [this]
          simp only [List.map_cons, List.sum_cons]
          congr 2; omega
        · rw [if_neg (dge (by omega))]
          congr 2; omega) 0 1 (Nat.zero_le _) (by omega)
    rw [M_ref06_Size]
    rw [List.drop_zero] at key
    have key' : M_ref06_Size.l0 ((k : Int), 1, 0, p) = _ := key
    dsimp only
    rw [key', psize_eq]; rfl
theorem ref10_Size_eq (t : T_api_Tree) : ∀ k : Nat, 1 ≤ k → k < 9223372036854775808 → M_ref10_Size (t, (k : Int)) = some ((min t.size k : Nat) : Int) := by
  induction t using T_api_Tree.induct with
  | h t ih =>
    intro k hk1 hk2
    have key := loop_inv t.Conj (fun i n => 1 ≤ n ∧ n ≤ k ∧ i < n) (fun i (n : Nat) => M_ref10_Size.l0 ((k : Int), (n : Int), (i : Int), t)) (fun n l => some ((min (n + (l.map T_api_Pred.size).sum) k : Nat) : Int))
      (fun n hn => by
        show M_ref10_Size.l0 _ = _
        rw [M_ref10_Size.l0, if_neg (dge (by dsimp only; omega))]
        simp only [List.map_nil, List.sum_nil, Nat.add_zero]
        rw [Nat.min_eq_left hn.2.1])
      (fun i n h hn ih2 => by
        show M_ref10_Size.l0 _ = _
        rw [M_ref10_Size.l0, if_pos (dlt (by dsimp only; omega))]
        dsimp only
        by_cases h1 : n < k
        · rw [if_pos (dlt (by omega)), getI_nat h]
          have e1 : w64 ((k : Int) - (n : Int)) = ((k - n : Nat) : Int) := by rw [w64_of (by omega) (by omega)]; omega
          simp only [Option.bind_eq_bind, Option.bind_some]
          rw [e1, ref06_Size_eq _ (k - n) (by omega) (by omega)]
          simp only [Option.bind_some]
          have hp := psize_pos t.Conj[i]
          have e2 : w64 ((n : Int) + ((min t.Conj[i].size (k - n) : Nat) : Int)) = ((min (n + t.Conj[i].size) k : Nat) : Int) := by rw [w64_of (by omega) (by omega)]; omega
          rw [e2, w64_succ (by omega)]
          have := ih2 (min (n + t.Conj[i].size) k) (by omega)
          try dsimp only at this
          rw [this]
          simp only [List.map_cons, List.sum_cons]
          congr 2; omega
        · rw [if_neg (dge (by omega))]
          congr 2; omega) 0 1 (Nat.zero_le _) (by omega)
    have key2 := fun n0 (h0 : 1 ≤ n0 ∧ n0 ≤ k) => loop_inv t.Kids (fun i n => 1 ≤ n ∧ n ≤ k ∧ i < n) (fun i (n : Nat) => M_ref10_Size.l1 ((k : Int), (n : Int), (i : Int), t)) (fun n l => some ((min (n + (l.map T_api_Tree.size).sum) k : Nat) : Int))
      (fun n hn => by
        show M_ref10_Size.l1 _ = _
        rw [M_ref10_Size.l1, if_neg (dge (by dsimp only; omega))]
        simp only [List.map_nil, List.sum_nil, Nat.add_zero]
        rw [Nat.min_eq_left hn.2.1])
      (fun i n h hn ih2 => by
        show M_ref10_Size.l1 _ = _
        rw [M_ref10_Size.l1, if_pos (dlt (by dsimp only; omega))]
        dsimp only
        by_cases h1 : n < k
        · rw [if_pos (dlt (by omega)), getI_nat h]
          have e1 : w64 ((k : Int) - (n : Int)) = ((k - n : Nat) : Int) := by rw [w64_of (by omega) (by omega)]; omega
          simp only [Option.bind_eq_bind, Option.bind_some]
          rw [e1, ih _ (List.getElem_mem h) (k - n) (by omega) (by omega)]
          simp only [Option.bind_some]
          have hp := tsize_pos t.Kids[i]
          have e2 : w64 ((n : Int) + ((min t.Kids[i].size (k - n) : Nat) : Int)) = ((min (n + t.Kids[i].size) k : Nat) : Int) := by rw [w64_of (by omega) (by omega)]; omega
          rw [e2, w64_succ (by omega)]
          have := ih2 (min (n + t.Kids[i].size) k) (by omega)
          try dsimp only at this
          rw [this]
          simp only [List.map_cons, List.sum_cons]
          congr 2; omega
        · rw [if_neg (dge (by omega))]
          congr 2; omega) 0 n0 (Nat.zero_le _) (by omega)
    rw [M_ref10_Size]
    rw [List.drop_zero] at key
    have key' : M_ref10_Size.l0 ((k : Int), 1, 0, t) = _ := key
    dsimp only
    rw [key']
    simp only [Option.bind_eq_bind, Option.bind_some]
    have k2 := key2 (min (1 + (t.Conj.map T_api_Pred.size).sum) k) (by omega)
    rw [List.drop_zero] at k2
    have k3 : M_ref10_Size.l1 ((k : Int), ((min (1 + (t.Conj.map T_api_Pred.size).sum) k : Nat) : Int), 0, t) = _ := k2
    rw [k3, tsize_eq]
    simp only [Option.bind_some]
    congr 2; omega

/- Tables. -/
theorem tour_self (t : T_api_Tree) : t ∈ t.tour := by rw [tour_eq]; simp
theorem tour_kid {t y : T_api_Tree} (h : y ∈ t.Kids) : ∀ z ∈ y.tour, z ∈ t.tour := by
  intro z hz
  rw [tour_eq, List.mem_append]
  exact .inl (List.mem_flatMap.2 ⟨y, h, hz⟩)
theorem kid_size {t y : T_api_Tree} (h : y ∈ t.Kids) : y.size < t.size := by
  have := sum_mem T_api_Tree.size h
  rw [tsize_eq t]; omega
theorem tour_size (t : T_api_Tree) : ∀ y ∈ t.tour, y.size ≤ t.size := by
  induction t using T_api_Tree.induct with
  | h t ih =>
    intro y hy
    rw [tour_eq, List.mem_append] at hy
    rcases hy with hy | hy
    · obtain ⟨k, hk, hy⟩ := List.mem_flatMap.1 hy
      have := ih k hk y hy
      have := kid_size hk
      omega
    · simp at hy; subst hy; exact Nat.le_refl _
theorem kids_len (t : T_api_Tree) : t.Kids.length < t.size := by
  have := len_sum T_api_Tree.size tsize_pos t.Kids
  rw [tsize_eq]; omega
theorem conj_len (t : T_api_Tree) : t.Conj.length < t.size := by
  have := len_sum T_api_Pred.size psize_pos t.Conj
  rw [tsize_eq]; omega
theorem tour_len (t : T_api_Tree) : t.tour.length ≤ t.size := by
  induction t using T_api_Tree.induct with
  | h t ih =>
    rw [tour_eq, List.length_append, tsize_eq, List.length_flatMap]
    have : ∀ l : List T_api_Tree, (∀ y ∈ l, y.tour.length ≤ y.size) → (l.map fun y => y.tour.length).sum ≤ (l.map T_api_Tree.size).sum := by
      intro l
      induction l with
      | nil => intro _; simp
      | cons y l ih => intro h; simp only [List.map_cons, List.sum_cons]; have := ih fun z hz => h z (List.mem_cons_of_mem _ hz); have := h y List.mem_cons_self; omega
    have := this t.Kids ih
    simp; omega
def leafTabs (l : List T_api_Tree) : List Int := (l.filter fun y => y.Kind == 0).map T_api_Tree.Table
theorem leafTabs_pos {x : T_api_Tree} (l : List T_api_Tree) (h : x.Kind = 0) : leafTabs (x :: l) = x.Table :: leafTabs l := by simp [leafTabs, h]
theorem leafTabs_neg {x : T_api_Tree} (l : List T_api_Tree) (h : ¬ x.Kind = 0) : leafTabs (x :: l) = leafTabs l := by simp [leafTabs, h]
/-- A tree's tables. -/
def tabs (t : T_api_Tree) : Set64 := ofL (leafTabs t.tour)
theorem leafTabs_len (l : List T_api_Tree) : (leafTabs l).length ≤ l.length := by
  unfold leafTabs
  rw [List.length_map]; exact List.length_filter_le _ _
theorem tree_Walk_eq (t : T_api_Tree) (h : t.size < 9223372036854775808) : M_tree_Walk t = some t.tour := by
  unfold M_tree_Walk
  rw [if_pos]
  rw [List.all_eq_true]
  intro y hy
  have := tour_size t y hy
  have := kids_len y
  simp; omega
theorem tree_Tables_eq (t : T_api_Tree) (h : t.size < 9223372036854775808) : M_tree_Tables t = some (tabs t) := by
  have key : ∀ (l : List T_api_Tree) (s : Set64), M_tree_Tables.r0 (l, s) = some (s ||| ofL (leafTabs l)) := by
    intro l
    induction l with
    | nil => intro s; rw [M_tree_Tables.r0]; simp [leafTabs, ofL_nil]
    | cons x l ih =>
      intro s
      rw [M_tree_Tables.r0]
      dsimp only
      by_cases hx : x.Kind = 0
      · rw [if_pos (by simpa using hx), sets_Of_eq _ (by simp)]
        simp only [Option.bind_eq_bind, Option.bind_some, ih]
        have : leafTabs (x :: l) = x.Table :: leafTabs l := by simp [leafTabs, hx]
        rw [this, ofL_cons, ofL_cons, ofL_nil, BitVec.or_zero, BitVec.or_assoc]
      · rw [if_neg (by simpa using hx), ih]
        have : leafTabs (x :: l) = leafTabs l := by simp [leafTabs, hx]
        rw [this]
  unfold M_tree_Tables
  rw [tree_Walk_eq t h]
  simp only [Option.bind_eq_bind, Option.bind_some, key, BitVec.zero_or]; rfl
theorem ref10_All_eq (t : T_api_Tree) : t.size ≤ 1000000000 → M_ref10_All t = some t.tour := by
  induction t using T_api_Tree.induct with
  | h t ih =>
    intro hsz
    have hk := kids_len t
    have htl := tour_len t
    have key := loop_inv t.Kids (fun i acc => acc = (t.Kids.take i).flatMap T_api_Tree.tour) (fun i (acc : List T_api_Tree) => M_ref10_All.l0 (acc, (i : Int), t)) (fun acc l => some (acc ++ l.flatMap T_api_Tree.tour))
      (fun acc ha => by
        show M_ref10_All.l0 _ = _
        rw [M_ref10_All.l0, if_neg (dge (by dsimp only; omega))]
        simp)
      (fun i acc h ha ih2 => by
        show M_ref10_All.l0 _ = _
        rw [M_ref10_All.l0, if_pos (dlt (by dsimp only; omega))]
        dsimp only
        rw [getI_nat h]
        have hm := List.getElem_mem h
        have hks := kid_size hm
        simp only [Option.bind_eq_bind, Option.bind_some]
        rw [ih _ hm (by omega)]
        simp only [Option.bind_some]
        have e : acc ++ t.Kids[i].tour = (t.Kids.take (i + 1)).flatMap T_api_Tree.tour := by
          rw [List.take_succ_eq_append_getElem h, List.flatMap_append, ha]; simp
        have hle : (acc ++ t.Kids[i].tour).length ≤ t.tour.length := by
          rw [e, tour_eq, List.length_append]
          have : t.Kids.flatMap T_api_Tree.tour = (t.Kids.take (i + 1)).flatMap T_api_Tree.tour ++ (t.Kids.drop (i + 1)).flatMap T_api_Tree.tour := by rw [← List.flatMap_append, List.take_append_drop]
          rw [this, List.length_append]; omega
        rw [room_of (by rw [← List.length_append]; omega)]
        simp only [Option.bind_some]
        rw [w64_succ (by omega)]
        have := ih2 (acc ++ t.Kids[i].tour) e
        try dsimp only at this
        rw [this]
        simp only [List.flatMap_cons, List.append_assoc]) 0 [] (Nat.zero_le _) (by simp)
    rw [M_ref10_All]
    rw [List.drop_zero, List.nil_append] at key
    have key' : M_ref10_All.l0 (([] : List T_api_Tree), 0, t) = some (t.Kids.flatMap T_api_Tree.tour) := key
    rw [key']
    simp only [Option.bind_eq_bind, Option.bind_some]
    rw [room_of (by
      have : (t.Kids.flatMap T_api_Tree.tour ++ [t]).length ≤ t.size := by rw [← tour_eq]; exact htl
      rw [List.length_append] at this
      omega)]
    simp only [Option.bind_some]
    rw [tour_eq]
theorem ref10_Tables_eq (t : T_api_Tree) (hsz : t.size ≤ 1000000000) : M_ref10_Tables t = some (tabs t) := by
  have htl := tour_len t
  have key : ∀ (l : List T_api_Tree), l.length ≤ 1000000000 → M_ref10_Tables.l0 (([] : List Int), l, 0) = some (leafTabs l) := by
    intro l hl
    have := loop_inv l (fun i acc => acc.length ≤ i) (fun i (acc : List Int) => M_ref10_Tables.l0 (acc, l, (i : Int))) (fun acc l => some (acc ++ leafTabs l))
      (fun acc ha => by
        show M_ref10_Tables.l0 _ = _
        rw [M_ref10_Tables.l0, if_neg (dge (by dsimp only; omega))]
        simp [leafTabs])
      (fun i acc h ha ih2 => by
        show M_ref10_Tables.l0 _ = _
        rw [M_ref10_Tables.l0, if_pos (dlt (by dsimp only; omega))]
        dsimp only
        rw [getI_nat h]
        simp only [Option.bind_eq_bind, Option.bind_some]
        rw [w64_succ (by omega)]
        by_cases hx : l[i].Kind = 0
        · rw [if_pos (by simpa using hx), room_of (by simp; omega)]
          simp only [Option.bind_some]
          have := ih2 (acc ++ [l[i].Table]) (by simp; omega)
          try dsimp only at this
          rw [this]
          rw [leafTabs_pos _ hx, List.append_assoc]; rfl
        · rw [if_neg (by simpa using hx)]
          have := ih2 acc (by omega)
          try dsimp only at this
          rw [this]
          rw [leafTabs_neg _ hx]) 0 [] (Nat.zero_le _) (by simp)
    rw [List.drop_zero, List.nil_append] at this
    exact this
  unfold M_ref10_Tables
  rw [ref10_All_eq t hsz]
  simp only [Option.bind_eq_bind, Option.bind_some]
  rw [key _ (by omega)]
  simp only [Option.bind_some]
  rw [ref01_Of_eq _ (by have := leafTabs_len t.tour; omega)]; rfl
end Go.Proofs.Ytcfekacmmfdggaa.G
set_option linter.unusedVariables false
set_option linter.unusedSimpArgs false
set_option maxRecDepth 100000
namespace Go.Proofs.Ytcfekacmmfdggaa.G
theorem lok_37 : (Try.f37.body.isSome && !(Try.f37.name == "runtime.NumGoroutine") && okL (bodyF Try.f37) Try.f37.ntmps (bodyF Try.f37)) = true := by kernel_rfl
mutual
def M_ref10_Seen.l0 (x : Set64 × Int × T_api_Tree) : Option (Set64) :=
  if (decide (x.2.1 < (x.2.2.Kids.length : Int))) = true then
    if (x.2.1 == 0) = true then
      (getI x.2.2.Kids x.2.1) >>= fun (e6 : T_api_Tree) =>
      M_ref10_Seen e6 >>= fun r8 =>
      M_ref10_Seen.l0 ((x.1 ||| r8), (w64 (x.2.1 + 1)), x.2.2)
    else
      if (x.2.2.Kind != 3) = true then
        if (x.2.2.Kind != 4) = true then
          (getI x.2.2.Kids x.2.1) >>= fun (e12 : T_api_Tree) =>
          M_ref10_Seen e12 >>= fun r14 =>
          M_ref10_Seen.l0 ((x.1 ||| r14), (w64 (x.2.1 + 1)), x.2.2)
        else
          M_ref10_Seen.l0 (x.1, (w64 (x.2.1 + 1)), x.2.2)
      else
        M_ref10_Seen.l0 (x.1, (w64 (x.2.1 + 1)), x.2.2)
  else
    some x.1
  partial_fixpoint
def M_ref10_Seen (x : T_api_Tree) : Option (Set64) :=
  if (x.Kind == 0) = true then
    M_ref01_Of ([x.Table]) >>= fun r2 =>
    some r2
  else
    M_ref10_Seen.l0 (0#64, 0, x) >>= fun (o16 : Set64) =>
    some o16
  partial_fixpoint
end
theorem M_ref10_Seen.l0.ws : (∀ (x : Set64 × Int × T_api_Tree) (o : Set64), M_ref10_Seen.l0 x = some o → (fun (x : Set64 × Int × T_api_Tree) (o : Set64) => ∀ (lo : Option Nat) (c : LCtx) (Q : Exit → LEnv → Prop) (hb : ∀ s : Set64, o = s → Q (.exit 0) ⟨[(3, .v (.w s))], []⟩), LLoop Try.prog 37 lo c 0 (VQ Q) ⟨[(1, .lref 1 0), (3, .v (.w x.1)), (4, .v (.i64 x.2.1))], [(1, [.v (.i64 x.2.2.Kind), .v (.i64 x.2.2.Table), .v (.slice .foreign (x.2.2.Kids.map T_api_Tree.av)), .v (.slice .foreign (x.2.2.Conj.map T_api_Pred.av)), .v (.bool x.2.2.Hash)])]⟩) x o) ∧ (∀ (x : T_api_Tree) (o : Set64), M_ref10_Seen x = some o → (fun (x : T_api_Tree) (r : Set64) => Fn Try.prog 37 [.agg (T_api_Tree.C x)] (.w r)) x o) := by
  refine M_ref10_Seen.l0.mutual_partial_correctness _ _ ?_ ?_
  · intro M_M_ref10_Seen_l0 M_M_ref10_Seen ih_M_ref10_Seen_l0 ih_M_ref10_Seen x o h
    intro lo c Q hb
    refine LLoop.step mix fn_37 (by kernel_rfl) ?_
    simp -implicitDefEqProofs only [go_sem, Try.f37]
    by_cases h4 : (decide (x.2.1 < (x.2.2.Kids.length : Int))) = true
    · replace h := ite_some h h4
      try simp -implicitDefEqProofs only [go_sem, h4]
      by_cases h5 : (x.2.1 == 0) = true
      · replace h := ite_some h h5
        try simp -implicitDefEqProofs only [go_sem, h4, h5]
        obtain ⟨e6, h7, h⟩ := bind_some' h; replace h7 := getI_some h7; obtain ⟨h7', h7⟩ := h7
        try simp -implicitDefEqProofs only [go_sem, h4, h5, h7, h7']
        obtain ⟨r8, h9, h⟩ := bind_some' h
        refine .plain _ _ rfl (ih_M_ref10_Seen e6 _ h9) ?_
        try simp -implicitDefEqProofs only [go_sem, h4, h5, h7, h7']
        exact LLoop.view [] (by (first | rfl | simp -implicitDefEqProofs only [go_sem, h4, h5, h7, h7'] <;> rfl)) (ih_M_ref10_Seen_l0 _ _ h lo c Q hb)
      · replace h := ite_none h h5; replace h5 := bfalse h5
        try simp -implicitDefEqProofs only [go_sem, h4, h5]
        by_cases h10 : (x.2.2.Kind != 3) = true
        · replace h := ite_some h h10
          try simp -implicitDefEqProofs only [go_sem, h4, h5, h10]
          by_cases h11 : (x.2.2.Kind != 4) = true
          · replace h := ite_some h h11
            try simp -implicitDefEqProofs only [go_sem, h4, h5, h10, h11]
            obtain ⟨e12, h13, h⟩ := bind_some' h; replace h13 := getI_some h13; obtain ⟨h13', h13⟩ := h13
            try simp -implicitDefEqProofs only [go_sem, h4, h5, h10, h11, h13, h13']
            obtain ⟨r14, h15, h⟩ := bind_some' h
            refine .plain _ _ rfl (ih_M_ref10_Seen e12 _ h15) ?_
            try simp -implicitDefEqProofs only [go_sem, h4, h5, h10, h11, h13, h13']
            exact LLoop.view [] (by (first | rfl | simp -implicitDefEqProofs only [go_sem, h4, h5, h10, h11, h13, h13'] <;> rfl)) (ih_M_ref10_Seen_l0 _ _ h lo c Q hb)
          · replace h := ite_none h h11; replace h11 := bfalse h11
            try simp -implicitDefEqProofs only [go_sem, h4, h5, h10, h11]
            exact LLoop.view [] (by (first | rfl | simp -implicitDefEqProofs only [go_sem, h4, h5, h10, h11] <;> rfl)) (ih_M_ref10_Seen_l0 _ _ h lo c Q hb)
        · replace h := ite_none h h10; replace h10 := bfalse h10
          try simp -implicitDefEqProofs only [go_sem, h4, h5, h10]
          exact LLoop.view [] (by (first | rfl | simp -implicitDefEqProofs only [go_sem, h4, h5, h10] <;> rfl)) (ih_M_ref10_Seen_l0 _ _ h lo c Q hb)
    · replace h := ite_none h h4; replace h4 := bfalse h4
      try simp -implicitDefEqProofs only [go_sem, h4]
      injection h with h; subst h
      exact .inr ⟨[], _, by (simp -implicitDefEqProofs only [go_sem, h4] <;> first | done | rfl | trivial), hb _ rfl⟩
  · intro M_M_ref10_Seen_l0 ih_M_ref10_Seen_l0 x r h
    refine Fn.of_lc mix fn_37 lok_37 (by rfl) (flC (T_api_Tree.flatC _) (flN)) (.atom _) ?_
    simp -implicitDefEqProofs only [go_sem, Try.f37]
    by_cases h1 : (x.Kind == 0) = true
    · replace h := ite_some h h1
      try simp -implicitDefEqProofs only [go_sem, h1]
      obtain ⟨r2, h3, h⟩ := bind_some' h
      have hw := M_ref01_Of.w ([x.Table]) _ h3
      simp -implicitDefEqProofs only [go_sem] at hw
      refine .plain _ _ rfl hw ?_
      clear hw
      try simp -implicitDefEqProofs only [go_sem, h1]
      injection h with h; subst h
      first | rfl | simp -implicitDefEqProofs only [go_sem, h1] <;> rfl
    · replace h := ite_none h h1; replace h1 := bfalse h1
      try simp -implicitDefEqProofs only [go_sem, h1]
      obtain ⟨o16, h17, h⟩ := bind_some' h
      refine LLoop.viewQ (LLoop.view [] (by (first | rfl | simp -implicitDefEqProofs only [go_sem, h1] <;> rfl)) (ih_M_ref10_Seen_l0 (0#64, 0, x) _ h17 _ _ _ ?_))
      intro s' hs'; subst hs'
      try simp -implicitDefEqProofs only [go_sem, h1]
      injection h with h; subst h
      first | rfl | simp -implicitDefEqProofs only [go_sem, h1] <;> rfl
theorem M_ref10_Seen.w : type_of% (M_ref10_Seen.l0.ws.2) := (M_ref10_Seen.l0.ws.2)
end Go.Proofs.Ytcfekacmmfdggaa.G
set_option linter.unusedVariables false
set_option linter.unusedSimpArgs false
set_option maxRecDepth 100000
namespace Go.Proofs.Ytcfekacmmfdggaa.G
theorem lok_151 : (Try.f151.body.isSome && !(Try.f151.name == "runtime.NumGoroutine") && okL (bodyF Try.f151) Try.f151.ntmps (bodyF Try.f151)) = true := by kernel_rfl
mutual
def M_ref06_Columns.l0 (x : List A2_Int × Int × T_api_Pred) : Option (List A2_Int) :=
  if (decide (x.2.1 < (x.2.2.Parts.length : Int))) = true then
    (getI x.2.2.Parts x.2.1) >>= fun (e8 : T_api_Pred) =>
    M_ref06_Columns e8 >>= fun r10 =>
    (room 16 x.1 r10) >>= fun (z12 : List A2_Int) =>
    M_ref06_Columns.l0 (z12, (w64 (x.2.1 + 1)), x.2.2)
  else
    some x.1
  partial_fixpoint
def M_ref06_Columns (x : T_api_Pred) : Option (List A2_Int) :=
  if (x.A.Kind == 1) = true then
    (room 16 ([] : List A2_Int) ([(⟨x.A.Table, x.A.Col⟩ : A2_Int)])) >>= fun (z2 : List A2_Int) =>
    if (x.B.Kind == 1) = true then
      (room 16 z2 ([(⟨x.B.Table, x.B.Col⟩ : A2_Int)])) >>= fun (z5 : List A2_Int) =>
      M_ref06_Columns.l0 (z5, 0, x) >>= fun (o14 : List A2_Int) =>
      some o14
    else
      M_ref06_Columns.l0 (z2, 0, x) >>= fun (o16 : List A2_Int) =>
      some o16
  else
    if (x.B.Kind == 1) = true then
      (room 16 ([] : List A2_Int) ([(⟨x.B.Table, x.B.Col⟩ : A2_Int)])) >>= fun (z19 : List A2_Int) =>
      M_ref06_Columns.l0 (z19, 0, x) >>= fun (o21 : List A2_Int) =>
      some o21
    else
      M_ref06_Columns.l0 (([] : List A2_Int), 0, x) >>= fun (o23 : List A2_Int) =>
      some o23
  partial_fixpoint
end
theorem M_ref06_Columns.l0.ws : (∀ (x : List A2_Int × Int × T_api_Pred) (o : List A2_Int), M_ref06_Columns.l0 x = some o → (fun (x : List A2_Int × Int × T_api_Pred) (o : List A2_Int) => ∀ (lo : Option Nat) (c : LCtx) (Q : Exit → LEnv → Prop) (hb : ∀ s : List A2_Int, o = s → Q (.exit 0) ⟨[(3, .own 100300 2 (s.map A2_Int.av))], []⟩), LLoop Try.prog 151 lo c 0 (VQ Q) ⟨[(1, .lref 1 0), (3, .own 100300 2 (x.1.map A2_Int.av)), (4, .v (.i64 x.2.1))], [(1, [.v (.i64 x.2.2.Kind), .v (.i64 x.2.2.Truth), .v (.i64 x.2.2.Op), .v (.i64 x.2.2.A.Kind), .v (.i64 x.2.2.A.Table), .v (.i64 x.2.2.A.Col), .v (.bool x.2.2.A.Value.Null), .v (.i64 x.2.2.A.Value.N), .v (.i64 x.2.2.B.Kind), .v (.i64 x.2.2.B.Table), .v (.i64 x.2.2.B.Col), .v (.bool x.2.2.B.Value.Null), .v (.i64 x.2.2.B.Value.N), .v (.slice .foreign (x.2.2.Parts.map T_api_Pred.av))])]⟩) x o) ∧ (∀ (x : T_api_Pred) (o : List A2_Int), M_ref06_Columns x = some o → (fun (x : T_api_Pred) (r : List A2_Int) => Fn Try.prog 151 [.agg (T_api_Pred.C x)] (.slice .foreign (r.map A2_Int.av))) x o) := by
  refine M_ref06_Columns.l0.mutual_partial_correctness _ _ ?_ ?_
  · intro M_M_ref06_Columns_l0 M_M_ref06_Columns ih_M_ref06_Columns_l0 ih_M_ref06_Columns x o h
    intro lo c Q hb
    refine LLoop.step mix fn_151 (by kernel_rfl) ?_
    simp -implicitDefEqProofs only [go_sem, Try.f151]
    by_cases h7 : (decide (x.2.1 < (x.2.2.Parts.length : Int))) = true
    · replace h := ite_some h h7
      try simp -implicitDefEqProofs only [go_sem, h7]
      obtain ⟨e8, h9, h⟩ := bind_some' h; replace h9 := getI_some h9; obtain ⟨h9', h9⟩ := h9
      try simp -implicitDefEqProofs only [go_sem, h7, h9, h9']
      obtain ⟨r10, h11, h⟩ := bind_some' h
      refine .plain _ _ rfl (ih_M_ref06_Columns e8 _ h11) ?_
      try simp -implicitDefEqProofs only [go_sem, h7, h9, h9']
      obtain ⟨z12, h13, h⟩ := bind_some' h; replace h13 := room_some h13; obtain ⟨h13', rfl⟩ := h13
      refine LApp.map (F := A2_Int.av) (xs := x.1) (ys := r10) t181_elem t158_size t158_bytes t158_zsize rfl A2_Int.len (by (first | rfl | simp -implicitDefEqProofs only [go_sem, h7, h9, h9'] <;> rfl)) (by (first | rfl | simp -implicitDefEqProofs only [go_sem, h7, h9, h9'] <;> rfl)) h13' ?_
      try simp -implicitDefEqProofs only [go_sem, h7, h9, h9']
      exact LLoop.view [(100300, some 48)] (by (first | rfl | simp -implicitDefEqProofs only [go_sem, h7, h9, h9'] <;> rfl)) (ih_M_ref06_Columns_l0 _ _ h lo c Q hb)
    · replace h := ite_none h h7; replace h7 := bfalse h7
      try simp -implicitDefEqProofs only [go_sem, h7]
      injection h with h; subst h
      exact .inr ⟨[(100300, some 100300)], _, by (simp -implicitDefEqProofs only [go_sem, h7] <;> first | done | rfl | trivial), hb _ rfl⟩
  · intro M_M_ref06_Columns_l0 ih_M_ref06_Columns_l0 x r h
    refine Fn.of_lc mix fn_151 lok_151 (by rfl) (flC (T_api_Pred.flatC _) (flN)) (flat_slice _ A2_Int.flat _) ?_
    simp -implicitDefEqProofs only [go_sem, Try.f151]
    by_cases h1 : (x.A.Kind == 1) = true
    · replace h := ite_some h h1
      try simp -implicitDefEqProofs only [go_sem, h1]
      obtain ⟨z2, h3, h⟩ := bind_some' h; replace h3 := room_some h3; obtain ⟨h3', rfl⟩ := h3
      refine LApp.mapFull (F := A2_Int.av) (xs := ([] : List A2_Int)) (ys := [(⟨x.A.Table, x.A.Col⟩ : A2_Int)]) t181_elem t158_size t158_bytes t158_zsize rfl A2_Int.len (by (first | rfl | simp -implicitDefEqProofs only [go_sem, h1] <;> rfl)) (by (first | rfl | simp -implicitDefEqProofs only [go_sem, h1] <;> rfl)) h3' ?_
      try simp -implicitDefEqProofs only [go_sem, h1]
      by_cases h4 : (x.B.Kind == 1) = true
      · replace h := ite_some h h4
        try simp -implicitDefEqProofs only [go_sem, h1, h4]
        obtain ⟨z5, h6, h⟩ := bind_some' h; replace h6 := room_some h6; obtain ⟨h6', rfl⟩ := h6
        refine LApp.map (F := A2_Int.av) (xs := (([] : List A2_Int) ++ [(⟨x.A.Table, x.A.Col⟩ : A2_Int)])) (ys := [(⟨x.B.Table, x.B.Col⟩ : A2_Int)]) t181_elem t158_size t158_bytes t158_zsize rfl A2_Int.len (by (first | rfl | simp -implicitDefEqProofs only [go_sem, h1, h4] <;> rfl)) (by (first | rfl | simp -implicitDefEqProofs only [go_sem, h1, h4] <;> rfl)) h6' ?_
        try simp -implicitDefEqProofs only [go_sem, h1, h4]
        obtain ⟨o14, h15, h⟩ := bind_some' h
        refine LLoop.viewQ (LLoop.view [(100300, some 33)] (by (first | rfl | simp -implicitDefEqProofs only [go_sem, h1, h4] <;> rfl)) (ih_M_ref06_Columns_l0 (((([] : List A2_Int) ++ [(⟨x.A.Table, x.A.Col⟩ : A2_Int)]) ++ [(⟨x.B.Table, x.B.Col⟩ : A2_Int)]), 0, x) _ h15 _ _ _ ?_))
        intro s' hs'; subst hs'
        try simp -implicitDefEqProofs only [go_sem, h1, h4]
        injection h with h; subst h
        first | rfl | simp -implicitDefEqProofs only [go_sem, h1, h4] <;> rfl
      · replace h := ite_none h h4; replace h4 := bfalse h4
        try simp -implicitDefEqProofs only [go_sem, h1, h4]
        obtain ⟨o16, h17, h⟩ := bind_some' h
        refine LLoop.viewQ (LLoop.view [(100300, some 19)] (by (first | rfl | simp -implicitDefEqProofs only [go_sem, h1, h4] <;> rfl)) (ih_M_ref06_Columns_l0 ((([] : List A2_Int) ++ [(⟨x.A.Table, x.A.Col⟩ : A2_Int)]), 0, x) _ h17 _ _ _ ?_))
        intro s' hs'; subst hs'
        try simp -implicitDefEqProofs only [go_sem, h1, h4]
        injection h with h; subst h
        first | rfl | simp -implicitDefEqProofs only [go_sem, h1, h4] <;> rfl
    · replace h := ite_none h h1; replace h1 := bfalse h1
      try simp -implicitDefEqProofs only [go_sem, h1]
      by_cases h18 : (x.B.Kind == 1) = true
      · replace h := ite_some h h18
        try simp -implicitDefEqProofs only [go_sem, h1, h18]
        obtain ⟨z19, h20, h⟩ := bind_some' h; replace h20 := room_some h20; obtain ⟨h20', rfl⟩ := h20
        refine LApp.mapFull (F := A2_Int.av) (xs := ([] : List A2_Int)) (ys := [(⟨x.B.Table, x.B.Col⟩ : A2_Int)]) t181_elem t158_size t158_bytes t158_zsize rfl A2_Int.len (by (first | rfl | simp -implicitDefEqProofs only [go_sem, h1, h18] <;> rfl)) (by (first | rfl | simp -implicitDefEqProofs only [go_sem, h1, h18] <;> rfl)) h20' ?_
        try simp -implicitDefEqProofs only [go_sem, h1, h18]
        obtain ⟨o21, h22, h⟩ := bind_some' h
        refine LLoop.viewQ (LLoop.view [(100300, some 33)] (by (first | rfl | simp -implicitDefEqProofs only [go_sem, h1, h18] <;> rfl)) (ih_M_ref06_Columns_l0 ((([] : List A2_Int) ++ [(⟨x.B.Table, x.B.Col⟩ : A2_Int)]), 0, x) _ h22 _ _ _ ?_))
        intro s' hs'; subst hs'
        try simp -implicitDefEqProofs only [go_sem, h1, h18]
        injection h with h; subst h
        first | rfl | simp -implicitDefEqProofs only [go_sem, h1, h18] <;> rfl
      · replace h := ite_none h h18; replace h18 := bfalse h18
        try simp -implicitDefEqProofs only [go_sem, h1, h18]
        obtain ⟨o23, h24, h⟩ := bind_some' h
        refine LLoop.viewQ (LLoop.view [(100300, none)] (by (first | rfl | simp -implicitDefEqProofs only [go_sem, h1, h18] <;> rfl)) (ih_M_ref06_Columns_l0 (([] : List A2_Int), 0, x) _ h24 _ _ _ ?_))
        intro s' hs'; subst hs'
        try simp -implicitDefEqProofs only [go_sem, h1, h18]
        injection h with h; subst h
        first | rfl | simp -implicitDefEqProofs only [go_sem, h1, h18] <;> rfl
theorem M_ref06_Columns.w : type_of% (M_ref06_Columns.l0.ws.2) := (M_ref06_Columns.l0.ws.2)
end Go.Proofs.Ytcfekacmmfdggaa.G
set_option linter.unusedVariables false
set_option linter.unusedSimpArgs false
set_option maxRecDepth 100000
namespace Go.Proofs.Ytcfekacmmfdggaa.G
theorem lok_178 : (Try.f178.body.isSome && !(Try.f178.name == "runtime.NumGoroutine") && okL (bodyF Try.f178) Try.f178.ntmps (bodyF Try.f178)) = true := by kernel_rfl
def M_ref03_Right (x : T_api_Value) : Option (Bool) :=
  if x.Null = true then
    some (x.N == 0)
  else
    some true
set_option maxHeartbeats 8000000 in
theorem M_ref03_Right.w : ∀ (x : T_api_Value) (r : Bool), M_ref03_Right x = some r → (fun (x : T_api_Value) (r : Bool) => Fn Try.prog 178 [.agg (T_api_Value.C x)] (.bool r)) x r := by
  intro x r h
  rw [M_ref03_Right] at h
  try dsimp only
  refine Fn.of_lc mix fn_178 lok_178 (by rfl) (flC (T_api_Value.flatC _) (flN)) (.atom _) ?_
  simp -implicitDefEqProofs only [go_sem, Try.f178]
  by_cases h1 : x.Null = true
  · replace h := ite_some h h1
    try simp -implicitDefEqProofs only [go_sem, h1]
    injection h with h; subst h
    first | rfl | simp -implicitDefEqProofs only [go_sem, h1] <;> rfl
  · replace h := ite_none h h1; replace h1 := bfalse h1
    try simp -implicitDefEqProofs only [go_sem, h1]
    injection h with h; subst h
    first | rfl | simp -implicitDefEqProofs only [go_sem, h1] <;> rfl
end Go.Proofs.Ytcfekacmmfdggaa.G
set_option linter.unusedVariables false
set_option linter.unusedSimpArgs false
set_option maxRecDepth 100000
namespace Go.Proofs.Ytcfekacmmfdggaa.G
theorem lok_170 : (Try.f170.body.isSome && !(Try.f170.name == "runtime.NumGoroutine") && okL (bodyF Try.f170) Try.f170.ntmps (bodyF Try.f170)) = true := by kernel_rfl
def M_ref05_Right (x : T_api_Term) : Option (Bool) :=
  if (x.Kind == 1) = true then
    if (decide (x.Table ≥ 0)) = true then
      if (decide (x.Table ≤ 63)) = true then
        if (decide (x.Col ≥ 0)) = true then
          if (decide (x.Col ≤ 3)) = true then
            if x.Value.Null = true then
              some false
            else
              some (x.Value.N == 0)
          else
            some false
        else
          some false
      else
        some false
    else
      some false
  else
    if (x.Kind == 2) = true then
      if (x.Table == 0) = true then
        if (x.Col == 0) = true then
          M_ref03_Right x.Value >>= fun r10 =>
          some r10
        else
          some false
      else
        some false
    else
      some false
set_option maxHeartbeats 8000000 in
theorem M_ref05_Right.w : ∀ (x : T_api_Term) (r : Bool), M_ref05_Right x = some r → (fun (x : T_api_Term) (r : Bool) => Fn Try.prog 170 [.agg (T_api_Term.C x)] (.bool r)) x r := by
  intro x r h
  rw [M_ref05_Right] at h
  try dsimp only
  refine Fn.of_lc mix fn_170 lok_170 (by rfl) (flC (T_api_Term.flatC _) (flN)) (.atom _) ?_
  simp -implicitDefEqProofs only [go_sem, Try.f170]
  by_cases h1 : (x.Kind == 1) = true
  · replace h := ite_some h h1
    try simp -implicitDefEqProofs only [go_sem, h1]
    by_cases h2 : (decide (x.Table ≥ 0)) = true
    · replace h := ite_some h h2
      try simp -implicitDefEqProofs only [go_sem, h1, h2]
      by_cases h3 : (decide (x.Table ≤ 63)) = true
      · replace h := ite_some h h3
        try simp -implicitDefEqProofs only [go_sem, h1, h2, h3]
        by_cases h4 : (decide (x.Col ≥ 0)) = true
        · replace h := ite_some h h4
          try simp -implicitDefEqProofs only [go_sem, h1, h2, h3, h4]
          by_cases h5 : (decide (x.Col ≤ 3)) = true
          · replace h := ite_some h h5
            try simp -implicitDefEqProofs only [go_sem, h1, h2, h3, h4, h5]
            by_cases h6 : x.Value.Null = true
            · replace h := ite_some h h6
              try simp -implicitDefEqProofs only [go_sem, h1, h2, h3, h4, h5, h6]
              injection h with h; subst h
              first | rfl | simp -implicitDefEqProofs only [go_sem, h1, h2, h3, h4, h5, h6] <;> rfl
            · replace h := ite_none h h6; replace h6 := bfalse h6
              try simp -implicitDefEqProofs only [go_sem, h1, h2, h3, h4, h5, h6]
              injection h with h; subst h
              first | rfl | simp -implicitDefEqProofs only [go_sem, h1, h2, h3, h4, h5, h6] <;> rfl
          · replace h := ite_none h h5; replace h5 := bfalse h5
            try simp -implicitDefEqProofs only [go_sem, h1, h2, h3, h4, h5]
            injection h with h; subst h
            first | rfl | simp -implicitDefEqProofs only [go_sem, h1, h2, h3, h4, h5] <;> rfl
        · replace h := ite_none h h4; replace h4 := bfalse h4
          try simp -implicitDefEqProofs only [go_sem, h1, h2, h3, h4]
          injection h with h; subst h
          first | rfl | simp -implicitDefEqProofs only [go_sem, h1, h2, h3, h4] <;> rfl
      · replace h := ite_none h h3; replace h3 := bfalse h3
        try simp -implicitDefEqProofs only [go_sem, h1, h2, h3]
        injection h with h; subst h
        first | rfl | simp -implicitDefEqProofs only [go_sem, h1, h2, h3] <;> rfl
    · replace h := ite_none h h2; replace h2 := bfalse h2
      try simp -implicitDefEqProofs only [go_sem, h1, h2]
      injection h with h; subst h
      first | rfl | simp -implicitDefEqProofs only [go_sem, h1, h2] <;> rfl
  · replace h := ite_none h h1; replace h1 := bfalse h1
    try simp -implicitDefEqProofs only [go_sem, h1]
    by_cases h7 : (x.Kind == 2) = true
    · replace h := ite_some h h7
      try simp -implicitDefEqProofs only [go_sem, h1, h7]
      by_cases h8 : (x.Table == 0) = true
      · replace h := ite_some h h8
        try simp -implicitDefEqProofs only [go_sem, h1, h7, h8]
        by_cases h9 : (x.Col == 0) = true
        · replace h := ite_some h h9
          try simp -implicitDefEqProofs only [go_sem, h1, h7, h8, h9]
          obtain ⟨r10, h11, h⟩ := bind_some' h
          refine .plain _ _ rfl (M_ref03_Right.w x.Value _ h11) ?_
          try simp -implicitDefEqProofs only [go_sem, h1, h7, h8, h9]
          injection h with h; subst h
          first | rfl | simp -implicitDefEqProofs only [go_sem, h1, h7, h8, h9] <;> rfl
        · replace h := ite_none h h9; replace h9 := bfalse h9
          try simp -implicitDefEqProofs only [go_sem, h1, h7, h8, h9]
          injection h with h; subst h
          first | rfl | simp -implicitDefEqProofs only [go_sem, h1, h7, h8, h9] <;> rfl
      · replace h := ite_none h h8; replace h8 := bfalse h8
        try simp -implicitDefEqProofs only [go_sem, h1, h7, h8]
        injection h with h; subst h
        first | rfl | simp -implicitDefEqProofs only [go_sem, h1, h7, h8] <;> rfl
    · replace h := ite_none h h7; replace h7 := bfalse h7
      try simp -implicitDefEqProofs only [go_sem, h1, h7]
      injection h with h; subst h
      first | rfl | simp -implicitDefEqProofs only [go_sem, h1, h7] <;> rfl
end Go.Proofs.Ytcfekacmmfdggaa.G
set_option linter.unusedVariables false
set_option linter.unusedSimpArgs false
set_option maxRecDepth 100000
namespace Go.Proofs.Ytcfekacmmfdggaa.G
theorem lok_163 : (Try.f163.body.isSome && !(Try.f163.name == "runtime.NumGoroutine") && okL (bodyF Try.f163) Try.f163.ntmps (bodyF Try.f163)) = true := by kernel_rfl
mutual
def M_ref06_at.l0 (x : Int × Int × T_api_Pred) : Option (Lp (Unit) (Bool)) :=
  if (decide (x.2.1 < (x.2.2.Parts.length : Int))) = true then
    (getI x.2.2.Parts x.2.1) >>= fun (e12 : T_api_Pred) =>
    M_ref06_at (e12, (w64 (x.1 + 1))) >>= fun r14 =>
    if r14 = true then
      M_ref06_at.l0 (x.1, (w64 (x.2.1 + 1)), x.2.2)
    else
      some (.ret false)
  else
    some (.brk ())
  partial_fixpoint
def M_ref06_at (x : T_api_Pred × Int) : Option (Bool) :=
  if (decide (x.2 > 4)) = true then
    some false
  else
    if (decide (x.1.Kind < 1)) = true then
      some false
    else
      if (decide (x.1.Kind > 6)) = true then
        some false
      else
        if (x.1.Kind != 1) = true then
          if (x.1.Truth != 0) = true then
            some false
          else
            if (x.1.Kind != 2) = true then
              if (x.1.Op != 0) = true then
                some false
              else
                if ((x.1.B.Kind == 0) && ((x.1.B.Table == 0) && ((x.1.B.Col == 0) && ((!x.1.B.Value.Null) && (x.1.B.Value.N == 0))))) = true then
                  if (x.1.Kind != 3) = true then
                    if ((x.1.A.Kind == 0) && ((x.1.A.Table == 0) && ((x.1.A.Col == 0) && ((!x.1.A.Value.Null) && (x.1.A.Value.N == 0))))) = true then
                      M_ref06_at.l0 (x.2, 0, x.1) >>= fun (o17 : Lp (Unit) (Bool)) => match o17 with
                      | .brk s20 =>
                        if (x.1.Kind == 6) = true then
                          some ((x.1.Parts.length : Int) == 1)
                        else
                          some (decide ((x.1.Parts.length : Int) ≤ 4))
                      | .ret r19 =>
                        some r19
                    else
                      some false
                  else
                    M_ref06_at.l0 (x.2, 0, x.1) >>= fun (o25 : Lp (Unit) (Bool)) => match o25 with
                    | .brk s28 =>
                      if ((x.1.Parts.length : Int) == 0) = true then
                        M_ref05_Right x.1.A >>= fun r33 =>
                        some r33
                      else
                        some false
                    | .ret r27 =>
                      some r27
                else
                  some false
            else
              M_ref06_at.l0 (x.2, 0, x.1) >>= fun (o35 : Lp (Unit) (Bool)) => match o35 with
              | .brk s38 =>
                if ((x.1.Parts.length : Int) == 0) = true then
                  if (decide (x.1.Op ≥ 1)) = true then
                    if (decide (x.1.Op ≤ 6)) = true then
                      M_ref05_Right x.1.A >>= fun r44 =>
                      if r44 = true then
                        M_ref05_Right x.1.B >>= fun r47 =>
                        some r47
                      else
                        some false
                    else
                      some false
                  else
                    some false
                else
                  some false
              | .ret r37 =>
                some r37
        else
          if (x.1.Op != 0) = true then
            some false
          else
            if ((x.1.B.Kind == 0) && ((x.1.B.Table == 0) && ((x.1.B.Col == 0) && ((!x.1.B.Value.Null) && (x.1.B.Value.N == 0))))) = true then
              if ((x.1.A.Kind == 0) && ((x.1.A.Table == 0) && ((x.1.A.Col == 0) && ((!x.1.A.Value.Null) && (x.1.A.Value.N == 0))))) = true then
                M_ref06_at.l0 (x.2, 0, x.1) >>= fun (o54 : Lp (Unit) (Bool)) => match o54 with
                | .brk s57 =>
                  if ((x.1.Parts.length : Int) == 0) = true then
                    if (decide (x.1.Truth ≥ 0)) = true then
                      some (decide (x.1.Truth ≤ 2))
                    else
                      some false
                  else
                    some false
                | .ret r56 =>
                  some r56
              else
                some false
            else
              some false
  partial_fixpoint
end
set_option maxHeartbeats 8000000 in
theorem M_ref06_at.l0.ws : (∀ (x : Int × Int × T_api_Pred) (o : Lp (Unit) (Bool)), M_ref06_at.l0 x = some o → (fun (x : Int × Int × T_api_Pred) (o : Lp (Unit) (Bool)) => ∀ (lo : Option Nat) (c : LCtx) (Q : Exit → LEnv → Prop) (hb : ∀ s : Unit, o = Lp.brk s → Q (.exit 0) ⟨[(2, .lref 2 0)], [(2, [.v (.i64 x.2.2.Kind), .v (.i64 x.2.2.Truth), .v (.i64 x.2.2.Op), .v (.i64 x.2.2.A.Kind), .v (.i64 x.2.2.A.Table), .v (.i64 x.2.2.A.Col), .v (.bool x.2.2.A.Value.Null), .v (.i64 x.2.2.A.Value.N), .v (.i64 x.2.2.B.Kind), .v (.i64 x.2.2.B.Table), .v (.i64 x.2.2.B.Col), .v (.bool x.2.2.B.Value.Null), .v (.i64 x.2.2.B.Value.N), .v (.slice .foreign (x.2.2.Parts.map T_api_Pred.av))])]⟩) (hr : ∀ (r : Bool) (L : LEnv), o = .ret r → LPostF Try.prog [.tmp 4] (.bool r) (fun _ => True) .ret L → Q .ret L), LLoop Try.prog 163 lo c 0 (VQ Q) ⟨[(1, .v (.i64 x.1)), (2, .lref 2 0), (6, .v (.i64 x.2.1))], [(2, [.v (.i64 x.2.2.Kind), .v (.i64 x.2.2.Truth), .v (.i64 x.2.2.Op), .v (.i64 x.2.2.A.Kind), .v (.i64 x.2.2.A.Table), .v (.i64 x.2.2.A.Col), .v (.bool x.2.2.A.Value.Null), .v (.i64 x.2.2.A.Value.N), .v (.i64 x.2.2.B.Kind), .v (.i64 x.2.2.B.Table), .v (.i64 x.2.2.B.Col), .v (.bool x.2.2.B.Value.Null), .v (.i64 x.2.2.B.Value.N), .v (.slice .foreign (x.2.2.Parts.map T_api_Pred.av))])]⟩) x o) ∧ (∀ (x : T_api_Pred × Int) (o : Bool), M_ref06_at x = some o → (fun (x : T_api_Pred × Int) (r : Bool) => Fn Try.prog 163 [.agg (T_api_Pred.C x.1), .i64 x.2] (.bool r)) x o) := by
  refine M_ref06_at.l0.mutual_partial_correctness _ _ ?_ ?_
  · intro M_M_ref06_at_l0 M_M_ref06_at ih_M_ref06_at_l0 ih_M_ref06_at x o h
    intro lo c Q hb hr
    refine LLoop.step mix fn_163 (by kernel_rfl) ?_
    simp -implicitDefEqProofs only [go_sem, Try.f163]
    by_cases h11 : (decide (x.2.1 < (x.2.2.Parts.length : Int))) = true
    · replace h := ite_some h h11
      try simp -implicitDefEqProofs only [go_sem, h11]
      obtain ⟨e12, h13, h⟩ := bind_some' h; replace h13 := getI_some h13; obtain ⟨h13', h13⟩ := h13
      try simp -implicitDefEqProofs only [go_sem, h11, h13, h13']
      obtain ⟨r14, h15, h⟩ := bind_some' h
      refine .plain _ _ rfl (ih_M_ref06_at (e12, (w64 (x.1 + 1))) _ h15) ?_
      try simp -implicitDefEqProofs only [go_sem, h11, h13, h13']
      by_cases h16 : r14 = true
      · replace h := ite_some h h16
        try simp -implicitDefEqProofs only [go_sem, h11, h13, h13', h16]
        exact LLoop.view [] (by (first | rfl | simp -implicitDefEqProofs only [go_sem, h11, h13, h13', h16] <;> rfl)) (ih_M_ref06_at_l0 _ _ h lo c Q hb hr)
      · replace h := ite_none h h16; replace h16 := bfalse h16
        try simp -implicitDefEqProofs only [go_sem, h11, h13, h13', h16]
        injection h with h; subst h
        exact .inl (hr _ _ rfl (by (first | rfl | simp -implicitDefEqProofs only [go_sem, h11, h13, h13', h16] <;> rfl)))
    · replace h := ite_none h h11; replace h11 := bfalse h11
      try simp -implicitDefEqProofs only [go_sem, h11]
      injection h with h; subst h
      exact .inr ⟨[], _, by (simp -implicitDefEqProofs only [go_sem, h11] <;> first | done | rfl | trivial), hb _ rfl⟩
  · intro M_M_ref06_at_l0 ih_M_ref06_at_l0 x r h
    refine Fn.of_lc mix fn_163 lok_163 (by rfl) (flC (T_api_Pred.flatC _) (flC (.atom _) (flN))) (.atom _) ?_
    simp -implicitDefEqProofs only [go_sem, Try.f163]
    by_cases h1 : (decide (x.2 > 4)) = true
    · replace h := ite_some h h1
      try simp -implicitDefEqProofs only [go_sem, h1]
      injection h with h; subst h
      first | rfl | simp -implicitDefEqProofs only [go_sem, h1] <;> rfl
    · replace h := ite_none h h1; replace h1 := bfalse h1
      try simp -implicitDefEqProofs only [go_sem, h1]
      by_cases h2 : (decide (x.1.Kind < 1)) = true
      · replace h := ite_some h h2
        try simp -implicitDefEqProofs only [go_sem, h1, h2]
        injection h with h; subst h
        first | rfl | simp -implicitDefEqProofs only [go_sem, h1, h2] <;> rfl
      · replace h := ite_none h h2; replace h2 := bfalse h2
        try simp -implicitDefEqProofs only [go_sem, h1, h2]
        by_cases h3 : (decide (x.1.Kind > 6)) = true
        · replace h := ite_some h h3
          try simp -implicitDefEqProofs only [go_sem, h1, h2, h3]
          injection h with h; subst h
          first | rfl | simp -implicitDefEqProofs only [go_sem, h1, h2, h3] <;> rfl
        · replace h := ite_none h h3; replace h3 := bfalse h3
          try simp -implicitDefEqProofs only [go_sem, h1, h2, h3]
          by_cases h4 : (x.1.Kind != 1) = true
          · replace h := ite_some h h4
            try simp -implicitDefEqProofs only [go_sem, h1, h2, h3, h4]
            by_cases h5 : (x.1.Truth != 0) = true
            · replace h := ite_some h h5
              try simp -implicitDefEqProofs only [go_sem, h1, h2, h3, h4, h5]
              injection h with h; subst h
              first | rfl | simp -implicitDefEqProofs only [go_sem, h1, h2, h3, h4, h5] <;> rfl
            · replace h := ite_none h h5; replace h5 := bfalse h5
              try simp -implicitDefEqProofs only [go_sem, h1, h2, h3, h4, h5]
              by_cases h6 : (x.1.Kind != 2) = true
              · replace h := ite_some h h6
                try simp -implicitDefEqProofs only [go_sem, h1, h2, h3, h4, h5, h6]
                by_cases h7 : (x.1.Op != 0) = true
                · replace h := ite_some h h7
                  try simp -implicitDefEqProofs only [go_sem, h1, h2, h3, h4, h5, h6, h7]
                  injection h with h; subst h
                  first | rfl | simp -implicitDefEqProofs only [go_sem, h1, h2, h3, h4, h5, h6, h7] <;> rfl
                · replace h := ite_none h h7; replace h7 := bfalse h7
                  try simp -implicitDefEqProofs only [go_sem, h1, h2, h3, h4, h5, h6, h7]
                  by_cases h8 : ((x.1.B.Kind == 0) && ((x.1.B.Table == 0) && ((x.1.B.Col == 0) && ((!x.1.B.Value.Null) && (x.1.B.Value.N == 0))))) = true
                  · replace h := ite_some h h8
                    try simp -implicitDefEqProofs only [go_sem, h1, h2, h3, h4, h5, h6, h7, h8]
                    by_cases h9 : (x.1.Kind != 3) = true
                    · replace h := ite_some h h9
                      try simp -implicitDefEqProofs only [go_sem, h1, h2, h3, h4, h5, h6, h7, h8, h9]
                      by_cases h10 : ((x.1.A.Kind == 0) && ((x.1.A.Table == 0) && ((x.1.A.Col == 0) && ((!x.1.A.Value.Null) && (x.1.A.Value.N == 0))))) = true
                      · replace h := ite_some h h10
                        try simp -implicitDefEqProofs only [go_sem, h1, h2, h3, h4, h5, h6, h7, h8, h9, h10]
                        obtain ⟨o17, h18, h⟩ := bind_some' h
                        refine LLoop.viewQ (LLoop.view [] (by (first | rfl | simp -implicitDefEqProofs only [go_sem, h1, h2, h3, h4, h5, h6, h7, h8, h9, h10] <;> rfl)) (ih_M_ref06_at_l0 (x.2, 0, x.1) _ h18 _ _ _ ?_ ?_))
                        · intro s20 hs'; subst hs'
                          try simp -implicitDefEqProofs only [go_sem, h1, h2, h3, h4, h5, h6, h7, h8, h9, h10]
                          have h21 : (x.1.Kind == 1) = false := neb_t h4
                          try simp -implicitDefEqProofs only [go_sem, h1, h2, h3, h4, h5, h6, h7, h8, h9, h10, h21]
                          have h22 : (x.1.Kind == 2) = false := neb_t h6
                          try simp -implicitDefEqProofs only [go_sem, h1, h2, h3, h4, h5, h6, h7, h8, h9, h10, h21, h22]
                          have h23 : (x.1.Kind == 3) = false := neb_t h9
                          try simp -implicitDefEqProofs only [go_sem, h1, h2, h3, h4, h5, h6, h7, h8, h9, h10, h21, h22, h23]
                          by_cases h24 : (x.1.Kind == 6) = true
                          · replace h := ite_some h h24
                            try simp -implicitDefEqProofs only [go_sem, h1, h2, h3, h4, h5, h6, h7, h8, h9, h10, h21, h22, h23, h24]
                            injection h with h; subst h
                            first | rfl | simp -implicitDefEqProofs only [go_sem, h1, h2, h3, h4, h5, h6, h7, h8, h9, h10, h21, h22, h23, h24] <;> rfl
                          · replace h := ite_none h h24; replace h24 := bfalse h24
                            try simp -implicitDefEqProofs only [go_sem, h1, h2, h3, h4, h5, h6, h7, h8, h9, h10, h21, h22, h23, h24]
                            injection h with h; subst h
                            first | rfl | simp -implicitDefEqProofs only [go_sem, h1, h2, h3, h4, h5, h6, h7, h8, h9, h10, h21, h22, h23, h24] <;> rfl
                        · intro r19 L' hs' hL'; subst hs'
                          injection h with h; subst h
                          first | exact hL' | (simp -implicitDefEqProofs only [go_sem]; exact hL') | (simp -implicitDefEqProofs only [go_sem]; simp -implicitDefEqProofs only [go_sem] at hL'; exact hL')
                      · replace h := ite_none h h10; replace h10 := bfalse h10
                        try simp -implicitDefEqProofs only [go_sem, h1, h2, h3, h4, h5, h6, h7, h8, h9, h10]
                        injection h with h; subst h
                        first | rfl | simp -implicitDefEqProofs only [go_sem, h1, h2, h3, h4, h5, h6, h7, h8, h9, h10] <;> rfl
                    · replace h := ite_none h h9; replace h9 := bfalse h9
                      try simp -implicitDefEqProofs only [go_sem, h1, h2, h3, h4, h5, h6, h7, h8, h9]
                      obtain ⟨o25, h26, h⟩ := bind_some' h
                      refine LLoop.viewQ (LLoop.view [] (by (first | rfl | simp -implicitDefEqProofs only [go_sem, h1, h2, h3, h4, h5, h6, h7, h8, h9] <;> rfl)) (ih_M_ref06_at_l0 (x.2, 0, x.1) _ h26 _ _ _ ?_ ?_))
                      · intro s28 hs'; subst hs'
                        try simp -implicitDefEqProofs only [go_sem, h1, h2, h3, h4, h5, h6, h7, h8, h9]
                        have h29 : (x.1.Kind == 1) = false := neb_t h4
                        try simp -implicitDefEqProofs only [go_sem, h1, h2, h3, h4, h5, h6, h7, h8, h9, h29]
                        have h30 : (x.1.Kind == 2) = false := neb_t h6
                        try simp -implicitDefEqProofs only [go_sem, h1, h2, h3, h4, h5, h6, h7, h8, h9, h29, h30]
                        have h31 : (x.1.Kind == 3) = true := neb_f h9
                        try simp -implicitDefEqProofs only [go_sem, h1, h2, h3, h4, h5, h6, h7, h8, h9, h29, h30, h31]
                        by_cases h32 : ((x.1.Parts.length : Int) == 0) = true
                        · replace h := ite_some h h32
                          try simp -implicitDefEqProofs only [go_sem, h1, h2, h3, h4, h5, h6, h7, h8, h9, h29, h30, h31, h32]
                          obtain ⟨r33, h34, h⟩ := bind_some' h
                          refine .plain _ _ rfl (M_ref05_Right.w x.1.A _ h34) ?_
                          try simp -implicitDefEqProofs only [go_sem, h1, h2, h3, h4, h5, h6, h7, h8, h9, h29, h30, h31, h32]
                          injection h with h; subst h
                          first | rfl | simp -implicitDefEqProofs only [go_sem, h1, h2, h3, h4, h5, h6, h7, h8, h9, h29, h30, h31, h32] <;> rfl
                        · replace h := ite_none h h32; replace h32 := bfalse h32
                          try simp -implicitDefEqProofs only [go_sem, h1, h2, h3, h4, h5, h6, h7, h8, h9, h29, h30, h31, h32]
                          injection h with h; subst h
                          first | rfl | simp -implicitDefEqProofs only [go_sem, h1, h2, h3, h4, h5, h6, h7, h8, h9, h29, h30, h31, h32] <;> rfl
                      · intro r27 L' hs' hL'; subst hs'
                        injection h with h; subst h
                        first | exact hL' | (simp -implicitDefEqProofs only [go_sem]; exact hL') | (simp -implicitDefEqProofs only [go_sem]; simp -implicitDefEqProofs only [go_sem] at hL'; exact hL')
                  · replace h := ite_none h h8; replace h8 := bfalse h8
                    try simp -implicitDefEqProofs only [go_sem, h1, h2, h3, h4, h5, h6, h7, h8]
                    injection h with h; subst h
                    first | rfl | simp -implicitDefEqProofs only [go_sem, h1, h2, h3, h4, h5, h6, h7, h8] <;> rfl
              · replace h := ite_none h h6; replace h6 := bfalse h6
                try simp -implicitDefEqProofs only [go_sem, h1, h2, h3, h4, h5, h6]
                obtain ⟨o35, h36, h⟩ := bind_some' h
                refine LLoop.viewQ (LLoop.view [] (by (first | rfl | simp -implicitDefEqProofs only [go_sem, h1, h2, h3, h4, h5, h6] <;> rfl)) (ih_M_ref06_at_l0 (x.2, 0, x.1) _ h36 _ _ _ ?_ ?_))
                · intro s38 hs'; subst hs'
                  try simp -implicitDefEqProofs only [go_sem, h1, h2, h3, h4, h5, h6]
                  have h39 : (x.1.Kind == 1) = false := neb_t h4
                  try simp -implicitDefEqProofs only [go_sem, h1, h2, h3, h4, h5, h6, h39]
                  have h40 : (x.1.Kind == 2) = true := neb_f h6
                  try simp -implicitDefEqProofs only [go_sem, h1, h2, h3, h4, h5, h6, h39, h40]
                  by_cases h41 : ((x.1.Parts.length : Int) == 0) = true
                  · replace h := ite_some h h41
                    try simp -implicitDefEqProofs only [go_sem, h1, h2, h3, h4, h5, h6, h39, h40, h41]
                    by_cases h42 : (decide (x.1.Op ≥ 1)) = true
                    · replace h := ite_some h h42
                      try simp -implicitDefEqProofs only [go_sem, h1, h2, h3, h4, h5, h6, h39, h40, h41, h42]
                      by_cases h43 : (decide (x.1.Op ≤ 6)) = true
                      · replace h := ite_some h h43
                        try simp -implicitDefEqProofs only [go_sem, h1, h2, h3, h4, h5, h6, h39, h40, h41, h42, h43]
                        obtain ⟨r44, h45, h⟩ := bind_some' h
                        refine .plain _ _ rfl (M_ref05_Right.w x.1.A _ h45) ?_
                        try simp -implicitDefEqProofs only [go_sem, h1, h2, h3, h4, h5, h6, h39, h40, h41, h42, h43]
                        by_cases h46 : r44 = true
                        · replace h := ite_some h h46
                          try simp -implicitDefEqProofs only [go_sem, h1, h2, h3, h4, h5, h6, h39, h40, h41, h42, h43, h46]
                          obtain ⟨r47, h48, h⟩ := bind_some' h
                          refine .plain _ _ rfl (M_ref05_Right.w x.1.B _ h48) ?_
                          try simp -implicitDefEqProofs only [go_sem, h1, h2, h3, h4, h5, h6, h39, h40, h41, h42, h43, h46]
                          injection h with h; subst h
                          first | rfl | simp -implicitDefEqProofs only [go_sem, h1, h2, h3, h4, h5, h6, h39, h40, h41, h42, h43, h46] <;> rfl
                        · replace h := ite_none h h46; replace h46 := bfalse h46
                          try simp -implicitDefEqProofs only [go_sem, h1, h2, h3, h4, h5, h6, h39, h40, h41, h42, h43, h46]
                          injection h with h; subst h
                          first | rfl | simp -implicitDefEqProofs only [go_sem, h1, h2, h3, h4, h5, h6, h39, h40, h41, h42, h43, h46] <;> rfl
                      · replace h := ite_none h h43; replace h43 := bfalse h43
                        try simp -implicitDefEqProofs only [go_sem, h1, h2, h3, h4, h5, h6, h39, h40, h41, h42, h43]
                        injection h with h; subst h
                        first | rfl | simp -implicitDefEqProofs only [go_sem, h1, h2, h3, h4, h5, h6, h39, h40, h41, h42, h43] <;> rfl
                    · replace h := ite_none h h42; replace h42 := bfalse h42
                      try simp -implicitDefEqProofs only [go_sem, h1, h2, h3, h4, h5, h6, h39, h40, h41, h42]
                      injection h with h; subst h
                      first | rfl | simp -implicitDefEqProofs only [go_sem, h1, h2, h3, h4, h5, h6, h39, h40, h41, h42] <;> rfl
                  · replace h := ite_none h h41; replace h41 := bfalse h41
                    try simp -implicitDefEqProofs only [go_sem, h1, h2, h3, h4, h5, h6, h39, h40, h41]
                    injection h with h; subst h
                    first | rfl | simp -implicitDefEqProofs only [go_sem, h1, h2, h3, h4, h5, h6, h39, h40, h41] <;> rfl
                · intro r37 L' hs' hL'; subst hs'
                  injection h with h; subst h
                  first | exact hL' | (simp -implicitDefEqProofs only [go_sem]; exact hL') | (simp -implicitDefEqProofs only [go_sem]; simp -implicitDefEqProofs only [go_sem] at hL'; exact hL')
          · replace h := ite_none h h4; replace h4 := bfalse h4
            try simp -implicitDefEqProofs only [go_sem, h1, h2, h3, h4]
            have h49 : (x.1.Kind != 2) = true := by rw [nebI h4]; rfl
            try simp -implicitDefEqProofs only [go_sem, h1, h2, h3, h4, h49]
            by_cases h50 : (x.1.Op != 0) = true
            · replace h := ite_some h h50
              try simp -implicitDefEqProofs only [go_sem, h1, h2, h3, h4, h49, h50]
              injection h with h; subst h
              first | rfl | simp -implicitDefEqProofs only [go_sem, h1, h2, h3, h4, h49, h50] <;> rfl
            · replace h := ite_none h h50; replace h50 := bfalse h50
              try simp -implicitDefEqProofs only [go_sem, h1, h2, h3, h4, h49, h50]
              by_cases h51 : ((x.1.B.Kind == 0) && ((x.1.B.Table == 0) && ((x.1.B.Col == 0) && ((!x.1.B.Value.Null) && (x.1.B.Value.N == 0))))) = true
              · replace h := ite_some h h51
                try simp -implicitDefEqProofs only [go_sem, h1, h2, h3, h4, h49, h50, h51]
                have h52 : (x.1.Kind != 3) = true := by rw [nebI h4]; rfl
                try simp -implicitDefEqProofs only [go_sem, h1, h2, h3, h4, h49, h50, h51, h52]
                by_cases h53 : ((x.1.A.Kind == 0) && ((x.1.A.Table == 0) && ((x.1.A.Col == 0) && ((!x.1.A.Value.Null) && (x.1.A.Value.N == 0))))) = true
                · replace h := ite_some h h53
                  try simp -implicitDefEqProofs only [go_sem, h1, h2, h3, h4, h49, h50, h51, h52, h53]
                  obtain ⟨o54, h55, h⟩ := bind_some' h
                  refine LLoop.viewQ (LLoop.view [] (by (first | rfl | simp -implicitDefEqProofs only [go_sem, h1, h2, h3, h4, h49, h50, h51, h52, h53] <;> rfl)) (ih_M_ref06_at_l0 (x.2, 0, x.1) _ h55 _ _ _ ?_ ?_))
                  · intro s57 hs'; subst hs'
                    try simp -implicitDefEqProofs only [go_sem, h1, h2, h3, h4, h49, h50, h51, h52, h53]
                    have h58 : (x.1.Kind == 1) = true := neb_f h4
                    try simp -implicitDefEqProofs only [go_sem, h1, h2, h3, h4, h49, h50, h51, h52, h53, h58]
                    by_cases h59 : ((x.1.Parts.length : Int) == 0) = true
                    · replace h := ite_some h h59
                      try simp -implicitDefEqProofs only [go_sem, h1, h2, h3, h4, h49, h50, h51, h52, h53, h58, h59]
                      by_cases h60 : (decide (x.1.Truth ≥ 0)) = true
                      · replace h := ite_some h h60
                        try simp -implicitDefEqProofs only [go_sem, h1, h2, h3, h4, h49, h50, h51, h52, h53, h58, h59, h60]
                        injection h with h; subst h
                        first | rfl | simp -implicitDefEqProofs only [go_sem, h1, h2, h3, h4, h49, h50, h51, h52, h53, h58, h59, h60] <;> rfl
                      · replace h := ite_none h h60; replace h60 := bfalse h60
                        try simp -implicitDefEqProofs only [go_sem, h1, h2, h3, h4, h49, h50, h51, h52, h53, h58, h59, h60]
                        injection h with h; subst h
                        first | rfl | simp -implicitDefEqProofs only [go_sem, h1, h2, h3, h4, h49, h50, h51, h52, h53, h58, h59, h60] <;> rfl
                    · replace h := ite_none h h59; replace h59 := bfalse h59
                      try simp -implicitDefEqProofs only [go_sem, h1, h2, h3, h4, h49, h50, h51, h52, h53, h58, h59]
                      injection h with h; subst h
                      first | rfl | simp -implicitDefEqProofs only [go_sem, h1, h2, h3, h4, h49, h50, h51, h52, h53, h58, h59] <;> rfl
                  · intro r56 L' hs' hL'; subst hs'
                    injection h with h; subst h
                    first | exact hL' | (simp -implicitDefEqProofs only [go_sem]; exact hL') | (simp -implicitDefEqProofs only [go_sem]; simp -implicitDefEqProofs only [go_sem] at hL'; exact hL')
                · replace h := ite_none h h53; replace h53 := bfalse h53
                  try simp -implicitDefEqProofs only [go_sem, h1, h2, h3, h4, h49, h50, h51, h52, h53]
                  injection h with h; subst h
                  first | rfl | simp -implicitDefEqProofs only [go_sem, h1, h2, h3, h4, h49, h50, h51, h52, h53] <;> rfl
              · replace h := ite_none h h51; replace h51 := bfalse h51
                try simp -implicitDefEqProofs only [go_sem, h1, h2, h3, h4, h49, h50, h51]
                injection h with h; subst h
                first | rfl | simp -implicitDefEqProofs only [go_sem, h1, h2, h3, h4, h49, h50, h51] <;> rfl
theorem M_ref06_at.w : type_of% (M_ref06_at.l0.ws.2) := (M_ref06_at.l0.ws.2)
end Go.Proofs.Ytcfekacmmfdggaa.G
set_option linter.unusedVariables false
set_option linter.unusedSimpArgs false
set_option maxRecDepth 100000
namespace Go.Proofs.Ytcfekacmmfdggaa.G
theorem lok_150 : (Try.f150.body.isSome && !(Try.f150.name == "runtime.NumGoroutine") && okL (bodyF Try.f150) Try.f150.ntmps (bodyF Try.f150)) = true := by kernel_rfl
def M_ref06_Right (x : T_api_Pred) : Option (Bool) :=
  M_ref06_at (x, 1) >>= fun r1 =>
  some r1
set_option maxHeartbeats 8000000 in
theorem M_ref06_Right.w : ∀ (x : T_api_Pred) (r : Bool), M_ref06_Right x = some r → (fun (x : T_api_Pred) (r : Bool) => Fn Try.prog 150 [.agg (T_api_Pred.C x)] (.bool r)) x r := by
  intro x r h
  rw [M_ref06_Right] at h
  try dsimp only
  refine Fn.of_lc mix fn_150 lok_150 (by rfl) (flC (T_api_Pred.flatC _) (flN)) (.atom _) ?_
  simp -implicitDefEqProofs only [go_sem, Try.f150]
  obtain ⟨r1, h2, h⟩ := bind_some' h
  refine .plain _ _ rfl (M_ref06_at.w (x, 1) _ h2) ?_
  try simp -implicitDefEqProofs only [go_sem]
  injection h with h; subst h
  first | rfl | simp -implicitDefEqProofs only [go_sem] <;> rfl
end Go.Proofs.Ytcfekacmmfdggaa.G
set_option linter.unusedVariables false
set_option linter.unusedSimpArgs false
set_option maxRecDepth 100000
namespace Go.Proofs.Ytcfekacmmfdggaa.G
theorem lok_134 : (Try.f134.body.isSome && !(Try.f134.name == "runtime.NumGoroutine") && okL (bodyF Try.f134) Try.f134.ntmps (bodyF Try.f134)) = true := by kernel_rfl
def M_ref05_Tables (x : T_api_Term) : Option (Set64) :=
  if (x.Kind != 1) = true then
    some (0#64)
  else
    M_ref01_Of ([x.Table]) >>= fun r2 =>
    some r2
set_option maxHeartbeats 8000000 in
theorem M_ref05_Tables.w : ∀ (x : T_api_Term) (r : Set64), M_ref05_Tables x = some r → (fun (x : T_api_Term) (r : Set64) => Fn Try.prog 134 [.agg (T_api_Term.C x)] (.w r)) x r := by
  intro x r h
  rw [M_ref05_Tables] at h
  try dsimp only
  refine Fn.of_lc mix fn_134 lok_134 (by rfl) (flC (T_api_Term.flatC _) (flN)) (.atom _) ?_
  simp -implicitDefEqProofs only [go_sem, Try.f134]
  by_cases h1 : (x.Kind != 1) = true
  · replace h := ite_some h h1
    try simp -implicitDefEqProofs only [go_sem, h1]
    injection h with h; subst h
    first | rfl | simp -implicitDefEqProofs only [go_sem, h1] <;> rfl
  · replace h := ite_none h h1; replace h1 := bfalse h1
    try simp -implicitDefEqProofs only [go_sem, h1]
    obtain ⟨r2, h3, h⟩ := bind_some' h
    have hw := M_ref01_Of.w ([x.Table]) _ h3
    simp -implicitDefEqProofs only [go_sem] at hw
    refine .plain _ _ rfl hw ?_
    clear hw
    try simp -implicitDefEqProofs only [go_sem, h1]
    injection h with h; subst h
    first | rfl | simp -implicitDefEqProofs only [go_sem, h1] <;> rfl
end Go.Proofs.Ytcfekacmmfdggaa.G
set_option linter.unusedVariables false
set_option linter.unusedSimpArgs false
set_option maxRecDepth 100000
namespace Go.Proofs.Ytcfekacmmfdggaa.G
@[go_sem] theorem lrp_98_1 : lrp Try.prog 98 1 = (8, []) := by kernel_rfl
theorem lok_98 : (Try.f98.body.isSome && !(Try.f98.name == "runtime.NumGoroutine") && okL (bodyF Try.f98) Try.f98.ntmps (bodyF Try.f98)) = true := by kernel_rfl
mutual
def M_ref06_Tables.l0 (x : Set64 × Int × T_api_Pred) : Option (Set64) :=
  if (decide (x.2.1 < (x.2.2.Parts.length : Int))) = true then
    (getI x.2.2.Parts x.2.1) >>= fun (e6 : T_api_Pred) =>
    M_ref06_Tables e6 >>= fun r8 =>
    M_ref06_Tables.l0 ((x.1 ||| r8), (w64 (x.2.1 + 1)), x.2.2)
  else
    some x.1
  partial_fixpoint
def M_ref06_Tables (x : T_api_Pred) : Option (Set64) :=
  M_ref05_Tables x.A >>= fun r1 =>
  M_ref05_Tables x.B >>= fun r3 =>
  M_ref06_Tables.l0 ((r1 ||| r3), 0, x) >>= fun (o10 : Set64) =>
  some o10
  partial_fixpoint
end
theorem M_ref06_Tables.l0.ws : (∀ (x : Set64 × Int × T_api_Pred) (o : Set64), M_ref06_Tables.l0 x = some o → (fun (x : Set64 × Int × T_api_Pred) (o : Set64) => ∀ (lo : Option Nat) (c : LCtx) (Q : Exit → LEnv → Prop) (hb : ∀ s : Set64, o = s → Q (.exit 0) ⟨[(3, .v (.w s))], []⟩), LLoop Try.prog 98 lo c 0 (VQ Q) ⟨[(1, .lref 1 0), (3, .v (.w x.1)), (4, .v (.i64 x.2.1))], [(1, [.v (.i64 x.2.2.Kind), .v (.i64 x.2.2.Truth), .v (.i64 x.2.2.Op), .v (.i64 x.2.2.A.Kind), .v (.i64 x.2.2.A.Table), .v (.i64 x.2.2.A.Col), .v (.bool x.2.2.A.Value.Null), .v (.i64 x.2.2.A.Value.N), .v (.i64 x.2.2.B.Kind), .v (.i64 x.2.2.B.Table), .v (.i64 x.2.2.B.Col), .v (.bool x.2.2.B.Value.Null), .v (.i64 x.2.2.B.Value.N), .v (.slice .foreign (x.2.2.Parts.map T_api_Pred.av))])]⟩) x o) ∧ (∀ (x : T_api_Pred) (o : Set64), M_ref06_Tables x = some o → (fun (x : T_api_Pred) (r : Set64) => Fn Try.prog 98 [.agg (T_api_Pred.C x)] (.w r)) x o) := by
  refine M_ref06_Tables.l0.mutual_partial_correctness _ _ ?_ ?_
  · intro M_M_ref06_Tables_l0 M_M_ref06_Tables ih_M_ref06_Tables_l0 ih_M_ref06_Tables x o h
    intro lo c Q hb
    refine LLoop.step mix fn_98 (by kernel_rfl) ?_
    simp -implicitDefEqProofs only [go_sem, Try.f98]
    by_cases h5 : (decide (x.2.1 < (x.2.2.Parts.length : Int))) = true
    · replace h := ite_some h h5
      try simp -implicitDefEqProofs only [go_sem, h5]
      obtain ⟨e6, h7, h⟩ := bind_some' h; replace h7 := getI_some h7; obtain ⟨h7', h7⟩ := h7
      try simp -implicitDefEqProofs only [go_sem, h5, h7, h7']
      obtain ⟨r8, h9, h⟩ := bind_some' h
      refine .plain _ _ rfl (ih_M_ref06_Tables e6 _ h9) ?_
      try simp -implicitDefEqProofs only [go_sem, h5, h7, h7']
      exact LLoop.view [] (by (first | rfl | simp -implicitDefEqProofs only [go_sem, h5, h7, h7'] <;> rfl)) (ih_M_ref06_Tables_l0 _ _ h lo c Q hb)
    · replace h := ite_none h h5; replace h5 := bfalse h5
      try simp -implicitDefEqProofs only [go_sem, h5]
      injection h with h; subst h
      exact .inr ⟨[], _, by (simp -implicitDefEqProofs only [go_sem, h5] <;> first | done | rfl | trivial), hb _ rfl⟩
  · intro M_M_ref06_Tables_l0 ih_M_ref06_Tables_l0 x r h
    refine Fn.of_lc mix fn_98 lok_98 (by rfl) (flC (T_api_Pred.flatC _) (flN)) (.atom _) ?_
    simp -implicitDefEqProofs only [go_sem, Try.f98]
    obtain ⟨r1, h2, h⟩ := bind_some' h
    refine .plain _ _ rfl (M_ref05_Tables.w x.A _ h2) ?_
    try simp -implicitDefEqProofs only [go_sem]
    obtain ⟨r3, h4, h⟩ := bind_some' h
    refine .plain _ _ rfl (M_ref05_Tables.w x.B _ h4) ?_
    try simp -implicitDefEqProofs only [go_sem]
    obtain ⟨o10, h11, h⟩ := bind_some' h
    refine LLoop.viewQ (LLoop.view [] (by (first | rfl | simp -implicitDefEqProofs only [go_sem] <;> rfl)) (ih_M_ref06_Tables_l0 ((r1 ||| r3), 0, x) _ h11 _ _ _ ?_))
    intro s' hs'; subst hs'
    try simp -implicitDefEqProofs only [go_sem]
    injection h with h; subst h
    first | rfl | simp -implicitDefEqProofs only [go_sem] <;> rfl
theorem M_ref06_Tables.w : type_of% (M_ref06_Tables.l0.ws.2) := (M_ref06_Tables.l0.ws.2)
end Go.Proofs.Ytcfekacmmfdggaa.G
set_option linter.unusedVariables false
set_option linter.unusedSimpArgs false
set_option maxRecDepth 100000
namespace Go.Proofs.Ytcfekacmmfdggaa.G
@[go_sem] theorem lrp_145_7 : lrp Try.prog 145 7 = (34, []) := by kernel_rfl
theorem lok_145 : (Try.f145.body.isSome && !(Try.f145.name == "runtime.NumGoroutine") && okL (bodyF Try.f145) Try.f145.ntmps (bodyF Try.f145)) = true := by kernel_rfl
def M_ref11_conj.l0 (x : List Int × Set64 × Set64 × List A2_Int × Int × T_api_Pred) : Option (Lp (Unit) (Int)) :=
  if (decide (x.2.2.2.2.1 < (x.2.2.2.1.length : Int))) = true then
    (getI x.2.2.2.1 x.2.2.2.2.1) >>= fun (e7 : A2_Int) =>
    M_ref01_Has (x.2.1, e7.e0) >>= fun r9 =>
    if r9 = true then
      (getI x.1 e7.e0) >>= fun (e12 : Int) =>
      if (decide (e7.e1 ≥ e12)) = true then
        some (.ret 10)
      else
        M_ref11_conj.l0 (x.1, x.2.1, x.2.2.1, x.2.2.2.1, (w64 (x.2.2.2.2.1 + 1)), x.2.2.2.2.2)
    else
      M_ref01_Has (x.2.2.1, e7.e0) >>= fun r15 =>
      if r15 = true then
        (getI x.1 e7.e0) >>= fun (e18 : Int) =>
        if (decide (e7.e1 ≥ e18)) = true then
          some (.ret 10)
        else
          M_ref11_conj.l0 (x.1, x.2.1, x.2.2.1, x.2.2.2.1, (w64 (x.2.2.2.2.1 + 1)), x.2.2.2.2.2)
      else
        some (.ret 10)
  else
    some (.brk ())
  partial_fixpoint
theorem M_ref11_conj.l0.ws : (∀ (x : List Int × Set64 × Set64 × List A2_Int × Int × T_api_Pred) (o : Lp (Unit) (Int)), M_ref11_conj.l0 x = some o → (fun (x : List Int × Set64 × Set64 × List A2_Int × Int × T_api_Pred) (o : Lp (Unit) (Int)) => ∀ (lo : Option Nat) (c : LCtx) (Q : Exit → LEnv → Prop) (hb : ∀ s : Unit, o = Lp.brk s → Q (.exit 0) ⟨[(2, .v (.w x.2.1)), (3, .v (.w x.2.2.1)), (4, .lref 4 0)], [(4, [.v (.i64 x.2.2.2.2.2.Kind), .v (.i64 x.2.2.2.2.2.Truth), .v (.i64 x.2.2.2.2.2.Op), .v (.i64 x.2.2.2.2.2.A.Kind), .v (.i64 x.2.2.2.2.2.A.Table), .v (.i64 x.2.2.2.2.2.A.Col), .v (.bool x.2.2.2.2.2.A.Value.Null), .v (.i64 x.2.2.2.2.2.A.Value.N), .v (.i64 x.2.2.2.2.2.B.Kind), .v (.i64 x.2.2.2.2.2.B.Table), .v (.i64 x.2.2.2.2.2.B.Col), .v (.bool x.2.2.2.2.2.B.Value.Null), .v (.i64 x.2.2.2.2.2.B.Value.N), .v (.slice .foreign (x.2.2.2.2.2.Parts.map T_api_Pred.av))])]⟩) (hr : ∀ (r : Int) (L : LEnv), o = .ret r → LPostF Try.prog [.tmp 8] (.i64 r) (fun _ => True) .ret L → Q .ret L), LLoop Try.prog 145 lo c 0 (VQ Q) ⟨[(1, .v (.slice .foreign (x.1.map AV.i64))), (2, .v (.w x.2.1)), (3, .v (.w x.2.2.1)), (4, .lref 4 0), (9, .v (.slice .foreign (x.2.2.2.1.map A2_Int.av))), (10, .v (.i64 x.2.2.2.2.1))], [(4, [.v (.i64 x.2.2.2.2.2.Kind), .v (.i64 x.2.2.2.2.2.Truth), .v (.i64 x.2.2.2.2.2.Op), .v (.i64 x.2.2.2.2.2.A.Kind), .v (.i64 x.2.2.2.2.2.A.Table), .v (.i64 x.2.2.2.2.2.A.Col), .v (.bool x.2.2.2.2.2.A.Value.Null), .v (.i64 x.2.2.2.2.2.A.Value.N), .v (.i64 x.2.2.2.2.2.B.Kind), .v (.i64 x.2.2.2.2.2.B.Table), .v (.i64 x.2.2.2.2.2.B.Col), .v (.bool x.2.2.2.2.2.B.Value.Null), .v (.i64 x.2.2.2.2.2.B.Value.N), .v (.slice .foreign (x.2.2.2.2.2.Parts.map T_api_Pred.av))])]⟩) x o) := by
  refine M_ref11_conj.l0.partial_correctness _ ?_
  · intro M_M_ref11_conj_l0 ih_M_ref11_conj_l0 x o h
    intro lo c Q hb hr
    refine LLoop.step mix fn_145 (by kernel_rfl) ?_
    simp -implicitDefEqProofs only [go_sem, Try.f145]
    by_cases h6 : (decide (x.2.2.2.2.1 < (x.2.2.2.1.length : Int))) = true
    · replace h := ite_some h h6
      try simp -implicitDefEqProofs only [go_sem, h6]
      obtain ⟨e7, h8, h⟩ := bind_some' h; replace h8 := getI_some h8; obtain ⟨h8', h8⟩ := h8
      try simp -implicitDefEqProofs only [go_sem, h6, h8, h8']
      obtain ⟨r9, h10, h⟩ := bind_some' h
      refine .plain _ _ rfl (M_ref01_Has.w (x.2.1, e7.e0) _ h10) ?_
      try simp -implicitDefEqProofs only [go_sem, h6, h8, h8']
      by_cases h11 : r9 = true
      · replace h := ite_some h h11
        try simp -implicitDefEqProofs only [go_sem, h6, h8, h8', h11]
        obtain ⟨e12, h13, h⟩ := bind_some' h; replace h13 := getI_some h13; obtain ⟨h13', h13⟩ := h13
        try simp -implicitDefEqProofs only [go_sem, h6, h8, h8', h11, h13, h13']
        by_cases h14 : (decide (e7.e1 ≥ e12)) = true
        · replace h := ite_some h h14
          try simp -implicitDefEqProofs only [go_sem, h6, h8, h8', h11, h13, h13', h14]
          injection h with h; subst h
          exact .inl (hr _ _ rfl (by (first | rfl | simp -implicitDefEqProofs only [go_sem, h6, h8, h8', h11, h13, h13', h14] <;> rfl)))
        · replace h := ite_none h h14; replace h14 := bfalse h14
          try simp -implicitDefEqProofs only [go_sem, h6, h8, h8', h11, h13, h13', h14]
          exact LLoop.view [] (by (first | rfl | simp -implicitDefEqProofs only [go_sem, h6, h8, h8', h11, h13, h13', h14] <;> rfl)) (ih_M_ref11_conj_l0 _ _ h lo c Q hb hr)
      · replace h := ite_none h h11; replace h11 := bfalse h11
        try simp -implicitDefEqProofs only [go_sem, h6, h8, h8', h11]
        obtain ⟨r15, h16, h⟩ := bind_some' h
        refine .plain _ _ rfl (M_ref01_Has.w (x.2.2.1, e7.e0) _ h16) ?_
        try simp -implicitDefEqProofs only [go_sem, h6, h8, h8', h11]
        by_cases h17 : r15 = true
        · replace h := ite_some h h17
          try simp -implicitDefEqProofs only [go_sem, h6, h8, h8', h11, h17]
          obtain ⟨e18, h19, h⟩ := bind_some' h; replace h19 := getI_some h19; obtain ⟨h19', h19⟩ := h19
          try simp -implicitDefEqProofs only [go_sem, h6, h8, h8', h11, h17, h19, h19']
          by_cases h20 : (decide (e7.e1 ≥ e18)) = true
          · replace h := ite_some h h20
            try simp -implicitDefEqProofs only [go_sem, h6, h8, h8', h11, h17, h19, h19', h20]
            injection h with h; subst h
            exact .inl (hr _ _ rfl (by (first | rfl | simp -implicitDefEqProofs only [go_sem, h6, h8, h8', h11, h17, h19, h19', h20] <;> rfl)))
          · replace h := ite_none h h20; replace h20 := bfalse h20
            try simp -implicitDefEqProofs only [go_sem, h6, h8, h8', h11, h17, h19, h19', h20]
            exact LLoop.view [] (by (first | rfl | simp -implicitDefEqProofs only [go_sem, h6, h8, h8', h11, h17, h19, h19', h20] <;> rfl)) (ih_M_ref11_conj_l0 _ _ h lo c Q hb hr)
        · replace h := ite_none h h17; replace h17 := bfalse h17
          try simp -implicitDefEqProofs only [go_sem, h6, h8, h8', h11, h17]
          injection h with h; subst h
          exact .inl (hr _ _ rfl (by (first | rfl | simp -implicitDefEqProofs only [go_sem, h6, h8, h8', h11, h17] <;> rfl)))
    · replace h := ite_none h h6; replace h6 := bfalse h6
      try simp -implicitDefEqProofs only [go_sem, h6]
      injection h with h; subst h
      exact .inr ⟨[], _, by (simp -implicitDefEqProofs only [go_sem, h6] <;> first | done | rfl | trivial), hb _ rfl⟩
theorem M_ref11_conj.l0.w : type_of% @M_ref11_conj.l0.ws := @M_ref11_conj.l0.ws
def M_ref11_conj (x : T_api_Pred × List Int × Set64 × Set64) : Option (Int) :=
  M_ref06_Right x.1 >>= fun r1 =>
  if r1 = true then
    M_ref06_Columns x.1 >>= fun r4 =>
    M_ref11_conj.l0 (x.2.1, x.2.2.1, x.2.2.2, r4, 0, x.1) >>= fun (o21 : Lp (Unit) (Int)) => match o21 with
    | .brk s24 =>
      M_ref06_Tables x.1 >>= fun r25 =>
      if ((r25 &&& x.2.2.1) == 0#64) = true then
        some 11
      else
        if ((r25 &&& x.2.2.2) == 0#64) = true then
          some 11
        else
          some 0
    | .ret r23 =>
      some r23
  else
    some 9
set_option maxHeartbeats 8000000 in
theorem M_ref11_conj.w : ∀ (x : T_api_Pred × List Int × Set64 × Set64) (r : Int), M_ref11_conj x = some r → (fun (x : T_api_Pred × List Int × Set64 × Set64) (r : Int) => Fn Try.prog 145 [.agg (T_api_Pred.C x.1), .slice .foreign (x.2.1.map AV.i64), .w x.2.2.1, .w x.2.2.2] (.i64 r)) x r := by
  intro x r h
  rw [M_ref11_conj] at h
  try dsimp only
  refine Fn.of_lc mix fn_145 lok_145 (by rfl) (flC (T_api_Pred.flatC _) (flC (flat_slice _ (fun _ => .atom _) _) (flC (.atom _) (flC (.atom _) (flN))))) (.atom _) ?_
  simp -implicitDefEqProofs only [go_sem, Try.f145]
  obtain ⟨r1, h2, h⟩ := bind_some' h
  refine .plain _ _ rfl (M_ref06_Right.w x.1 _ h2) ?_
  try simp -implicitDefEqProofs only [go_sem]
  by_cases h3 : r1 = true
  · replace h := ite_some h h3
    try simp -implicitDefEqProofs only [go_sem, h3]
    obtain ⟨r4, h5, h⟩ := bind_some' h
    refine .plain _ _ rfl (M_ref06_Columns.w x.1 _ h5) ?_
    try simp -implicitDefEqProofs only [go_sem, h3]
    obtain ⟨o21, h22, h⟩ := bind_some' h
    refine LLoop.viewQ (LLoop.view [] (by (first | rfl | simp -implicitDefEqProofs only [go_sem, h3] <;> rfl)) (M_ref11_conj.l0.w (x.2.1, x.2.2.1, x.2.2.2, r4, 0, x.1) _ h22 _ _ _ ?_ ?_))
    · intro s24 hs'; subst hs'
      try simp -implicitDefEqProofs only [go_sem, h3]
      obtain ⟨r25, h26, h⟩ := bind_some' h
      refine .plain _ _ rfl (M_ref06_Tables.w x.1 _ h26) ?_
      try simp -implicitDefEqProofs only [go_sem, h3]
      by_cases h27 : ((r25 &&& x.2.2.1) == 0#64) = true
      · replace h := ite_some h h27
        try simp -implicitDefEqProofs only [go_sem, h3, h27]
        injection h with h; subst h
        first | rfl | simp -implicitDefEqProofs only [go_sem, h3, h27] <;> rfl
      · replace h := ite_none h h27; replace h27 := bfalse h27
        try simp -implicitDefEqProofs only [go_sem, h3, h27]
        by_cases h28 : ((r25 &&& x.2.2.2) == 0#64) = true
        · replace h := ite_some h h28
          try simp -implicitDefEqProofs only [go_sem, h3, h27, h28]
          injection h with h; subst h
          first | rfl | simp -implicitDefEqProofs only [go_sem, h3, h27, h28] <;> rfl
        · replace h := ite_none h h28; replace h28 := bfalse h28
          try simp -implicitDefEqProofs only [go_sem, h3, h27, h28]
          injection h with h; subst h
          first | rfl | simp -implicitDefEqProofs only [go_sem, h3, h27, h28] <;> rfl
    · intro r23 L' hs' hL'; subst hs'
      injection h with h; subst h
      first | exact hL' | (simp -implicitDefEqProofs only [go_sem]; exact hL') | (simp -implicitDefEqProofs only [go_sem]; simp -implicitDefEqProofs only [go_sem] at hL'; exact hL')
  · replace h := ite_none h h3; replace h3 := bfalse h3
    try simp -implicitDefEqProofs only [go_sem, h3]
    injection h with h; subst h
    first | rfl | simp -implicitDefEqProofs only [go_sem, h3] <;> rfl
end Go.Proofs.Ytcfekacmmfdggaa.G
set_option linter.unusedVariables false
set_option linter.unusedSimpArgs false
set_option maxRecDepth 100000
namespace Go.Proofs.Ytcfekacmmfdggaa.G
@[go_sem] theorem lrp_114_15 : lrp Try.prog 114 15 = (7, []) := by kernel_rfl
@[go_sem] theorem lrp_114_27 : lrp Try.prog 114 27 = (18, []) := by kernel_rfl
theorem lok_114 : (Try.f114.body.isSome && !(Try.f114.name == "runtime.NumGoroutine") && okL (bodyF Try.f114) Try.f114.ntmps (bodyF Try.f114)) = true := by kernel_rfl
def M_ref11_one.l0 (x : List Int × Int × T_api_Tree) : Option (Lp (Unit) (Int)) :=
  if (decide (x.2.1 < (x.1.length : Int))) = true then
    (getI x.1 x.2.1) >>= fun (e10 : Int) =>
    if (e10 == x.2.2.Table) = true then
      some (.ret 6)
    else
      M_ref11_one.l0 (x.1, (w64 (x.2.1 + 1)), x.2.2)
  else
    some (.brk ())
  partial_fixpoint
theorem M_ref11_one.l0.ws : (∀ (x : List Int × Int × T_api_Tree) (o : Lp (Unit) (Int)), M_ref11_one.l0 x = some o → (fun (x : List Int × Int × T_api_Tree) (o : Lp (Unit) (Int)) => ∀ (lo : Option Nat) (c : LCtx) (Q : Exit → LEnv → Prop) (hb : ∀ s : Unit, o = Lp.brk s → Q (.exit 0) ⟨[], []⟩) (hr : ∀ (r : Int) (L : LEnv), o = .ret r → LPostF Try.prog [.tmp 8] (.i64 r) (fun _ => True) .ret L → Q .ret L), LLoop Try.prog 114 lo c 0 (VQ Q) ⟨[(2, .v (.slice .foreign (x.1.map AV.i64))), (4, .lref 4 0), (9, .v (.i64 x.2.1))], [(4, [.v (.i64 x.2.2.Kind), .v (.i64 x.2.2.Table), .v (.slice .foreign (x.2.2.Kids.map T_api_Tree.av)), .v (.slice .foreign (x.2.2.Conj.map T_api_Pred.av)), .v (.bool x.2.2.Hash)])]⟩) x o) := by
  refine M_ref11_one.l0.partial_correctness _ ?_
  · intro M_M_ref11_one_l0 ih_M_ref11_one_l0 x o h
    intro lo c Q hb hr
    refine LLoop.step mix fn_114 (by kernel_rfl) ?_
    simp -implicitDefEqProofs only [go_sem, Try.f114]
    by_cases h9 : (decide (x.2.1 < (x.1.length : Int))) = true
    · replace h := ite_some h h9
      try simp -implicitDefEqProofs only [go_sem, h9]
      obtain ⟨e10, h11, h⟩ := bind_some' h; replace h11 := getI_some h11; obtain ⟨h11', h11⟩ := h11
      try simp -implicitDefEqProofs only [go_sem, h9, h11, h11']
      by_cases h12 : (e10 == x.2.2.Table) = true
      · replace h := ite_some h h12
        try simp -implicitDefEqProofs only [go_sem, h9, h11, h11', h12]
        injection h with h; subst h
        exact .inl (hr _ _ rfl (by (first | rfl | simp -implicitDefEqProofs only [go_sem, h9, h11, h11', h12] <;> rfl)))
      · replace h := ite_none h h12; replace h12 := bfalse h12
        try simp -implicitDefEqProofs only [go_sem, h9, h11, h11', h12]
        exact LLoop.view [] (by (first | rfl | simp -implicitDefEqProofs only [go_sem, h9, h11, h11', h12] <;> rfl)) (ih_M_ref11_one_l0 _ _ h lo c Q hb hr)
    · replace h := ite_none h h9; replace h9 := bfalse h9
      try simp -implicitDefEqProofs only [go_sem, h9]
      injection h with h; subst h
      exact .inr ⟨[], _, by (simp -implicitDefEqProofs only [go_sem, h9] <;> first | done | rfl | trivial), hb _ rfl⟩
theorem M_ref11_one.l0.w : type_of% @M_ref11_one.l0.ws := @M_ref11_one.l0.ws
def M_ref11_one.l1 (x : List Int × Int × T_api_Tree) : Option (Lp (Unit) (Int)) :=
  if (decide (x.2.1 < (x.2.2.Conj.length : Int))) = true then
    (getI x.2.2.Conj x.2.1) >>= fun (e22 : T_api_Pred) =>
    (x.2.2.Kids[0]?) >>= fun (e24 : T_api_Tree) =>
    M_ref10_Seen e24 >>= fun r26 =>
    (x.2.2.Kids[1]?) >>= fun (e28 : T_api_Tree) =>
    M_ref10_Seen e28 >>= fun r30 =>
    M_ref11_conj (e22, x.1, r26, r30) >>= fun r32 =>
    if (r32 != 0) = true then
      some (.ret r32)
    else
      M_ref11_one.l1 (x.1, (w64 (x.2.1 + 1)), x.2.2)
  else
    some (.brk ())
  partial_fixpoint
theorem M_ref11_one.l1.ws : (∀ (x : List Int × Int × T_api_Tree) (o : Lp (Unit) (Int)), M_ref11_one.l1 x = some o → (fun (x : List Int × Int × T_api_Tree) (o : Lp (Unit) (Int)) => ∀ (lo : Option Nat) (c : LCtx) (Q : Exit → LEnv → Prop) (hb : ∀ s : Unit, o = Lp.brk s → Q (.exit 2) ⟨[], []⟩) (hr : ∀ (r : Int) (L : LEnv), o = .ret r → LPostF Try.prog [.tmp 8] (.i64 r) (fun _ => True) .ret L → Q .ret L), LLoop Try.prog 114 lo c 1 (VQ Q) ⟨[(1, .v (.slice .foreign (x.1.map AV.i64))), (4, .lref 4 0), (10, .v (.i64 x.2.1))], [(4, [.v (.i64 x.2.2.Kind), .v (.i64 x.2.2.Table), .v (.slice .foreign (x.2.2.Kids.map T_api_Tree.av)), .v (.slice .foreign (x.2.2.Conj.map T_api_Pred.av)), .v (.bool x.2.2.Hash)])]⟩) x o) := by
  refine M_ref11_one.l1.partial_correctness _ ?_
  · intro M_M_ref11_one_l1 ih_M_ref11_one_l1 x o h
    intro lo c Q hb hr
    refine LLoop.step mix fn_114 (by kernel_rfl) ?_
    simp -implicitDefEqProofs only [go_sem, Try.f114]
    by_cases h21 : (decide (x.2.1 < (x.2.2.Conj.length : Int))) = true
    · replace h := ite_some h h21
      try simp -implicitDefEqProofs only [go_sem, h21]
      obtain ⟨e22, h23, h⟩ := bind_some' h; replace h23 := getI_some h23; obtain ⟨h23', h23⟩ := h23
      try simp -implicitDefEqProofs only [go_sem, h21, h23, h23']
      obtain ⟨e24, h25, h⟩ := bind_some' h
      try simp -implicitDefEqProofs only [go_sem, h21, h23, h23', h25]
      obtain ⟨r26, h27, h⟩ := bind_some' h
      refine .plain _ _ rfl (M_ref10_Seen.w e24 _ h27) ?_
      try simp -implicitDefEqProofs only [go_sem, h21, h23, h23', h25]
      obtain ⟨e28, h29, h⟩ := bind_some' h
      try simp -implicitDefEqProofs only [go_sem, h21, h23, h23', h25, h29]
      obtain ⟨r30, h31, h⟩ := bind_some' h
      refine .plain _ _ rfl (M_ref10_Seen.w e28 _ h31) ?_
      try simp -implicitDefEqProofs only [go_sem, h21, h23, h23', h25, h29]
      obtain ⟨r32, h33, h⟩ := bind_some' h
      refine .plain _ _ rfl (M_ref11_conj.w (e22, x.1, r26, r30) _ h33) ?_
      try simp -implicitDefEqProofs only [go_sem, h21, h23, h23', h25, h29]
      by_cases h34 : (r32 != 0) = true
      · replace h := ite_some h h34
        try simp -implicitDefEqProofs only [go_sem, h21, h23, h23', h25, h29, h34]
        injection h with h; subst h
        exact .inl (hr _ _ rfl (by (first | rfl | simp -implicitDefEqProofs only [go_sem, h21, h23, h23', h25, h29, h34] <;> rfl)))
      · replace h := ite_none h h34; replace h34 := bfalse h34
        try simp -implicitDefEqProofs only [go_sem, h21, h23, h23', h25, h29, h34]
        exact LLoop.view [] (by (first | rfl | simp -implicitDefEqProofs only [go_sem, h21, h23, h23', h25, h29, h34] <;> rfl)) (ih_M_ref11_one_l1 _ _ h lo c Q hb hr)
    · replace h := ite_none h h21; replace h21 := bfalse h21
      try simp -implicitDefEqProofs only [go_sem, h21]
      injection h with h; subst h
      exact .inr ⟨[], _, by (simp -implicitDefEqProofs only [go_sem, h21] <;> first | done | rfl | trivial), hb _ rfl⟩
theorem M_ref11_one.l1.w : type_of% @M_ref11_one.l1.ws := @M_ref11_one.l1.ws
def M_ref11_one (x : T_api_Tree × List Int × List Int × Int) : Option (Int) :=
  if (decide (x.1.Kind < 0)) = true then
    some 4
  else
    if (decide (x.1.Kind > 4)) = true then
      some 4
    else
      if (x.1.Kind == 0) = true then
        if x.1.Hash = true then
          some 4
        else
          if (decide ((x.1.Kids.length : Int) > 0)) = true then
            some 7
          else
            if (decide ((x.1.Conj.length : Int) > 0)) = true then
              some 8
            else
              if (decide (x.1.Table < 0)) = true then
                some 5
              else
                if (decide (x.1.Table ≥ (x.2.1.length : Int))) = true then
                  some 5
                else
                  M_ref11_one.l0 (x.2.2.1, 0, x.1) >>= fun (o13 : Lp (Unit) (Int)) => match o13 with
                  | .brk s16 =>
                    some 0
                  | .ret r15 =>
                    some r15
      else
        if ((x.1.Kids.length : Int) != 2) = true then
          some 7
        else
          if ((x.1.Conj.length : Int) == 0) = true then
            some 8
          else
            if (decide ((w64 (x.2.2.2 + (x.1.Conj.length : Int))) > 64)) = true then
              some 8
            else
              if (x.1.Table != 0) = true then
                some 5
              else
                M_ref11_one.l1 (x.2.1, 0, x.1) >>= fun (o35 : Lp (Unit) (Int)) => match o35 with
                | .brk s38 =>
                  some 0
                | .ret r37 =>
                  some r37
set_option maxHeartbeats 8000000 in
theorem M_ref11_one.w : ∀ (x : T_api_Tree × List Int × List Int × Int) (r : Int), M_ref11_one x = some r → (fun (x : T_api_Tree × List Int × List Int × Int) (r : Int) => Fn Try.prog 114 [.agg (T_api_Tree.C x.1), .slice .foreign (x.2.1.map AV.i64), .slice .foreign (x.2.2.1.map AV.i64), .i64 x.2.2.2] (.i64 r)) x r := by
  intro x r h
  rw [M_ref11_one] at h
  try dsimp only
  refine Fn.of_lc mix fn_114 lok_114 (by rfl) (flC (T_api_Tree.flatC _) (flC (flat_slice _ (fun _ => .atom _) _) (flC (flat_slice _ (fun _ => .atom _) _) (flC (.atom _) (flN))))) (.atom _) ?_
  simp -implicitDefEqProofs only [go_sem, Try.f114]
  by_cases h1 : (decide (x.1.Kind < 0)) = true
  · replace h := ite_some h h1
    try simp -implicitDefEqProofs only [go_sem, h1]
    injection h with h; subst h
    first | rfl | simp -implicitDefEqProofs only [go_sem, h1] <;> rfl
  · replace h := ite_none h h1; replace h1 := bfalse h1
    try simp -implicitDefEqProofs only [go_sem, h1]
    by_cases h2 : (decide (x.1.Kind > 4)) = true
    · replace h := ite_some h h2
      try simp -implicitDefEqProofs only [go_sem, h1, h2]
      injection h with h; subst h
      first | rfl | simp -implicitDefEqProofs only [go_sem, h1, h2] <;> rfl
    · replace h := ite_none h h2; replace h2 := bfalse h2
      try simp -implicitDefEqProofs only [go_sem, h1, h2]
      by_cases h3 : (x.1.Kind == 0) = true
      · replace h := ite_some h h3
        try simp -implicitDefEqProofs only [go_sem, h1, h2, h3]
        by_cases h4 : x.1.Hash = true
        · replace h := ite_some h h4
          try simp -implicitDefEqProofs only [go_sem, h1, h2, h3, h4]
          injection h with h; subst h
          first | rfl | simp -implicitDefEqProofs only [go_sem, h1, h2, h3, h4] <;> rfl
        · replace h := ite_none h h4; replace h4 := bfalse h4
          try simp -implicitDefEqProofs only [go_sem, h1, h2, h3, h4]
          by_cases h5 : (decide ((x.1.Kids.length : Int) > 0)) = true
          · replace h := ite_some h h5
            try simp -implicitDefEqProofs only [go_sem, h1, h2, h3, h4, h5]
            injection h with h; subst h
            first | rfl | simp -implicitDefEqProofs only [go_sem, h1, h2, h3, h4, h5] <;> rfl
          · replace h := ite_none h h5; replace h5 := bfalse h5
            try simp -implicitDefEqProofs only [go_sem, h1, h2, h3, h4, h5]
            by_cases h6 : (decide ((x.1.Conj.length : Int) > 0)) = true
            · replace h := ite_some h h6
              try simp -implicitDefEqProofs only [go_sem, h1, h2, h3, h4, h5, h6]
              injection h with h; subst h
              first | rfl | simp -implicitDefEqProofs only [go_sem, h1, h2, h3, h4, h5, h6] <;> rfl
            · replace h := ite_none h h6; replace h6 := bfalse h6
              try simp -implicitDefEqProofs only [go_sem, h1, h2, h3, h4, h5, h6]
              by_cases h7 : (decide (x.1.Table < 0)) = true
              · replace h := ite_some h h7
                try simp -implicitDefEqProofs only [go_sem, h1, h2, h3, h4, h5, h6, h7]
                injection h with h; subst h
                first | rfl | simp -implicitDefEqProofs only [go_sem, h1, h2, h3, h4, h5, h6, h7] <;> rfl
              · replace h := ite_none h h7; replace h7 := bfalse h7
                try simp -implicitDefEqProofs only [go_sem, h1, h2, h3, h4, h5, h6, h7]
                by_cases h8 : (decide (x.1.Table ≥ (x.2.1.length : Int))) = true
                · replace h := ite_some h h8
                  try simp -implicitDefEqProofs only [go_sem, h1, h2, h3, h4, h5, h6, h7, h8]
                  injection h with h; subst h
                  first | rfl | simp -implicitDefEqProofs only [go_sem, h1, h2, h3, h4, h5, h6, h7, h8] <;> rfl
                · replace h := ite_none h h8; replace h8 := bfalse h8
                  try simp -implicitDefEqProofs only [go_sem, h1, h2, h3, h4, h5, h6, h7, h8]
                  obtain ⟨o13, h14, h⟩ := bind_some' h
                  refine LLoop.viewQ (LLoop.view [] (by (first | rfl | simp -implicitDefEqProofs only [go_sem, h1, h2, h3, h4, h5, h6, h7, h8] <;> rfl)) (M_ref11_one.l0.w (x.2.2.1, 0, x.1) _ h14 _ _ _ ?_ ?_))
                  · intro s16 hs'; subst hs'
                    try simp -implicitDefEqProofs only [go_sem, h1, h2, h3, h4, h5, h6, h7, h8]
                    injection h with h; subst h
                    first | rfl | simp -implicitDefEqProofs only [go_sem, h1, h2, h3, h4, h5, h6, h7, h8] <;> rfl
                  · intro r15 L' hs' hL'; subst hs'
                    injection h with h; subst h
                    first | exact hL' | (simp -implicitDefEqProofs only [go_sem]; exact hL') | (simp -implicitDefEqProofs only [go_sem]; simp -implicitDefEqProofs only [go_sem] at hL'; exact hL')
      · replace h := ite_none h h3; replace h3 := bfalse h3
        try simp -implicitDefEqProofs only [go_sem, h1, h2, h3]
        by_cases h17 : ((x.1.Kids.length : Int) != 2) = true
        · replace h := ite_some h h17
          try simp -implicitDefEqProofs only [go_sem, h1, h2, h3, h17]
          injection h with h; subst h
          first | rfl | simp -implicitDefEqProofs only [go_sem, h1, h2, h3, h17] <;> rfl
        · replace h := ite_none h h17; replace h17 := bfalse h17
          try simp -implicitDefEqProofs only [go_sem, h1, h2, h3, h17]
          by_cases h18 : ((x.1.Conj.length : Int) == 0) = true
          · replace h := ite_some h h18
            try simp -implicitDefEqProofs only [go_sem, h1, h2, h3, h17, h18]
            injection h with h; subst h
            first | rfl | simp -implicitDefEqProofs only [go_sem, h1, h2, h3, h17, h18] <;> rfl
          · replace h := ite_none h h18; replace h18 := bfalse h18
            try simp -implicitDefEqProofs only [go_sem, h1, h2, h3, h17, h18]
            by_cases h19 : (decide ((w64 (x.2.2.2 + (x.1.Conj.length : Int))) > 64)) = true
            · replace h := ite_some h h19
              try simp -implicitDefEqProofs only [go_sem, h1, h2, h3, h17, h18, h19]
              injection h with h; subst h
              first | rfl | simp -implicitDefEqProofs only [go_sem, h1, h2, h3, h17, h18, h19] <;> rfl
            · replace h := ite_none h h19; replace h19 := bfalse h19
              try simp -implicitDefEqProofs only [go_sem, h1, h2, h3, h17, h18, h19]
              by_cases h20 : (x.1.Table != 0) = true
              · replace h := ite_some h h20
                try simp -implicitDefEqProofs only [go_sem, h1, h2, h3, h17, h18, h19, h20]
                injection h with h; subst h
                first | rfl | simp -implicitDefEqProofs only [go_sem, h1, h2, h3, h17, h18, h19, h20] <;> rfl
              · replace h := ite_none h h20; replace h20 := bfalse h20
                try simp -implicitDefEqProofs only [go_sem, h1, h2, h3, h17, h18, h19, h20]
                obtain ⟨o35, h36, h⟩ := bind_some' h
                refine LLoop.viewQ (LLoop.view [] (by (first | rfl | simp -implicitDefEqProofs only [go_sem, h1, h2, h3, h17, h18, h19, h20] <;> rfl)) (M_ref11_one.l1.w (x.2.1, 0, x.1) _ h36 _ _ _ ?_ ?_))
                · intro s38 hs'; subst hs'
                  try simp -implicitDefEqProofs only [go_sem, h1, h2, h3, h17, h18, h19, h20]
                  injection h with h; subst h
                  first | rfl | simp -implicitDefEqProofs only [go_sem, h1, h2, h3, h17, h18, h19, h20] <;> rfl
                · intro r37 L' hs' hL'; subst hs'
                  injection h with h; subst h
                  first | exact hL' | (simp -implicitDefEqProofs only [go_sem]; exact hL') | (simp -implicitDefEqProofs only [go_sem]; simp -implicitDefEqProofs only [go_sem] at hL'; exact hL')
end Go.Proofs.Ytcfekacmmfdggaa.G
set_option linter.unusedVariables false
set_option linter.unusedSimpArgs false
set_option maxRecDepth 100000
namespace Go.Proofs.Ytcfekacmmfdggaa.G
@[go_sem] theorem lrp_76_14 : lrp Try.prog 76 14 = (10, []) := by kernel_rfl
theorem lok_76 : (Try.f76.body.isSome && !(Try.f76.name == "runtime.NumGoroutine") && okL (bodyF Try.f76) Try.f76.ntmps (bodyF Try.f76)) = true := by kernel_rfl
def M_ref11_Query.l0 (x : Int × T_api_Query) : Option (Lp (Unit) (Int)) :=
  if (decide (x.1 < (x.2.Cols.length : Int))) = true then
    (getI x.2.Cols x.1) >>= fun (e3 : Int) =>
    if (decide (e3 < 1)) = true then
      some (.ret 12)
    else
      if (decide (e3 > 4)) = true then
        some (.ret 12)
      else
        M_ref11_Query.l0 ((w64 (x.1 + 1)), x.2)
  else
    some (.brk ())
  partial_fixpoint
theorem M_ref11_Query.l0.ws : (∀ (x : Int × T_api_Query) (o : Lp (Unit) (Int)), M_ref11_Query.l0 x = some o → (fun (x : Int × T_api_Query) (o : Lp (Unit) (Int)) => ∀ (lo : Option Nat) (c : LCtx) (Q : Exit → LEnv → Prop) (hb : ∀ s : Unit, o = Lp.brk s → Q (.exit 0) ⟨[(1, .lref 1 0)], [(1, [.v (.slice .foreign (x.2.Cols.map AV.i64)), .v (.i64 x.2.Root.Kind), .v (.i64 x.2.Root.Table), .v (.slice .foreign (x.2.Root.Kids.map T_api_Tree.av)), .v (.slice .foreign (x.2.Root.Conj.map T_api_Pred.av)), .v (.bool x.2.Root.Hash)])]⟩) (hr : ∀ (r : Int) (L : LEnv), o = .ret r → LPostF Try.prog [.tmp 2] (.i64 r) (fun _ => True) .ret L → Q .ret L), LLoop Try.prog 76 lo c 0 (VQ Q) ⟨[(1, .lref 1 0), (3, .v (.i64 x.1))], [(1, [.v (.slice .foreign (x.2.Cols.map AV.i64)), .v (.i64 x.2.Root.Kind), .v (.i64 x.2.Root.Table), .v (.slice .foreign (x.2.Root.Kids.map T_api_Tree.av)), .v (.slice .foreign (x.2.Root.Conj.map T_api_Pred.av)), .v (.bool x.2.Root.Hash)])]⟩) x o) := by
  refine M_ref11_Query.l0.partial_correctness _ ?_
  · intro M_M_ref11_Query_l0 ih_M_ref11_Query_l0 x o h
    intro lo c Q hb hr
    refine LLoop.step mix fn_76 (by kernel_rfl) ?_
    simp -implicitDefEqProofs only [go_sem, Try.f76]
    by_cases h2 : (decide (x.1 < (x.2.Cols.length : Int))) = true
    · replace h := ite_some h h2
      try simp -implicitDefEqProofs only [go_sem, h2]
      obtain ⟨e3, h4, h⟩ := bind_some' h; replace h4 := getI_some h4; obtain ⟨h4', h4⟩ := h4
      try simp -implicitDefEqProofs only [go_sem, h2, h4, h4']
      by_cases h5 : (decide (e3 < 1)) = true
      · replace h := ite_some h h5
        try simp -implicitDefEqProofs only [go_sem, h2, h4, h4', h5]
        injection h with h; subst h
        exact .inl (hr _ _ rfl (by (first | rfl | simp -implicitDefEqProofs only [go_sem, h2, h4, h4', h5] <;> rfl)))
      · replace h := ite_none h h5; replace h5 := bfalse h5
        try simp -implicitDefEqProofs only [go_sem, h2, h4, h4', h5]
        by_cases h6 : (decide (e3 > 4)) = true
        · replace h := ite_some h h6
          try simp -implicitDefEqProofs only [go_sem, h2, h4, h4', h5, h6]
          injection h with h; subst h
          exact .inl (hr _ _ rfl (by (first | rfl | simp -implicitDefEqProofs only [go_sem, h2, h4, h4', h5, h6] <;> rfl)))
        · replace h := ite_none h h6; replace h6 := bfalse h6
          try simp -implicitDefEqProofs only [go_sem, h2, h4, h4', h5, h6]
          exact LLoop.view [] (by (first | rfl | simp -implicitDefEqProofs only [go_sem, h2, h4, h4', h5, h6] <;> rfl)) (ih_M_ref11_Query_l0 _ _ h lo c Q hb hr)
    · replace h := ite_none h h2; replace h2 := bfalse h2
      try simp -implicitDefEqProofs only [go_sem, h2]
      injection h with h; subst h
      exact .inr ⟨[], _, by (simp -implicitDefEqProofs only [go_sem, h2] <;> first | done | rfl | trivial), hb _ rfl⟩
theorem M_ref11_Query.l0.w : type_of% @M_ref11_Query.l0.ws := @M_ref11_Query.l0.ws
def M_ref11_Query.l1 (x : List T_api_Tree × List Int × Int × Int × T_api_Query) : Option (Lp (Unit) (Int)) :=
  if (decide (x.2.2.2.1 < (x.1.length : Int))) = true then
    (getI x.1 x.2.2.2.1) >>= fun (e14 : T_api_Tree) =>
    M_ref11_one (e14, x.2.2.2.2.Cols, x.2.1, x.2.2.1) >>= fun r16 =>
    if (r16 != 0) = true then
      some (.ret r16)
    else
      if (e14.Kind == 0) = true then
        (room 8 x.2.1 ([e14.Table])) >>= fun (z20 : List Int) =>
        M_ref11_Query.l1 (x.1, z20, (w64 (x.2.2.1 + (e14.Conj.length : Int))), (w64 (x.2.2.2.1 + 1)), x.2.2.2.2)
      else
        M_ref11_Query.l1 (x.1, x.2.1, (w64 (x.2.2.1 + (e14.Conj.length : Int))), (w64 (x.2.2.2.1 + 1)), x.2.2.2.2)
  else
    some (.brk ())
  partial_fixpoint
theorem M_ref11_Query.l1.ws : (∀ (x : List T_api_Tree × List Int × Int × Int × T_api_Query) (o : Lp (Unit) (Int)), M_ref11_Query.l1 x = some o → (fun (x : List T_api_Tree × List Int × Int × Int × T_api_Query) (o : Lp (Unit) (Int)) => ∀ (lo : Option Nat) (c : LCtx) (Q : Exit → LEnv → Prop) (hb : ∀ s : Unit, o = Lp.brk s → Q (.exit 2) ⟨[], []⟩) (hr : ∀ (r : Int) (L : LEnv), o = .ret r → LPostF Try.prog [.tmp 2] (.i64 r) (fun _ => True) .ret L → Q .ret L), LLoop Try.prog 76 lo c 1 (VQ Q) ⟨[(1, .lref 1 0), (4, .v (.slice .foreign (x.1.map T_api_Tree.av))), (5, .own 100500 1 (x.2.1.map AV.i64)), (6, .v (.i64 x.2.2.1)), (7, .v (.i64 x.2.2.2.1))], [(1, [.v (.slice .foreign (x.2.2.2.2.Cols.map AV.i64)), .v (.i64 x.2.2.2.2.Root.Kind), .v (.i64 x.2.2.2.2.Root.Table), .v (.slice .foreign (x.2.2.2.2.Root.Kids.map T_api_Tree.av)), .v (.slice .foreign (x.2.2.2.2.Root.Conj.map T_api_Pred.av)), .v (.bool x.2.2.2.2.Root.Hash)])]⟩) x o) := by
  refine M_ref11_Query.l1.partial_correctness _ ?_
  · intro M_M_ref11_Query_l1 ih_M_ref11_Query_l1 x o h
    intro lo c Q hb hr
    refine LLoop.step mix fn_76 (by kernel_rfl) ?_
    simp -implicitDefEqProofs only [go_sem, Try.f76]
    by_cases h13 : (decide (x.2.2.2.1 < (x.1.length : Int))) = true
    · replace h := ite_some h h13
      try simp -implicitDefEqProofs only [go_sem, h13]
      obtain ⟨e14, h15, h⟩ := bind_some' h; replace h15 := getI_some h15; obtain ⟨h15', h15⟩ := h15
      try simp -implicitDefEqProofs only [go_sem, h13, h15, h15']
      obtain ⟨r16, h17, h⟩ := bind_some' h
      refine .plain _ _ rfl (M_ref11_one.w (e14, x.2.2.2.2.Cols, x.2.1, x.2.2.1) _ h17) ?_
      try simp -implicitDefEqProofs only [go_sem, h13, h15, h15']
      by_cases h18 : (r16 != 0) = true
      · replace h := ite_some h h18
        try simp -implicitDefEqProofs only [go_sem, h13, h15, h15', h18]
        injection h with h; subst h
        exact .inl (hr _ _ rfl (by (first | rfl | simp -implicitDefEqProofs only [go_sem, h13, h15, h15', h18] <;> rfl)))
      · replace h := ite_none h h18; replace h18 := bfalse h18
        try simp -implicitDefEqProofs only [go_sem, h13, h15, h15', h18]
        by_cases h19 : (e14.Kind == 0) = true
        · replace h := ite_some h h19
          try simp -implicitDefEqProofs only [go_sem, h13, h15, h15', h18, h19]
          obtain ⟨z20, h21, h⟩ := bind_some' h; replace h21 := room_some h21; obtain ⟨h21', rfl⟩ := h21
          refine LApp.map (F := AV.i64) (xs := x.2.1) (ys := [e14.Table]) t45_elem t3_size t3_bytes t3_zsize rfl (fun _ => rfl) (by (first | rfl | simp -implicitDefEqProofs only [go_sem, h13, h15, h15', h18, h19] <;> rfl)) (by (first | rfl | simp -implicitDefEqProofs only [go_sem, h13, h15, h15', h18, h19] <;> rfl)) h21' ?_
          try simp -implicitDefEqProofs only [go_sem, h13, h15, h15', h18, h19]
          exact LLoop.view [(100500, some 77)] (by (first | rfl | simp -implicitDefEqProofs only [go_sem, h13, h15, h15', h18, h19] <;> rfl)) (ih_M_ref11_Query_l1 _ _ h lo c Q hb hr)
        · replace h := ite_none h h19; replace h19 := bfalse h19
          try simp -implicitDefEqProofs only [go_sem, h13, h15, h15', h18, h19]
          exact LLoop.view [(100500, some 100500)] (by (first | rfl | simp -implicitDefEqProofs only [go_sem, h13, h15, h15', h18, h19] <;> rfl)) (ih_M_ref11_Query_l1 _ _ h lo c Q hb hr)
    · replace h := ite_none h h13; replace h13 := bfalse h13
      try simp -implicitDefEqProofs only [go_sem, h13]
      injection h with h; subst h
      exact .inr ⟨[], _, by (simp -implicitDefEqProofs only [go_sem, h13] <;> first | done | rfl | trivial), hb _ rfl⟩
theorem M_ref11_Query.l1.w : type_of% @M_ref11_Query.l1.ws := @M_ref11_Query.l1.ws
def M_ref11_Query (x : T_api_Query) : Option (Int) :=
  if (decide ((x.Cols.length : Int) > 64)) = true then
    some 2
  else
    M_ref11_Query.l0 (0, x) >>= fun (o7 : Lp (Unit) (Int)) => match o7 with
    | .brk s10 =>
      M_ref10_All x.Root >>= fun r11 =>
      M_ref11_Query.l1 (r11, ([] : List Int), 0, 0, x) >>= fun (o22 : Lp (Unit) (Int)) => match o22 with
      | .brk s25 =>
        some 0
      | .ret r24 =>
        some r24
    | .ret r9 =>
      some r9
set_option maxHeartbeats 8000000 in
theorem M_ref11_Query.w : ∀ (x : T_api_Query) (r : Int), M_ref11_Query x = some r → (fun (x : T_api_Query) (r : Int) => Fn Try.prog 76 [.agg (T_api_Query.C x)] (.i64 r)) x r := by
  intro x r h
  rw [M_ref11_Query] at h
  try dsimp only
  refine Fn.of_lc mix fn_76 lok_76 (by rfl) (flC (T_api_Query.flatC _) (flN)) (.atom _) ?_
  simp -implicitDefEqProofs only [go_sem, Try.f76]
  by_cases h1 : (decide ((x.Cols.length : Int) > 64)) = true
  · replace h := ite_some h h1
    try simp -implicitDefEqProofs only [go_sem, h1]
    injection h with h; subst h
    first | rfl | simp -implicitDefEqProofs only [go_sem, h1] <;> rfl
  · replace h := ite_none h h1; replace h1 := bfalse h1
    try simp -implicitDefEqProofs only [go_sem, h1]
    obtain ⟨o7, h8, h⟩ := bind_some' h
    refine LLoop.viewQ (LLoop.view [] (by (first | rfl | simp -implicitDefEqProofs only [go_sem, h1] <;> rfl)) (M_ref11_Query.l0.w (0, x) _ h8 _ _ _ ?_ ?_))
    · intro s10 hs'; subst hs'
      try simp -implicitDefEqProofs only [go_sem, h1]
      obtain ⟨r11, h12, h⟩ := bind_some' h
      refine .plain _ _ rfl (M_ref10_All.w x.Root _ h12) ?_
      try simp -implicitDefEqProofs only [go_sem, h1]
      obtain ⟨o22, h23, h⟩ := bind_some' h
      refine LLoop.viewQ (LLoop.view [(100500, none)] (by (first | rfl | simp -implicitDefEqProofs only [go_sem, h1] <;> rfl)) (M_ref11_Query.l1.w (r11, ([] : List Int), 0, 0, x) _ h23 _ _ _ ?_ ?_))
      · intro s25 hs'; subst hs'
        try simp -implicitDefEqProofs only [go_sem, h1]
        injection h with h; subst h
        first | rfl | simp -implicitDefEqProofs only [go_sem, h1] <;> rfl
      · intro r24 L' hs' hL'; subst hs'
        injection h with h; subst h
        first | exact hL' | (simp -implicitDefEqProofs only [go_sem]; exact hL') | (simp -implicitDefEqProofs only [go_sem]; simp -implicitDefEqProofs only [go_sem] at hL'; exact hL')
    · intro r9 L' hs' hL'; subst hs'
      injection h with h; subst h
      first | exact hL' | (simp -implicitDefEqProofs only [go_sem]; exact hL') | (simp -implicitDefEqProofs only [go_sem]; simp -implicitDefEqProofs only [go_sem] at hL'; exact hL')
end Go.Proofs.Ytcfekacmmfdggaa.G
set_option linter.unusedVariables false
set_option linter.unusedSimpArgs false
set_option maxRecDepth 100000
namespace Go.Proofs.Ytcfekacmmfdggaa.G
theorem lok_34 : (Try.f34.body.isSome && !(Try.f34.name == "runtime.NumGoroutine") && okL (bodyF Try.f34) Try.f34.ntmps (bodyF Try.f34)) = true := by kernel_rfl
def M_ref11_Right (x : T_api_Query) : Option (Bool) :=
  M_ref11_Query x >>= fun r1 =>
  some (r1 == 0)
set_option maxHeartbeats 8000000 in
theorem M_ref11_Right.w : ∀ (x : T_api_Query) (r : Bool), M_ref11_Right x = some r → (fun (x : T_api_Query) (r : Bool) => Fn Try.prog 34 [.agg (T_api_Query.C x)] (.bool r)) x r := by
  intro x r h
  rw [M_ref11_Right] at h
  try dsimp only
  refine Fn.of_lc mix fn_34 lok_34 (by rfl) (flC (T_api_Query.flatC _) (flN)) (.atom _) ?_
  simp -implicitDefEqProofs only [go_sem, Try.f34]
  obtain ⟨r1, h2, h⟩ := bind_some' h
  refine .plain _ _ rfl (M_ref11_Query.w x _ h2) ?_
  try simp -implicitDefEqProofs only [go_sem]
  injection h with h; subst h
  first | rfl | simp -implicitDefEqProofs only [go_sem] <;> rfl
end Go.Proofs.Ytcfekacmmfdggaa.G
set_option linter.unusedVariables false
set_option linter.unusedSimpArgs false
set_option maxRecDepth 100000
namespace Go.Proofs.Ytcfekacmmfdggaa.G
theorem lok_33 : (Try.f33.body.isSome && !(Try.f33.name == "runtime.NumGoroutine") && okL (bodyF Try.f33) Try.f33.ntmps (bodyF Try.f33)) = true := by kernel_rfl
def M_law11_Few (x : T_api_Query) : Option (Bool) :=
  M_ref10_Size (x.Root, 601) >>= fun r1 =>
  some (decide (r1 ≤ 600))
set_option maxHeartbeats 8000000 in
theorem M_law11_Few.w : ∀ (x : T_api_Query) (r : Bool), M_law11_Few x = some r → (fun (x : T_api_Query) (r : Bool) => Fn Try.prog 33 [.agg (T_api_Query.C x)] (.bool r)) x r := by
  intro x r h
  rw [M_law11_Few] at h
  try dsimp only
  refine Fn.of_lc mix fn_33 lok_33 (by rfl) (flC (T_api_Query.flatC _) (flN)) (.atom _) ?_
  simp -implicitDefEqProofs only [go_sem, Try.f33]
  obtain ⟨r1, h2, h⟩ := bind_some' h
  refine .plain _ _ rfl (M_ref10_Size.w (x.Root, 601) _ h2) ?_
  try simp -implicitDefEqProofs only [go_sem]
  injection h with h; subst h
  first | rfl | simp -implicitDefEqProofs only [go_sem] <;> rfl
end Go.Proofs.Ytcfekacmmfdggaa.G
set_option linter.unusedVariables false
set_option linter.unusedSimpArgs false
namespace Go.Proofs.Ytcfekacmmfdggaa.G

def ttab (t : T_api_Term) : Set64 := if t.Kind = 1 then bitI t.Table else 0#64
theorem ref05_tab (t : T_api_Term) : M_ref05_Tables t = some (ttab t) := by
  unfold M_ref05_Tables ttab
  by_cases h : t.Kind = 1
  · rw [if_neg (by simpa using h), if_pos h, ref01_Of_eq _ (by simp)]
    simp -implicitDefEqProofs only [Option.bind_eq_bind, Option.bind_some]
    rw [ofL_cons, ofL_nil, BitVec.or_zero]
  · rw [if_pos (by simpa using h), if_neg h]
/-- The tables that a predicate names. -/
def T_api_Pred.tabs : T_api_Pred → Set64
  | ⟨_, _, _, a, b, ps⟩ => ttab a ||| ttab b ||| tabsL ps
where tabsL : List T_api_Pred → Set64
  | [] => 0#64
  | x :: l => x.tabs ||| tabsL l
theorem ptabs_eq (p : T_api_Pred) : p.tabs = ttab p.A ||| ttab p.B ||| T_api_Pred.tabs.tabsL p.Parts := by
  obtain ⟨a, b, c, d, e, ps⟩ := p
  simp only [T_api_Pred.tabs]
theorem part_size {p x : T_api_Pred} (h : x ∈ p.Parts) : x.size < p.size := by
  have := sum_mem T_api_Pred.size h
  rw [psize_eq p]; omega
theorem parts_len (p : T_api_Pred) : p.Parts.length < p.size := by
  have := len_sum T_api_Pred.size psize_pos p.Parts
  rw [psize_eq]; omega
theorem conj_size {t : T_api_Tree} {p : T_api_Pred} (h : p ∈ t.Conj) : p.size < t.size := by
  have := sum_mem T_api_Pred.size h
  rw [tsize_eq t]; omega
theorem ref06_Tables_eq (p : T_api_Pred) : p.size ≤ 1000000000 → M_ref06_Tables p = some p.tabs := by
  induction p using T_api_Pred.induct with
  | h p ih =>
    intro hsz
    have hpl := parts_len p
    have key := loop_all p.Parts (fun i (s : Set64) => M_ref06_Tables.l0 (s, (i : Int), p)) (fun s l => some (s ||| T_api_Pred.tabs.tabsL l)) (fun s => by
        show M_ref06_Tables.l0 _ = _
        rw [M_ref06_Tables.l0, if_neg (dge (by dsimp only; omega))]
        simp only [T_api_Pred.tabs.tabsL, BitVec.or_zero])
      (fun i s h ih2 => by
        show M_ref06_Tables.l0 _ = _
        rw [M_ref06_Tables.l0, if_pos (dlt (by dsimp only; omega))]
        dsimp only
        rw [getI_nat h]
        have hm := List.getElem_mem h
        have hs := part_size hm
        simp -implicitDefEqProofs only [Option.bind_eq_bind, Option.bind_some]
        rw [ih _ hm (by omega)]
        simp -implicitDefEqProofs only [Option.bind_some]
        rw [w64_succ (by omega)]
        have := ih2 (s ||| p.Parts[i].tabs)
        rw [this]
        simp only [T_api_Pred.tabs.tabsL, BitVec.or_assoc]) (ttab p.A ||| ttab p.B)
    rw [M_ref06_Tables, ref05_tab, ref05_tab]
    have key' : M_ref06_Tables.l0 ((ttab p.A ||| ttab p.B), 0, p) = _ := key
    simp -implicitDefEqProofs only [Option.bind_eq_bind, Option.bind_some]
    rw [key', ptabs_eq]; rfl
/-- The columns that a predicate names. -/
def T_api_Pred.cols : T_api_Pred → List A2_Int
  | ⟨_, _, _, a, b, ps⟩ => (if a.Kind = 1 then [⟨a.Table, a.Col⟩] else []) ++ (if b.Kind = 1 then [⟨b.Table, b.Col⟩] else []) ++ colsL ps
where colsL : List T_api_Pred → List A2_Int
  | [] => []
  | x :: l => x.cols ++ colsL l
theorem pcols_eq (p : T_api_Pred) : p.cols = (if p.A.Kind = 1 then [⟨p.A.Table, p.A.Col⟩] else []) ++ (if p.B.Kind = 1 then [⟨p.B.Table, p.B.Col⟩] else []) ++ T_api_Pred.cols.colsL p.Parts := by
  obtain ⟨a, b, c, d, e, ps⟩ := p
  simp only [T_api_Pred.cols]
theorem pcols_len (p : T_api_Pred) : p.cols.length ≤ 2 * p.size := by
  induction p using T_api_Pred.induct with
  | h p ih =>
    have hl : ∀ l : List T_api_Pred, (∀ x ∈ l, x.cols.length ≤ 2 * x.size) → (T_api_Pred.cols.colsL l).length ≤ 2 * (l.map T_api_Pred.size).sum := by
      intro l
      induction l with
      | nil => intro _; simp [T_api_Pred.cols.colsL]
      | cons x l ih2 =>
        intro h
        have h1 := h x List.mem_cons_self
        have h2 := ih2 fun y hy => h y (List.mem_cons_of_mem _ hy)
        simp only [T_api_Pred.cols.colsL, List.length_append, List.map_cons, List.sum_cons]; omega
    have := hl p.Parts ih
    rw [pcols_eq, psize_eq, List.length_append, List.length_append]
    have e1 : (if p.A.Kind = 1 then [(⟨p.A.Table, p.A.Col⟩ : A2_Int)] else []).length ≤ 1 := by split <;> simp
    have e2 : (if p.B.Kind = 1 then [(⟨p.B.Table, p.B.Col⟩ : A2_Int)] else []).length ≤ 1 := by split <;> simp
    omega
theorem ref06_Columns_eq (p : T_api_Pred) : p.size ≤ 1000000000 → M_ref06_Columns p = some p.cols := by
  induction p using T_api_Pred.induct with
  | h p ih =>
    intro hsz
    have hpl := parts_len p
    have hcl := pcols_len p
    have key : ∀ acc0 : List A2_Int, acc0.length ≤ 2 → M_ref06_Columns.l0 (acc0, 0, p) = some (acc0 ++ T_api_Pred.cols.colsL p.Parts) := by
      intro acc0 h0
      have := loop_inv p.Parts (fun i acc => acc.length ≤ 2 + 2 * ((p.Parts.take i).map T_api_Pred.size).sum) (fun i (acc : List A2_Int) => M_ref06_Columns.l0 (acc, (i : Int), p)) (fun acc l => some (acc ++ T_api_Pred.cols.colsL l)) (fun acc _ => by
          show M_ref06_Columns.l0 _ = _
          rw [M_ref06_Columns.l0, if_neg (dge (by dsimp only; omega))]
          simp only [T_api_Pred.cols.colsL, List.append_nil])
        (fun i acc h ha ih2 => by
          show M_ref06_Columns.l0 _ = _
          rw [M_ref06_Columns.l0, if_pos (dlt (by dsimp only; omega))]
          dsimp only
          rw [getI_nat h]
          have hm := List.getElem_mem h
          have hs := part_size hm
          have hc := pcols_len p.Parts[i]
          have htake : ((p.Parts.take i).map T_api_Pred.size).sum + p.Parts[i].size ≤ (p.Parts.map T_api_Pred.size).sum := by
            have e : p.Parts = p.Parts.take i ++ p.Parts[i] :: p.Parts.drop (i + 1) := by rw [← List.drop_eq_getElem_cons h, List.take_append_drop]
            conv => rhs; rw [e]
            simp only [List.map_append, List.map_cons, List.sum_append, List.sum_cons]; omega
          have hps := psize_eq p
          simp -implicitDefEqProofs only [Option.bind_eq_bind, Option.bind_some]
          rw [ih _ hm (by omega)]
          simp -implicitDefEqProofs only [Option.bind_some]
          rw [room_of (by omega)]
          simp -implicitDefEqProofs only [Option.bind_some]
          rw [w64_succ (by omega)]
          have := ih2 (acc ++ p.Parts[i].cols) (by
            rw [List.take_succ_eq_append_getElem h, List.map_append, List.sum_append, List.length_append]
            simp only [List.map_cons, List.map_nil, List.sum_cons, List.sum_nil]; omega)
          rw [this]
          simp only [T_api_Pred.cols.colsL, List.append_assoc]) 0 acc0 (Nat.zero_le _) (by simpa using h0)
      rw [List.drop_zero] at this
      exact this
    rw [M_ref06_Columns, pcols_eq]
    by_cases hA : p.A.Kind = 1
    · rw [if_pos (by simpa using hA), if_pos hA, room_of (by simp)]
      simp -implicitDefEqProofs only [Option.bind_eq_bind, Option.bind_some, List.nil_append]
      by_cases hB : p.B.Kind = 1
      · rw [if_pos (by simpa using hB), if_pos hB, room_of (by simp)]
        simp -implicitDefEqProofs only [Option.bind_some]
        rw [key _ (by simp)]; rfl
      · rw [if_neg (by simpa using hB), if_neg hB, key _ (by simp)]
        simp
    · rw [if_neg (by simpa using hA), if_neg hA]
      by_cases hB : p.B.Kind = 1
      · rw [if_pos (by simpa using hB), if_pos hB, room_of (by simp)]
        simp -implicitDefEqProofs only [Option.bind_eq_bind, Option.bind_some, List.nil_append]
        rw [key _ (by simp)]; rfl
      · rw [if_neg (by simpa using hB), if_neg hB, key _ (by simp)]
        simp
/-- The tables of a tree that are seen. -/
def T_api_Tree.seen : T_api_Tree → Set64
  | ⟨k, t, ks, _, _⟩ => if k = 0 then bitI t else if k = 3 ∨ k = 4 then seen1 ks else seenL ks
where
  seen1 : List T_api_Tree → Set64
  | [] => 0#64
  | x :: _ => x.seen
  seenL : List T_api_Tree → Set64
  | [] => 0#64
  | x :: l => x.seen ||| seenL l
theorem seen_eq (t : T_api_Tree) : t.seen = if t.Kind = 0 then bitI t.Table else if t.Kind = 3 ∨ t.Kind = 4 then T_api_Tree.seen.seen1 t.Kids else T_api_Tree.seen.seenL t.Kids := by
  obtain ⟨a, b, ks, c, d⟩ := t
  simp only [T_api_Tree.seen]
theorem ref10_Seen_eq (t : T_api_Tree) : t.size ≤ 1000000000 → M_ref10_Seen t = some t.seen := by
  induction t using T_api_Tree.induct with
  | h t ih =>
    intro hsz
    have hkl := kids_len t
    rw [M_ref10_Seen, seen_eq]
    by_cases h0 : t.Kind = 0
    · rw [if_pos (by simpa using h0), if_pos h0, ref01_Of_eq _ (by simp)]
      simp -implicitDefEqProofs only [Option.bind_eq_bind, Option.bind_some]
      rw [ofL_cons, ofL_nil, BitVec.or_zero]
    · rw [if_neg (by simpa using h0), if_neg h0]
      by_cases h34 : t.Kind = 3 ∨ t.Kind = 4
      · rw [if_pos h34]
        have key : ∀ n i s, t.Kids.length - i = n → 1 ≤ i → i ≤ t.Kids.length → M_ref10_Seen.l0 (s, (i : Int), t) = some s := by
          intro n
          induction n with
          | zero =>
            intro i s h1 h2 h3
            obtain rfl : i = t.Kids.length := by omega
            rw [M_ref10_Seen.l0, if_neg (dge (by dsimp only; omega))]
          | succ n ih2 =>
            intro i s h1 h2 h3
            have hi : i < t.Kids.length := by omega
            rw [M_ref10_Seen.l0, if_pos (dlt (by dsimp only; omega))]
            dsimp only
            rw [if_neg (by simp; omega), w64_succ (by omega), ih2 (i + 1) s (by omega) (by omega) (by omega)]
            rcases h34 with h | h
            · rw [if_neg (by simp [h])]
            · rw [if_pos (by simp [h]), if_neg (by simp [h])]
        cases hk : t.Kids with
        | nil =>
          rw [M_ref10_Seen.l0, if_neg (by simp [hk])]; rfl
        | cons x l =>
          have hx : x ∈ t.Kids := by rw [hk]; simp
          have hxs := kid_size hx
          rw [M_ref10_Seen.l0, if_pos (dlt (by dsimp only; rw [hk]; simp only [List.length_cons]; omega))]
          dsimp only
          have g0 : getI t.Kids 0 = some x := by rw [hk]; rfl
          rw [if_pos (by decide), g0]
          simp -implicitDefEqProofs only [Option.bind_eq_bind, Option.bind_some]
          rw [ih x hx (by omega)]
          simp -implicitDefEqProofs only [Option.bind_some]
          have w1 : w64 (0 + 1) = ((1 : Nat) : Int) := by decide
          rw [w1, key (t.Kids.length - 1) 1 _ (by omega) (by omega) (by rw [hk]; simp)]
          simp only [T_api_Tree.seen.seen1, BitVec.zero_or]; rfl
      · rw [if_neg h34]
        have key := loop_all t.Kids (fun i (s : Set64) => M_ref10_Seen.l0 (s, (i : Int), t)) (fun s l => some (s ||| T_api_Tree.seen.seenL l)) (fun s => by
            show M_ref10_Seen.l0 _ = _
            rw [M_ref10_Seen.l0, if_neg (dge (by dsimp only; omega))]
            simp only [T_api_Tree.seen.seenL, BitVec.or_zero])
          (fun i s h ih2 => by
            show M_ref10_Seen.l0 _ = _
            rw [M_ref10_Seen.l0, if_pos (dlt (by dsimp only; omega))]
            dsimp only
            have hm := List.getElem_mem h
            have hs := kid_size hm
            rw [getI_nat h, w64_succ (by omega)]
            simp -implicitDefEqProofs only [Option.bind_eq_bind, Option.bind_some]
            rw [ih _ hm (by omega)]
            simp -implicitDefEqProofs only [Option.bind_some]
            have := ih2 (s ||| t.Kids[i].seen)
            rw [this, if_pos (show (t.Kind != 3) = true by simp; omega), if_pos (show (t.Kind != 4) = true by simp; omega)]
            simp only [T_api_Tree.seen.seenL, BitVec.or_assoc, ite_self]) 0#64
        have key' : M_ref10_Seen.l0 (0#64, 0, t) = _ := key
        rw [key']
        simp -implicitDefEqProofs only [Option.bind_eq_bind, Option.bind_some, BitVec.zero_or]
theorem ex_ite {α : Type} {c : Prop} [Decidable c] {x y : Option α} (h : ∃ b, x = some b) (k : ∃ b, y = some b) : ∃ b, (if c then x else y) = some b := by
  split
  · exact h
  · exact k
theorem ref05_Right_some (t : T_api_Term) : ∃ b, M_ref05_Right t = some b := by
  unfold M_ref05_Right M_ref03_Right
  repeat' first | exact ⟨_, rfl⟩ | apply ex_ite | (simp -implicitDefEqProofs only [Option.bind_eq_bind, Option.bind_some])
  all_goals (split <;> exact ⟨_, rfl⟩)
theorem ref06_at_some (p : T_api_Pred) : p.size ≤ 1000000000 → ∀ d : Int, 1 ≤ d → d ≤ 5 → ∃ b, M_ref06_at (p, d) = some b := by
  induction p using T_api_Pred.induct with
  | h p ih =>
    intro hsz d hd1 hd2
    have hpl := parts_len p
    by_cases h4 : d > 4
    · rw [M_ref06_at, if_pos (by simpa using h4)]; exact ⟨_, rfl⟩
    · have key : ∀ n i, p.Parts.length - i = n → i ≤ p.Parts.length → ∃ o, M_ref06_at.l0 (d, (i : Int), p) = some o := by
        intro n
        induction n with
        | zero =>
          intro i h1 h2
          obtain rfl : i = p.Parts.length := by omega
          rw [M_ref06_at.l0, if_neg (dge (by dsimp only; omega))]; exact ⟨_, rfl⟩
        | succ n ih2 =>
          intro i h1 h2
          have hi : i < p.Parts.length := by omega
          rw [M_ref06_at.l0, if_pos (dlt (by dsimp only; omega))]
          dsimp only
          have hm := List.getElem_mem hi
          have hs := part_size hm
          rw [getI_nat hi, w64_of (by omega) (by omega)]
          obtain ⟨b, hb⟩ := ih _ hm (by omega) (d + 1) (by omega) (by omega)
          simp -implicitDefEqProofs only [Option.bind_eq_bind, Option.bind_some]
          rw [hb]
          simp -implicitDefEqProofs only [Option.bind_some]
          split
          · rw [w64_succ (by omega)]; exact ih2 (i + 1) (by omega) (by omega)
          · exact ⟨_, rfl⟩
      obtain ⟨o, ho⟩ := key p.Parts.length 0 (by omega) (by omega)
      rw [show ((0 : Nat) : Int) = 0 from rfl] at ho
      obtain ⟨a, ha⟩ := ref05_Right_some p.A
      obtain ⟨b, hb⟩ := ref05_Right_some p.B
      rw [M_ref06_at]
      dsimp only
      rw [ho, ha, hb]
      simp -implicitDefEqProofs only [Option.bind_eq_bind, Option.bind_some]
      cases o <;> dsimp only <;> (repeat' first | exact ⟨_, rfl⟩ | apply ex_ite)
theorem ref06_Right_some (p : T_api_Pred) (h : p.size ≤ 1000000000) : ∃ b, M_ref06_Right p = some b := by
  obtain ⟨b, hb⟩ := ref06_at_some p h 1 (by omega) (by omega)
  unfold M_ref06_Right
  rw [hb]; exact ⟨b, rfl⟩
end Go.Proofs.Ytcfekacmmfdggaa.G
set_option linter.unusedVariables false
set_option linter.unusedSimpArgs false
set_option maxRecDepth 100000
namespace Go.Proofs.Ytcfekacmmfdggaa.G
theorem lok_166 : (Try.f166.body.isSome && !(Try.f166.name == "runtime.NumGoroutine") && okL (bodyF Try.f166) Try.f166.ntmps (bodyF Try.f166)) = true := by kernel_rfl
def M_term_Tables (x : T_api_Term) : Option (Set64) :=
  if (x.Kind == 1) = true then
    M_sets_Of ([x.Table]) >>= fun r2 =>
    some r2
  else
    some (0#64)
set_option maxHeartbeats 8000000 in
theorem M_term_Tables.w : ∀ (x : T_api_Term) (r : Set64), M_term_Tables x = some r → (fun (x : T_api_Term) (r : Set64) => Fn Try.prog 166 [.agg (T_api_Term.C x)] (.w r)) x r := by
  intro x r h
  rw [M_term_Tables] at h
  try dsimp only
  refine Fn.of_lc mix fn_166 lok_166 (by rfl) (flC (T_api_Term.flatC _) (flN)) (.atom _) ?_
  simp -implicitDefEqProofs only [go_sem, Try.f166]
  by_cases h1 : (x.Kind == 1) = true
  · replace h := ite_some h h1
    try simp -implicitDefEqProofs only [go_sem, h1]
    obtain ⟨r2, h3, h⟩ := bind_some' h
    have hw := M_sets_Of.w ([x.Table]) _ h3
    simp -implicitDefEqProofs only [go_sem] at hw
    refine .plain _ _ rfl hw ?_
    clear hw
    try simp -implicitDefEqProofs only [go_sem, h1]
    injection h with h; subst h
    first | rfl | simp -implicitDefEqProofs only [go_sem, h1] <;> rfl
  · replace h := ite_none h h1; replace h1 := bfalse h1
    try simp -implicitDefEqProofs only [go_sem, h1]
    injection h with h; subst h
    first | rfl | simp -implicitDefEqProofs only [go_sem, h1] <;> rfl
end Go.Proofs.Ytcfekacmmfdggaa.G
set_option linter.unusedVariables false
set_option linter.unusedSimpArgs false
set_option maxRecDepth 100000
namespace Go.Proofs.Ytcfekacmmfdggaa.G
@[go_sem] theorem lrp_165_1 : lrp Try.prog 165 1 = (9, []) := by kernel_rfl
theorem lok_165 : (Try.f165.body.isSome && !(Try.f165.name == "runtime.NumGoroutine") && okL (bodyF Try.f165) Try.f165.ntmps (bodyF Try.f165)) = true := by kernel_rfl
end Go.Proofs.Ytcfekacmmfdggaa.G
set_option linter.unusedVariables false
set_option linter.unusedSimpArgs false
set_option maxRecDepth 100000
namespace Go.Proofs.Ytcfekacmmfdggaa.G
theorem lok_164 : (Try.f164.body.isSome && !(Try.f164.name == "runtime.NumGoroutine") && okL (bodyF Try.f164) Try.f164.ntmps (bodyF Try.f164)) = true := by kernel_rfl
theorem lok_152 : (Try.f152.body.isSome && !(Try.f152.name == "runtime.NumGoroutine") && okL (bodyF Try.f152) Try.f152.ntmps (bodyF Try.f152)) = true := by kernel_rfl
def M_pred_Tables_1_R (x : T_api_Pred) : Option (List Set64) :=
  M_term_Tables x.A >>= fun r1 =>
  M_term_Tables x.B >>= fun r3 =>
  some ([(r1 ||| r3)])
set_option maxHeartbeats 8000000 in
theorem M_pred_Tables_1_R.w : ∀ (x : T_api_Pred) (r : List Set64), M_pred_Tables_1_R x = some r → (fun (x : T_api_Pred) (r : List Set64) => FnR Try.prog 165 [] [.a (.agg (T_api_Pred.C x))] (.own 38000000 1 (r.map AV.w)) []) x r := by
  intro x r h
  rw [M_pred_Tables_1_R] at h
  try dsimp only
  refine FnR.of_lc mix fn_165 lok_165 (by rfl) (by rfl) fun c => ?_
  simp -implicitDefEqProofs only [go_sem, Try.f165]
  obtain ⟨r1, h2, h⟩ := bind_some' h
  refine .plain _ _ rfl (M_term_Tables.w x.A _ h2) ?_
  try simp -implicitDefEqProofs only [go_sem]
  obtain ⟨r3, h4, h⟩ := bind_some' h
  refine .plain _ _ rfl (M_term_Tables.w x.B _ h4) ?_
  try simp -implicitDefEqProofs only [go_sem]
  injection h with h; subst h
  first | exact ⟨_, rfl, [(38000000, none)], by rfl, by (first | rfl | simp -implicitDefEqProofs only [go_sem] <;> rfl), by (first | rfl | simp -implicitDefEqProofs only [go_sem] <;> rfl)⟩ | exact ⟨_, rfl, [(38000000, none)], by rfl, by (simp -implicitDefEqProofs only [go_sem] <;> first | done | rfl | trivial), by (simp -implicitDefEqProofs only [go_sem] <;> first | done | rfl | trivial)⟩
mutual
def M_pred_gather_uint64__pred_Tables_1.l0 (x : List Set64 × List T_api_Pred × Int × Int) : Option (List Set64) :=
  if (decide (x.2.2.2 < x.2.2.1)) = true then
    (getI x.2.1 x.2.2.2) >>= fun (e4 : T_api_Pred) =>
    M_pred_gather_uint64__pred_Tables_1 e4 >>= fun r6 =>
    (room 8 x.1 r6) >>= fun (z8 : List Set64) =>
    M_pred_gather_uint64__pred_Tables_1.l0 (z8, x.2.1, x.2.2.1, (w64 (x.2.2.2 + 1)))
  else
    some x.1
  partial_fixpoint
def M_pred_gather_uint64__pred_Tables_1 (x : T_api_Pred) : Option (List Set64) :=
  M_pred_Tables_1_R x >>= fun r1 =>
  M_pred_gather_uint64__pred_Tables_1.l0 (r1, x.Parts, (x.Parts.length : Int), 0) >>= fun (o10 : List Set64) =>
  some o10
  partial_fixpoint
end
theorem M_pred_gather_uint64__pred_Tables_1.l0.ws : (∀ (x : List Set64 × List T_api_Pred × Int × Int) (o : List Set64), M_pred_gather_uint64__pred_Tables_1.l0 x = some o → (fun (x : List Set64 × List T_api_Pred × Int × Int) (o : List Set64) => ∀ (lo : Option Nat) (c : LCtx) (Q : Exit → LEnv → Prop) (hb : ∀ s : List Set64, o = s → Q (.exit 0) ⟨[(5, .own 100500 1 (s.map AV.w))], []⟩), LLoop Try.prog 164 lo c 0 (VQ Q) ⟨[(1, .v (.func 165 [] [])), (5, .own 100500 1 (x.1.map AV.w)), (12, .v (.slice .foreign (x.2.1.map T_api_Pred.av))), (13, .v (.i64 x.2.2.1)), (14, .v (.i64 x.2.2.2))], []⟩) x o) ∧ (∀ (x : T_api_Pred) (o : List Set64), M_pred_gather_uint64__pred_Tables_1 x = some o → (fun (x : T_api_Pred) (r : List Set64) => Fn Try.prog 164 [.agg (T_api_Pred.C x), .func 165 [] []] (.slice .foreign (r.map AV.w))) x o) := by
  refine M_pred_gather_uint64__pred_Tables_1.l0.mutual_partial_correctness _ _ ?_ ?_
  · intro M_M_pred_gather_uint64__pred_Tables_1_l0 M_M_pred_gather_uint64__pred_Tables_1 ih_M_pred_gather_uint64__pred_Tables_1_l0 ih_M_pred_gather_uint64__pred_Tables_1 x o h
    intro lo c Q hb
    refine LLoop.step mix fn_164 (by kernel_rfl) ?_
    simp -implicitDefEqProofs only [go_sem, Try.f164]
    by_cases h3 : (decide (x.2.2.2 < x.2.2.1)) = true
    · replace h := ite_some h h3
      try simp -implicitDefEqProofs only [go_sem, h3]
      obtain ⟨e4, h5, h⟩ := bind_some' h; replace h5 := getI_some h5; obtain ⟨h5', h5⟩ := h5
      try simp -implicitDefEqProofs only [go_sem, h3, h5, h5']
      obtain ⟨r6, h7, h⟩ := bind_some' h
      refine .plain _ _ rfl (ih_M_pred_gather_uint64__pred_Tables_1 e4 _ h7) ?_
      try simp -implicitDefEqProofs only [go_sem, h3, h5, h5']
      obtain ⟨z8, h9, h⟩ := bind_some' h; replace h9 := room_some h9; obtain ⟨h9', rfl⟩ := h9
      refine LApp.map (F := AV.w) (xs := x.1) (ys := r6) t23_elem t32_size t32_bytes t32_zsize rfl (fun _ => rfl) (by (first | rfl | simp -implicitDefEqProofs only [go_sem, h3, h5, h5'] <;> rfl)) (by (first | rfl | simp -implicitDefEqProofs only [go_sem, h3, h5, h5'] <;> rfl)) h9' ?_
      try simp -implicitDefEqProofs only [go_sem, h3, h5, h5']
      exact LLoop.view [(100500, some 22)] (by (first | rfl | simp -implicitDefEqProofs only [go_sem, h3, h5, h5'] <;> rfl)) (ih_M_pred_gather_uint64__pred_Tables_1_l0 _ _ h lo c Q hb)
    · replace h := ite_none h h3; replace h3 := bfalse h3
      try simp -implicitDefEqProofs only [go_sem, h3]
      injection h with h; subst h
      exact .inr ⟨[(100500, some 100500)], _, by (simp -implicitDefEqProofs only [go_sem, h3] <;> first | done | rfl | trivial), hb _ rfl⟩
  · intro M_M_pred_gather_uint64__pred_Tables_1_l0 ih_M_pred_gather_uint64__pred_Tables_1_l0 x r h
    refine Fn.of_lc mix fn_164 lok_164 (by rfl) (flC (T_api_Pred.flatC _) (flC (.func _ _ _ (flN) (flN)) (flN))) (flat_slice _ (fun _ => .atom _) _) ?_
    simp -implicitDefEqProofs only [go_sem, Try.f164]
    obtain ⟨r1, h2, h⟩ := bind_some' h
    have hw := FnR.tok 10 (M_pred_Tables_1_R.w x _ h2) rfl rfl rfl
    try simp -implicitDefEqProofs only [go_sem] at hw
    refine .res [] [] [] [] _ _ hw (by (first | rfl | simp -implicitDefEqProofs only [go_sem] <;> rfl)) (by rfl) (by rfl) (by rfl) (by rfl) (by (first | rfl | simp -implicitDefEqProofs only [go_sem] <;> rfl)) (by rfl) (by (first | rfl | simp -implicitDefEqProofs only [go_sem] <;> rfl)) (by (first | rfl | simp -implicitDefEqProofs only [go_sem] <;> rfl)) ?_
    clear hw
    try simp -implicitDefEqProofs only [go_sem]
    obtain ⟨o10, h11, h⟩ := bind_some' h
    refine LLoop.viewQ (LLoop.view [(100500, some 10)] (by (first | rfl | simp -implicitDefEqProofs only [go_sem] <;> rfl)) (ih_M_pred_gather_uint64__pred_Tables_1_l0 (r1, x.Parts, (x.Parts.length : Int), 0) _ h11 _ _ _ ?_))
    intro s' hs'; subst hs'
    try simp -implicitDefEqProofs only [go_sem]
    injection h with h; subst h
    first | rfl | simp -implicitDefEqProofs only [go_sem] <;> rfl
theorem M_pred_gather_uint64__pred_Tables_1.w : type_of% (M_pred_gather_uint64__pred_Tables_1.l0.ws.2) := (M_pred_gather_uint64__pred_Tables_1.l0.ws.2)
def M_pred_Tables.l0 (x : Set64 × List Set64 × Int × Int) : Option (Set64) :=
  if (decide (x.2.2.2 < x.2.2.1)) = true then
    (getI x.2.1 x.2.2.2) >>= fun (e4 : Set64) =>
    M_pred_Tables.l0 ((x.1 ||| e4), x.2.1, x.2.2.1, (w64 (x.2.2.2 + 1)))
  else
    some x.1
  partial_fixpoint
theorem M_pred_Tables.l0.ws : (∀ (x : Set64 × List Set64 × Int × Int) (o : Set64), M_pred_Tables.l0 x = some o → (fun (x : Set64 × List Set64 × Int × Int) (o : Set64) => ∀ (lo : Option Nat) (c : LCtx) (Q : Exit → LEnv → Prop) (hb : ∀ s : Set64, o = s → Q (.exit 0) ⟨[(3, .v (.w s))], []⟩), LLoop Try.prog 152 lo c 0 (VQ Q) ⟨[(3, .v (.w x.1)), (7, .v (.slice .foreign (x.2.1.map AV.w))), (8, .v (.i64 x.2.2.1)), (9, .v (.i64 x.2.2.2))], []⟩) x o) := by
  refine M_pred_Tables.l0.partial_correctness _ ?_
  · intro M_M_pred_Tables_l0 ih_M_pred_Tables_l0 x o h
    intro lo c Q hb
    refine LLoop.step mix fn_152 (by kernel_rfl) ?_
    simp -implicitDefEqProofs only [go_sem, Try.f152]
    by_cases h3 : (decide (x.2.2.2 < x.2.2.1)) = true
    · replace h := ite_some h h3
      try simp -implicitDefEqProofs only [go_sem, h3]
      obtain ⟨e4, h5, h⟩ := bind_some' h; replace h5 := getI_some h5; obtain ⟨h5', h5⟩ := h5
      try simp -implicitDefEqProofs only [go_sem, h3, h5, h5']
      exact LLoop.view [] (by (first | rfl | simp -implicitDefEqProofs only [go_sem, h3, h5, h5'] <;> rfl)) (ih_M_pred_Tables_l0 _ _ h lo c Q hb)
    · replace h := ite_none h h3; replace h3 := bfalse h3
      try simp -implicitDefEqProofs only [go_sem, h3]
      injection h with h; subst h
      exact .inr ⟨[], _, by (simp -implicitDefEqProofs only [go_sem, h3] <;> first | done | rfl | trivial), hb _ rfl⟩
theorem M_pred_Tables.l0.w : type_of% @M_pred_Tables.l0.ws := @M_pred_Tables.l0.ws
def M_pred_Tables (x : T_api_Pred) : Option (Set64) :=
  M_pred_gather_uint64__pred_Tables_1 x >>= fun r1 =>
  M_pred_Tables.l0 (0#64, r1, (r1.length : Int), 0) >>= fun (o6 : Set64) =>
  some o6
set_option maxHeartbeats 8000000 in
theorem M_pred_Tables.w : ∀ (x : T_api_Pred) (r : Set64), M_pred_Tables x = some r → (fun (x : T_api_Pred) (r : Set64) => Fn Try.prog 152 [.agg (T_api_Pred.C x)] (.w r)) x r := by
  intro x r h
  rw [M_pred_Tables] at h
  try dsimp only
  refine Fn.of_lc mix fn_152 lok_152 (by rfl) (flC (T_api_Pred.flatC _) (flN)) (.atom _) ?_
  simp -implicitDefEqProofs only [go_sem, Try.f152]
  obtain ⟨r1, h2, h⟩ := bind_some' h
  refine .plain _ _ rfl (M_pred_gather_uint64__pred_Tables_1.w x _ h2) ?_
  try simp -implicitDefEqProofs only [go_sem]
  obtain ⟨o6, h7, h⟩ := bind_some' h
  refine LLoop.viewQ (LLoop.view [] (by (first | rfl | simp -implicitDefEqProofs only [go_sem] <;> rfl)) (M_pred_Tables.l0.w (0#64, r1, (r1.length : Int), 0) _ h7 _ _ _ ?_))
  intro s' hs'; subst hs'
  try simp -implicitDefEqProofs only [go_sem]
  injection h with h; subst h
  first | rfl | simp -implicitDefEqProofs only [go_sem] <;> rfl
end Go.Proofs.Ytcfekacmmfdggaa.G
set_option linter.unusedVariables false
set_option linter.unusedSimpArgs false
set_option maxRecDepth 100000
namespace Go.Proofs.Ytcfekacmmfdggaa.G
theorem lok_92 : (Try.f92.body.isSome && !(Try.f92.name == "runtime.NumGoroutine") && okL (bodyF Try.f92) Try.f92.ntmps (bodyF Try.f92)) = true := by kernel_rfl
mutual
def M_pred_Copy.l0 (x : List T_api_Pred × List T_api_Pred × Int × Int × T_api_Pred × T_api_Pred) : Option (List T_api_Pred) :=
  if (decide (x.2.2.2.1 < x.2.2.1)) = true then
    (getI x.2.1 x.2.2.2.1) >>= fun (e2 : T_api_Pred) =>
    M_pred_Copy e2 >>= fun r4 =>
    (room 128 x.1 ([r4])) >>= fun (z6 : List T_api_Pred) =>
    M_pred_Copy.l0 (z6, x.2.1, x.2.2.1, (w64 (x.2.2.2.1 + 1)), x.2.2.2.2.1, x.2.2.2.2.2)
  else
    some x.1
  partial_fixpoint
def M_pred_Copy (x : T_api_Pred) : Option (T_api_Pred) :=
  M_pred_Copy.l0 (([] : List T_api_Pred), x.Parts, (x.Parts.length : Int), 0, x, (⟨0, 0, 0, (⟨0, 0, 0, (⟨false, 0⟩ : T_api_Value)⟩ : T_api_Term), (⟨0, 0, 0, (⟨false, 0⟩ : T_api_Value)⟩ : T_api_Term), []⟩ : T_api_Pred)) >>= fun (o8 : List T_api_Pred) =>
  some (⟨x.Kind, x.Truth, x.Op, x.A, x.B, o8⟩ : T_api_Pred)
  partial_fixpoint
end
theorem M_pred_Copy.l0.ws : (∀ (x : List T_api_Pred × List T_api_Pred × Int × Int × T_api_Pred × T_api_Pred) (o : List T_api_Pred), M_pred_Copy.l0 x = some o → (fun (x : List T_api_Pred × List T_api_Pred × Int × Int × T_api_Pred × T_api_Pred) (o : List T_api_Pred) => ∀ (lo : Option Nat) (c : LCtx) (Q : Exit → LEnv → Prop) (hb : ∀ s : List T_api_Pred, o = s → Q (.exit 0) ⟨[(1, .lref 1 0), (2, .lref 2 0), (3, .own 100300 14 (s.map T_api_Pred.av))], [(1, [.v (.i64 x.2.2.2.2.1.Kind), .v (.i64 x.2.2.2.2.1.Truth), .v (.i64 x.2.2.2.2.1.Op), .v (.i64 x.2.2.2.2.1.A.Kind), .v (.i64 x.2.2.2.2.1.A.Table), .v (.i64 x.2.2.2.2.1.A.Col), .v (.bool x.2.2.2.2.1.A.Value.Null), .v (.i64 x.2.2.2.2.1.A.Value.N), .v (.i64 x.2.2.2.2.1.B.Kind), .v (.i64 x.2.2.2.2.1.B.Table), .v (.i64 x.2.2.2.2.1.B.Col), .v (.bool x.2.2.2.2.1.B.Value.Null), .v (.i64 x.2.2.2.2.1.B.Value.N), .v (.slice .foreign (x.2.2.2.2.1.Parts.map T_api_Pred.av))]), (2, [.v (.i64 x.2.2.2.2.2.Kind), .v (.i64 x.2.2.2.2.2.Truth), .v (.i64 x.2.2.2.2.2.Op), .v (.i64 x.2.2.2.2.2.A.Kind), .v (.i64 x.2.2.2.2.2.A.Table), .v (.i64 x.2.2.2.2.2.A.Col), .v (.bool x.2.2.2.2.2.A.Value.Null), .v (.i64 x.2.2.2.2.2.A.Value.N), .v (.i64 x.2.2.2.2.2.B.Kind), .v (.i64 x.2.2.2.2.2.B.Table), .v (.i64 x.2.2.2.2.2.B.Col), .v (.bool x.2.2.2.2.2.B.Value.Null), .v (.i64 x.2.2.2.2.2.B.Value.N), .own 20000213 14 (x.2.2.2.2.2.Parts.map T_api_Pred.av)])]⟩), LLoop Try.prog 92 lo c 0 (VQ Q) ⟨[(1, .lref 1 0), (2, .lref 2 0), (3, .own 100300 14 (x.1.map T_api_Pred.av)), (7, .v (.slice .foreign (x.2.1.map T_api_Pred.av))), (8, .v (.i64 x.2.2.1)), (9, .v (.i64 x.2.2.2.1))], [(1, [.v (.i64 x.2.2.2.2.1.Kind), .v (.i64 x.2.2.2.2.1.Truth), .v (.i64 x.2.2.2.2.1.Op), .v (.i64 x.2.2.2.2.1.A.Kind), .v (.i64 x.2.2.2.2.1.A.Table), .v (.i64 x.2.2.2.2.1.A.Col), .v (.bool x.2.2.2.2.1.A.Value.Null), .v (.i64 x.2.2.2.2.1.A.Value.N), .v (.i64 x.2.2.2.2.1.B.Kind), .v (.i64 x.2.2.2.2.1.B.Table), .v (.i64 x.2.2.2.2.1.B.Col), .v (.bool x.2.2.2.2.1.B.Value.Null), .v (.i64 x.2.2.2.2.1.B.Value.N), .v (.slice .foreign (x.2.2.2.2.1.Parts.map T_api_Pred.av))]), (2, [.v (.i64 x.2.2.2.2.2.Kind), .v (.i64 x.2.2.2.2.2.Truth), .v (.i64 x.2.2.2.2.2.Op), .v (.i64 x.2.2.2.2.2.A.Kind), .v (.i64 x.2.2.2.2.2.A.Table), .v (.i64 x.2.2.2.2.2.A.Col), .v (.bool x.2.2.2.2.2.A.Value.Null), .v (.i64 x.2.2.2.2.2.A.Value.N), .v (.i64 x.2.2.2.2.2.B.Kind), .v (.i64 x.2.2.2.2.2.B.Table), .v (.i64 x.2.2.2.2.2.B.Col), .v (.bool x.2.2.2.2.2.B.Value.Null), .v (.i64 x.2.2.2.2.2.B.Value.N), .own 20000213 14 (x.2.2.2.2.2.Parts.map T_api_Pred.av)])]⟩) x o) ∧ (∀ (x : T_api_Pred) (o : T_api_Pred), M_pred_Copy x = some o → (fun (x : T_api_Pred) (r : T_api_Pred) => Fn Try.prog 92 [.agg (T_api_Pred.C x)] (.agg (T_api_Pred.C r))) x o) := by
  refine M_pred_Copy.l0.mutual_partial_correctness _ _ ?_ ?_
  · intro M_M_pred_Copy_l0 M_M_pred_Copy ih_M_pred_Copy_l0 ih_M_pred_Copy x o h
    intro lo c Q hb
    refine LLoop.step mix fn_92 (by kernel_rfl) ?_
    simp -implicitDefEqProofs only [go_sem, Try.f92]
    by_cases h1 : (decide (x.2.2.2.1 < x.2.2.1)) = true
    · replace h := ite_some h h1
      try simp -implicitDefEqProofs only [go_sem, h1]
      obtain ⟨e2, h3, h⟩ := bind_some' h; replace h3 := getI_some h3; obtain ⟨h3', h3⟩ := h3
      try simp -implicitDefEqProofs only [go_sem, h1, h3, h3']
      obtain ⟨r4, h5, h⟩ := bind_some' h
      refine .plain _ _ rfl (ih_M_pred_Copy e2 _ h5) ?_
      try simp -implicitDefEqProofs only [go_sem, h1, h3, h3']
      obtain ⟨z6, h7, h⟩ := bind_some' h; replace h7 := room_some h7; obtain ⟨h7', rfl⟩ := h7
      refine LApp.map (F := T_api_Pred.av) (xs := x.1) (ys := [r4]) t29_elem t66_size t66_bytes t66_zsize rfl T_api_Pred.len (by (first | rfl | simp -implicitDefEqProofs only [go_sem, h1, h3, h3'] <;> rfl)) (by (first | rfl | simp -implicitDefEqProofs only [go_sem, h1, h3, h3'] <;> rfl)) h7' ?_
      try simp -implicitDefEqProofs only [go_sem, h1, h3, h3']
      exact LLoop.view [(100300, some 17), (20000213, some 20000213)] (by (first | rfl | simp -implicitDefEqProofs only [go_sem, h1, h3, h3'] <;> rfl)) (ih_M_pred_Copy_l0 _ _ h lo c Q hb)
    · replace h := ite_none h h1; replace h1 := bfalse h1
      try simp -implicitDefEqProofs only [go_sem, h1]
      injection h with h; subst h
      exact .inr ⟨[(100300, some 100300), (20000213, some 20000213)], _, by (simp -implicitDefEqProofs only [go_sem, h1] <;> first | done | rfl | trivial), hb _ rfl⟩
  · intro M_M_pred_Copy_l0 ih_M_pred_Copy_l0 x r h
    refine Fn.of_lc mix fn_92 lok_92 (by rfl) (flC (T_api_Pred.flatC _) (flN)) (T_api_Pred.flatC _) ?_
    simp -implicitDefEqProofs only [go_sem, Try.f92]
    obtain ⟨o8, h9, h⟩ := bind_some' h
    refine LLoop.viewQ (LLoop.view [(100300, none), (20000213, none)] (by (first | rfl | simp -implicitDefEqProofs only [go_sem] <;> rfl)) (ih_M_pred_Copy_l0 (([] : List T_api_Pred), x.Parts, (x.Parts.length : Int), 0, x, (⟨0, 0, 0, (⟨0, 0, 0, (⟨false, 0⟩ : T_api_Value)⟩ : T_api_Term), (⟨0, 0, 0, (⟨false, 0⟩ : T_api_Value)⟩ : T_api_Term), []⟩ : T_api_Pred)) _ h9 _ _ _ ?_))
    intro s' hs'; subst hs'
    try simp -implicitDefEqProofs only [go_sem]
    injection h with h; subst h
    first | rfl | simp -implicitDefEqProofs only [go_sem] <;> rfl
theorem M_pred_Copy.w : type_of% (M_pred_Copy.l0.ws.2) := (M_pred_Copy.l0.ws.2)
end Go.Proofs.Ytcfekacmmfdggaa.G
set_option linter.unusedVariables false
set_option linter.unusedSimpArgs false
set_option maxRecDepth 100000
namespace Go.Proofs.Ytcfekacmmfdggaa.G
@[go_sem] theorem lrp_91_6 : lrp Try.prog 91 6 = (12, []) := by kernel_rfl
theorem lok_91 : (Try.f91.body.isSome && !(Try.f91.name == "runtime.NumGoroutine") && okL (bodyF Try.f91) Try.f91.ntmps (bodyF Try.f91)) = true := by kernel_rfl
mutual
def M_ref06_Same.l0 (x : Int × T_api_Pred × T_api_Pred) : Option (Lp (Unit) (Bool)) :=
  if (decide (x.1 < (x.2.1.Parts.length : Int))) = true then
    (getI x.2.1.Parts x.1) >>= fun (e8 : T_api_Pred) =>
    (getI x.2.2.Parts x.1) >>= fun (e10 : T_api_Pred) =>
    M_ref06_Same (e8, e10) >>= fun r12 =>
    if r12 = true then
      M_ref06_Same.l0 ((w64 (x.1 + 1)), x.2.1, x.2.2)
    else
      some (.ret false)
  else
    some (.brk ())
  partial_fixpoint
def M_ref06_Same (x : T_api_Pred × T_api_Pred) : Option (Bool) :=
  if (x.1.Kind != x.2.Kind) = true then
    some false
  else
    if (x.1.Truth != x.2.Truth) = true then
      some false
    else
      if (x.1.Op != x.2.Op) = true then
        some false
      else
        if ((x.1.A.Kind == x.2.A.Kind) && ((x.1.A.Table == x.2.A.Table) && ((x.1.A.Col == x.2.A.Col) && ((x.1.A.Value.Null == x.2.A.Value.Null) && (x.1.A.Value.N == x.2.A.Value.N))))) = true then
          if ((x.1.B.Kind == x.2.B.Kind) && ((x.1.B.Table == x.2.B.Table) && ((x.1.B.Col == x.2.B.Col) && ((x.1.B.Value.Null == x.2.B.Value.Null) && (x.1.B.Value.N == x.2.B.Value.N))))) = true then
            if ((x.1.Parts.length : Int) != (x.2.Parts.length : Int)) = true then
              some false
            else
              M_ref06_Same.l0 (0, x.1, x.2) >>= fun (o15 : Lp (Unit) (Bool)) => match o15 with
              | .brk s18 =>
                some true
              | .ret r17 =>
                some r17
          else
            some false
        else
          some false
  partial_fixpoint
end
theorem M_ref06_Same.l0.ws : (∀ (x : Int × T_api_Pred × T_api_Pred) (o : Lp (Unit) (Bool)), M_ref06_Same.l0 x = some o → (fun (x : Int × T_api_Pred × T_api_Pred) (o : Lp (Unit) (Bool)) => ∀ (lo : Option Nat) (c : LCtx) (Q : Exit → LEnv → Prop) (hb : ∀ s : Unit, o = Lp.brk s → Q (.exit 0) ⟨[], []⟩) (hr : ∀ (r : Bool) (L : LEnv), o = .ret r → LPostF Try.prog [.tmp 4] (.bool r) (fun _ => True) .ret L → Q .ret L), LLoop Try.prog 91 lo c 0 (VQ Q) ⟨[(2, .lref 2 0), (3, .lref 3 0), (5, .v (.i64 x.1))], [(2, [.v (.i64 x.2.1.Kind), .v (.i64 x.2.1.Truth), .v (.i64 x.2.1.Op), .v (.i64 x.2.1.A.Kind), .v (.i64 x.2.1.A.Table), .v (.i64 x.2.1.A.Col), .v (.bool x.2.1.A.Value.Null), .v (.i64 x.2.1.A.Value.N), .v (.i64 x.2.1.B.Kind), .v (.i64 x.2.1.B.Table), .v (.i64 x.2.1.B.Col), .v (.bool x.2.1.B.Value.Null), .v (.i64 x.2.1.B.Value.N), .v (.slice .foreign (x.2.1.Parts.map T_api_Pred.av))]), (3, [.v (.i64 x.2.2.Kind), .v (.i64 x.2.2.Truth), .v (.i64 x.2.2.Op), .v (.i64 x.2.2.A.Kind), .v (.i64 x.2.2.A.Table), .v (.i64 x.2.2.A.Col), .v (.bool x.2.2.A.Value.Null), .v (.i64 x.2.2.A.Value.N), .v (.i64 x.2.2.B.Kind), .v (.i64 x.2.2.B.Table), .v (.i64 x.2.2.B.Col), .v (.bool x.2.2.B.Value.Null), .v (.i64 x.2.2.B.Value.N), .v (.slice .foreign (x.2.2.Parts.map T_api_Pred.av))])]⟩) x o) ∧ (∀ (x : T_api_Pred × T_api_Pred) (o : Bool), M_ref06_Same x = some o → (fun (x : T_api_Pred × T_api_Pred) (r : Bool) => Fn Try.prog 91 [.agg (T_api_Pred.C x.1), .agg (T_api_Pred.C x.2)] (.bool r)) x o) := by
  refine M_ref06_Same.l0.mutual_partial_correctness _ _ ?_ ?_
  · intro M_M_ref06_Same_l0 M_M_ref06_Same ih_M_ref06_Same_l0 ih_M_ref06_Same x o h
    intro lo c Q hb hr
    refine LLoop.step mix fn_91 (by kernel_rfl) ?_
    simp -implicitDefEqProofs only [go_sem, Try.f91]
    by_cases h7 : (decide (x.1 < (x.2.1.Parts.length : Int))) = true
    · replace h := ite_some h h7
      try simp -implicitDefEqProofs only [go_sem, h7]
      obtain ⟨e8, h9, h⟩ := bind_some' h; replace h9 := getI_some h9; obtain ⟨h9', h9⟩ := h9
      try simp -implicitDefEqProofs only [go_sem, h7, h9, h9']
      obtain ⟨e10, h11, h⟩ := bind_some' h; replace h11 := getI_some h11; obtain ⟨h11', h11⟩ := h11
      try simp -implicitDefEqProofs only [go_sem, h7, h9, h9', h11, h11']
      obtain ⟨r12, h13, h⟩ := bind_some' h
      refine .plain _ _ rfl (ih_M_ref06_Same (e8, e10) _ h13) ?_
      try simp -implicitDefEqProofs only [go_sem, h7, h9, h9', h11, h11']
      by_cases h14 : r12 = true
      · replace h := ite_some h h14
        try simp -implicitDefEqProofs only [go_sem, h7, h9, h9', h11, h11', h14]
        exact LLoop.view [] (by (first | rfl | simp -implicitDefEqProofs only [go_sem, h7, h9, h9', h11, h11', h14] <;> rfl)) (ih_M_ref06_Same_l0 _ _ h lo c Q hb hr)
      · replace h := ite_none h h14; replace h14 := bfalse h14
        try simp -implicitDefEqProofs only [go_sem, h7, h9, h9', h11, h11', h14]
        injection h with h; subst h
        exact .inl (hr _ _ rfl (by (first | rfl | simp -implicitDefEqProofs only [go_sem, h7, h9, h9', h11, h11', h14] <;> rfl)))
    · replace h := ite_none h h7; replace h7 := bfalse h7
      try simp -implicitDefEqProofs only [go_sem, h7]
      injection h with h; subst h
      exact .inr ⟨[], _, by (simp -implicitDefEqProofs only [go_sem, h7] <;> first | done | rfl | trivial), hb _ rfl⟩
  · intro M_M_ref06_Same_l0 ih_M_ref06_Same_l0 x r h
    refine Fn.of_lc mix fn_91 lok_91 (by rfl) (flC (T_api_Pred.flatC _) (flC (T_api_Pred.flatC _) (flN))) (.atom _) ?_
    simp -implicitDefEqProofs only [go_sem, Try.f91]
    by_cases h1 : (x.1.Kind != x.2.Kind) = true
    · replace h := ite_some h h1
      try simp -implicitDefEqProofs only [go_sem, h1]
      injection h with h; subst h
      first | rfl | simp -implicitDefEqProofs only [go_sem, h1] <;> rfl
    · replace h := ite_none h h1; replace h1 := bfalse h1
      try simp -implicitDefEqProofs only [go_sem, h1]
      by_cases h2 : (x.1.Truth != x.2.Truth) = true
      · replace h := ite_some h h2
        try simp -implicitDefEqProofs only [go_sem, h1, h2]
        injection h with h; subst h
        first | rfl | simp -implicitDefEqProofs only [go_sem, h1, h2] <;> rfl
      · replace h := ite_none h h2; replace h2 := bfalse h2
        try simp -implicitDefEqProofs only [go_sem, h1, h2]
        by_cases h3 : (x.1.Op != x.2.Op) = true
        · replace h := ite_some h h3
          try simp -implicitDefEqProofs only [go_sem, h1, h2, h3]
          injection h with h; subst h
          first | rfl | simp -implicitDefEqProofs only [go_sem, h1, h2, h3] <;> rfl
        · replace h := ite_none h h3; replace h3 := bfalse h3
          try simp -implicitDefEqProofs only [go_sem, h1, h2, h3]
          by_cases h4 : ((x.1.A.Kind == x.2.A.Kind) && ((x.1.A.Table == x.2.A.Table) && ((x.1.A.Col == x.2.A.Col) && ((x.1.A.Value.Null == x.2.A.Value.Null) && (x.1.A.Value.N == x.2.A.Value.N))))) = true
          · replace h := ite_some h h4
            try simp -implicitDefEqProofs only [go_sem, h1, h2, h3, h4]
            by_cases h5 : ((x.1.B.Kind == x.2.B.Kind) && ((x.1.B.Table == x.2.B.Table) && ((x.1.B.Col == x.2.B.Col) && ((x.1.B.Value.Null == x.2.B.Value.Null) && (x.1.B.Value.N == x.2.B.Value.N))))) = true
            · replace h := ite_some h h5
              try simp -implicitDefEqProofs only [go_sem, h1, h2, h3, h4, h5]
              by_cases h6 : ((x.1.Parts.length : Int) != (x.2.Parts.length : Int)) = true
              · replace h := ite_some h h6
                try simp -implicitDefEqProofs only [go_sem, h1, h2, h3, h4, h5, h6]
                injection h with h; subst h
                first | rfl | simp -implicitDefEqProofs only [go_sem, h1, h2, h3, h4, h5, h6] <;> rfl
              · replace h := ite_none h h6; replace h6 := bfalse h6
                try simp -implicitDefEqProofs only [go_sem, h1, h2, h3, h4, h5, h6]
                obtain ⟨o15, h16, h⟩ := bind_some' h
                refine LLoop.viewQ (LLoop.view [] (by (first | rfl | simp -implicitDefEqProofs only [go_sem, h1, h2, h3, h4, h5, h6] <;> rfl)) (ih_M_ref06_Same_l0 (0, x.1, x.2) _ h16 _ _ _ ?_ ?_))
                · intro s18 hs'; subst hs'
                  try simp -implicitDefEqProofs only [go_sem, h1, h2, h3, h4, h5, h6]
                  injection h with h; subst h
                  first | rfl | simp -implicitDefEqProofs only [go_sem, h1, h2, h3, h4, h5, h6] <;> rfl
                · intro r17 L' hs' hL'; subst hs'
                  injection h with h; subst h
                  first | exact hL' | (simp -implicitDefEqProofs only [go_sem]; exact hL') | (simp -implicitDefEqProofs only [go_sem]; simp -implicitDefEqProofs only [go_sem] at hL'; exact hL')
            · replace h := ite_none h h5; replace h5 := bfalse h5
              try simp -implicitDefEqProofs only [go_sem, h1, h2, h3, h4, h5]
              injection h with h; subst h
              first | rfl | simp -implicitDefEqProofs only [go_sem, h1, h2, h3, h4, h5] <;> rfl
          · replace h := ite_none h h4; replace h4 := bfalse h4
            try simp -implicitDefEqProofs only [go_sem, h1, h2, h3, h4]
            injection h with h; subst h
            first | rfl | simp -implicitDefEqProofs only [go_sem, h1, h2, h3, h4] <;> rfl
theorem M_ref06_Same.w : type_of% (M_ref06_Same.l0.ws.2) := (M_ref06_Same.l0.ws.2)
end Go.Proofs.Ytcfekacmmfdggaa.G
set_option linter.unusedVariables false
set_option linter.unusedSimpArgs false
set_option maxRecDepth 100000
namespace Go.Proofs.Ytcfekacmmfdggaa.G
@[go_sem] theorem lrp_53_6 : lrp Try.prog 53 6 = (10, []) := by kernel_rfl
theorem lok_53 : (Try.f53.body.isSome && !(Try.f53.name == "runtime.NumGoroutine") && okL (bodyF Try.f53) Try.f53.ntmps (bodyF Try.f53)) = true := by kernel_rfl
def M_ref06_List.l0 (x : List T_api_Pred × List T_api_Pred × Int) : Option (Lp (Unit) (Bool)) :=
  if (decide (x.2.2 < (x.1.length : Int))) = true then
    (getI x.1 x.2.2) >>= fun (e3 : T_api_Pred) =>
    (getI x.2.1 x.2.2) >>= fun (e5 : T_api_Pred) =>
    M_ref06_Same (e3, e5) >>= fun r7 =>
    if r7 = true then
      M_ref06_List.l0 (x.1, x.2.1, (w64 (x.2.2 + 1)))
    else
      some (.ret false)
  else
    some (.brk ())
  partial_fixpoint
theorem M_ref06_List.l0.ws : (∀ (x : List T_api_Pred × List T_api_Pred × Int) (o : Lp (Unit) (Bool)), M_ref06_List.l0 x = some o → (fun (x : List T_api_Pred × List T_api_Pred × Int) (o : Lp (Unit) (Bool)) => ∀ (lo : Option Nat) (c : LCtx) (Q : Exit → LEnv → Prop) (hb : ∀ s : Unit, o = Lp.brk s → Q (.exit 0) ⟨[], []⟩) (hr : ∀ (r : Bool) (L : LEnv), o = .ret r → LPostF Try.prog [.tmp 4] (.bool r) (fun _ => True) .ret L → Q .ret L), LLoop Try.prog 53 lo c 0 (VQ Q) ⟨[(0, .v (.slice .foreign (x.1.map T_api_Pred.av))), (1, .v (.slice .foreign (x.2.1.map T_api_Pred.av))), (5, .v (.i64 x.2.2))], []⟩) x o) := by
  refine M_ref06_List.l0.partial_correctness _ ?_
  · intro M_M_ref06_List_l0 ih_M_ref06_List_l0 x o h
    intro lo c Q hb hr
    refine LLoop.step mix fn_53 (by kernel_rfl) ?_
    simp -implicitDefEqProofs only [go_sem, Try.f53]
    by_cases h2 : (decide (x.2.2 < (x.1.length : Int))) = true
    · replace h := ite_some h h2
      try simp -implicitDefEqProofs only [go_sem, h2]
      obtain ⟨e3, h4, h⟩ := bind_some' h; replace h4 := getI_some h4; obtain ⟨h4', h4⟩ := h4
      try simp -implicitDefEqProofs only [go_sem, h2, h4, h4']
      obtain ⟨e5, h6, h⟩ := bind_some' h; replace h6 := getI_some h6; obtain ⟨h6', h6⟩ := h6
      try simp -implicitDefEqProofs only [go_sem, h2, h4, h4', h6, h6']
      obtain ⟨r7, h8, h⟩ := bind_some' h
      refine .plain _ _ rfl (M_ref06_Same.w (e3, e5) _ h8) ?_
      try simp -implicitDefEqProofs only [go_sem, h2, h4, h4', h6, h6']
      by_cases h9 : r7 = true
      · replace h := ite_some h h9
        try simp -implicitDefEqProofs only [go_sem, h2, h4, h4', h6, h6', h9]
        exact LLoop.view [] (by (first | rfl | simp -implicitDefEqProofs only [go_sem, h2, h4, h4', h6, h6', h9] <;> rfl)) (ih_M_ref06_List_l0 _ _ h lo c Q hb hr)
      · replace h := ite_none h h9; replace h9 := bfalse h9
        try simp -implicitDefEqProofs only [go_sem, h2, h4, h4', h6, h6', h9]
        injection h with h; subst h
        exact .inl (hr _ _ rfl (by (first | rfl | simp -implicitDefEqProofs only [go_sem, h2, h4, h4', h6, h6', h9] <;> rfl)))
    · replace h := ite_none h h2; replace h2 := bfalse h2
      try simp -implicitDefEqProofs only [go_sem, h2]
      injection h with h; subst h
      exact .inr ⟨[], _, by (simp -implicitDefEqProofs only [go_sem, h2] <;> first | done | rfl | trivial), hb _ rfl⟩
theorem M_ref06_List.l0.w : type_of% @M_ref06_List.l0.ws := @M_ref06_List.l0.ws
def M_ref06_List (x : List T_api_Pred × List T_api_Pred) : Option (Bool) :=
  if ((x.1.length : Int) != (x.2.length : Int)) = true then
    some false
  else
    M_ref06_List.l0 (x.1, x.2, 0) >>= fun (o10 : Lp (Unit) (Bool)) => match o10 with
    | .brk s13 =>
      some true
    | .ret r12 =>
      some r12
set_option maxHeartbeats 8000000 in
theorem M_ref06_List.w : ∀ (x : List T_api_Pred × List T_api_Pred) (r : Bool), M_ref06_List x = some r → (fun (x : List T_api_Pred × List T_api_Pred) (r : Bool) => Fn Try.prog 53 [.slice .foreign (x.1.map T_api_Pred.av), .slice .foreign (x.2.map T_api_Pred.av)] (.bool r)) x r := by
  intro x r h
  rw [M_ref06_List] at h
  try dsimp only
  refine Fn.of_lc mix fn_53 lok_53 (by rfl) (flC (flat_slice _ T_api_Pred.flat _) (flC (flat_slice _ T_api_Pred.flat _) (flN))) (.atom _) ?_
  simp -implicitDefEqProofs only [go_sem, Try.f53]
  by_cases h1 : ((x.1.length : Int) != (x.2.length : Int)) = true
  · replace h := ite_some h h1
    try simp -implicitDefEqProofs only [go_sem, h1]
    injection h with h; subst h
    first | rfl | simp -implicitDefEqProofs only [go_sem, h1] <;> rfl
  · replace h := ite_none h h1; replace h1 := bfalse h1
    try simp -implicitDefEqProofs only [go_sem, h1]
    obtain ⟨o10, h11, h⟩ := bind_some' h
    refine LLoop.viewQ (LLoop.view [] (by (first | rfl | simp -implicitDefEqProofs only [go_sem, h1] <;> rfl)) (M_ref06_List.l0.w (x.1, x.2, 0) _ h11 _ _ _ ?_ ?_))
    · intro s13 hs'; subst hs'
      try simp -implicitDefEqProofs only [go_sem, h1]
      injection h with h; subst h
      first | rfl | simp -implicitDefEqProofs only [go_sem, h1] <;> rfl
    · intro r12 L' hs' hL'; subst hs'
      injection h with h; subst h
      first | exact hL' | (simp -implicitDefEqProofs only [go_sem]; exact hL') | (simp -implicitDefEqProofs only [go_sem]; simp -implicitDefEqProofs only [go_sem] at hL'; exact hL')
end Go.Proofs.Ytcfekacmmfdggaa.G
set_option linter.unusedVariables false
set_option linter.unusedSimpArgs false
set_option maxRecDepth 100000
namespace Go.Proofs.Ytcfekacmmfdggaa.G
end Go.Proofs.Ytcfekacmmfdggaa.G
set_option linter.unusedVariables false
set_option linter.unusedSimpArgs false
set_option maxRecDepth 100000
namespace Go.Proofs.Ytcfekacmmfdggaa.G
end Go.Proofs.Ytcfekacmmfdggaa.G
set_option linter.unusedVariables false
set_option linter.unusedSimpArgs false
namespace Go.Proofs.Ytcfekacmmfdggaa.G
open Classical

theorem term_tab (t : T_api_Term) : M_term_Tables t = some (ttab t) := by
  unfold M_term_Tables ttab
  by_cases h : t.Kind = 1
  · rw [if_pos (by simpa using h), if_pos h, sets_Of_eq _ (by simp)]
    simp -implicitDefEqProofs only [Option.bind_eq_bind, Option.bind_some]
    rw [ofL_cons, ofL_nil, BitVec.or_zero]
  · rw [if_neg (by simpa using h), if_neg h]
/-- The sets that a walk over a predicate gathers. -/
def T_api_Pred.sets : T_api_Pred → List Set64
  | ⟨_, _, _, a, b, ps⟩ => (ttab a ||| ttab b) :: setsL ps
where setsL : List T_api_Pred → List Set64
  | [] => []
  | x :: l => x.sets ++ setsL l
theorem psets_eq (p : T_api_Pred) : p.sets = (ttab p.A ||| ttab p.B) :: T_api_Pred.sets.setsL p.Parts := by
  obtain ⟨a, b, c, d, e, ps⟩ := p
  simp only [T_api_Pred.sets]
theorem psets_len (p : T_api_Pred) : p.sets.length = p.size := by
  induction p using T_api_Pred.induct with
  | h p ih =>
    have hl : ∀ l : List T_api_Pred, (∀ x ∈ l, x.sets.length = x.size) → (T_api_Pred.sets.setsL l).length = (l.map T_api_Pred.size).sum := by
      intro l
      induction l with
      | nil => intro _; simp [T_api_Pred.sets.setsL]
      | cons x l ih2 =>
        intro h
        have h1 := h x List.mem_cons_self
        have h2 := ih2 fun y hy => h y (List.mem_cons_of_mem _ hy)
        simp only [T_api_Pred.sets.setsL, List.length_append, List.map_cons, List.sum_cons]; omega
    have := hl p.Parts ih
    rw [psets_eq, psize_eq, List.length_cons]; omega
theorem orL_append (l l' : List Set64) (s : Set64) : (l ++ l').foldl (fun a b => a ||| b) s = l'.foldl (fun a b => a ||| b) (l.foldl (fun a b => a ||| b) s) := List.foldl_append
theorem orL_out (l : List Set64) : ∀ s : Set64, l.foldl (fun a b => a ||| b) s = s ||| l.foldl (fun a b => a ||| b) 0#64 := by
  induction l with
  | nil => intro s; simp
  | cons x l ih => intro s; simp only [List.foldl_cons]; rw [ih, ih (0#64 ||| x), BitVec.zero_or, BitVec.or_assoc]
theorem psets_or (p : T_api_Pred) : p.sets.foldl (fun a b => a ||| b) 0#64 = p.tabs := by
  induction p using T_api_Pred.induct with
  | h p ih =>
    have hl : ∀ l : List T_api_Pred, (∀ x ∈ l, x.sets.foldl (fun a b => a ||| b) 0#64 = x.tabs) → (T_api_Pred.sets.setsL l).foldl (fun a b => a ||| b) 0#64 = T_api_Pred.tabs.tabsL l := by
      intro l
      induction l with
      | nil => intro _; rfl
      | cons x l ih2 =>
        intro h
        have h1 := h x List.mem_cons_self
        have h2 := ih2 fun y hy => h y (List.mem_cons_of_mem _ hy)
        rw [T_api_Pred.sets.setsL, T_api_Pred.tabs.tabsL, orL_append, orL_out, h1, h2]
    have := hl p.Parts ih
    rw [psets_eq, ptabs_eq, List.foldl_cons, orL_out, BitVec.zero_or, this]
theorem gather_eq (p : T_api_Pred) : p.size ≤ 1000000 → M_pred_gather_uint64__pred_Tables_1 p = some p.sets := by
  induction p using T_api_Pred.induct with
  | h p ih =>
    intro hsz
    have hpl := parts_len p
    have key : ∀ n i (s : List Set64), p.Parts.length - i = n → i ≤ p.Parts.length → s.length + ((p.Parts.drop i).map T_api_Pred.size).sum ≤ 1000000 →
        M_pred_gather_uint64__pred_Tables_1.l0 (s, p.Parts, (p.Parts.length : Int), (i : Int)) = some (s ++ T_api_Pred.sets.setsL (p.Parts.drop i)) := by
      intro n
      induction n with
      | zero =>
        intro i s h1 h2 _
        obtain rfl : i = p.Parts.length := by omega
        rw [M_pred_gather_uint64__pred_Tables_1.l0, if_neg (dge (by dsimp only; omega)), List.drop_length]
        simp [T_api_Pred.sets.setsL]
      | succ n ihn =>
        intro i s h1 h2 hs
        have hi : i < p.Parts.length := by omega
        rw [List.drop_eq_getElem_cons hi] at hs ⊢
        rw [List.map_cons, List.sum_cons] at hs
        rw [M_pred_gather_uint64__pred_Tables_1.l0, if_pos (dlt (by dsimp only; omega))]
        dsimp only
        rw [getI_nat hi]
        simp -implicitDefEqProofs only [Option.bind_eq_bind, Option.bind_some]
        have hm := List.getElem_mem hi
        have hsz2 := part_size hm
        rw [ih _ hm (by omega)]
        simp -implicitDefEqProofs only [Option.bind_some]
        have hl := psets_len p.Parts[i]
        rw [room_of (by omega), w64_succ (by omega)]
        simp -implicitDefEqProofs only [Option.bind_some]
        rw [ihn (i + 1) _ (by omega) (by omega) (by rw [List.length_append]; omega), T_api_Pred.sets.setsL, List.append_assoc]
    rw [M_pred_gather_uint64__pred_Tables_1, M_pred_Tables_1_R, term_tab, term_tab]
    simp -implicitDefEqProofs only [Option.bind_eq_bind, Option.bind_some]
    have h0 := key p.Parts.length 0 [(ttab p.A ||| ttab p.B)] (by omega) (by omega) (by
      rw [List.drop_zero]
      have := psize_eq p
      simp only [List.length_cons, List.length_nil]; omega)
    rw [show ((0 : Nat) : Int) = 0 from rfl] at h0
    rw [h0, List.drop_zero, psets_eq]
    rfl
theorem pred_Tables_eq (p : T_api_Pred) (h : p.size ≤ 1000000) : M_pred_Tables p = some p.tabs := by
  unfold M_pred_Tables
  rw [gather_eq p h]
  simp -implicitDefEqProofs only [Option.bind_eq_bind, Option.bind_some]
  have hl := psets_len p
  have key := loop_all p.sets (fun i (s : Set64) => M_pred_Tables.l0 (s, p.sets, (p.sets.length : Int), (i : Int))) (fun s l => some (l.foldl (fun a b => a ||| b) s)) (fun s => by
      show M_pred_Tables.l0 _ = _
      rw [M_pred_Tables.l0, if_neg (dge (by dsimp only; omega))]; rfl)
    (fun i s h ih => by
      show M_pred_Tables.l0 _ = _
      rw [M_pred_Tables.l0, if_pos (dlt (by dsimp only; omega))]
      dsimp only
      rw [getI_nat h, w64_succ (by omega)]
      simp -implicitDefEqProofs only [Option.bind_eq_bind, Option.bind_some]
      exact ih _) 0#64
  have key' : M_pred_Tables.l0 (0#64, p.sets, (p.sets.length : Int), 0) = _ := key
  rw [key', psets_or]; rfl
theorem pred_Copy_eq (p : T_api_Pred) : p.size ≤ 1000000 → M_pred_Copy p = some p := by
  induction p using T_api_Pred.induct with
  | h p ih =>
    intro hsz
    have hpl := parts_len p
    have key : ∀ (q : T_api_Pred) n i (s : List T_api_Pred), p.Parts.length - i = n → i ≤ p.Parts.length → s.length ≤ i →
        M_pred_Copy.l0 (s, p.Parts, (p.Parts.length : Int), (i : Int), p, q) = some (s ++ p.Parts.drop i) := by
      intro q n
      induction n with
      | zero =>
        intro i s h1 h2 _
        obtain rfl : i = p.Parts.length := by omega
        rw [M_pred_Copy.l0, if_neg (dge (by dsimp only; omega)), List.drop_length, List.append_nil]
      | succ n ihn =>
        intro i s h1 h2 hs
        have hi : i < p.Parts.length := by omega
        rw [List.drop_eq_getElem_cons hi]
        rw [M_pred_Copy.l0, if_pos (dlt (by dsimp only; omega))]
        dsimp only
        rw [getI_nat hi]
        simp -implicitDefEqProofs only [Option.bind_eq_bind, Option.bind_some]
        have hm := List.getElem_mem hi
        have hsz2 := part_size hm
        rw [ih _ hm (by omega)]
        simp -implicitDefEqProofs only [Option.bind_some]
        rw [room_of (by simp only [List.length_cons, List.length_nil]; omega), w64_succ (by omega)]
        simp -implicitDefEqProofs only [Option.bind_some]
        rw [ihn (i + 1) _ (by omega) (by omega) (by rw [List.length_append]; simp only [List.length_cons, List.length_nil]; omega), List.append_assoc]; rfl
    rw [M_pred_Copy]
    have h0 := key ⟨0, 0, 0, ⟨0, 0, 0, ⟨false, 0⟩⟩, ⟨0, 0, 0, ⟨false, 0⟩⟩, []⟩ p.Parts.length 0 [] (by omega) (by omega) (by simp)
    rw [show ((0 : Nat) : Int) = 0 from rfl] at h0
    rw [h0, List.drop_zero, List.nil_append]
    obtain ⟨a, b, c, d, e, f⟩ := p
    rfl

/- Equality. -/
theorem lenne {α β : Type} {l : List α} {l' : List β} (h : ¬ l.length = l'.length) : ((l.length : Int) != (l'.length : Int)) = true := by
  simp only [bne_iff_ne, ne_eq]; omega
theorem leneq {α β : Type} {l : List α} {l' : List β} (h : l.length = l'.length) : ¬ ((l.length : Int) != (l'.length : Int)) = true := by
  simp only [bne_iff_ne, ne_eq]; omega
theorem term_ext {a b : T_api_Term} (h : ((a.Kind == b.Kind) && ((a.Table == b.Table) && ((a.Col == b.Col) && ((a.Value.Null == b.Value.Null) && (a.Value.N == b.Value.N))))) = true) : a = b := by
  obtain ⟨a1, a2, a3, a4, a5⟩ := a
  obtain ⟨b1, b2, b3, b4, b5⟩ := b
  simpa using h
theorem term_same (a b : T_api_Term) : ((a.Kind == b.Kind) && ((a.Table == b.Table) && ((a.Col == b.Col) && ((a.Value.Null == b.Value.Null) && (a.Value.N == b.Value.N))))) = decide (a = b) := by
  rw [Bool.eq_iff_iff]
  constructor
  · intro h; simpa using term_ext h
  · intro h; have : a = b := by simpa using h
    subst this; simp
theorem pred_eq_iff (p q : T_api_Pred) : p = q ↔ p.Kind = q.Kind ∧ p.Truth = q.Truth ∧ p.Op = q.Op ∧ p.A = q.A ∧ p.B = q.B ∧ p.Parts = q.Parts := by
  obtain ⟨a, b, c, d, e, f⟩ := p
  obtain ⟨a', b', c', d', e', f'⟩ := q
  simp
/-- A loop that compares two lists place by place. -/
theorem loop_eq {α : Type} (l l' : List α) (hlen : l.length = l'.length) (F : Nat → Option (Lp Unit Bool)) (P : α → Prop)
    (h0 : F l.length = some (.brk ()))
    (hs : ∀ i (h : i < l.length), F i = if l[i] = l'[i]'(hlen ▸ h) then F (i + 1) else some (.ret false)) : F 0 = if l = l' then some (.brk ()) else some (.ret false) := by
  have key : ∀ n i, l.length - i = n → i ≤ l.length → F i = if l.drop i = l'.drop i then some (.brk ()) else some (.ret false) := by
    intro n
    induction n with
    | zero =>
      intro i h1 h2
      obtain rfl : i = l.length := by omega
      rw [h0, if_pos (by rw [List.drop_length, hlen, List.drop_length])]
    | succ n ih =>
      intro i h1 h2
      have hi : i < l.length := by omega
      have hi' : i < l'.length := hlen ▸ hi
      rw [hs i hi, List.drop_eq_getElem_cons hi, List.drop_eq_getElem_cons hi', ih (i + 1) (by omega) (by omega)]
      by_cases e : l[i] = l'[i]
      · rw [if_pos e, e]
        by_cases e2 : l.drop (i + 1) = l'.drop (i + 1)
        · rw [if_pos e2, if_pos (by rw [e2])]
        · rw [if_neg e2, if_neg (fun h => e2 (List.cons.inj h).2)]
      · rw [if_neg e, if_neg (fun h => e (List.cons.inj h).1)]
  have := key l.length 0 (by omega) (by omega)
  rwa [List.drop_zero, List.drop_zero] at this
theorem ref06_Same_eq (p : T_api_Pred) : ∀ q : T_api_Pred, p.size ≤ 1000000 → M_ref06_Same (p, q) = some (decide (p = q)) := by
  induction p using T_api_Pred.induct with
  | h p ih =>
    intro q hsz
    have hpl := parts_len p
    rw [M_ref06_Same]
    dsimp only
    rw [term_same, term_same]
    by_cases h1 : p.Kind = q.Kind
    case neg => rw [if_pos (by simpa using h1)]; congr 1; exact (decide_eq_false (fun h => h1 (by rw [h]))).symm
    rw [if_neg (by simpa using h1)]
    by_cases h2 : p.Truth = q.Truth
    case neg => rw [if_pos (by simpa using h2)]; congr 1; exact (decide_eq_false (fun h => h2 (by rw [h]))).symm
    rw [if_neg (by simpa using h2)]
    by_cases h3 : p.Op = q.Op
    case neg => rw [if_pos (by simpa using h3)]; congr 1; exact (decide_eq_false (fun h => h3 (by rw [h]))).symm
    rw [if_neg (by simpa using h3)]
    by_cases h4 : p.A = q.A
    case neg => rw [if_neg (by simpa using h4)]; congr 1; exact (decide_eq_false (fun h => h4 (by rw [h]))).symm
    rw [if_pos (by simpa using h4)]
    by_cases h5 : p.B = q.B
    case neg => rw [if_neg (by simpa using h5)]; congr 1; exact (decide_eq_false (fun h => h5 (by rw [h]))).symm
    rw [if_pos (by simpa using h5)]
    by_cases h6 : p.Parts.length = q.Parts.length
    case neg => rw [if_pos (lenne h6)]; congr 1; exact (decide_eq_false (fun h => h6 (by rw [h]))).symm
    rw [if_neg (leneq h6)]
    have key := loop_eq p.Parts q.Parts h6 (fun i => M_ref06_Same.l0 ((i : Int), p, q)) (fun _ => True) (by
      show M_ref06_Same.l0 _ = _
      rw [M_ref06_Same.l0, if_neg (dge (by dsimp only; omega))]) (fun i h => by
      show M_ref06_Same.l0 _ = _
      rw [M_ref06_Same.l0, if_pos (dlt (by dsimp only; omega))]
      dsimp only
      rw [getI_nat h, getI_nat (h6 ▸ h), w64_succ (by omega)]
      simp -implicitDefEqProofs only [Option.bind_eq_bind, Option.bind_some]
      have hm := List.getElem_mem h
      have hs := part_size hm
      rw [ih _ hm _ (by omega)]
      simp -implicitDefEqProofs only [Option.bind_some, decide_eq_true_eq])
    have key' : M_ref06_Same.l0 (0, p, q) = _ := key
    rw [key']
    by_cases e : p.Parts = q.Parts
    · rw [if_pos e, decide_eq_true ((pred_eq_iff p q).2 ⟨h1, h2, h3, h4, h5, e⟩)]; rfl
    · rw [if_neg e, decide_eq_false (fun h => e (by rw [h]))]; rfl
theorem ref06_List_eq (l l' : List T_api_Pred) (hlen : l.length ≤ 1000000) (hsz : ∀ p ∈ l, p.size ≤ 1000000) : M_ref06_List (l, l') = some (decide (l = l')) := by
  unfold M_ref06_List
  dsimp only
  by_cases h6 : l.length = l'.length
  case neg => rw [if_pos (lenne h6)]; congr 1; exact (decide_eq_false (fun h => h6 (by rw [h]))).symm
  rw [if_neg (leneq h6)]
  have key := loop_eq l l' h6 (fun i => M_ref06_List.l0 (l, l', (i : Int))) (fun _ => True) (by
    show M_ref06_List.l0 _ = _
    rw [M_ref06_List.l0, if_neg (dge (by dsimp only; omega))]) (fun i h => by
    show M_ref06_List.l0 _ = _
    rw [M_ref06_List.l0, if_pos (dlt (by dsimp only; omega))]
    dsimp only
    rw [getI_nat h, getI_nat (h6 ▸ h), w64_succ (by omega)]
    simp -implicitDefEqProofs only [Option.bind_eq_bind, Option.bind_some]
    rw [ref06_Same_eq _ _ (hsz _ (List.getElem_mem h))]
    simp -implicitDefEqProofs only [Option.bind_some, decide_eq_true_eq])
  have key' : M_ref06_List.l0 (l, l', 0) = _ := key
  rw [key']
  by_cases e : l = l'
  · rw [if_pos e, decide_eq_true e]; rfl
  · rw [if_neg e, decide_eq_false e]; rfl
end Go.Proofs.Ytcfekacmmfdggaa.G
set_option linter.unusedVariables false
set_option linter.unusedSimpArgs false
set_option maxRecDepth 100000
namespace Go.Proofs.Ytcfekacmmfdggaa.G
theorem lok_54 : (Try.f54.body.isSome && !(Try.f54.name == "runtime.NumGoroutine") && okL (bodyF Try.f54) Try.f54.ntmps (bodyF Try.f54)) = true := by kernel_rfl
def M_tree_Copy.l0 (x : List T_api_Pred × List T_api_Pred × Int × Int × T_api_Tree × T_api_Tree) : Option (List T_api_Pred) :=
  if (decide (x.2.2.2.1 < x.2.2.1)) = true then
    (getI x.2.1 x.2.2.2.1) >>= fun (e2 : T_api_Pred) =>
    M_pred_Copy e2 >>= fun r4 =>
    (room 128 x.1 ([r4])) >>= fun (z6 : List T_api_Pred) =>
    M_tree_Copy.l0 (z6, x.2.1, x.2.2.1, (w64 (x.2.2.2.1 + 1)), x.2.2.2.2.1, x.2.2.2.2.2)
  else
    some x.1
  partial_fixpoint
theorem M_tree_Copy.l0.ws : (∀ (x : List T_api_Pred × List T_api_Pred × Int × Int × T_api_Tree × T_api_Tree) (o : List T_api_Pred), M_tree_Copy.l0 x = some o → (fun (x : List T_api_Pred × List T_api_Pred × Int × Int × T_api_Tree × T_api_Tree) (o : List T_api_Pred) => ∀ (lo : Option Nat) (c : LCtx) (Q : Exit → LEnv → Prop) (hb : ∀ s : List T_api_Pred, o = s → Q (.exit 0) ⟨[(1, .lref 1 0), (2, .lref 2 0), (3, .own 100300 14 (s.map T_api_Pred.av))], [(1, [.v (.i64 x.2.2.2.2.1.Kind), .v (.i64 x.2.2.2.2.1.Table), .v (.slice .foreign (x.2.2.2.2.1.Kids.map T_api_Tree.av)), .v (.slice .foreign (x.2.2.2.2.1.Conj.map T_api_Pred.av)), .v (.bool x.2.2.2.2.1.Hash)]), (2, [.v (.i64 x.2.2.2.2.2.Kind), .v (.i64 x.2.2.2.2.2.Table), .own 20000202 5 (x.2.2.2.2.2.Kids.map T_api_Tree.av), .own 20000203 14 (x.2.2.2.2.2.Conj.map T_api_Pred.av), .v (.bool x.2.2.2.2.2.Hash)])]⟩), LLoop Try.prog 54 lo c 0 (VQ Q) ⟨[(1, .lref 1 0), (2, .lref 2 0), (3, .own 100300 14 (x.1.map T_api_Pred.av)), (10, .v (.slice .foreign (x.2.1.map T_api_Pred.av))), (11, .v (.i64 x.2.2.1)), (12, .v (.i64 x.2.2.2.1))], [(1, [.v (.i64 x.2.2.2.2.1.Kind), .v (.i64 x.2.2.2.2.1.Table), .v (.slice .foreign (x.2.2.2.2.1.Kids.map T_api_Tree.av)), .v (.slice .foreign (x.2.2.2.2.1.Conj.map T_api_Pred.av)), .v (.bool x.2.2.2.2.1.Hash)]), (2, [.v (.i64 x.2.2.2.2.2.Kind), .v (.i64 x.2.2.2.2.2.Table), .own 20000202 5 (x.2.2.2.2.2.Kids.map T_api_Tree.av), .own 20000203 14 (x.2.2.2.2.2.Conj.map T_api_Pred.av), .v (.bool x.2.2.2.2.2.Hash)])]⟩) x o) := by
  refine M_tree_Copy.l0.partial_correctness _ ?_
  · intro M_M_tree_Copy_l0 ih_M_tree_Copy_l0 x o h
    intro lo c Q hb
    refine LLoop.step mix fn_54 (by kernel_rfl) ?_
    simp -implicitDefEqProofs only [go_sem, Try.f54]
    by_cases h1 : (decide (x.2.2.2.1 < x.2.2.1)) = true
    · replace h := ite_some h h1
      try simp -implicitDefEqProofs only [go_sem, h1]
      obtain ⟨e2, h3, h⟩ := bind_some' h; replace h3 := getI_some h3; obtain ⟨h3', h3⟩ := h3
      try simp -implicitDefEqProofs only [go_sem, h1, h3, h3']
      obtain ⟨r4, h5, h⟩ := bind_some' h
      refine .plain _ _ rfl (M_pred_Copy.w e2 _ h5) ?_
      try simp -implicitDefEqProofs only [go_sem, h1, h3, h3']
      obtain ⟨z6, h7, h⟩ := bind_some' h; replace h7 := room_some h7; obtain ⟨h7', rfl⟩ := h7
      refine LApp.map (F := T_api_Pred.av) (xs := x.1) (ys := [r4]) t29_elem t66_size t66_bytes t66_zsize rfl T_api_Pred.len (by (first | rfl | simp -implicitDefEqProofs only [go_sem, h1, h3, h3'] <;> rfl)) (by (first | rfl | simp -implicitDefEqProofs only [go_sem, h1, h3, h3'] <;> rfl)) h7' ?_
      try simp -implicitDefEqProofs only [go_sem, h1, h3, h3']
      exact LLoop.view [(100300, some 20), (20000202, some 20000202), (20000203, some 20000203)] (by (first | rfl | simp -implicitDefEqProofs only [go_sem, h1, h3, h3'] <;> rfl)) (ih_M_tree_Copy_l0 _ _ h lo c Q hb)
    · replace h := ite_none h h1; replace h1 := bfalse h1
      try simp -implicitDefEqProofs only [go_sem, h1]
      injection h with h; subst h
      exact .inr ⟨[(100300, some 100300), (20000202, some 20000202), (20000203, some 20000203)], _, by (simp -implicitDefEqProofs only [go_sem, h1] <;> first | done | rfl | trivial), hb _ rfl⟩
theorem M_tree_Copy.l0.w : type_of% @M_tree_Copy.l0.ws := @M_tree_Copy.l0.ws
mutual
def M_tree_Copy.l1 (x : List T_api_Pred × List T_api_Tree × List T_api_Tree × Int × Int × T_api_Tree × T_api_Tree) : Option (List T_api_Tree) :=
  if (decide (x.2.2.2.2.1 < x.2.2.2.1)) = true then
    (getI x.2.2.1 x.2.2.2.2.1) >>= fun (e11 : T_api_Tree) =>
    M_tree_Copy e11 >>= fun r13 =>
    (room 72 x.2.1 ([r13])) >>= fun (z15 : List T_api_Tree) =>
    M_tree_Copy.l1 (x.1, z15, x.2.2.1, x.2.2.2.1, (w64 (x.2.2.2.2.1 + 1)), x.2.2.2.2.2.1, x.2.2.2.2.2.2)
  else
    some x.2.1
  partial_fixpoint
def M_tree_Copy (x : T_api_Tree) : Option (T_api_Tree) :=
  M_tree_Copy.l0 (([] : List T_api_Pred), x.Conj, (x.Conj.length : Int), 0, x, (⟨0, 0, [], [], false⟩ : T_api_Tree)) >>= fun (o8 : List T_api_Pred) =>
  M_tree_Copy.l1 (o8, ([] : List T_api_Tree), x.Kids, (x.Kids.length : Int), 0, x, (⟨0, 0, [], [], false⟩ : T_api_Tree)) >>= fun (o17 : List T_api_Tree) =>
  some (⟨x.Kind, x.Table, o17, o8, x.Hash⟩ : T_api_Tree)
  partial_fixpoint
end
theorem M_tree_Copy.l1.ws : (∀ (x : List T_api_Pred × List T_api_Tree × List T_api_Tree × Int × Int × T_api_Tree × T_api_Tree) (o : List T_api_Tree), M_tree_Copy.l1 x = some o → (fun (x : List T_api_Pred × List T_api_Tree × List T_api_Tree × Int × Int × T_api_Tree × T_api_Tree) (o : List T_api_Tree) => ∀ (lo : Option Nat) (c : LCtx) (Q : Exit → LEnv → Prop) (hb : ∀ s : List T_api_Tree, o = s → Q (.exit 2) ⟨[(1, .lref 1 0), (2, .lref 2 0), (3, .own 100300 14 (x.1.map T_api_Pred.av)), (6, .own 100600 5 (s.map T_api_Tree.av))], [(1, [.v (.i64 x.2.2.2.2.2.1.Kind), .v (.i64 x.2.2.2.2.2.1.Table), .v (.slice .foreign (x.2.2.2.2.2.1.Kids.map T_api_Tree.av)), .v (.slice .foreign (x.2.2.2.2.2.1.Conj.map T_api_Pred.av)), .v (.bool x.2.2.2.2.2.1.Hash)]), (2, [.v (.i64 x.2.2.2.2.2.2.Kind), .v (.i64 x.2.2.2.2.2.2.Table), .own 20000202 5 (x.2.2.2.2.2.2.Kids.map T_api_Tree.av), .own 20000203 14 (x.2.2.2.2.2.2.Conj.map T_api_Pred.av), .v (.bool x.2.2.2.2.2.2.Hash)])]⟩), LLoop Try.prog 54 lo c 1 (VQ Q) ⟨[(1, .lref 1 0), (2, .lref 2 0), (3, .own 100300 14 (x.1.map T_api_Pred.av)), (6, .own 100600 5 (x.2.1.map T_api_Tree.av)), (23, .v (.slice .foreign (x.2.2.1.map T_api_Tree.av))), (24, .v (.i64 x.2.2.2.1)), (25, .v (.i64 x.2.2.2.2.1))], [(1, [.v (.i64 x.2.2.2.2.2.1.Kind), .v (.i64 x.2.2.2.2.2.1.Table), .v (.slice .foreign (x.2.2.2.2.2.1.Kids.map T_api_Tree.av)), .v (.slice .foreign (x.2.2.2.2.2.1.Conj.map T_api_Pred.av)), .v (.bool x.2.2.2.2.2.1.Hash)]), (2, [.v (.i64 x.2.2.2.2.2.2.Kind), .v (.i64 x.2.2.2.2.2.2.Table), .own 20000202 5 (x.2.2.2.2.2.2.Kids.map T_api_Tree.av), .own 20000203 14 (x.2.2.2.2.2.2.Conj.map T_api_Pred.av), .v (.bool x.2.2.2.2.2.2.Hash)])]⟩) x o) ∧ (∀ (x : T_api_Tree) (o : T_api_Tree), M_tree_Copy x = some o → (fun (x : T_api_Tree) (r : T_api_Tree) => Fn Try.prog 54 [.agg (T_api_Tree.C x)] (.agg (T_api_Tree.C r))) x o) := by
  refine M_tree_Copy.l1.mutual_partial_correctness _ _ ?_ ?_
  · intro M_M_tree_Copy_l1 M_M_tree_Copy ih_M_tree_Copy_l1 ih_M_tree_Copy x o h
    intro lo c Q hb
    refine LLoop.step mix fn_54 (by kernel_rfl) ?_
    simp -implicitDefEqProofs only [go_sem, Try.f54]
    by_cases h10 : (decide (x.2.2.2.2.1 < x.2.2.2.1)) = true
    · replace h := ite_some h h10
      try simp -implicitDefEqProofs only [go_sem, h10]
      obtain ⟨e11, h12, h⟩ := bind_some' h; replace h12 := getI_some h12; obtain ⟨h12', h12⟩ := h12
      try simp -implicitDefEqProofs only [go_sem, h10, h12, h12']
      obtain ⟨r13, h14, h⟩ := bind_some' h
      refine .plain _ _ rfl (ih_M_tree_Copy e11 _ h14) ?_
      try simp -implicitDefEqProofs only [go_sem, h10, h12, h12']
      obtain ⟨z15, h16, h⟩ := bind_some' h; replace h16 := room_some h16; obtain ⟨h16', rfl⟩ := h16
      refine LApp.map (F := T_api_Tree.av) (xs := x.2.1) (ys := [r13]) t28_elem t31_size t31_bytes t31_zsize rfl T_api_Tree.len (by (first | rfl | simp -implicitDefEqProofs only [go_sem, h10, h12, h12'] <;> rfl)) (by (first | rfl | simp -implicitDefEqProofs only [go_sem, h10, h12, h12'] <;> rfl)) h16' ?_
      try simp -implicitDefEqProofs only [go_sem, h10, h12, h12']
      exact LLoop.view [(100300, some 100300), (100600, some 33), (20000202, some 20000202), (20000203, some 20000203)] (by (first | rfl | simp -implicitDefEqProofs only [go_sem, h10, h12, h12'] <;> rfl)) (ih_M_tree_Copy_l1 _ _ h lo c Q hb)
    · replace h := ite_none h h10; replace h10 := bfalse h10
      try simp -implicitDefEqProofs only [go_sem, h10]
      injection h with h; subst h
      exact .inr ⟨[(100300, some 100300), (100600, some 100600), (20000202, some 20000202), (20000203, some 20000203)], _, by (simp -implicitDefEqProofs only [go_sem, h10] <;> first | done | rfl | trivial), hb _ rfl⟩
  · intro M_M_tree_Copy_l1 ih_M_tree_Copy_l1 x r h
    refine Fn.of_lc mix fn_54 lok_54 (by rfl) (flC (T_api_Tree.flatC _) (flN)) (T_api_Tree.flatC _) ?_
    simp -implicitDefEqProofs only [go_sem, Try.f54]
    obtain ⟨o8, h9, h⟩ := bind_some' h
    refine LLoop.viewQ (LLoop.view [(100300, none), (20000202, none), (20000203, none)] (by (first | rfl | simp -implicitDefEqProofs only [go_sem] <;> rfl)) (M_tree_Copy.l0.w (([] : List T_api_Pred), x.Conj, (x.Conj.length : Int), 0, x, (⟨0, 0, [], [], false⟩ : T_api_Tree)) _ h9 _ _ _ ?_))
    intro s' hs'; subst hs'
    try simp -implicitDefEqProofs only [go_sem]
    obtain ⟨o17, h18, h⟩ := bind_some' h
    refine LLoop.viewQ (LLoop.view [(100300, some 100300), (100600, none), (20000202, some 20000202), (20000203, some 20000203)] (by (first | rfl | simp -implicitDefEqProofs only [go_sem] <;> rfl)) (ih_M_tree_Copy_l1 (o8, ([] : List T_api_Tree), x.Kids, (x.Kids.length : Int), 0, x, (⟨0, 0, [], [], false⟩ : T_api_Tree)) _ h18 _ _ _ ?_))
    intro s' hs'; subst hs'
    try simp -implicitDefEqProofs only [go_sem]
    injection h with h; subst h
    first | rfl | simp -implicitDefEqProofs only [go_sem] <;> rfl
theorem M_tree_Copy.w : type_of% (M_tree_Copy.l1.ws.2) := (M_tree_Copy.l1.ws.2)
end Go.Proofs.Ytcfekacmmfdggaa.G
set_option linter.unusedVariables false
set_option linter.unusedSimpArgs false
set_option maxRecDepth 100000
namespace Go.Proofs.Ytcfekacmmfdggaa.G
@[go_sem] theorem lrp_18_6 : lrp Try.prog 18 6 = (12, []) := by kernel_rfl
theorem lok_18 : (Try.f18.body.isSome && !(Try.f18.name == "runtime.NumGoroutine") && okL (bodyF Try.f18) Try.f18.ntmps (bodyF Try.f18)) = true := by kernel_rfl
mutual
def M_ref10_Same.l0 (x : Int × T_api_Tree × T_api_Tree) : Option (Lp (Unit) (Bool)) :=
  if (decide (x.1 < (x.2.1.Kids.length : Int))) = true then
    (getI x.2.1.Kids x.1) >>= fun (e10 : T_api_Tree) =>
    (getI x.2.2.Kids x.1) >>= fun (e12 : T_api_Tree) =>
    M_ref10_Same (e10, e12) >>= fun r14 =>
    if r14 = true then
      M_ref10_Same.l0 ((w64 (x.1 + 1)), x.2.1, x.2.2)
    else
      some (.ret false)
  else
    some (.brk ())
  partial_fixpoint
def M_ref10_Same (x : T_api_Tree × T_api_Tree) : Option (Bool) :=
  if (x.1.Kind != x.2.Kind) = true then
    some false
  else
    if (x.1.Table != x.2.Table) = true then
      some false
    else
      if x.1.Hash = true then
        if x.2.Hash = true then
          if ((x.1.Kids.length : Int) != (x.2.Kids.length : Int)) = true then
            some false
          else
            M_ref06_List (x.1.Conj, x.2.Conj) >>= fun r6 =>
            if r6 = true then
              M_ref10_Same.l0 (0, x.1, x.2) >>= fun (o17 : Lp (Unit) (Bool)) => match o17 with
              | .brk s20 =>
                some true
              | .ret r19 =>
                some r19
            else
              some false
        else
          some false
      else
        if x.2.Hash = true then
          some false
        else
          if ((x.1.Kids.length : Int) != (x.2.Kids.length : Int)) = true then
            some false
          else
            M_ref06_List (x.1.Conj, x.2.Conj) >>= fun r23 =>
            if r23 = true then
              M_ref10_Same.l0 (0, x.1, x.2) >>= fun (o26 : Lp (Unit) (Bool)) => match o26 with
              | .brk s29 =>
                some true
              | .ret r28 =>
                some r28
            else
              some false
  partial_fixpoint
end
theorem M_ref10_Same.l0.ws : (∀ (x : Int × T_api_Tree × T_api_Tree) (o : Lp (Unit) (Bool)), M_ref10_Same.l0 x = some o → (fun (x : Int × T_api_Tree × T_api_Tree) (o : Lp (Unit) (Bool)) => ∀ (lo : Option Nat) (c : LCtx) (Q : Exit → LEnv → Prop) (hb : ∀ s : Unit, o = Lp.brk s → Q (.exit 0) ⟨[], []⟩) (hr : ∀ (r : Bool) (L : LEnv), o = .ret r → LPostF Try.prog [.tmp 4] (.bool r) (fun _ => True) .ret L → Q .ret L), LLoop Try.prog 18 lo c 0 (VQ Q) ⟨[(2, .lref 2 0), (3, .lref 3 0), (5, .v (.i64 x.1))], [(2, [.v (.i64 x.2.1.Kind), .v (.i64 x.2.1.Table), .v (.slice .foreign (x.2.1.Kids.map T_api_Tree.av)), .v (.slice .foreign (x.2.1.Conj.map T_api_Pred.av)), .v (.bool x.2.1.Hash)]), (3, [.v (.i64 x.2.2.Kind), .v (.i64 x.2.2.Table), .v (.slice .foreign (x.2.2.Kids.map T_api_Tree.av)), .v (.slice .foreign (x.2.2.Conj.map T_api_Pred.av)), .v (.bool x.2.2.Hash)])]⟩) x o) ∧ (∀ (x : T_api_Tree × T_api_Tree) (o : Bool), M_ref10_Same x = some o → (fun (x : T_api_Tree × T_api_Tree) (r : Bool) => Fn Try.prog 18 [.agg (T_api_Tree.C x.1), .agg (T_api_Tree.C x.2)] (.bool r)) x o) := by
  refine M_ref10_Same.l0.mutual_partial_correctness _ _ ?_ ?_
  · intro M_M_ref10_Same_l0 M_M_ref10_Same ih_M_ref10_Same_l0 ih_M_ref10_Same x o h
    intro lo c Q hb hr
    refine LLoop.step mix fn_18 (by kernel_rfl) ?_
    simp -implicitDefEqProofs only [go_sem, Try.f18]
    by_cases h9 : (decide (x.1 < (x.2.1.Kids.length : Int))) = true
    · replace h := ite_some h h9
      try simp -implicitDefEqProofs only [go_sem, h9]
      obtain ⟨e10, h11, h⟩ := bind_some' h; replace h11 := getI_some h11; obtain ⟨h11', h11⟩ := h11
      try simp -implicitDefEqProofs only [go_sem, h9, h11, h11']
      obtain ⟨e12, h13, h⟩ := bind_some' h; replace h13 := getI_some h13; obtain ⟨h13', h13⟩ := h13
      try simp -implicitDefEqProofs only [go_sem, h9, h11, h11', h13, h13']
      obtain ⟨r14, h15, h⟩ := bind_some' h
      refine .plain _ _ rfl (ih_M_ref10_Same (e10, e12) _ h15) ?_
      try simp -implicitDefEqProofs only [go_sem, h9, h11, h11', h13, h13']
      by_cases h16 : r14 = true
      · replace h := ite_some h h16
        try simp -implicitDefEqProofs only [go_sem, h9, h11, h11', h13, h13', h16]
        exact LLoop.view [] (by (first | rfl | simp -implicitDefEqProofs only [go_sem, h9, h11, h11', h13, h13', h16] <;> rfl)) (ih_M_ref10_Same_l0 _ _ h lo c Q hb hr)
      · replace h := ite_none h h16; replace h16 := bfalse h16
        try simp -implicitDefEqProofs only [go_sem, h9, h11, h11', h13, h13', h16]
        injection h with h; subst h
        exact .inl (hr _ _ rfl (by (first | rfl | simp -implicitDefEqProofs only [go_sem, h9, h11, h11', h13, h13', h16] <;> rfl)))
    · replace h := ite_none h h9; replace h9 := bfalse h9
      try simp -implicitDefEqProofs only [go_sem, h9]
      injection h with h; subst h
      exact .inr ⟨[], _, by (simp -implicitDefEqProofs only [go_sem, h9] <;> first | done | rfl | trivial), hb _ rfl⟩
  · intro M_M_ref10_Same_l0 ih_M_ref10_Same_l0 x r h
    refine Fn.of_lc mix fn_18 lok_18 (by rfl) (flC (T_api_Tree.flatC _) (flC (T_api_Tree.flatC _) (flN))) (.atom _) ?_
    simp -implicitDefEqProofs only [go_sem, Try.f18]
    by_cases h1 : (x.1.Kind != x.2.Kind) = true
    · replace h := ite_some h h1
      try simp -implicitDefEqProofs only [go_sem, h1]
      injection h with h; subst h
      first | rfl | simp -implicitDefEqProofs only [go_sem, h1] <;> rfl
    · replace h := ite_none h h1; replace h1 := bfalse h1
      try simp -implicitDefEqProofs only [go_sem, h1]
      by_cases h2 : (x.1.Table != x.2.Table) = true
      · replace h := ite_some h h2
        try simp -implicitDefEqProofs only [go_sem, h1, h2]
        injection h with h; subst h
        first | rfl | simp -implicitDefEqProofs only [go_sem, h1, h2] <;> rfl
      · replace h := ite_none h h2; replace h2 := bfalse h2
        try simp -implicitDefEqProofs only [go_sem, h1, h2]
        by_cases h3 : x.1.Hash = true
        · replace h := ite_some h h3
          try simp -implicitDefEqProofs only [go_sem, h1, h2, h3]
          by_cases h4 : x.2.Hash = true
          · replace h := ite_some h h4
            try simp -implicitDefEqProofs only [go_sem, h1, h2, h3, h4]
            by_cases h5 : ((x.1.Kids.length : Int) != (x.2.Kids.length : Int)) = true
            · replace h := ite_some h h5
              try simp -implicitDefEqProofs only [go_sem, h1, h2, h3, h4, h5]
              injection h with h; subst h
              first | rfl | simp -implicitDefEqProofs only [go_sem, h1, h2, h3, h4, h5] <;> rfl
            · replace h := ite_none h h5; replace h5 := bfalse h5
              try simp -implicitDefEqProofs only [go_sem, h1, h2, h3, h4, h5]
              obtain ⟨r6, h7, h⟩ := bind_some' h
              refine .plain _ _ rfl (M_ref06_List.w (x.1.Conj, x.2.Conj) _ h7) ?_
              try simp -implicitDefEqProofs only [go_sem, h1, h2, h3, h4, h5]
              by_cases h8 : r6 = true
              · replace h := ite_some h h8
                try simp -implicitDefEqProofs only [go_sem, h1, h2, h3, h4, h5, h8]
                obtain ⟨o17, h18, h⟩ := bind_some' h
                refine LLoop.viewQ (LLoop.view [] (by (first | rfl | simp -implicitDefEqProofs only [go_sem, h1, h2, h3, h4, h5, h8] <;> rfl)) (ih_M_ref10_Same_l0 (0, x.1, x.2) _ h18 _ _ _ ?_ ?_))
                · intro s20 hs'; subst hs'
                  try simp -implicitDefEqProofs only [go_sem, h1, h2, h3, h4, h5, h8]
                  injection h with h; subst h
                  first | rfl | simp -implicitDefEqProofs only [go_sem, h1, h2, h3, h4, h5, h8] <;> rfl
                · intro r19 L' hs' hL'; subst hs'
                  injection h with h; subst h
                  first | exact hL' | (simp -implicitDefEqProofs only [go_sem]; exact hL') | (simp -implicitDefEqProofs only [go_sem]; simp -implicitDefEqProofs only [go_sem] at hL'; exact hL')
              · replace h := ite_none h h8; replace h8 := bfalse h8
                try simp -implicitDefEqProofs only [go_sem, h1, h2, h3, h4, h5, h8]
                injection h with h; subst h
                first | rfl | simp -implicitDefEqProofs only [go_sem, h1, h2, h3, h4, h5, h8] <;> rfl
          · replace h := ite_none h h4; replace h4 := bfalse h4
            try simp -implicitDefEqProofs only [go_sem, h1, h2, h3, h4]
            injection h with h; subst h
            first | rfl | simp -implicitDefEqProofs only [go_sem, h1, h2, h3, h4] <;> rfl
        · replace h := ite_none h h3; replace h3 := bfalse h3
          try simp -implicitDefEqProofs only [go_sem, h1, h2, h3]
          by_cases h21 : x.2.Hash = true
          · replace h := ite_some h h21
            try simp -implicitDefEqProofs only [go_sem, h1, h2, h3, h21]
            injection h with h; subst h
            first | rfl | simp -implicitDefEqProofs only [go_sem, h1, h2, h3, h21] <;> rfl
          · replace h := ite_none h h21; replace h21 := bfalse h21
            try simp -implicitDefEqProofs only [go_sem, h1, h2, h3, h21]
            by_cases h22 : ((x.1.Kids.length : Int) != (x.2.Kids.length : Int)) = true
            · replace h := ite_some h h22
              try simp -implicitDefEqProofs only [go_sem, h1, h2, h3, h21, h22]
              injection h with h; subst h
              first | rfl | simp -implicitDefEqProofs only [go_sem, h1, h2, h3, h21, h22] <;> rfl
            · replace h := ite_none h h22; replace h22 := bfalse h22
              try simp -implicitDefEqProofs only [go_sem, h1, h2, h3, h21, h22]
              obtain ⟨r23, h24, h⟩ := bind_some' h
              refine .plain _ _ rfl (M_ref06_List.w (x.1.Conj, x.2.Conj) _ h24) ?_
              try simp -implicitDefEqProofs only [go_sem, h1, h2, h3, h21, h22]
              by_cases h25 : r23 = true
              · replace h := ite_some h h25
                try simp -implicitDefEqProofs only [go_sem, h1, h2, h3, h21, h22, h25]
                obtain ⟨o26, h27, h⟩ := bind_some' h
                refine LLoop.viewQ (LLoop.view [] (by (first | rfl | simp -implicitDefEqProofs only [go_sem, h1, h2, h3, h21, h22, h25] <;> rfl)) (ih_M_ref10_Same_l0 (0, x.1, x.2) _ h27 _ _ _ ?_ ?_))
                · intro s29 hs'; subst hs'
                  try simp -implicitDefEqProofs only [go_sem, h1, h2, h3, h21, h22, h25]
                  injection h with h; subst h
                  first | rfl | simp -implicitDefEqProofs only [go_sem, h1, h2, h3, h21, h22, h25] <;> rfl
                · intro r28 L' hs' hL'; subst hs'
                  injection h with h; subst h
                  first | exact hL' | (simp -implicitDefEqProofs only [go_sem]; exact hL') | (simp -implicitDefEqProofs only [go_sem]; simp -implicitDefEqProofs only [go_sem] at hL'; exact hL')
              · replace h := ite_none h h25; replace h25 := bfalse h25
                try simp -implicitDefEqProofs only [go_sem, h1, h2, h3, h21, h22, h25]
                injection h with h; subst h
                first | rfl | simp -implicitDefEqProofs only [go_sem, h1, h2, h3, h21, h22, h25] <;> rfl
theorem M_ref10_Same.w : type_of% (M_ref10_Same.l0.ws.2) := (M_ref10_Same.l0.ws.2)
end Go.Proofs.Ytcfekacmmfdggaa.G
