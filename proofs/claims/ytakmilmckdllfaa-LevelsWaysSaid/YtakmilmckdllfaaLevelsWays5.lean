/-
Part 5 of the proof of LevelsWays: merged by mkclaim.py (a program of this repo) out of texts of wip/g and printed models.
-/
import Derived.Test.YtakmilmckdllfaaLevelsWays4
set_option linter.unusedVariables false
set_option linter.unusedSimpArgs false
set_option maxRecDepth 100000
namespace Go.Proofs.Ytakmilmckdllfaa.G
theorem lok_72 : (Try.f72.body.isSome && !(Try.f72.name == "runtime.NumGoroutine") && okL (bodyF Try.f72) Try.f72.ntmps (bodyF Try.f72)) = true := by kernel_rfl
mutual
def M_pred_Copy.l0 (x : List T_api_Pred × List T_api_Pred × Int × Int × T_api_Pred × T_api_Pred) : Option (List T_api_Pred) :=
  if (decide (x.2.2.2.1 < x.2.2.1)) = true then
    (getI x.2.1 x.2.2.2.1) >>= fun (e2 : T_api_Pred) =>
    M_pred_Copy e2 >>= fun r4 =>
    (room 128 x.1 ([r4])) >>= fun (z6 : List T_api_Pred) =>
    M_pred_Copy.l0 (z6, x.2.1, x.2.2.1, (w64 (x.2.2.2.1 + 1)), x.2.2.2.2.1, x.2.2.2.2.2)
  else
    some x.1
  partial_fixpoint
def M_pred_Copy (x : T_api_Pred) : Option (T_api_Pred) :=
  M_pred_Copy.l0 (([] : List T_api_Pred), x.Parts, (x.Parts.length : Int), 0, x, (⟨0, 0, 0, (⟨0, 0, 0, (⟨false, 0⟩ : T_api_Value)⟩ : T_api_Term), (⟨0, 0, 0, (⟨false, 0⟩ : T_api_Value)⟩ : T_api_Term), []⟩ : T_api_Pred)) >>= fun (o8 : List T_api_Pred) =>
  some (⟨x.Kind, x.Truth, x.Op, x.A, x.B, o8⟩ : T_api_Pred)
  partial_fixpoint
end
theorem M_pred_Copy.l0.ws : (∀ (x : List T_api_Pred × List T_api_Pred × Int × Int × T_api_Pred × T_api_Pred) (o : List T_api_Pred), M_pred_Copy.l0 x = some o → (fun (x : List T_api_Pred × List T_api_Pred × Int × Int × T_api_Pred × T_api_Pred) (o : List T_api_Pred) => ∀ (lo : Option Nat) (c : LCtx) (Q : Exit → LEnv → Prop) (hb : ∀ s : List T_api_Pred, o = s → Q (.exit 0) ⟨[(1, .lref 1 0), (2, .lref 2 0), (3, .own 100300 14 (s.map T_api_Pred.av))], [(1, [.v (.i64 x.2.2.2.2.1.Kind), .v (.i64 x.2.2.2.2.1.Truth), .v (.i64 x.2.2.2.2.1.Op), .v (.i64 x.2.2.2.2.1.A.Kind), .v (.i64 x.2.2.2.2.1.A.Table), .v (.i64 x.2.2.2.2.1.A.Col), .v (.bool x.2.2.2.2.1.A.Value.Null), .v (.i64 x.2.2.2.2.1.A.Value.N), .v (.i64 x.2.2.2.2.1.B.Kind), .v (.i64 x.2.2.2.2.1.B.Table), .v (.i64 x.2.2.2.2.1.B.Col), .v (.bool x.2.2.2.2.1.B.Value.Null), .v (.i64 x.2.2.2.2.1.B.Value.N), .v (.slice .foreign (x.2.2.2.2.1.Parts.map T_api_Pred.av))]), (2, [.v (.i64 x.2.2.2.2.2.Kind), .v (.i64 x.2.2.2.2.2.Truth), .v (.i64 x.2.2.2.2.2.Op), .v (.i64 x.2.2.2.2.2.A.Kind), .v (.i64 x.2.2.2.2.2.A.Table), .v (.i64 x.2.2.2.2.2.A.Col), .v (.bool x.2.2.2.2.2.A.Value.Null), .v (.i64 x.2.2.2.2.2.A.Value.N), .v (.i64 x.2.2.2.2.2.B.Kind), .v (.i64 x.2.2.2.2.2.B.Table), .v (.i64 x.2.2.2.2.2.B.Col), .v (.bool x.2.2.2.2.2.B.Value.Null), .v (.i64 x.2.2.2.2.2.B.Value.N), .own 20000213 14 (x.2.2.2.2.2.Parts.map T_api_Pred.av)])]⟩), LLoop Try.prog 72 lo c 0 (VQ Q) ⟨[(1, .lref 1 0), (2, .lref 2 0), (3, .own 100300 14 (x.1.map T_api_Pred.av)), (7, .v (.slice .foreign (x.2.1.map T_api_Pred.av))), (8, .v (.i64 x.2.2.1)), (9, .v (.i64 x.2.2.2.1))], [(1, [.v (.i64 x.2.2.2.2.1.Kind), .v (.i64 x.2.2.2.2.1.Truth), .v (.i64 x.2.2.2.2.1.Op), .v (.i64 x.2.2.2.2.1.A.Kind), .v (.i64 x.2.2.2.2.1.A.Table), .v (.i64 x.2.2.2.2.1.A.Col), .v (.bool x.2.2.2.2.1.A.Value.Null), .v (.i64 x.2.2.2.2.1.A.Value.N), .v (.i64 x.2.2.2.2.1.B.Kind), .v (.i64 x.2.2.2.2.1.B.Table), .v (.i64 x.2.2.2.2.1.B.Col), .v (.bool x.2.2.2.2.1.B.Value.Null), .v (.i64 x.2.2.2.2.1.B.Value.N), .v (.slice .foreign (x.2.2.2.2.1.Parts.map T_api_Pred.av))]), (2, [.v (.i64 x.2.2.2.2.2.Kind), .v (.i64 x.2.2.2.2.2.Truth), .v (.i64 x.2.2.2.2.2.Op), .v (.i64 x.2.2.2.2.2.A.Kind), .v (.i64 x.2.2.2.2.2.A.Table), .v (.i64 x.2.2.2.2.2.A.Col), .v (.bool x.2.2.2.2.2.A.Value.Null), .v (.i64 x.2.2.2.2.2.A.Value.N), .v (.i64 x.2.2.2.2.2.B.Kind), .v (.i64 x.2.2.2.2.2.B.Table), .v (.i64 x.2.2.2.2.2.B.Col), .v (.bool x.2.2.2.2.2.B.Value.Null), .v (.i64 x.2.2.2.2.2.B.Value.N), .own 20000213 14 (x.2.2.2.2.2.Parts.map T_api_Pred.av)])]⟩) x o) ∧ (∀ (x : T_api_Pred) (o : T_api_Pred), M_pred_Copy x = some o → (fun (x : T_api_Pred) (r : T_api_Pred) => Fn Try.prog 72 [.agg (T_api_Pred.C x)] (.agg (T_api_Pred.C r))) x o) := by
  refine M_pred_Copy.l0.mutual_partial_correctness _ _ ?_ ?_
  · intro M_M_pred_Copy_l0 M_M_pred_Copy ih_M_pred_Copy_l0 ih_M_pred_Copy x o h
    intro lo c Q hb
    refine LLoop.step mix fn_72 (by kernel_rfl) ?_
    simp -implicitDefEqProofs only [go_sem, Try.f72]
    by_cases h1 : (decide (x.2.2.2.1 < x.2.2.1)) = true
    · replace h := ite_some h h1
      try simp -implicitDefEqProofs only [go_sem, h1]
      obtain ⟨e2, h3, h⟩ := bind_some' h; replace h3 := getI_some h3; obtain ⟨h3', h3⟩ := h3
      try simp -implicitDefEqProofs only [go_sem, h1, h3, h3']
      obtain ⟨r4, h5, h⟩ := bind_some' h
      refine .plain _ _ rfl (ih_M_pred_Copy e2 _ h5) ?_
      try simp -implicitDefEqProofs only [go_sem, h1, h3, h3']
      obtain ⟨z6, h7, h⟩ := bind_some' h; replace h7 := room_some h7; obtain ⟨h7', rfl⟩ := h7
      refine LApp.map (F := T_api_Pred.av) (xs := x.1) (ys := [r4]) t33_elem t42_size t42_bytes t42_zsize rfl T_api_Pred.len (by (first | rfl | (simp -implicitDefEqProofs only [go_sem, h1, h3, h3'] <;> rfl))) (by (first | rfl | (simp -implicitDefEqProofs only [go_sem, h1, h3, h3'] <;> rfl))) h7' ?_
      try simp -implicitDefEqProofs only [go_sem, h1, h3, h3']
      exact LLoop.view [(100300, some 17), (20000213, some 20000213)] (by (first | rfl | (simp -implicitDefEqProofs only [go_sem, h1, h3, h3'] <;> rfl))) (ih_M_pred_Copy_l0 _ _ h lo c Q hb)
    · replace h := ite_none h h1; replace h1 := bfalse h1
      try simp -implicitDefEqProofs only [go_sem, h1]
      injection h with h; subst h
      exact .inr ⟨[(100300, some 100300), (20000213, some 20000213)], _, by (simp -implicitDefEqProofs only [go_sem, h1] <;> first | done | rfl | trivial), hb _ rfl⟩
  · intro M_M_pred_Copy_l0 ih_M_pred_Copy_l0 x r h
    refine Fn.of_lc mix fn_72 lok_72 (by rfl) (flC (T_api_Pred.flatC _) (flN)) (T_api_Pred.flatC _) ?_
    simp -implicitDefEqProofs only [go_sem, Try.f72]
    obtain ⟨o8, h9, h⟩ := bind_some' h
    refine LLoop.viewQ (LLoop.view [(100300, none), (20000213, none)] (by (first | rfl | (simp -implicitDefEqProofs only [go_sem] <;> rfl))) (ih_M_pred_Copy_l0 (([] : List T_api_Pred), x.Parts, (x.Parts.length : Int), 0, x, (⟨0, 0, 0, (⟨0, 0, 0, (⟨false, 0⟩ : T_api_Value)⟩ : T_api_Term), (⟨0, 0, 0, (⟨false, 0⟩ : T_api_Value)⟩ : T_api_Term), []⟩ : T_api_Pred)) _ h9 _ _ _ ?_))
    intro s' hs'; subst hs'
    try simp -implicitDefEqProofs only [go_sem]
    injection h with h; subst h
    first | rfl | (simp -implicitDefEqProofs only [go_sem] <;> rfl)
theorem M_pred_Copy.w : type_of% (M_pred_Copy.l0.ws.2) := M_pred_Copy.l0.ws.2
end Go.Proofs.Ytakmilmckdllfaa.G
set_option linter.unusedVariables false
set_option linter.unusedSimpArgs false
set_option maxRecDepth 100000
namespace Go.Proofs.Ytakmilmckdllfaa.G
theorem lok_159 : (Try.f159.body.isSome && !(Try.f159.name == "runtime.NumGoroutine") && okL (bodyF Try.f159) Try.f159.ntmps (bodyF Try.f159)) = true := by kernel_rfl
def M_term_Tables (x : T_api_Term) : Option (Set64) :=
  if (x.Kind == 1) = true then
    M_sets_Of ([x.Table]) >>= fun r2 =>
    some r2
  else
    some (0#64)
theorem M_term_Tables.w : ∀ (x : T_api_Term) (r : Set64), M_term_Tables x = some r → (fun (x : T_api_Term) (r : Set64) => Fn Try.prog 159 [.agg (T_api_Term.C x)] (.w r)) x r := by
  intro x r h
  rw [M_term_Tables] at h
  try dsimp only
  refine Fn.of_lc mix fn_159 lok_159 (by rfl) (flC (T_api_Term.flatC _) (flN)) (.atom _) ?_
  simp -implicitDefEqProofs only [go_sem, Try.f159]
  by_cases h1 : (x.Kind == 1) = true
  · replace h := ite_some h h1
    try simp -implicitDefEqProofs only [go_sem, h1]
    obtain ⟨r2, h3, h⟩ := bind_some' h
    have hw := M_sets_Of.w ([x.Table]) _ h3
    simp -implicitDefEqProofs only [go_sem] at hw
    refine .plain _ _ rfl hw ?_
    clear hw
    try simp -implicitDefEqProofs only [go_sem, h1]
    injection h with h; subst h
    first | rfl | (simp -implicitDefEqProofs only [go_sem, h1] <;> rfl)
  · replace h := ite_none h h1; replace h1 := bfalse h1
    try simp -implicitDefEqProofs only [go_sem, h1]
    injection h with h; subst h
    first | rfl | (simp -implicitDefEqProofs only [go_sem, h1] <;> rfl)
end Go.Proofs.Ytakmilmckdllfaa.G
set_option linter.unusedVariables false
set_option linter.unusedSimpArgs false
set_option maxRecDepth 100000
namespace Go.Proofs.Ytakmilmckdllfaa.G
@[go_sem] theorem lrp_158_1 : lrp Try.prog 158 1 = (9, []) := by kernel_rfl
theorem lok_158 : (Try.f158.body.isSome && !(Try.f158.name == "runtime.NumGoroutine") && okL (bodyF Try.f158) Try.f158.ntmps (bodyF Try.f158)) = true := by kernel_rfl
end Go.Proofs.Ytakmilmckdllfaa.G
set_option linter.unusedVariables false
set_option linter.unusedSimpArgs false
set_option maxRecDepth 100000
namespace Go.Proofs.Ytakmilmckdllfaa.G
theorem lok_157 : (Try.f157.body.isSome && !(Try.f157.name == "runtime.NumGoroutine") && okL (bodyF Try.f157) Try.f157.ntmps (bodyF Try.f157)) = true := by kernel_rfl
theorem lok_130 : (Try.f130.body.isSome && !(Try.f130.name == "runtime.NumGoroutine") && okL (bodyF Try.f130) Try.f130.ntmps (bodyF Try.f130)) = true := by kernel_rfl
def M_pred_Tables_1_R (x : T_api_Pred) : Option (List Set64) :=
  M_term_Tables x.A >>= fun r1 =>
  M_term_Tables x.B >>= fun r3 =>
  some ([(r1 ||| r3)])
theorem M_pred_Tables_1_R.w : ∀ (x : T_api_Pred) (r : List Set64), M_pred_Tables_1_R x = some r → (fun (x : T_api_Pred) (r : List Set64) => FnR Try.prog 158 [] [.a (.agg (T_api_Pred.C x))] (.own 38000000 1 (r.map AV.w)) []) x r := by
  intro x r h
  rw [M_pred_Tables_1_R] at h
  try dsimp only
  refine FnR.of_lc mix fn_158 lok_158 (by rfl) (by rfl) fun c => ?_
  simp -implicitDefEqProofs only [go_sem, Try.f158]
  obtain ⟨r1, h2, h⟩ := bind_some' h
  refine .plain _ _ rfl (M_term_Tables.w x.A _ h2) ?_
  try simp -implicitDefEqProofs only [go_sem]
  obtain ⟨r3, h4, h⟩ := bind_some' h
  refine .plain _ _ rfl (M_term_Tables.w x.B _ h4) ?_
  try simp -implicitDefEqProofs only [go_sem]
  injection h with h; subst h
  first | exact ⟨_, rfl, [(38000000, none)], by rfl, by (first | rfl | (simp -implicitDefEqProofs only [go_sem] <;> rfl)), by (first | rfl | (simp -implicitDefEqProofs only [go_sem] <;> rfl))⟩ | exact ⟨_, rfl, [(38000000, none)], by rfl, by (simp -implicitDefEqProofs only [go_sem] <;> first | done | rfl | trivial), by (simp -implicitDefEqProofs only [go_sem] <;> first | done | rfl | trivial)⟩
mutual
def M_pred_gather_uint64__pred_Tables_1.l0 (x : List Set64 × List T_api_Pred × Int × Int) : Option (List Set64) :=
  if (decide (x.2.2.2 < x.2.2.1)) = true then
    (getI x.2.1 x.2.2.2) >>= fun (e4 : T_api_Pred) =>
    M_pred_gather_uint64__pred_Tables_1 e4 >>= fun r6 =>
    (room 8 x.1 r6) >>= fun (z8 : List Set64) =>
    M_pred_gather_uint64__pred_Tables_1.l0 (z8, x.2.1, x.2.2.1, (w64 (x.2.2.2 + 1)))
  else
    some x.1
  partial_fixpoint
def M_pred_gather_uint64__pred_Tables_1 (x : T_api_Pred) : Option (List Set64) :=
  M_pred_Tables_1_R x >>= fun r1 =>
  M_pred_gather_uint64__pred_Tables_1.l0 (r1, x.Parts, (x.Parts.length : Int), 0) >>= fun (o10 : List Set64) =>
  some o10
  partial_fixpoint
end
theorem M_pred_gather_uint64__pred_Tables_1.l0.ws : (∀ (x : List Set64 × List T_api_Pred × Int × Int) (o : List Set64), M_pred_gather_uint64__pred_Tables_1.l0 x = some o → (fun (x : List Set64 × List T_api_Pred × Int × Int) (o : List Set64) => ∀ (lo : Option Nat) (c : LCtx) (Q : Exit → LEnv → Prop) (hb : ∀ s : List Set64, o = s → Q (.exit 0) ⟨[(5, .own 100500 1 (s.map AV.w))], []⟩), LLoop Try.prog 157 lo c 0 (VQ Q) ⟨[(1, .v (.func 158 [] [])), (5, .own 100500 1 (x.1.map AV.w)), (12, .v (.slice .foreign (x.2.1.map T_api_Pred.av))), (13, .v (.i64 x.2.2.1)), (14, .v (.i64 x.2.2.2))], []⟩) x o) ∧ (∀ (x : T_api_Pred) (o : List Set64), M_pred_gather_uint64__pred_Tables_1 x = some o → (fun (x : T_api_Pred) (r : List Set64) => Fn Try.prog 157 [.agg (T_api_Pred.C x), .func 158 [] []] (.slice .foreign (r.map AV.w))) x o) := by
  refine M_pred_gather_uint64__pred_Tables_1.l0.mutual_partial_correctness _ _ ?_ ?_
  · intro M_M_pred_gather_uint64__pred_Tables_1_l0 M_M_pred_gather_uint64__pred_Tables_1 ih_M_pred_gather_uint64__pred_Tables_1_l0 ih_M_pred_gather_uint64__pred_Tables_1 x o h
    intro lo c Q hb
    refine LLoop.step mix fn_157 (by kernel_rfl) ?_
    simp -implicitDefEqProofs only [go_sem, Try.f157]
    by_cases h3 : (decide (x.2.2.2 < x.2.2.1)) = true
    · replace h := ite_some h h3
      try simp -implicitDefEqProofs only [go_sem, h3]
      obtain ⟨e4, h5, h⟩ := bind_some' h; replace h5 := getI_some h5; obtain ⟨h5', h5⟩ := h5
      try simp -implicitDefEqProofs only [go_sem, h3, h5, h5']
      obtain ⟨r6, h7, h⟩ := bind_some' h
      refine .plain _ _ rfl (ih_M_pred_gather_uint64__pred_Tables_1 e4 _ h7) ?_
      try simp -implicitDefEqProofs only [go_sem, h3, h5, h5']
      obtain ⟨z8, h9, h⟩ := bind_some' h; replace h9 := room_some h9; obtain ⟨h9', rfl⟩ := h9
      refine LApp.map (F := AV.w) (xs := x.1) (ys := r6) t77_elem t32_size t32_bytes t32_zsize rfl (fun _ => rfl) (by (first | rfl | (simp -implicitDefEqProofs only [go_sem, h3, h5, h5'] <;> rfl))) (by (first | rfl | (simp -implicitDefEqProofs only [go_sem, h3, h5, h5'] <;> rfl))) h9' ?_
      try simp -implicitDefEqProofs only [go_sem, h3, h5, h5']
      exact LLoop.view [(100500, some 22)] (by (first | rfl | (simp -implicitDefEqProofs only [go_sem, h3, h5, h5'] <;> rfl))) (ih_M_pred_gather_uint64__pred_Tables_1_l0 _ _ h lo c Q hb)
    · replace h := ite_none h h3; replace h3 := bfalse h3
      try simp -implicitDefEqProofs only [go_sem, h3]
      injection h with h; subst h
      exact .inr ⟨[(100500, some 100500)], _, by (simp -implicitDefEqProofs only [go_sem, h3] <;> first | done | rfl | trivial), hb _ rfl⟩
  · intro M_M_pred_gather_uint64__pred_Tables_1_l0 ih_M_pred_gather_uint64__pred_Tables_1_l0 x r h
    refine Fn.of_lc mix fn_157 lok_157 (by rfl) (flC (T_api_Pred.flatC _) (flC (.func _ _ _ (flN) (flN)) (flN))) (flat_slice _ (fun _ => .atom _) _) ?_
    simp -implicitDefEqProofs only [go_sem, Try.f157]
    obtain ⟨r1, h2, h⟩ := bind_some' h
    have hw := FnR.tok 10 (M_pred_Tables_1_R.w x _ h2) rfl rfl rfl
    try simp -implicitDefEqProofs only [go_sem] at hw
    refine .res [] [] [] [] _ _ hw (by (first | rfl | (simp -implicitDefEqProofs only [go_sem] <;> rfl))) (by rfl) (by rfl) (by rfl) (by rfl) (by (first | rfl | (simp -implicitDefEqProofs only [go_sem] <;> rfl))) (by rfl) (by (first | rfl | (simp -implicitDefEqProofs only [go_sem] <;> rfl))) (by (first | rfl | (simp -implicitDefEqProofs only [go_sem] <;> rfl))) ?_
    clear hw
    try simp -implicitDefEqProofs only [go_sem]
    obtain ⟨o10, h11, h⟩ := bind_some' h
    refine LLoop.viewQ (LLoop.view [(100500, some 10)] (by (first | rfl | (simp -implicitDefEqProofs only [go_sem] <;> rfl))) (ih_M_pred_gather_uint64__pred_Tables_1_l0 (r1, x.Parts, (x.Parts.length : Int), 0) _ h11 _ _ _ ?_))
    intro s' hs'; subst hs'
    try simp -implicitDefEqProofs only [go_sem]
    injection h with h; subst h
    first | rfl | (simp -implicitDefEqProofs only [go_sem] <;> rfl)
theorem M_pred_gather_uint64__pred_Tables_1.w : type_of% (M_pred_gather_uint64__pred_Tables_1.l0.ws.2) := M_pred_gather_uint64__pred_Tables_1.l0.ws.2
def M_pred_Tables.l0 (x : Set64 × List Set64 × Int × Int) : Option (Set64) :=
  if (decide (x.2.2.2 < x.2.2.1)) = true then
    (getI x.2.1 x.2.2.2) >>= fun (e4 : Set64) =>
    M_pred_Tables.l0 ((x.1 ||| e4), x.2.1, x.2.2.1, (w64 (x.2.2.2 + 1)))
  else
    some x.1
  partial_fixpoint
theorem M_pred_Tables.l0.ws : (∀ (x : Set64 × List Set64 × Int × Int) (o : Set64), M_pred_Tables.l0 x = some o → (fun (x : Set64 × List Set64 × Int × Int) (o : Set64) => ∀ (lo : Option Nat) (c : LCtx) (Q : Exit → LEnv → Prop) (hb : ∀ s : Set64, o = s → Q (.exit 0) ⟨[(3, .v (.w s))], []⟩), LLoop Try.prog 130 lo c 0 (VQ Q) ⟨[(3, .v (.w x.1)), (7, .v (.slice .foreign (x.2.1.map AV.w))), (8, .v (.i64 x.2.2.1)), (9, .v (.i64 x.2.2.2))], []⟩) x o) := by
  refine M_pred_Tables.l0.partial_correctness _ ?_
  · intro M_M_pred_Tables_l0 ih_M_pred_Tables_l0 x o h
    intro lo c Q hb
    refine LLoop.step mix fn_130 (by kernel_rfl) ?_
    simp -implicitDefEqProofs only [go_sem, Try.f130]
    by_cases h3 : (decide (x.2.2.2 < x.2.2.1)) = true
    · replace h := ite_some h h3
      try simp -implicitDefEqProofs only [go_sem, h3]
      obtain ⟨e4, h5, h⟩ := bind_some' h; replace h5 := getI_some h5; obtain ⟨h5', h5⟩ := h5
      try simp -implicitDefEqProofs only [go_sem, h3, h5, h5']
      exact LLoop.view [] (by (first | rfl | (simp -implicitDefEqProofs only [go_sem, h3, h5, h5'] <;> rfl))) (ih_M_pred_Tables_l0 _ _ h lo c Q hb)
    · replace h := ite_none h h3; replace h3 := bfalse h3
      try simp -implicitDefEqProofs only [go_sem, h3]
      injection h with h; subst h
      exact .inr ⟨[], _, by (simp -implicitDefEqProofs only [go_sem, h3] <;> first | done | rfl | trivial), hb _ rfl⟩
theorem M_pred_Tables.l0.w : type_of% (M_pred_Tables.l0.ws) := M_pred_Tables.l0.ws
def M_pred_Tables (x : T_api_Pred) : Option (Set64) :=
  M_pred_gather_uint64__pred_Tables_1 x >>= fun r1 =>
  M_pred_Tables.l0 (0#64, r1, (r1.length : Int), 0) >>= fun (o6 : Set64) =>
  some o6
theorem M_pred_Tables.w : ∀ (x : T_api_Pred) (r : Set64), M_pred_Tables x = some r → (fun (x : T_api_Pred) (r : Set64) => Fn Try.prog 130 [.agg (T_api_Pred.C x)] (.w r)) x r := by
  intro x r h
  rw [M_pred_Tables] at h
  try dsimp only
  refine Fn.of_lc mix fn_130 lok_130 (by rfl) (flC (T_api_Pred.flatC _) (flN)) (.atom _) ?_
  simp -implicitDefEqProofs only [go_sem, Try.f130]
  obtain ⟨r1, h2, h⟩ := bind_some' h
  refine .plain _ _ rfl (M_pred_gather_uint64__pred_Tables_1.w x _ h2) ?_
  try simp -implicitDefEqProofs only [go_sem]
  obtain ⟨o6, h7, h⟩ := bind_some' h
  refine LLoop.viewQ (LLoop.view [] (by (first | rfl | (simp -implicitDefEqProofs only [go_sem] <;> rfl))) (M_pred_Tables.l0.w (0#64, r1, (r1.length : Int), 0) _ h7 _ _ _ ?_))
  intro s' hs'; subst hs'
  try simp -implicitDefEqProofs only [go_sem]
  injection h with h; subst h
  first | rfl | (simp -implicitDefEqProofs only [go_sem] <;> rfl)
end Go.Proofs.Ytakmilmckdllfaa.G
set_option linter.unusedVariables false
set_option linter.unusedSimpArgs false
set_option maxRecDepth 100000
namespace Go.Proofs.Ytakmilmckdllfaa.G
theorem lok_128 : (Try.f128.body.isSome && !(Try.f128.name == "runtime.NumGoroutine") && okL (bodyF Try.f128) Try.f128.ntmps (bodyF Try.f128)) = true := by kernel_rfl
@[go_sem] theorem lrp_82_2 : lrp Try.prog 82 2 = (12, []) := by kernel_rfl
@[go_sem] theorem lrp_82_4 : lrp Try.prog 82 4 = (12, []) := by kernel_rfl
@[go_sem] theorem lrp_82_14 : lrp Try.prog 82 14 = (5, []) := by kernel_rfl
@[go_sem] theorem lrp_82_16 : lrp Try.prog 82 16 = (7, []) := by kernel_rfl
@[go_sem] theorem lrp_82_21 : lrp Try.prog 82 21 = (15, []) := by kernel_rfl
theorem lok_82 : (Try.f82.body.isSome && !(Try.f82.name == "runtime.NumGoroutine") && okL (bodyF Try.f82) Try.f82.ntmps (bodyF Try.f82)) = true := by kernel_rfl
theorem lok_33 : (Try.f33.body.isSome && !(Try.f33.name == "runtime.NumGoroutine") && okL (bodyF Try.f33) Try.f33.ntmps (bodyF Try.f33)) = true := by kernel_rfl
section
attribute [local instance] mu_120_122
def M_levels_Levels_adopt.l0 (x : Int × Int × Int × T_levels_Levels) : Option (T_levels_Levels) :=
  if (decide (x.2.2.1 < (x.2.2.2.Joins.length : Int))) = true then
    (getI x.2.2.2.Joins x.2.2.1) >>= fun (e2 : T_levels_Join) =>
    if (e2.Home == (-1)) = true then
      M_levels_Levels_adopt.l0 (x.1, x.2.1, (w64 (x.2.2.1 + 1)), (⟨(x.2.2.2.Joins.set (x.2.2.1).toNat (⟨e2.Pred, e2.Left, e2.Right, x.2.1⟩ : T_levels_Join)), x.2.2.2.Ops⟩ : T_levels_Levels))
    else
      M_levels_Levels_adopt.l0 (x.1, x.2.1, (w64 (x.2.2.1 + 1)), x.2.2.2)
  else
    some x.2.2.2
  partial_fixpoint
theorem M_levels_Levels_adopt.l0.ws : (∀ (x : Int × Int × Int × T_levels_Levels) (o : T_levels_Levels), M_levels_Levels_adopt.l0 x = some o → (fun (x : Int × Int × Int × T_levels_Levels) (o : T_levels_Levels) => ∀ (lo : Option Nat) (c : LCtx) (Q : Exit → LEnv → Prop) (hb : ∀ s : T_levels_Levels, o = s → Q (.exit 0) ⟨[(0, .lref 2000000 0), (2, .v (.i64 x.1)), (3, .v (.i64 x.2.1))], [(2000000, [.own 81000000 17 (s.Joins.map T_levels_Join.av), .own 81000001 6 (s.Ops.map T_levels_Op.av)])]⟩), LLoop Try.prog 128 lo c 0 (VQ Q) ⟨[(0, .lref 2000000 0), (2, .v (.i64 x.1)), (3, .v (.i64 x.2.1)), (8, .v (.i64 x.2.2.1))], [(2000000, [.own 81000000 17 (x.2.2.2.Joins.map T_levels_Join.av), .own 81000001 6 (x.2.2.2.Ops.map T_levels_Op.av)])]⟩) x o) := by
  refine M_levels_Levels_adopt.l0.partial_correctness _ ?_
  · intro M_M_levels_Levels_adopt_l0 ih_M_levels_Levels_adopt_l0 x o h
    intro lo c Q hb
    refine LLoop.step mix fn_128 (by kernel_rfl) ?_
    simp -implicitDefEqProofs only [go_sem, Try.f128]
    by_cases h1 : (decide (x.2.2.1 < (x.2.2.2.Joins.length : Int))) = true
    · replace h := ite_some h h1
      try simp -implicitDefEqProofs only [go_sem, h1]
      obtain ⟨e2, h3, h⟩ := bind_some' h; replace h3 := getI_some h3; obtain ⟨h3', h3⟩ := h3; have h3v : x.2.2.1 < (x.2.2.2.Joins.length : Int) := by have := (List.getElem?_eq_some_iff.1 h3).1; omega
      try simp -implicitDefEqProofs only [go_sem, h1, h3, h3', h3v]
      by_cases h4 : (e2.Home == (-1)) = true
      · replace h := ite_some h h4
        try simp -implicitDefEqProofs only [go_sem, h1, h3, h3', h3v, h4]
        refine LStV.map (F := T_levels_Join.av) (xs := x.2.2.2.Joins) (x := e2) (x' := (⟨e2.Pred, e2.Left, e2.Right, x.2.1⟩ : T_levels_Join)) (by (first | rfl | (simp -implicitDefEqProofs only [go_sem, h1, h3, h3', h3v, h4] <;> rfl))) (by (first | rfl | (simp -implicitDefEqProofs only [go_sem, h1, h3, h3', h3v, h4] <;> rfl))) (by rfl) (by rfl) (by rfl) h3 (by first | rfl | (first | rfl | (simp -implicitDefEqProofs only [go_sem, h1, h3, h3', h3v, h4] <;> rfl))) ?_
        try simp -implicitDefEqProofs only [go_sem, h1, h3, h3', h3v, h4]
        exact LLoop.view [(81000000, some 81000000), (81000001, some 81000001)] (by (first | rfl | (simp -implicitDefEqProofs only [go_sem, h1, h3, h3', h3v, h4] <;> rfl))) (ih_M_levels_Levels_adopt_l0 _ _ h lo c Q hb)
      · replace h := ite_none h h4; replace h4 := bfalse h4
        try simp -implicitDefEqProofs only [go_sem, h1, h3, h3', h3v, h4]
        exact LLoop.view [(81000000, some 81000000), (81000001, some 81000001)] (by (first | rfl | (simp -implicitDefEqProofs only [go_sem, h1, h3, h3', h3v, h4] <;> rfl))) (ih_M_levels_Levels_adopt_l0 _ _ h lo c Q hb)
    · replace h := ite_none h h1; replace h1 := bfalse h1
      try simp -implicitDefEqProofs only [go_sem, h1]
      injection h with h; subst h
      exact .inr ⟨[(81000000, some 81000000), (81000001, some 81000001)], _, by (simp -implicitDefEqProofs only [go_sem, h1] <;> first | done | rfl | trivial), hb _ rfl⟩
theorem M_levels_Levels_adopt.l0.w : type_of% (M_levels_Levels_adopt.l0.ws) := M_levels_Levels_adopt.l0.ws
end
section
attribute [local instance] mu_120_122
def M_levels_Levels_adopt.l1 (x : Int × Int × T_levels_Levels) : Option (T_levels_Levels) :=
  if (decide (x.2.1 < (x.2.2.Ops.length : Int))) = true then
    (getI x.2.2.Ops x.2.1) >>= fun (e8 : T_levels_Op) =>
    if (e8.Home == (-1)) = true then
      M_levels_Levels_adopt.l1 (x.1, (w64 (x.2.1 + 1)), (⟨x.2.2.Joins, (x.2.2.Ops.set (x.2.1).toNat (⟨e8.Kind, e8.Conj, e8.Left, e8.Right, e8.Own, x.1⟩ : T_levels_Op))⟩ : T_levels_Levels))
    else
      M_levels_Levels_adopt.l1 (x.1, (w64 (x.2.1 + 1)), x.2.2)
  else
    some x.2.2
  partial_fixpoint
theorem M_levels_Levels_adopt.l1.ws : (∀ (x : Int × Int × T_levels_Levels) (o : T_levels_Levels), M_levels_Levels_adopt.l1 x = some o → (fun (x : Int × Int × T_levels_Levels) (o : T_levels_Levels) => ∀ (lo : Option Nat) (c : LCtx) (Q : Exit → LEnv → Prop) (hb : ∀ s : T_levels_Levels, o = s → Q (.exit 2) ⟨[], [(2000000, [.own 81000000 17 (s.Joins.map T_levels_Join.av), .own 81000001 6 (s.Ops.map T_levels_Op.av)])]⟩), LLoop Try.prog 128 lo c 1 (VQ Q) ⟨[(0, .lref 2000000 0), (3, .v (.i64 x.1)), (9, .v (.i64 x.2.1))], [(2000000, [.own 81000000 17 (x.2.2.Joins.map T_levels_Join.av), .own 81000001 6 (x.2.2.Ops.map T_levels_Op.av)])]⟩) x o) := by
  refine M_levels_Levels_adopt.l1.partial_correctness _ ?_
  · intro M_M_levels_Levels_adopt_l1 ih_M_levels_Levels_adopt_l1 x o h
    intro lo c Q hb
    refine LLoop.step mix fn_128 (by kernel_rfl) ?_
    simp -implicitDefEqProofs only [go_sem, Try.f128]
    by_cases h7 : (decide (x.2.1 < (x.2.2.Ops.length : Int))) = true
    · replace h := ite_some h h7
      try simp -implicitDefEqProofs only [go_sem, h7]
      obtain ⟨e8, h9, h⟩ := bind_some' h; replace h9 := getI_some h9; obtain ⟨h9', h9⟩ := h9; have h9v : x.2.1 < (x.2.2.Ops.length : Int) := by have := (List.getElem?_eq_some_iff.1 h9).1; omega
      try simp -implicitDefEqProofs only [go_sem, h7, h9, h9', h9v]
      by_cases h10 : (e8.Home == (-1)) = true
      · replace h := ite_some h h10
        try simp -implicitDefEqProofs only [go_sem, h7, h9, h9', h9v, h10]
        refine LStV.map (F := T_levels_Op.av) (xs := x.2.2.Ops) (x := e8) (x' := (⟨e8.Kind, e8.Conj, e8.Left, e8.Right, e8.Own, x.1⟩ : T_levels_Op)) (by (first | rfl | (simp -implicitDefEqProofs only [go_sem, h7, h9, h9', h9v, h10] <;> rfl))) (by (first | rfl | (simp -implicitDefEqProofs only [go_sem, h7, h9, h9', h9v, h10] <;> rfl))) (by rfl) (by rfl) (by rfl) h9 (by first | rfl | (first | rfl | (simp -implicitDefEqProofs only [go_sem, h7, h9, h9', h9v, h10] <;> rfl))) ?_
        try simp -implicitDefEqProofs only [go_sem, h7, h9, h9', h9v, h10]
        exact LLoop.view [(81000000, some 81000000), (81000001, some 81000001)] (by (first | rfl | (simp -implicitDefEqProofs only [go_sem, h7, h9, h9', h9v, h10] <;> rfl))) (ih_M_levels_Levels_adopt_l1 _ _ h lo c Q hb)
      · replace h := ite_none h h10; replace h10 := bfalse h10
        try simp -implicitDefEqProofs only [go_sem, h7, h9, h9', h9v, h10]
        exact LLoop.view [(81000000, some 81000000), (81000001, some 81000001)] (by (first | rfl | (simp -implicitDefEqProofs only [go_sem, h7, h9, h9', h9v, h10] <;> rfl))) (ih_M_levels_Levels_adopt_l1 _ _ h lo c Q hb)
    · replace h := ite_none h h7; replace h7 := bfalse h7
      try simp -implicitDefEqProofs only [go_sem, h7]
      injection h with h; subst h
      exact .inr ⟨[(81000000, some 81000000), (81000001, some 81000001)], _, by (simp -implicitDefEqProofs only [go_sem, h7] <;> first | done | rfl | trivial), hb _ rfl⟩
theorem M_levels_Levels_adopt.l1.w : type_of% (M_levels_Levels_adopt.l1.ws) := M_levels_Levels_adopt.l1.ws
end
section
attribute [local instance] mu_120_122
def M_levels_Levels_adopt (x : Int × Int × Int × T_levels_Levels) : Option (T_levels_Levels) :=
  M_levels_Levels_adopt.l0 (x.2.1, x.2.2.1, x.1, x.2.2.2) >>= fun (o5 : T_levels_Levels) =>
  M_levels_Levels_adopt.l1 (x.2.2.1, x.2.1, o5) >>= fun (o11 : T_levels_Levels) =>
  some o11
theorem M_levels_Levels_adopt.w : ∀ (x : Int × Int × Int × T_levels_Levels) (r : T_levels_Levels), M_levels_Levels_adopt x = some r → (fun (x : Int × Int × Int × T_levels_Levels) (r : T_levels_Levels) => FnB Try.prog 128 [(2000000, [.own 60000000 17 (x.2.2.2.Joins.map T_levels_Join.av), .own 60000001 6 (x.2.2.2.Ops.map T_levels_Op.av)])] [.p 2000000, .a (.i64 x.1), .a (.i64 x.2.1), .a (.i64 x.2.2.1)] (.tuple []) [(2000000, [.own 60000000 17 (r.Joins.map T_levels_Join.av), .own 60000001 6 (r.Ops.map T_levels_Op.av)])]) x r := by
  intro x r h
  rw [M_levels_Levels_adopt] at h
  try dsimp only
  refine FnB.of_lc mix fn_128 lok_128 (by rfl) (by rfl) fun c => ?_
  simp -implicitDefEqProofs only [go_sem, Try.f128]
  obtain ⟨o5, h6, h⟩ := bind_some' h
  refine LLoop.viewQ (LLoop.view [(81000000, some 60000000), (81000001, some 60000001)] (by (first | rfl | (simp -implicitDefEqProofs only [go_sem] <;> rfl))) (M_levels_Levels_adopt.l0.w (x.2.1, x.2.2.1, x.1, x.2.2.2) _ h6 _ _ _ ?_))
  intro s' hs'; subst hs'
  try simp -implicitDefEqProofs only [go_sem]
  obtain ⟨o11, h12, h⟩ := bind_some' h
  refine LLoop.viewQ (LLoop.view [(81000000, some 81000000), (81000001, some 81000001)] (by (first | rfl | (simp -implicitDefEqProofs only [go_sem] <;> rfl))) (M_levels_Levels_adopt.l1.w (x.2.2.1, x.2.1, o5) _ h12 _ _ _ ?_))
  intro s' hs'; subst hs'
  try simp -implicitDefEqProofs only [go_sem]
  injection h with h; subst h
  first | exact ⟨by (first | rfl | (simp -implicitDefEqProofs only [go_sem] <;> rfl)), [(60000000, some 81000000), (60000001, some 81000001)], by rfl, by (first | rfl | (simp -implicitDefEqProofs only [go_sem] <;> rfl))⟩ | exact ⟨by (first | rfl | (simp -implicitDefEqProofs only [go_sem] <;> rfl)), [(60000000, some 81000000), (60000001, some 81000001)], by rfl⟩ | exact ⟨by (first | rfl | (simp -implicitDefEqProofs only [go_sem] <;> rfl)), [(60000000, some 81000000), (60000001, some 81000001)], by (simp -implicitDefEqProofs only [go_sem] <;> first | done | rfl | trivial)⟩ | exact ⟨[(60000000, some 81000000), (60000001, some 81000001)], by rfl, by (first | rfl | (simp -implicitDefEqProofs only [go_sem] <;> rfl))⟩ | exact ⟨[(60000000, some 81000000), (60000001, some 81000001)], by rfl, by (simp -implicitDefEqProofs only [go_sem] <;> first | done | rfl | trivial)⟩
end
section
attribute [local instance] mu_120_122
def M_levels_Levels_add.l0 (x : Set64 × Set64 × List T_api_Pred × Int × Int × T_levels_Op × T_levels_Levels) : Option (T_levels_Op × T_levels_Levels) :=
  if (decide (x.2.2.2.2.1 < x.2.2.2.1)) = true then
    (getI x.2.2.1 x.2.2.2.2.1) >>= fun (e21 : T_api_Pred) =>
    M_pred_Tables e21 >>= fun r23 =>
    M_pred_Copy e21 >>= fun r25 =>
    (room 128 x.2.2.2.2.2.1.Conj ([r25])) >>= fun (z27 : List T_api_Pred) =>
    M_levels_Levels_add.l0 (x.1, x.2.1, x.2.2.1, x.2.2.2.1, (w64 (x.2.2.2.2.1 + 1)), (⟨x.2.2.2.2.2.1.Kind, z27, (x.2.2.2.2.2.1.Left ||| (r23 &&& x.1)), (x.2.2.2.2.2.1.Right ||| (r23 &&& x.2.1)), x.2.2.2.2.2.1.Own, x.2.2.2.2.2.1.Home⟩ : T_levels_Op), x.2.2.2.2.2.2)
  else
    some (x.2.2.2.2.2.1, x.2.2.2.2.2.2)
  partial_fixpoint
theorem M_levels_Levels_add.l0.ws : (∀ (x : Set64 × Set64 × List T_api_Pred × Int × Int × T_levels_Op × T_levels_Levels) (o : T_levels_Op × T_levels_Levels), M_levels_Levels_add.l0 x = some o → (fun (x : Set64 × Set64 × List T_api_Pred × Int × Int × T_levels_Op × T_levels_Levels) (o : T_levels_Op × T_levels_Levels) => ∀ (lo : Option Nat) (c : LCtx) (Q : Exit → LEnv → Prop) (hb : ∀ s : T_levels_Op × T_levels_Levels, o = s → Q (.exit 0) ⟨[(0, .lref 2000000 0), (8, .lref 8 0)], [(8, [.v (.i64 s.1.Kind), .own 20000801 14 (s.1.Conj.map T_api_Pred.av), .v (.w s.1.Left), .v (.w s.1.Right), .v (.w s.1.Own), .v (.i64 s.1.Home)]), (2000000, [.own 81000000 17 (s.2.Joins.map T_levels_Join.av), .own 81000001 6 (s.2.Ops.map T_levels_Op.av)])]⟩), LLoop Try.prog 82 lo c 0 (VQ Q) ⟨[(0, .lref 2000000 0), (4, .v (.w x.1)), (5, .v (.w x.2.1)), (8, .lref 8 0), (75, .v (.slice .foreign (x.2.2.1.map T_api_Pred.av))), (76, .v (.i64 x.2.2.2.1)), (77, .v (.i64 x.2.2.2.2.1))], [(8, [.v (.i64 x.2.2.2.2.2.1.Kind), .own 20000801 14 (x.2.2.2.2.2.1.Conj.map T_api_Pred.av), .v (.w x.2.2.2.2.2.1.Left), .v (.w x.2.2.2.2.2.1.Right), .v (.w x.2.2.2.2.2.1.Own), .v (.i64 x.2.2.2.2.2.1.Home)]), (2000000, [.own 81000000 17 (x.2.2.2.2.2.2.Joins.map T_levels_Join.av), .own 81000001 6 (x.2.2.2.2.2.2.Ops.map T_levels_Op.av)])]⟩) x o) := by
  refine M_levels_Levels_add.l0.partial_correctness _ ?_
  · intro M_M_levels_Levels_add_l0 ih_M_levels_Levels_add_l0 x o h
    intro lo c Q hb
    refine LLoop.step mix fn_82 (by kernel_rfl) ?_
    simp -implicitDefEqProofs only [go_sem, Try.f82]
    by_cases h20 : (decide (x.2.2.2.2.1 < x.2.2.2.1)) = true
    · replace h := ite_some h h20
      try simp -implicitDefEqProofs only [go_sem, h20]
      obtain ⟨e21, h22, h⟩ := bind_some' h; replace h22 := getI_some h22; obtain ⟨h22', h22⟩ := h22
      try simp -implicitDefEqProofs only [go_sem, h20, h22, h22']
      obtain ⟨r23, h24, h⟩ := bind_some' h
      refine .plain _ _ rfl (M_pred_Tables.w e21 _ h24) ?_
      try simp -implicitDefEqProofs only [go_sem, h20, h22, h22']
      obtain ⟨r25, h26, h⟩ := bind_some' h
      refine .plain _ _ rfl (M_pred_Copy.w e21 _ h26) ?_
      try simp -implicitDefEqProofs only [go_sem, h20, h22, h22']
      obtain ⟨z27, h28, h⟩ := bind_some' h; replace h28 := room_some h28; obtain ⟨h28', rfl⟩ := h28
      refine LApp.map (F := T_api_Pred.av) (xs := x.2.2.2.2.2.1.Conj) (ys := [r25]) t33_elem t42_size t42_bytes t42_zsize rfl T_api_Pred.len (by (first | rfl | (simp -implicitDefEqProofs only [go_sem, h20, h22, h22'] <;> rfl))) (by (first | rfl | (simp -implicitDefEqProofs only [go_sem, h20, h22, h22'] <;> rfl))) h28' ?_
      try simp -implicitDefEqProofs only [go_sem, h20, h22, h22']
      exact LLoop.view [(20000801, some 102), (81000000, some 81000000), (81000001, some 81000001)] (by (first | rfl | (simp -implicitDefEqProofs only [go_sem, h20, h22, h22'] <;> rfl))) (ih_M_levels_Levels_add_l0 _ _ h lo c Q hb)
    · replace h := ite_none h h20; replace h20 := bfalse h20
      try simp -implicitDefEqProofs only [go_sem, h20]
      injection h with h; subst h
      exact .inr ⟨[(20000801, some 20000801), (81000000, some 81000000), (81000001, some 81000001)], _, by (simp -implicitDefEqProofs only [go_sem, h20] <;> first | done | rfl | trivial), hb _ rfl⟩
theorem M_levels_Levels_add.l0.w : type_of% (M_levels_Levels_add.l0.ws) := M_levels_Levels_add.l0.ws
end
section
attribute [local instance] mu_120_122
def M_levels_Levels_add.l1 (x : Set64 × Set64 × List T_api_Pred × Int × Int × T_levels_Levels) : Option (T_levels_Levels) :=
  if (decide (x.2.2.2.2.1 < x.2.2.2.1)) = true then
    (getI x.2.2.1 x.2.2.2.2.1) >>= fun (e34 : T_api_Pred) =>
    M_pred_Tables e34 >>= fun r36 =>
    M_pred_Copy e34 >>= fun r38 =>
    (room 152 x.2.2.2.2.2.Joins ([(⟨r38, (r36 &&& x.1), (r36 &&& x.2.1), -1⟩ : T_levels_Join)])) >>= fun (z40 : List T_levels_Join) =>
    M_levels_Levels_add.l1 (x.1, x.2.1, x.2.2.1, x.2.2.2.1, (w64 (x.2.2.2.2.1 + 1)), (⟨z40, x.2.2.2.2.2.Ops⟩ : T_levels_Levels))
  else
    some x.2.2.2.2.2
  partial_fixpoint
theorem M_levels_Levels_add.l1.ws : (∀ (x : Set64 × Set64 × List T_api_Pred × Int × Int × T_levels_Levels) (o : T_levels_Levels), M_levels_Levels_add.l1 x = some o → (fun (x : Set64 × Set64 × List T_api_Pred × Int × Int × T_levels_Levels) (o : T_levels_Levels) => ∀ (lo : Option Nat) (c : LCtx) (Q : Exit → LEnv → Prop) (hb : ∀ s : T_levels_Levels, o = s → Q (.exit 2) ⟨[], [(2000000, [.own 81000000 17 (s.Joins.map T_levels_Join.av), .own 81000001 6 (s.Ops.map T_levels_Op.av)])]⟩), LLoop Try.prog 82 lo c 1 (VQ Q) ⟨[(0, .lref 2000000 0), (4, .v (.w x.1)), (5, .v (.w x.2.1)), (116, .v (.slice .foreign (x.2.2.1.map T_api_Pred.av))), (117, .v (.i64 x.2.2.2.1)), (118, .v (.i64 x.2.2.2.2.1))], [(2000000, [.own 81000000 17 (x.2.2.2.2.2.Joins.map T_levels_Join.av), .own 81000001 6 (x.2.2.2.2.2.Ops.map T_levels_Op.av)])]⟩) x o) := by
  refine M_levels_Levels_add.l1.partial_correctness _ ?_
  · intro M_M_levels_Levels_add_l1 ih_M_levels_Levels_add_l1 x o h
    intro lo c Q hb
    refine LLoop.step mix fn_82 (by kernel_rfl) ?_
    simp -implicitDefEqProofs only [go_sem, Try.f82]
    by_cases h33 : (decide (x.2.2.2.2.1 < x.2.2.2.1)) = true
    · replace h := ite_some h h33
      try simp -implicitDefEqProofs only [go_sem, h33]
      obtain ⟨e34, h35, h⟩ := bind_some' h; replace h35 := getI_some h35; obtain ⟨h35', h35⟩ := h35
      try simp -implicitDefEqProofs only [go_sem, h33, h35, h35']
      obtain ⟨r36, h37, h⟩ := bind_some' h
      refine .plain _ _ rfl (M_pred_Tables.w e34 _ h37) ?_
      try simp -implicitDefEqProofs only [go_sem, h33, h35, h35']
      obtain ⟨r38, h39, h⟩ := bind_some' h
      refine .plain _ _ rfl (M_pred_Copy.w e34 _ h39) ?_
      try simp -implicitDefEqProofs only [go_sem, h33, h35, h35']
      obtain ⟨z40, h41, h⟩ := bind_some' h; replace h41 := room_some h41; obtain ⟨h41', rfl⟩ := h41
      refine LApp.map (F := T_levels_Join.av) (xs := x.2.2.2.2.2.Joins) (ys := [(⟨r38, (r36 &&& x.1), (r36 &&& x.2.1), -1⟩ : T_levels_Join)]) t59_elem t122_size t122_bytes t122_zsize rfl T_levels_Join.len (by (first | rfl | (simp -implicitDefEqProofs only [go_sem, h33, h35, h35'] <;> rfl))) (by (first | rfl | (simp -implicitDefEqProofs only [go_sem, h33, h35, h35'] <;> rfl))) h41' ?_
      try simp -implicitDefEqProofs only [go_sem, h33, h35, h35']
      exact LLoop.view [(81000000, some 50000139), (81000001, some 81000001)] (by (first | rfl | (simp -implicitDefEqProofs only [go_sem, h33, h35, h35'] <;> rfl))) (ih_M_levels_Levels_add_l1 _ _ h lo c Q hb)
    · replace h := ite_none h h33; replace h33 := bfalse h33
      try simp -implicitDefEqProofs only [go_sem, h33]
      injection h with h; subst h
      exact .inr ⟨[(81000000, some 81000000), (81000001, some 81000001)], _, by (simp -implicitDefEqProofs only [go_sem, h33] <;> first | done | rfl | trivial), hb _ rfl⟩
theorem M_levels_Levels_add.l1.w : type_of% (M_levels_Levels_add.l1.ws) := M_levels_Levels_add.l1.ws
end
section
attribute [local instance] mu_120_122
def M_levels_Levels_add (x : T_api_Tree × T_levels_Levels) : Option (T_levels_Levels) :=
  if (x.1.Kind == 0) = true then
    some x.2
  else
    if ((x.1.Kids.length : Int) != 2) = true then
      some x.2
    else
      (x.1.Kids[0]?) >>= fun (e3 : T_api_Tree) =>
      M_tree_Tables e3 >>= fun r5 =>
      (x.1.Kids[1]?) >>= fun (e7 : T_api_Tree) =>
      M_tree_Tables e7 >>= fun r9 =>
      M_levels_Levels_add (e3, x.2) >>= fun r11 =>
      M_levels_Levels_add (e7, r11) >>= fun r13 =>
      if (x.1.Kind != 1) = true then
        M_levels_count e7 >>= fun r16 =>
        M_levels_Levels_adopt ((r11.Joins.length : Int), (r11.Ops.length : Int), (w64 ((r11.Ops.length : Int) + r16)), r13) >>= fun r18 =>
        M_levels_Levels_add.l0 (r5, r9, x.1.Conj, (x.1.Conj.length : Int), 0, (⟨x.1.Kind, [], 0#64, 0#64, r9, -1⟩ : T_levels_Op), r18) >>= fun (o29 : T_levels_Op × T_levels_Levels) =>
        (room 64 o29.2.Ops ([o29.1])) >>= fun (z31 : List T_levels_Op) =>
        some (⟨o29.2.Joins, z31⟩ : T_levels_Levels)
      else
        M_levels_Levels_add.l1 (r5, r9, x.1.Conj, (x.1.Conj.length : Int), 0, r13) >>= fun (o42 : T_levels_Levels) =>
        some o42
  partial_fixpoint
theorem M_levels_Levels_add.ws : (∀ (x : T_api_Tree × T_levels_Levels) (o : T_levels_Levels), M_levels_Levels_add x = some o → (fun (x : T_api_Tree × T_levels_Levels) (r : T_levels_Levels) => FnB Try.prog 82 [(2000000, [.own 60000000 17 (x.2.Joins.map T_levels_Join.av), .own 60000001 6 (x.2.Ops.map T_levels_Op.av)])] [.p 2000000, .a (.agg [.i64 x.1.Kind, .i64 x.1.Table, .slice .foreign (x.1.Kids.map T_api_Tree.av), .slice .foreign (x.1.Conj.map T_api_Pred.av), .bool x.1.Hash])] (.tuple []) [(2000000, [.own 60000000 17 (r.Joins.map T_levels_Join.av), .own 60000001 6 (r.Ops.map T_levels_Op.av)])]) x o) := by
  refine M_levels_Levels_add.partial_correctness _ ?_
  · intro M_M_levels_Levels_add ih_M_levels_Levels_add x r h
    refine FnB.of_lc mix fn_82 lok_82 (by rfl) (by rfl) fun c => ?_
    simp -implicitDefEqProofs only [go_sem, Try.f82]
    by_cases h1 : (x.1.Kind == 0) = true
    · replace h := ite_some h h1
      try simp -implicitDefEqProofs only [go_sem, h1]
      injection h with h; subst h
      first | exact ⟨by (first | rfl | (simp -implicitDefEqProofs only [go_sem, h1] <;> rfl)), [(60000000, some 60000000), (60000001, some 60000001)], by rfl, by (first | rfl | (simp -implicitDefEqProofs only [go_sem, h1] <;> rfl))⟩ | exact ⟨by (first | rfl | (simp -implicitDefEqProofs only [go_sem, h1] <;> rfl)), [(60000000, some 60000000), (60000001, some 60000001)], by rfl⟩ | exact ⟨by (first | rfl | (simp -implicitDefEqProofs only [go_sem, h1] <;> rfl)), [(60000000, some 60000000), (60000001, some 60000001)], by (simp -implicitDefEqProofs only [go_sem, h1] <;> first | done | rfl | trivial)⟩ | exact ⟨[(60000000, some 60000000), (60000001, some 60000001)], by rfl, by (first | rfl | (simp -implicitDefEqProofs only [go_sem, h1] <;> rfl))⟩ | exact ⟨[(60000000, some 60000000), (60000001, some 60000001)], by rfl, by (simp -implicitDefEqProofs only [go_sem, h1] <;> first | done | rfl | trivial)⟩
    · replace h := ite_none h h1; replace h1 := bfalse h1
      try simp -implicitDefEqProofs only [go_sem, h1]
      by_cases h2 : ((x.1.Kids.length : Int) != 2) = true
      · replace h := ite_some h h2
        try simp -implicitDefEqProofs only [go_sem, h1, h2]
        injection h with h; subst h
        first | exact ⟨by (first | rfl | (simp -implicitDefEqProofs only [go_sem, h1, h2] <;> rfl)), [(60000000, some 60000000), (60000001, some 60000001)], by rfl, by (first | rfl | (simp -implicitDefEqProofs only [go_sem, h1, h2] <;> rfl))⟩ | exact ⟨by (first | rfl | (simp -implicitDefEqProofs only [go_sem, h1, h2] <;> rfl)), [(60000000, some 60000000), (60000001, some 60000001)], by rfl⟩ | exact ⟨by (first | rfl | (simp -implicitDefEqProofs only [go_sem, h1, h2] <;> rfl)), [(60000000, some 60000000), (60000001, some 60000001)], by (simp -implicitDefEqProofs only [go_sem, h1, h2] <;> first | done | rfl | trivial)⟩ | exact ⟨[(60000000, some 60000000), (60000001, some 60000001)], by rfl, by (first | rfl | (simp -implicitDefEqProofs only [go_sem, h1, h2] <;> rfl))⟩ | exact ⟨[(60000000, some 60000000), (60000001, some 60000001)], by rfl, by (simp -implicitDefEqProofs only [go_sem, h1, h2] <;> first | done | rfl | trivial)⟩
      · replace h := ite_none h h2; replace h2 := bfalse h2
        try simp -implicitDefEqProofs only [go_sem, h1, h2]
        obtain ⟨e3, h4, h⟩ := bind_some' h
        try simp -implicitDefEqProofs only [go_sem, h1, h2, h4]
        obtain ⟨r5, h6, h⟩ := bind_some' h
        refine .plain _ _ rfl (M_tree_Tables.w e3 _ h6) ?_
        try simp -implicitDefEqProofs only [go_sem, h1, h2, h4]
        obtain ⟨e7, h8, h⟩ := bind_some' h
        try simp -implicitDefEqProofs only [go_sem, h1, h2, h4, h8]
        obtain ⟨r9, h10, h⟩ := bind_some' h
        refine .plain _ _ rfl (M_tree_Tables.w e7 _ h10) ?_
        try simp -implicitDefEqProofs only [go_sem, h1, h2, h4, h8]
        obtain ⟨r11, h12, h⟩ := bind_some' h
        have hw := ih_M_levels_Levels_add (e3, x.2) _ h12
        refine .vars [(60000000, some 60000000), (60000001, some 60000001)] [(2000000, 2000000)] _ _ _ _ hw (by (first | rfl | (simp -implicitDefEqProofs only [go_sem, h1, h2, h4, h8] <;> rfl))) (by rfl) (by rfl) (by rfl) (by rfl) (by (first | rfl | (simp -implicitDefEqProofs only [go_sem, h1, h2, h4, h8] <;> rfl))) (by (first | rfl | (simp -implicitDefEqProofs only [go_sem, h1, h2, h4, h8] <;> rfl))) (by (first | rfl | (simp -implicitDefEqProofs only [go_sem, h1, h2, h4, h8] <;> rfl))) ?_
        clear hw
        try simp -implicitDefEqProofs only [go_sem, h1, h2, h4, h8]
        obtain ⟨r13, h14, h⟩ := bind_some' h
        have hw := ih_M_levels_Levels_add (e7, r11) _ h14
        refine .vars [(60000000, some 60000000), (60000001, some 60000001)] [(2000000, 2000000)] _ _ _ _ hw (by (first | rfl | (simp -implicitDefEqProofs only [go_sem, h1, h2, h4, h8] <;> rfl))) (by rfl) (by rfl) (by rfl) (by rfl) (by (first | rfl | (simp -implicitDefEqProofs only [go_sem, h1, h2, h4, h8] <;> rfl))) (by (first | rfl | (simp -implicitDefEqProofs only [go_sem, h1, h2, h4, h8] <;> rfl))) (by (first | rfl | (simp -implicitDefEqProofs only [go_sem, h1, h2, h4, h8] <;> rfl))) ?_
        clear hw
        try simp -implicitDefEqProofs only [go_sem, h1, h2, h4, h8]
        by_cases h15 : (x.1.Kind != 1) = true
        · replace h := ite_some h h15
          try simp -implicitDefEqProofs only [go_sem, h1, h2, h4, h8, h15]
          obtain ⟨r16, h17, h⟩ := bind_some' h
          refine .plain _ _ rfl (M_levels_count.w e7 _ h17) ?_
          try simp -implicitDefEqProofs only [go_sem, h1, h2, h4, h8, h15]
          obtain ⟨r18, h19, h⟩ := bind_some' h
          have hw := M_levels_Levels_adopt.w ((r11.Joins.length : Int), (r11.Ops.length : Int), (w64 ((r11.Ops.length : Int) + r16)), r13) _ h19
          refine .vars [(60000000, some 60000000), (60000001, some 60000001)] [(2000000, 2000000)] _ _ _ _ hw (by (first | rfl | (simp -implicitDefEqProofs only [go_sem, h1, h2, h4, h8, h15] <;> rfl))) (by rfl) (by rfl) (by rfl) (by rfl) (by (first | rfl | (simp -implicitDefEqProofs only [go_sem, h1, h2, h4, h8, h15] <;> rfl))) (by (first | rfl | (simp -implicitDefEqProofs only [go_sem, h1, h2, h4, h8, h15] <;> rfl))) (by (first | rfl | (simp -implicitDefEqProofs only [go_sem, h1, h2, h4, h8, h15] <;> rfl))) ?_
          clear hw
          try simp -implicitDefEqProofs only [go_sem, h1, h2, h4, h8, h15]
          obtain ⟨o29, h30, h⟩ := bind_some' h
          refine LLoop.viewQ (LLoop.view [(20000801, none), (81000000, some 60000000), (81000001, some 60000001)] (by (first | rfl | (simp -implicitDefEqProofs only [go_sem, h1, h2, h4, h8, h15] <;> rfl))) (M_levels_Levels_add.l0.w (r5, r9, x.1.Conj, (x.1.Conj.length : Int), 0, (⟨x.1.Kind, [], 0#64, 0#64, r9, -1⟩ : T_levels_Op), r18) _ h30 _ _ _ ?_))
          intro s' hs'; subst hs'
          try simp -implicitDefEqProofs only [go_sem, h1, h2, h4, h8, h15]
          obtain ⟨z31, h32, h⟩ := bind_some' h; replace h32 := room_some h32; obtain ⟨h32', rfl⟩ := h32
          refine LApp.map (F := T_levels_Op.av) (xs := o29.2.Ops) (ys := [o29.1]) t60_elem t120_size t120_bytes t120_zsize rfl T_levels_Op.len (by (first | rfl | (simp -implicitDefEqProofs only [go_sem, h1, h2, h4, h8, h15] <;> rfl))) (by (first | rfl | (simp -implicitDefEqProofs only [go_sem, h1, h2, h4, h8, h15] <;> rfl))) h32' ?_
          try simp -implicitDefEqProofs only [go_sem, h1, h2, h4, h8, h15]
          injection h with h; subst h
          first | exact ⟨by (first | rfl | (simp -implicitDefEqProofs only [go_sem, h1, h2, h4, h8, h15] <;> rfl)), [(60000000, some 81000000), (60000001, some 50000112)], by rfl, by (first | rfl | (simp -implicitDefEqProofs only [go_sem, h1, h2, h4, h8, h15] <;> rfl))⟩ | exact ⟨by (first | rfl | (simp -implicitDefEqProofs only [go_sem, h1, h2, h4, h8, h15] <;> rfl)), [(60000000, some 81000000), (60000001, some 50000112)], by rfl⟩ | exact ⟨by (first | rfl | (simp -implicitDefEqProofs only [go_sem, h1, h2, h4, h8, h15] <;> rfl)), [(60000000, some 81000000), (60000001, some 50000112)], by (simp -implicitDefEqProofs only [go_sem, h1, h2, h4, h8, h15] <;> first | done | rfl | trivial)⟩ | exact ⟨[(60000000, some 81000000), (60000001, some 50000112)], by rfl, by (first | rfl | (simp -implicitDefEqProofs only [go_sem, h1, h2, h4, h8, h15] <;> rfl))⟩ | exact ⟨[(60000000, some 81000000), (60000001, some 50000112)], by rfl, by (simp -implicitDefEqProofs only [go_sem, h1, h2, h4, h8, h15] <;> first | done | rfl | trivial)⟩
        · replace h := ite_none h h15; replace h15 := bfalse h15
          try simp -implicitDefEqProofs only [go_sem, h1, h2, h4, h8, h15]
          obtain ⟨o42, h43, h⟩ := bind_some' h
          refine LLoop.viewQ (LLoop.view [(81000000, some 60000000), (81000001, some 60000001)] (by (first | rfl | (simp -implicitDefEqProofs only [go_sem, h1, h2, h4, h8, h15] <;> rfl))) (M_levels_Levels_add.l1.w (r5, r9, x.1.Conj, (x.1.Conj.length : Int), 0, r13) _ h43 _ _ _ ?_))
          intro s' hs'; subst hs'
          try simp -implicitDefEqProofs only [go_sem, h1, h2, h4, h8, h15]
          injection h with h; subst h
          first | exact ⟨by (first | rfl | (simp -implicitDefEqProofs only [go_sem, h1, h2, h4, h8, h15] <;> rfl)), [(60000000, some 81000000), (60000001, some 81000001)], by rfl, by (first | rfl | (simp -implicitDefEqProofs only [go_sem, h1, h2, h4, h8, h15] <;> rfl))⟩ | exact ⟨by (first | rfl | (simp -implicitDefEqProofs only [go_sem, h1, h2, h4, h8, h15] <;> rfl)), [(60000000, some 81000000), (60000001, some 81000001)], by rfl⟩ | exact ⟨by (first | rfl | (simp -implicitDefEqProofs only [go_sem, h1, h2, h4, h8, h15] <;> rfl)), [(60000000, some 81000000), (60000001, some 81000001)], by (simp -implicitDefEqProofs only [go_sem, h1, h2, h4, h8, h15] <;> first | done | rfl | trivial)⟩ | exact ⟨[(60000000, some 81000000), (60000001, some 81000001)], by rfl, by (first | rfl | (simp -implicitDefEqProofs only [go_sem, h1, h2, h4, h8, h15] <;> rfl))⟩ | exact ⟨[(60000000, some 81000000), (60000001, some 81000001)], by rfl, by (simp -implicitDefEqProofs only [go_sem, h1, h2, h4, h8, h15] <;> first | done | rfl | trivial)⟩
theorem M_levels_Levels_add.w : type_of% (M_levels_Levels_add.ws) := M_levels_Levels_add.ws
end
section
attribute [local instance] mu_120_122
def M_levels_Of (x : T_api_Tree) : Option (T_levels_Levels) :=
  M_levels_Levels_add (x, (⟨[], []⟩ : T_levels_Levels)) >>= fun r1 =>
  some r1
theorem M_levels_Of.w : ∀ (x : T_api_Tree) (r : T_levels_Levels), M_levels_Of x = some r → (fun (x : T_api_Tree) (r : T_levels_Levels) => Fn Try.prog 33 [.agg (T_api_Tree.C x)] (.agg (T_levels_Levels.C r))) x r := by
  intro x r h
  rw [M_levels_Of] at h
  try dsimp only
  refine Fn.of_lc mix fn_33 lok_33 (by rfl) (flC (T_api_Tree.flatC _) (flN)) (T_levels_Levels.flatC _) ?_
  simp -implicitDefEqProofs only [go_sem, Try.f33]
  obtain ⟨r1, h2, h⟩ := bind_some' h
  have hw := M_levels_Levels_add.w (x, (⟨[], []⟩ : T_levels_Levels)) _ h2
  refine .vars [(60000000, none), (60000001, none)] [(2000000, 3)] _ _ _ _ hw (by (first | rfl | (simp -implicitDefEqProofs only [go_sem] <;> rfl))) (by rfl) (by rfl) (by rfl) (by rfl) (by (first | rfl | (simp -implicitDefEqProofs only [go_sem] <;> rfl))) (by (first | rfl | (simp -implicitDefEqProofs only [go_sem] <;> rfl))) (by (first | rfl | (simp -implicitDefEqProofs only [go_sem] <;> rfl))) ?_
  clear hw
  try simp -implicitDefEqProofs only [go_sem]
  injection h with h; subst h
  first | rfl | (simp -implicitDefEqProofs only [go_sem] <;> rfl)
end
end Go.Proofs.Ytakmilmckdllfaa.G
set_option linter.unusedVariables false
set_option linter.unusedSimpArgs false
set_option maxRecDepth 100000
namespace Go.Proofs.Ytakmilmckdllfaa.G
theorem lok_94 : (Try.f94.body.isSome && !(Try.f94.name == "runtime.NumGoroutine") && okL (bodyF Try.f94) Try.f94.ntmps (bodyF Try.f94)) = true := by kernel_rfl
@[go_sem] theorem lrp_88_1 : lrp Try.prog 88 1 = (9, []) := by kernel_rfl
theorem lok_88 : (Try.f88.body.isSome && !(Try.f88.name == "runtime.NumGoroutine") && okL (bodyF Try.f88) Try.f88.ntmps (bodyF Try.f88)) = true := by kernel_rfl
theorem lok_133 : (Try.f133.body.isSome && !(Try.f133.name == "runtime.NumGoroutine") && okL (bodyF Try.f133) Try.f133.ntmps (bodyF Try.f133)) = true := by kernel_rfl
theorem lok_90 : (Try.f90.body.isSome && !(Try.f90.name == "runtime.NumGoroutine") && okL (bodyF Try.f90) Try.f90.ntmps (bodyF Try.f90)) = true := by kernel_rfl
theorem lok_89 : (Try.f89.body.isSome && !(Try.f89.name == "runtime.NumGoroutine") && okL (bodyF Try.f89) Try.f89.ntmps (bodyF Try.f89)) = true := by kernel_rfl
@[go_sem] theorem lrp_87_1 : lrp Try.prog 87 1 = (15, []) := by kernel_rfl
theorem lok_87 : (Try.f87.body.isSome && !(Try.f87.name == "runtime.NumGoroutine") && okL (bodyF Try.f87) Try.f87.ntmps (bodyF Try.f87)) = true := by kernel_rfl
theorem lok_86 : (Try.f86.body.isSome && !(Try.f86.name == "runtime.NumGoroutine") && okL (bodyF Try.f86) Try.f86.ntmps (bodyF Try.f86)) = true := by kernel_rfl
@[go_sem] theorem lrp_93_1 : lrp Try.prog 93 1 = (17, []) := by kernel_rfl
theorem lok_93 : (Try.f93.body.isSome && !(Try.f93.name == "runtime.NumGoroutine") && okL (bodyF Try.f93) Try.f93.ntmps (bodyF Try.f93)) = true := by kernel_rfl
theorem lok_92 : (Try.f92.body.isSome && !(Try.f92.name == "runtime.NumGoroutine") && okL (bodyF Try.f92) Try.f92.ntmps (bodyF Try.f92)) = true := by kernel_rfl
theorem lok_91 : (Try.f91.body.isSome && !(Try.f91.name == "runtime.NumGoroutine") && okL (bodyF Try.f91) Try.f91.ntmps (bodyF Try.f91)) = true := by kernel_rfl
@[go_sem] theorem lrp_37_13 : lrp Try.prog 37 13 = (7, []) := by kernel_rfl
theorem lok_37 : (Try.f37.body.isSome && !(Try.f37.name == "runtime.NumGoroutine") && okL (bodyF Try.f37) Try.f37.ntmps (bodyF Try.f37)) = true := by kernel_rfl
def M_levels_Levels_own (x : T_levels_Levels × Int) : Option (Set64) :=
  if (decide (x.2 < 0)) = true then
    some (0#64)
  else
    if (decide (x.2 ≥ (x.1.Ops.length : Int))) = true then
      some (0#64)
    else
      (getI x.1.Ops x.2) >>= fun (e3 : T_levels_Op) =>
      some e3.Own
theorem M_levels_Levels_own.w : ∀ (x : T_levels_Levels × Int) (r : Set64), M_levels_Levels_own x = some r → (fun (x : T_levels_Levels × Int) (r : Set64) => Fn Try.prog 94 [.agg (T_levels_Levels.C x.1), .i64 x.2] (.w r)) x r := by
  intro x r h
  rw [M_levels_Levels_own] at h
  try dsimp only
  refine Fn.of_lc mix fn_94 lok_94 (by rfl) (flC (T_levels_Levels.flatC _) (flC (.atom _) (flN))) (.atom _) ?_
  simp -implicitDefEqProofs only [go_sem, Try.f94]
  by_cases h1 : (decide (x.2 < 0)) = true
  · replace h := ite_some h h1
    try simp -implicitDefEqProofs only [go_sem, h1]
    injection h with h; subst h
    first | rfl | (simp -implicitDefEqProofs only [go_sem, h1] <;> rfl)
  · replace h := ite_none h h1; replace h1 := bfalse h1
    try simp -implicitDefEqProofs only [go_sem, h1]
    by_cases h2 : (decide (x.2 ≥ (x.1.Ops.length : Int))) = true
    · replace h := ite_some h h2
      try simp -implicitDefEqProofs only [go_sem, h1, h2]
      injection h with h; subst h
      first | rfl | (simp -implicitDefEqProofs only [go_sem, h1, h2] <;> rfl)
    · replace h := ite_none h h2; replace h2 := bfalse h2
      try simp -implicitDefEqProofs only [go_sem, h1, h2]
      obtain ⟨e3, h4, h⟩ := bind_some' h; replace h4 := getI_some h4; obtain ⟨h4', h4⟩ := h4
      try simp -implicitDefEqProofs only [go_sem, h1, h2, h4, h4']
      injection h with h; subst h
      first | rfl | (simp -implicitDefEqProofs only [go_sem, h1, h2, h4, h4'] <;> rfl)
def M_levels_Levels_place (x : T_levels_Levels × T_levels_Op) : Option (T_levels_place) :=
  M_levels_Levels_own (x.1, x.2.Home) >>= fun r1 =>
  some (⟨x.2.Kind, x.2.Own, r1⟩ : T_levels_place)
theorem M_levels_Levels_place.w : ∀ (x : T_levels_Levels × T_levels_Op) (r : T_levels_place), M_levels_Levels_place x = some r → (fun (x : T_levels_Levels × T_levels_Op) (r : T_levels_place) => Fn Try.prog 88 [.agg (T_levels_Levels.C x.1), .agg (T_levels_Op.C x.2)] (.agg (T_levels_place.C r))) x r := by
  intro x r h
  rw [M_levels_Levels_place] at h
  try dsimp only
  refine Fn.of_lc mix fn_88 lok_88 (by rfl) (flC (T_levels_Levels.flatC _) (flC (T_levels_Op.flatC _) (flN))) (T_levels_place.flatC _) ?_
  simp -implicitDefEqProofs only [go_sem, Try.f88]
  obtain ⟨r1, h2, h⟩ := bind_some' h
  refine .plain _ _ rfl (M_levels_Levels_own.w (x.1, x.2.Home) _ h2) ?_
  try simp -implicitDefEqProofs only [go_sem]
  injection h with h; subst h
  first | rfl | (simp -implicitDefEqProofs only [go_sem] <;> rfl)
def M_term_Same (x : T_api_Term × T_api_Term) : Option (Bool) :=
  some ((x.1.Kind == x.2.Kind) && ((x.1.Table == x.2.Table) && ((x.1.Col == x.2.Col) && ((x.1.Value.Null == x.2.Value.Null) && (x.1.Value.N == x.2.Value.N)))))
theorem M_term_Same.w : ∀ (x : T_api_Term × T_api_Term) (r : Bool), M_term_Same x = some r → (fun (x : T_api_Term × T_api_Term) (r : Bool) => Fn Try.prog 133 [.agg (T_api_Term.C x.1), .agg (T_api_Term.C x.2)] (.bool r)) x r := by
  intro x r h
  rw [M_term_Same] at h
  try dsimp only
  refine Fn.of_lc mix fn_133 lok_133 (by rfl) (flC (T_api_Term.flatC _) (flC (T_api_Term.flatC _) (flN))) (.atom _) ?_
  simp -implicitDefEqProofs only [go_sem, Try.f133]
  injection h with h; subst h
  first | rfl | (simp -implicitDefEqProofs only [go_sem] <;> rfl)
mutual
def M_pred_Same (x : T_api_Pred × T_api_Pred) : Option (Bool) :=
  if (x.1.Kind == x.2.Kind) = true then
    if (x.1.Truth == x.2.Truth) = true then
      if (x.1.Op == x.2.Op) = true then
        M_term_Same (x.1.A, x.2.A) >>= fun r4 =>
        if r4 = true then
          M_term_Same (x.1.B, x.2.B) >>= fun r7 =>
          if r7 = true then
            M_slices_EqualFunc_api_Pred_api_Pred_api_Pred_api_Pred__pred_Same (x.1.Parts, x.2.Parts) >>= fun r10 =>
            some r10
          else
            some false
        else
          some false
      else
        some false
    else
      some false
  else
    some false
  partial_fixpoint
def M_slices_EqualFunc_api_Pred_api_Pred_api_Pred_api_Pred__pred_Same (x : List T_api_Pred × List T_api_Pred) : Option (Bool) :=
  if ((x.1.length : Int) != (x.2.length : Int)) = true then
    some false
  else
    M_slices_EqualFunc_api_Pred_api_Pred_api_Pred_api_Pred__pred_Same.l0 (x.2, x.1, (x.1.length : Int), 0) >>= fun (o10 : Lp (Unit) (Bool)) => match o10 with
    | .brk s13 =>
      some true
    | .ret r12 =>
      some r12
  partial_fixpoint
def M_slices_EqualFunc_api_Pred_api_Pred_api_Pred_api_Pred__pred_Same.l0 (x : List T_api_Pred × List T_api_Pred × Int × Int) : Option (Lp (Unit) (Bool)) :=
  if (decide (x.2.2.2 < x.2.2.1)) = true then
    (getI x.2.1 x.2.2.2) >>= fun (e3 : T_api_Pred) =>
    (getI x.1 x.2.2.2) >>= fun (e5 : T_api_Pred) =>
    M_pred_Same (e3, e5) >>= fun r7 =>
    if r7 = true then
      M_slices_EqualFunc_api_Pred_api_Pred_api_Pred_api_Pred__pred_Same.l0 (x.1, x.2.1, x.2.2.1, (w64 (x.2.2.2 + 1)))
    else
      some (.ret false)
  else
    some (.brk ())
  partial_fixpoint
end
theorem M_pred_Same.ws : (∀ (x : T_api_Pred × T_api_Pred) (o : Bool), M_pred_Same x = some o → (fun (x : T_api_Pred × T_api_Pred) (r : Bool) => Fn Try.prog 90 [.agg (T_api_Pred.C x.1), .agg (T_api_Pred.C x.2)] (.bool r)) x o) ∧ (∀ (x : List T_api_Pred × List T_api_Pred) (o : Bool), M_slices_EqualFunc_api_Pred_api_Pred_api_Pred_api_Pred__pred_Same x = some o → (fun (x : List T_api_Pred × List T_api_Pred) (r : Bool) => Fn Try.prog 89 [.slice .foreign (x.1.map T_api_Pred.av), .slice .foreign (x.2.map T_api_Pred.av), .func 90 [] []] (.bool r)) x o) ∧ (∀ (x : List T_api_Pred × List T_api_Pred × Int × Int) (o : Lp (Unit) (Bool)), M_slices_EqualFunc_api_Pred_api_Pred_api_Pred_api_Pred__pred_Same.l0 x = some o → (fun (x : List T_api_Pred × List T_api_Pred × Int × Int) (o : Lp (Unit) (Bool)) => ∀ (lo : Option Nat) (c : LCtx) (Q : Exit → LEnv → Prop) (hb : ∀ s : Unit, o = Lp.brk s → Q (.exit 0) ⟨[], []⟩) (hr : ∀ (r : Bool) (L : LEnv), o = .ret r → LPostF Try.prog [.tmp 6] (.bool r) (fun _ => True) .ret L → Q .ret L), LLoop Try.prog 89 lo c 0 (VQ Q) ⟨[(1, .v (.slice .foreign (x.1.map T_api_Pred.av))), (2, .v (.func 90 [] [])), (15, .v (.slice .foreign (x.2.1.map T_api_Pred.av))), (16, .v (.i64 x.2.2.1)), (17, .v (.i64 x.2.2.2))], []⟩) x o) := by
  refine M_pred_Same.mutual_partial_correctness _ _ _ ?_ ?_ ?_
  · intro M_M_slices_EqualFunc_api_Pred_api_Pred_api_Pred_api_Pred__pred_Same ih_M_slices_EqualFunc_api_Pred_api_Pred_api_Pred_api_Pred__pred_Same x r h
    refine Fn.of_lc mix fn_90 lok_90 (by rfl) (flC (T_api_Pred.flatC _) (flC (T_api_Pred.flatC _) (flN))) (.atom _) ?_
    simp -implicitDefEqProofs only [go_sem, Try.f90]
    by_cases h1 : (x.1.Kind == x.2.Kind) = true
    · replace h := ite_some h h1
      try simp -implicitDefEqProofs only [go_sem, h1]
      by_cases h2 : (x.1.Truth == x.2.Truth) = true
      · replace h := ite_some h h2
        try simp -implicitDefEqProofs only [go_sem, h1, h2]
        by_cases h3 : (x.1.Op == x.2.Op) = true
        · replace h := ite_some h h3
          try simp -implicitDefEqProofs only [go_sem, h1, h2, h3]
          obtain ⟨r4, h5, h⟩ := bind_some' h
          refine .plain _ _ rfl (M_term_Same.w (x.1.A, x.2.A) _ h5) ?_
          try simp -implicitDefEqProofs only [go_sem, h1, h2, h3]
          by_cases h6 : r4 = true
          · replace h := ite_some h h6
            try simp -implicitDefEqProofs only [go_sem, h1, h2, h3, h6]
            obtain ⟨r7, h8, h⟩ := bind_some' h
            refine .plain _ _ rfl (M_term_Same.w (x.1.B, x.2.B) _ h8) ?_
            try simp -implicitDefEqProofs only [go_sem, h1, h2, h3, h6]
            by_cases h9 : r7 = true
            · replace h := ite_some h h9
              try simp -implicitDefEqProofs only [go_sem, h1, h2, h3, h6, h9]
              obtain ⟨r10, h11, h⟩ := bind_some' h
              refine .plain _ _ rfl (ih_M_slices_EqualFunc_api_Pred_api_Pred_api_Pred_api_Pred__pred_Same (x.1.Parts, x.2.Parts) _ h11) ?_
              try simp -implicitDefEqProofs only [go_sem, h1, h2, h3, h6, h9]
              injection h with h; subst h
              first | rfl | (simp -implicitDefEqProofs only [go_sem, h1, h2, h3, h6, h9] <;> rfl)
            · replace h := ite_none h h9; replace h9 := bfalse h9
              try simp -implicitDefEqProofs only [go_sem, h1, h2, h3, h6, h9]
              injection h with h; subst h
              first | rfl | (simp -implicitDefEqProofs only [go_sem, h1, h2, h3, h6, h9] <;> rfl)
          · replace h := ite_none h h6; replace h6 := bfalse h6
            try simp -implicitDefEqProofs only [go_sem, h1, h2, h3, h6]
            injection h with h; subst h
            first | rfl | (simp -implicitDefEqProofs only [go_sem, h1, h2, h3, h6] <;> rfl)
        · replace h := ite_none h h3; replace h3 := bfalse h3
          try simp -implicitDefEqProofs only [go_sem, h1, h2, h3]
          injection h with h; subst h
          first | rfl | (simp -implicitDefEqProofs only [go_sem, h1, h2, h3] <;> rfl)
      · replace h := ite_none h h2; replace h2 := bfalse h2
        try simp -implicitDefEqProofs only [go_sem, h1, h2]
        injection h with h; subst h
        first | rfl | (simp -implicitDefEqProofs only [go_sem, h1, h2] <;> rfl)
    · replace h := ite_none h h1; replace h1 := bfalse h1
      try simp -implicitDefEqProofs only [go_sem, h1]
      injection h with h; subst h
      first | rfl | (simp -implicitDefEqProofs only [go_sem, h1] <;> rfl)
  · intro M_M_slices_EqualFunc_api_Pred_api_Pred_api_Pred_api_Pred__pred_Same_l0 ih_M_slices_EqualFunc_api_Pred_api_Pred_api_Pred_api_Pred__pred_Same_l0 x r h
    refine Fn.of_lc mix fn_89 lok_89 (by rfl) (flC (flat_slice _ T_api_Pred.flat _) (flC (flat_slice _ T_api_Pred.flat _) (flC (.func _ _ _ (flN) (flN)) (flN)))) (.atom _) ?_
    simp -implicitDefEqProofs only [go_sem, Try.f89]
    by_cases h1 : ((x.1.length : Int) != (x.2.length : Int)) = true
    · replace h := ite_some h h1
      try simp -implicitDefEqProofs only [go_sem, h1]
      injection h with h; subst h
      first | rfl | (simp -implicitDefEqProofs only [go_sem, h1] <;> rfl)
    · replace h := ite_none h h1; replace h1 := bfalse h1
      try simp -implicitDefEqProofs only [go_sem, h1]
      obtain ⟨o10, h11, h⟩ := bind_some' h
      refine LLoop.viewQ (LLoop.view [] (by (first | rfl | (simp -implicitDefEqProofs only [go_sem, h1] <;> rfl))) (ih_M_slices_EqualFunc_api_Pred_api_Pred_api_Pred_api_Pred__pred_Same_l0 (x.2, x.1, (x.1.length : Int), 0) _ h11 _ _ _ ?_ ?_))
      · intro s13 hs'; subst hs'
        try simp -implicitDefEqProofs only [go_sem, h1]
        injection h with h; subst h
        first | rfl | (simp -implicitDefEqProofs only [go_sem, h1] <;> rfl)
      · intro r12 L' hs' hL'; subst hs'
        injection h with h; subst h
        first | exact hL' | (simp -implicitDefEqProofs only [go_sem]; exact hL') | (simp -implicitDefEqProofs only [go_sem]; simp -implicitDefEqProofs only [go_sem] at hL'; exact hL')
  · intro M_M_pred_Same M_M_slices_EqualFunc_api_Pred_api_Pred_api_Pred_api_Pred__pred_Same_l0 ih_M_pred_Same ih_M_slices_EqualFunc_api_Pred_api_Pred_api_Pred_api_Pred__pred_Same_l0 x o h
    intro lo c Q hb hr
    refine LLoop.step mix fn_89 (by kernel_rfl) ?_
    simp -implicitDefEqProofs only [go_sem, Try.f89]
    by_cases h2 : (decide (x.2.2.2 < x.2.2.1)) = true
    · replace h := ite_some h h2
      try simp -implicitDefEqProofs only [go_sem, h2]
      obtain ⟨e3, h4, h⟩ := bind_some' h; replace h4 := getI_some h4; obtain ⟨h4', h4⟩ := h4
      try simp -implicitDefEqProofs only [go_sem, h2, h4, h4']
      obtain ⟨e5, h6, h⟩ := bind_some' h; replace h6 := getI_some h6; obtain ⟨h6', h6⟩ := h6
      try simp -implicitDefEqProofs only [go_sem, h2, h4, h4', h6, h6']
      obtain ⟨r7, h8, h⟩ := bind_some' h
      refine .plain _ _ rfl (ih_M_pred_Same (e3, e5) _ h8) ?_
      try simp -implicitDefEqProofs only [go_sem, h2, h4, h4', h6, h6']
      by_cases h9 : r7 = true
      · replace h := ite_some h h9
        try simp -implicitDefEqProofs only [go_sem, h2, h4, h4', h6, h6', h9]
        exact LLoop.view [] (by (first | rfl | (simp -implicitDefEqProofs only [go_sem, h2, h4, h4', h6, h6', h9] <;> rfl))) (ih_M_slices_EqualFunc_api_Pred_api_Pred_api_Pred_api_Pred__pred_Same_l0 _ _ h lo c Q hb hr)
      · replace h := ite_none h h9; replace h9 := bfalse h9
        try simp -implicitDefEqProofs only [go_sem, h2, h4, h4', h6, h6', h9]
        injection h with h; subst h
        exact .inl (hr _ _ rfl (by (first | rfl | (simp -implicitDefEqProofs only [go_sem, h2, h4, h4', h6, h6', h9] <;> rfl))))
    · replace h := ite_none h h2; replace h2 := bfalse h2
      try simp -implicitDefEqProofs only [go_sem, h2]
      injection h with h; subst h
      exact .inr ⟨[], _, by (simp -implicitDefEqProofs only [go_sem, h2] <;> first | done | rfl | trivial), hb _ rfl⟩
theorem M_pred_Same.w : type_of% (M_pred_Same.ws.1) := M_pred_Same.ws.1
theorem M_slices_EqualFunc_api_Pred_api_Pred_api_Pred_api_Pred__pred_Same.w : type_of% (M_pred_Same.ws.2.1) := M_pred_Same.ws.2.1
def M_levels_Same_1 (x : T_levels_Op × T_levels_Levels × T_levels_Levels × T_levels_Op) : Option (Bool) :=
  M_levels_Levels_place (x.2.1, x.1) >>= fun r1 =>
  M_levels_Levels_place (x.2.2.1, x.2.2.2) >>= fun r3 =>
  if ((r1.kind == r3.kind) && ((r1.own == r3.own) && (r1.home == r3.home))) = true then
    M_slices_EqualFunc_api_Pred_api_Pred_api_Pred_api_Pred__pred_Same (x.1.Conj, x.2.2.2.Conj) >>= fun r6 =>
    some r6
  else
    some false
theorem M_levels_Same_1.w : ∀ (x : T_levels_Op × T_levels_Levels × T_levels_Levels × T_levels_Op) (r : Bool), M_levels_Same_1 x = some r → (fun (x : T_levels_Op × T_levels_Levels × T_levels_Levels × T_levels_Op) (r : Bool) => FnB Try.prog 87 [(3000000, [.v (.slice .foreign (x.2.1.Joins.map T_levels_Join.av)), .v (.slice .foreign (x.2.1.Ops.map T_levels_Op.av))]), (3000001, [.v (.slice .foreign (x.2.2.1.Joins.map T_levels_Join.av)), .v (.slice .foreign (x.2.2.1.Ops.map T_levels_Op.av))]), (3000002, [.v (.i64 x.2.2.2.Kind), .v (.slice .foreign (x.2.2.2.Conj.map T_api_Pred.av)), .v (.w x.2.2.2.Left), .v (.w x.2.2.2.Right), .v (.w x.2.2.2.Own), .v (.i64 x.2.2.2.Home)])] [.a (.agg [.i64 x.1.Kind, .slice .foreign (x.1.Conj.map T_api_Pred.av), .w x.1.Left, .w x.1.Right, .w x.1.Own, .i64 x.1.Home]), .p 3000000, .p 3000001, .p 3000002] (.bool r) [(3000000, [.v (.slice .foreign (x.2.1.Joins.map T_levels_Join.av)), .v (.slice .foreign (x.2.1.Ops.map T_levels_Op.av))]), (3000001, [.v (.slice .foreign (x.2.2.1.Joins.map T_levels_Join.av)), .v (.slice .foreign (x.2.2.1.Ops.map T_levels_Op.av))]), (3000002, [.v (.i64 x.2.2.2.Kind), .v (.slice .foreign (x.2.2.2.Conj.map T_api_Pred.av)), .v (.w x.2.2.2.Left), .v (.w x.2.2.2.Right), .v (.w x.2.2.2.Own), .v (.i64 x.2.2.2.Home)])]) x r := by
  intro x r h
  rw [M_levels_Same_1] at h
  try dsimp only
  refine FnB.of_lc mix fn_87 lok_87 (by rfl) (by rfl) fun c => ?_
  simp -implicitDefEqProofs only [go_sem, Try.f87]
  obtain ⟨r1, h2, h⟩ := bind_some' h
  refine .plain _ _ rfl (M_levels_Levels_place.w (x.2.1, x.1) _ h2) ?_
  try simp -implicitDefEqProofs only [go_sem]
  obtain ⟨r3, h4, h⟩ := bind_some' h
  refine .plain _ _ rfl (M_levels_Levels_place.w (x.2.2.1, x.2.2.2) _ h4) ?_
  try simp -implicitDefEqProofs only [go_sem]
  by_cases h5 : ((r1.kind == r3.kind) && ((r1.own == r3.own) && (r1.home == r3.home))) = true
  · replace h := ite_some h h5
    try simp -implicitDefEqProofs only [go_sem, h5]
    obtain ⟨r6, h7, h⟩ := bind_some' h
    refine .plain _ _ rfl (M_slices_EqualFunc_api_Pred_api_Pred_api_Pred_api_Pred__pred_Same.w (x.1.Conj, x.2.2.2.Conj) _ h7) ?_
    try simp -implicitDefEqProofs only [go_sem, h5]
    injection h with h; subst h
    first | exact ⟨by (first | rfl | (simp -implicitDefEqProofs only [go_sem, h5] <;> rfl)), [], by rfl, by (first | rfl | (simp -implicitDefEqProofs only [go_sem, h5] <;> rfl))⟩ | exact ⟨by (first | rfl | (simp -implicitDefEqProofs only [go_sem, h5] <;> rfl)), [], by rfl⟩ | exact ⟨by (first | rfl | (simp -implicitDefEqProofs only [go_sem, h5] <;> rfl)), [], by (simp -implicitDefEqProofs only [go_sem, h5] <;> first | done | rfl | trivial)⟩ | exact ⟨[], by rfl, by (first | rfl | (simp -implicitDefEqProofs only [go_sem, h5] <;> rfl))⟩ | exact ⟨[], by rfl, by (simp -implicitDefEqProofs only [go_sem, h5] <;> first | done | rfl | trivial)⟩
  · replace h := ite_none h h5; replace h5 := bfalse h5
    try simp -implicitDefEqProofs only [go_sem, h5]
    injection h with h; subst h
    first | exact ⟨by (first | rfl | (simp -implicitDefEqProofs only [go_sem, h5] <;> rfl)), [], by rfl, by (first | rfl | (simp -implicitDefEqProofs only [go_sem, h5] <;> rfl))⟩ | exact ⟨by (first | rfl | (simp -implicitDefEqProofs only [go_sem, h5] <;> rfl)), [], by rfl⟩ | exact ⟨by (first | rfl | (simp -implicitDefEqProofs only [go_sem, h5] <;> rfl)), [], by (simp -implicitDefEqProofs only [go_sem, h5] <;> first | done | rfl | trivial)⟩ | exact ⟨[], by rfl, by (first | rfl | (simp -implicitDefEqProofs only [go_sem, h5] <;> rfl))⟩ | exact ⟨[], by rfl, by (simp -implicitDefEqProofs only [go_sem, h5] <;> first | done | rfl | trivial)⟩
def M_levels_times_levels_Op__levels_Same_1.l0 (x : Int × List T_levels_Op × Int × Int × T_levels_Levels × T_levels_Levels × T_levels_Op) : Option (Int) :=
  if (decide (x.2.2.2.1 < x.2.2.1)) = true then
    (getI x.2.1 x.2.2.2.1) >>= fun (e2 : T_levels_Op) =>
    M_levels_Same_1 (e2, x.2.2.2.2.1, x.2.2.2.2.2.1, x.2.2.2.2.2.2) >>= fun r4 =>
    if r4 = true then
      M_levels_times_levels_Op__levels_Same_1.l0 ((w64 (x.1 + 1)), x.2.1, x.2.2.1, (w64 (x.2.2.2.1 + 1)), x.2.2.2.2.1, x.2.2.2.2.2.1, x.2.2.2.2.2.2)
    else
      M_levels_times_levels_Op__levels_Same_1.l0 (x.1, x.2.1, x.2.2.1, (w64 (x.2.2.2.1 + 1)), x.2.2.2.2.1, x.2.2.2.2.2.1, x.2.2.2.2.2.2)
  else
    some x.1
  partial_fixpoint
theorem M_levels_times_levels_Op__levels_Same_1.l0.ws : (∀ (x : Int × List T_levels_Op × Int × Int × T_levels_Levels × T_levels_Levels × T_levels_Op) (o : Int), M_levels_times_levels_Op__levels_Same_1.l0 x = some o → (fun (x : Int × List T_levels_Op × Int × Int × T_levels_Levels × T_levels_Levels × T_levels_Op) (o : Int) => ∀ (lo : Option Nat) (c : LCtx) (Q : Exit → LEnv → Prop) (hb : ∀ s : Int, o = s → Q (.exit 0) ⟨[(5, .v (.i64 s))], [(3000000, [.v (.slice .foreign (x.2.2.2.2.1.Joins.map T_levels_Join.av)), .v (.slice .foreign (x.2.2.2.2.1.Ops.map T_levels_Op.av))]), (3000001, [.v (.slice .foreign (x.2.2.2.2.2.1.Joins.map T_levels_Join.av)), .v (.slice .foreign (x.2.2.2.2.2.1.Ops.map T_levels_Op.av))]), (3000002, [.v (.i64 x.2.2.2.2.2.2.Kind), .v (.slice .foreign (x.2.2.2.2.2.2.Conj.map T_api_Pred.av)), .v (.w x.2.2.2.2.2.2.Left), .v (.w x.2.2.2.2.2.2.Right), .v (.w x.2.2.2.2.2.2.Own), .v (.i64 x.2.2.2.2.2.2.Home)])]⟩), LLoop Try.prog 86 lo c 0 (VQ Q) ⟨[(1, .fn 87 [] [.p 3000000, .p 3000001, .p 3000002]), (5, .v (.i64 x.1)), (8, .v (.slice .foreign (x.2.1.map T_levels_Op.av))), (9, .v (.i64 x.2.2.1)), (10, .v (.i64 x.2.2.2.1))], [(3000000, [.v (.slice .foreign (x.2.2.2.2.1.Joins.map T_levels_Join.av)), .v (.slice .foreign (x.2.2.2.2.1.Ops.map T_levels_Op.av))]), (3000001, [.v (.slice .foreign (x.2.2.2.2.2.1.Joins.map T_levels_Join.av)), .v (.slice .foreign (x.2.2.2.2.2.1.Ops.map T_levels_Op.av))]), (3000002, [.v (.i64 x.2.2.2.2.2.2.Kind), .v (.slice .foreign (x.2.2.2.2.2.2.Conj.map T_api_Pred.av)), .v (.w x.2.2.2.2.2.2.Left), .v (.w x.2.2.2.2.2.2.Right), .v (.w x.2.2.2.2.2.2.Own), .v (.i64 x.2.2.2.2.2.2.Home)])]⟩) x o) := by
  refine M_levels_times_levels_Op__levels_Same_1.l0.partial_correctness _ ?_
  · intro M_M_levels_times_levels_Op__levels_Same_1_l0 ih_M_levels_times_levels_Op__levels_Same_1_l0 x o h
    intro lo c Q hb
    refine LLoop.step mix fn_86 (by kernel_rfl) ?_
    simp -implicitDefEqProofs only [go_sem, Try.f86]
    by_cases h1 : (decide (x.2.2.2.1 < x.2.2.1)) = true
    · replace h := ite_some h h1
      try simp -implicitDefEqProofs only [go_sem, h1]
      obtain ⟨e2, h3, h⟩ := bind_some' h; replace h3 := getI_some h3; obtain ⟨h3', h3⟩ := h3
      try simp -implicitDefEqProofs only [go_sem, h1, h3, h3']
      obtain ⟨r4, h5, h⟩ := bind_some' h
      have hw := M_levels_Same_1.w (e2, x.2.2.2.2.1, x.2.2.2.2.2.1, x.2.2.2.2.2.2) _ h5
      refine .vars [] [(3000000, 3000000), (3000001, 3000001), (3000002, 3000002)] _ _ _ _ hw (by (first | rfl | (simp -implicitDefEqProofs only [go_sem, h1, h3, h3'] <;> rfl))) (by rfl) (by rfl) (by rfl) (by rfl) (by (first | rfl | (simp -implicitDefEqProofs only [go_sem, h1, h3, h3'] <;> rfl))) (by (first | rfl | (simp -implicitDefEqProofs only [go_sem, h1, h3, h3'] <;> rfl))) (by (first | rfl | (simp -implicitDefEqProofs only [go_sem, h1, h3, h3'] <;> rfl))) ?_
      clear hw
      try simp -implicitDefEqProofs only [go_sem, h1, h3, h3']
      by_cases h6 : r4 = true
      · replace h := ite_some h h6
        try simp -implicitDefEqProofs only [go_sem, h1, h3, h3', h6]
        exact LLoop.view [] (by (first | rfl | (simp -implicitDefEqProofs only [go_sem, h1, h3, h3', h6] <;> rfl))) (ih_M_levels_times_levels_Op__levels_Same_1_l0 _ _ h lo c Q hb)
      · replace h := ite_none h h6; replace h6 := bfalse h6
        try simp -implicitDefEqProofs only [go_sem, h1, h3, h3', h6]
        exact LLoop.view [] (by (first | rfl | (simp -implicitDefEqProofs only [go_sem, h1, h3, h3', h6] <;> rfl))) (ih_M_levels_times_levels_Op__levels_Same_1_l0 _ _ h lo c Q hb)
    · replace h := ite_none h h1; replace h1 := bfalse h1
      try simp -implicitDefEqProofs only [go_sem, h1]
      injection h with h; subst h
      exact .inr ⟨[], _, by (simp -implicitDefEqProofs only [go_sem, h1] <;> first | done | rfl | trivial), hb _ rfl⟩
theorem M_levels_times_levels_Op__levels_Same_1.l0.w : type_of% (M_levels_times_levels_Op__levels_Same_1.l0.ws) := M_levels_times_levels_Op__levels_Same_1.l0.ws
def M_levels_times_levels_Op__levels_Same_1 (x : List T_levels_Op × T_levels_Levels × T_levels_Levels × T_levels_Op) : Option (Int) :=
  M_levels_times_levels_Op__levels_Same_1.l0 (0, x.1, (x.1.length : Int), 0, x.2.1, x.2.2.1, x.2.2.2) >>= fun (o7 : Int) =>
  some o7
theorem M_levels_times_levels_Op__levels_Same_1.w : ∀ (x : List T_levels_Op × T_levels_Levels × T_levels_Levels × T_levels_Op) (r : Int), M_levels_times_levels_Op__levels_Same_1 x = some r → (fun (x : List T_levels_Op × T_levels_Levels × T_levels_Levels × T_levels_Op) (r : Int) => FnB Try.prog 86 [(3000000, [.v (.slice .foreign (x.2.1.Joins.map T_levels_Join.av)), .v (.slice .foreign (x.2.1.Ops.map T_levels_Op.av))]), (3000001, [.v (.slice .foreign (x.2.2.1.Joins.map T_levels_Join.av)), .v (.slice .foreign (x.2.2.1.Ops.map T_levels_Op.av))]), (3000002, [.v (.i64 x.2.2.2.Kind), .v (.slice .foreign (x.2.2.2.Conj.map T_api_Pred.av)), .v (.w x.2.2.2.Left), .v (.w x.2.2.2.Right), .v (.w x.2.2.2.Own), .v (.i64 x.2.2.2.Home)])] [.a (.slice .foreign (x.1.map T_levels_Op.av)), .fn 87 [] [.p 3000000, .p 3000001, .p 3000002]] (.i64 r) [(3000000, [.v (.slice .foreign (x.2.1.Joins.map T_levels_Join.av)), .v (.slice .foreign (x.2.1.Ops.map T_levels_Op.av))]), (3000001, [.v (.slice .foreign (x.2.2.1.Joins.map T_levels_Join.av)), .v (.slice .foreign (x.2.2.1.Ops.map T_levels_Op.av))]), (3000002, [.v (.i64 x.2.2.2.Kind), .v (.slice .foreign (x.2.2.2.Conj.map T_api_Pred.av)), .v (.w x.2.2.2.Left), .v (.w x.2.2.2.Right), .v (.w x.2.2.2.Own), .v (.i64 x.2.2.2.Home)])]) x r := by
  intro x r h
  rw [M_levels_times_levels_Op__levels_Same_1] at h
  try dsimp only
  refine FnB.of_lc mix fn_86 lok_86 (by rfl) (by rfl) fun c => ?_
  simp -implicitDefEqProofs only [go_sem, Try.f86]
  obtain ⟨o7, h8, h⟩ := bind_some' h
  refine LLoop.viewQ (LLoop.view [] (by (first | rfl | (simp -implicitDefEqProofs only [go_sem] <;> rfl))) (M_levels_times_levels_Op__levels_Same_1.l0.w (0, x.1, (x.1.length : Int), 0, x.2.1, x.2.2.1, x.2.2.2) _ h8 _ _ _ ?_))
  intro s' hs'; subst hs'
  try simp -implicitDefEqProofs only [go_sem]
  injection h with h; subst h
  first | exact ⟨by (first | rfl | (simp -implicitDefEqProofs only [go_sem] <;> rfl)), [], by rfl, by (first | rfl | (simp -implicitDefEqProofs only [go_sem] <;> rfl))⟩ | exact ⟨by (first | rfl | (simp -implicitDefEqProofs only [go_sem] <;> rfl)), [], by rfl⟩ | exact ⟨by (first | rfl | (simp -implicitDefEqProofs only [go_sem] <;> rfl)), [], by (simp -implicitDefEqProofs only [go_sem] <;> first | done | rfl | trivial)⟩ | exact ⟨[], by rfl, by (first | rfl | (simp -implicitDefEqProofs only [go_sem] <;> rfl))⟩ | exact ⟨[], by rfl, by (simp -implicitDefEqProofs only [go_sem] <;> first | done | rfl | trivial)⟩
def M_levels_Same.l0 (x : List T_levels_Op × Int × Int × T_levels_Levels × T_levels_Levels) : Option (Lp (T_levels_Levels × T_levels_Levels) (Bool)) :=
  if (decide (x.2.2.1 < x.2.1)) = true then
    (getI x.1 x.2.2.1) >>= fun (e4 : T_levels_Op) =>
    M_levels_times_levels_Op__levels_Same_1 (x.2.2.2.2.Ops, x.2.2.2.2, x.2.2.2.1, e4) >>= fun r6 =>
    if (r6 == 0) = true then
      some (.ret false)
    else
      M_levels_Same.l0 (x.1, x.2.1, (w64 (x.2.2.1 + 1)), x.2.2.2.1, x.2.2.2.2)
  else
    some (.brk (x.2.2.2.1, x.2.2.2.2))
  partial_fixpoint
theorem M_levels_Same.l0.ws : (∀ (x : List T_levels_Op × Int × Int × T_levels_Levels × T_levels_Levels) (o : Lp (T_levels_Levels × T_levels_Levels) (Bool)), M_levels_Same.l0 x = some o → (fun (x : List T_levels_Op × Int × Int × T_levels_Levels × T_levels_Levels) (o : Lp (T_levels_Levels × T_levels_Levels) (Bool)) => ∀ (lo : Option Nat) (c : LCtx) (Q : Exit → LEnv → Prop) (hb : ∀ s : T_levels_Levels × T_levels_Levels, o = Lp.brk s → Q (.exit 0) ⟨[(2, .lref 2 0), (3, .lref 3 0)], [(2, [.v (.slice .foreign (s.1.Joins.map T_levels_Join.av)), .v (.slice .foreign (s.1.Ops.map T_levels_Op.av))]), (3, [.v (.slice .foreign (s.2.Joins.map T_levels_Join.av)), .v (.slice .foreign (s.2.Ops.map T_levels_Op.av))])]⟩) (hr : ∀ (r : Bool) (L : LEnv), o = .ret r → LPostF Try.prog [.tmp 4] (.bool r) (fun _ => True) .ret L → Q .ret L), LLoop Try.prog 37 lo c 0 (VQ Q) ⟨[(2, .lref 2 0), (3, .lref 3 0), (27, .v (.slice .foreign (x.1.map T_levels_Op.av))), (28, .v (.i64 x.2.1)), (29, .v (.i64 x.2.2.1))], [(2, [.v (.slice .foreign (x.2.2.2.1.Joins.map T_levels_Join.av)), .v (.slice .foreign (x.2.2.2.1.Ops.map T_levels_Op.av))]), (3, [.v (.slice .foreign (x.2.2.2.2.Joins.map T_levels_Join.av)), .v (.slice .foreign (x.2.2.2.2.Ops.map T_levels_Op.av))])]⟩) x o) := by
  refine M_levels_Same.l0.partial_correctness _ ?_
  · intro M_M_levels_Same_l0 ih_M_levels_Same_l0 x o h
    intro lo c Q hb hr
    refine LLoop.step mix fn_37 (by kernel_rfl) ?_
    simp -implicitDefEqProofs only [go_sem, Try.f37]
    by_cases h3 : (decide (x.2.2.1 < x.2.1)) = true
    · replace h := ite_some h h3
      try simp -implicitDefEqProofs only [go_sem, h3]
      obtain ⟨e4, h5, h⟩ := bind_some' h; replace h5 := getI_some h5; obtain ⟨h5', h5⟩ := h5
      try simp -implicitDefEqProofs only [go_sem, h3, h5, h5']
      obtain ⟨r6, h7, h⟩ := bind_some' h
      have hw := M_levels_times_levels_Op__levels_Same_1.w (x.2.2.2.2.Ops, x.2.2.2.2, x.2.2.2.1, e4) _ h7
      refine .vars [] [(3000000, 3), (3000001, 2), (3000002, 6)] _ _ _ _ hw (by (first | rfl | (simp -implicitDefEqProofs only [go_sem, h3, h5, h5'] <;> rfl))) (by rfl) (by rfl) (by rfl) (by rfl) (by (first | rfl | (simp -implicitDefEqProofs only [go_sem, h3, h5, h5'] <;> rfl))) (by (first | rfl | (simp -implicitDefEqProofs only [go_sem, h3, h5, h5'] <;> rfl))) (by (first | rfl | (simp -implicitDefEqProofs only [go_sem, h3, h5, h5'] <;> rfl))) ?_
      clear hw
      try simp -implicitDefEqProofs only [go_sem, h3, h5, h5']
      by_cases h8 : (r6 == 0) = true
      · replace h := ite_some h h8
        try simp -implicitDefEqProofs only [go_sem, h3, h5, h5', h8]
        injection h with h; subst h
        exact .inl (hr _ _ rfl (by (first | rfl | (simp -implicitDefEqProofs only [go_sem, h3, h5, h5', h8] <;> rfl))))
      · replace h := ite_none h h8; replace h8 := bfalse h8
        try simp -implicitDefEqProofs only [go_sem, h3, h5, h5', h8]
        exact LLoop.view [] (by (first | rfl | (simp -implicitDefEqProofs only [go_sem, h3, h5, h5', h8] <;> rfl))) (ih_M_levels_Same_l0 _ _ h lo c Q hb hr)
    · replace h := ite_none h h3; replace h3 := bfalse h3
      try simp -implicitDefEqProofs only [go_sem, h3]
      injection h with h; subst h
      exact .inr ⟨[], _, by (simp -implicitDefEqProofs only [go_sem, h3] <;> first | done | rfl | trivial), hb _ rfl⟩
theorem M_levels_Same.l0.w : type_of% (M_levels_Same.l0.ws) := M_levels_Same.l0.ws
def M_levels_Same_2_1 (x : T_levels_Join × T_levels_Join × T_levels_Levels × T_levels_Levels) : Option (Bool) :=
  M_pred_Same (x.1.Pred, x.2.1.Pred) >>= fun r1 =>
  if r1 = true then
    M_levels_Levels_own (x.2.2.1, x.1.Home) >>= fun r4 =>
    M_levels_Levels_own (x.2.2.2, x.2.1.Home) >>= fun r6 =>
    some (r4 == r6)
  else
    some false
theorem M_levels_Same_2_1.w : ∀ (x : T_levels_Join × T_levels_Join × T_levels_Levels × T_levels_Levels) (r : Bool), M_levels_Same_2_1 x = some r → (fun (x : T_levels_Join × T_levels_Join × T_levels_Levels × T_levels_Levels) (r : Bool) => FnB Try.prog 93 [(3000000, [.v (.i64 x.2.1.Pred.Kind), .v (.i64 x.2.1.Pred.Truth), .v (.i64 x.2.1.Pred.Op), .v (.i64 x.2.1.Pred.A.Kind), .v (.i64 x.2.1.Pred.A.Table), .v (.i64 x.2.1.Pred.A.Col), .v (.bool x.2.1.Pred.A.Value.Null), .v (.i64 x.2.1.Pred.A.Value.N), .v (.i64 x.2.1.Pred.B.Kind), .v (.i64 x.2.1.Pred.B.Table), .v (.i64 x.2.1.Pred.B.Col), .v (.bool x.2.1.Pred.B.Value.Null), .v (.i64 x.2.1.Pred.B.Value.N), .v (.slice .foreign (x.2.1.Pred.Parts.map T_api_Pred.av)), .v (.w x.2.1.Left), .v (.w x.2.1.Right), .v (.i64 x.2.1.Home)]), (3000001, [.v (.slice .foreign (x.2.2.1.Joins.map T_levels_Join.av)), .v (.slice .foreign (x.2.2.1.Ops.map T_levels_Op.av))]), (3000002, [.v (.slice .foreign (x.2.2.2.Joins.map T_levels_Join.av)), .v (.slice .foreign (x.2.2.2.Ops.map T_levels_Op.av))])] [.a (.agg [.i64 x.1.Pred.Kind, .i64 x.1.Pred.Truth, .i64 x.1.Pred.Op, .i64 x.1.Pred.A.Kind, .i64 x.1.Pred.A.Table, .i64 x.1.Pred.A.Col, .bool x.1.Pred.A.Value.Null, .i64 x.1.Pred.A.Value.N, .i64 x.1.Pred.B.Kind, .i64 x.1.Pred.B.Table, .i64 x.1.Pred.B.Col, .bool x.1.Pred.B.Value.Null, .i64 x.1.Pred.B.Value.N, .slice .foreign (x.1.Pred.Parts.map T_api_Pred.av), .w x.1.Left, .w x.1.Right, .i64 x.1.Home]), .p 3000000, .p 3000001, .p 3000002] (.bool r) [(3000000, [.v (.i64 x.2.1.Pred.Kind), .v (.i64 x.2.1.Pred.Truth), .v (.i64 x.2.1.Pred.Op), .v (.i64 x.2.1.Pred.A.Kind), .v (.i64 x.2.1.Pred.A.Table), .v (.i64 x.2.1.Pred.A.Col), .v (.bool x.2.1.Pred.A.Value.Null), .v (.i64 x.2.1.Pred.A.Value.N), .v (.i64 x.2.1.Pred.B.Kind), .v (.i64 x.2.1.Pred.B.Table), .v (.i64 x.2.1.Pred.B.Col), .v (.bool x.2.1.Pred.B.Value.Null), .v (.i64 x.2.1.Pred.B.Value.N), .v (.slice .foreign (x.2.1.Pred.Parts.map T_api_Pred.av)), .v (.w x.2.1.Left), .v (.w x.2.1.Right), .v (.i64 x.2.1.Home)]), (3000001, [.v (.slice .foreign (x.2.2.1.Joins.map T_levels_Join.av)), .v (.slice .foreign (x.2.2.1.Ops.map T_levels_Op.av))]), (3000002, [.v (.slice .foreign (x.2.2.2.Joins.map T_levels_Join.av)), .v (.slice .foreign (x.2.2.2.Ops.map T_levels_Op.av))])]) x r := by
  intro x r h
  rw [M_levels_Same_2_1] at h
  try dsimp only
  refine FnB.of_lc mix fn_93 lok_93 (by rfl) (by rfl) fun c => ?_
  simp -implicitDefEqProofs only [go_sem, Try.f93]
  obtain ⟨r1, h2, h⟩ := bind_some' h
  refine .plain _ _ rfl (M_pred_Same.w (x.1.Pred, x.2.1.Pred) _ h2) ?_
  try simp -implicitDefEqProofs only [go_sem]
  by_cases h3 : r1 = true
  · replace h := ite_some h h3
    try simp -implicitDefEqProofs only [go_sem, h3]
    obtain ⟨r4, h5, h⟩ := bind_some' h
    refine .plain _ _ rfl (M_levels_Levels_own.w (x.2.2.1, x.1.Home) _ h5) ?_
    try simp -implicitDefEqProofs only [go_sem, h3]
    obtain ⟨r6, h7, h⟩ := bind_some' h
    refine .plain _ _ rfl (M_levels_Levels_own.w (x.2.2.2, x.2.1.Home) _ h7) ?_
    try simp -implicitDefEqProofs only [go_sem, h3]
    injection h with h; subst h
    first | exact ⟨by (first | rfl | (simp -implicitDefEqProofs only [go_sem, h3] <;> rfl)), [], by rfl, by (first | rfl | (simp -implicitDefEqProofs only [go_sem, h3] <;> rfl))⟩ | exact ⟨by (first | rfl | (simp -implicitDefEqProofs only [go_sem, h3] <;> rfl)), [], by rfl⟩ | exact ⟨by (first | rfl | (simp -implicitDefEqProofs only [go_sem, h3] <;> rfl)), [], by (simp -implicitDefEqProofs only [go_sem, h3] <;> first | done | rfl | trivial)⟩ | exact ⟨[], by rfl, by (first | rfl | (simp -implicitDefEqProofs only [go_sem, h3] <;> rfl))⟩ | exact ⟨[], by rfl, by (simp -implicitDefEqProofs only [go_sem, h3] <;> first | done | rfl | trivial)⟩
  · replace h := ite_none h h3; replace h3 := bfalse h3
    try simp -implicitDefEqProofs only [go_sem, h3]
    injection h with h; subst h
    first | exact ⟨by (first | rfl | (simp -implicitDefEqProofs only [go_sem, h3] <;> rfl)), [], by rfl, by (first | rfl | (simp -implicitDefEqProofs only [go_sem, h3] <;> rfl))⟩ | exact ⟨by (first | rfl | (simp -implicitDefEqProofs only [go_sem, h3] <;> rfl)), [], by rfl⟩ | exact ⟨by (first | rfl | (simp -implicitDefEqProofs only [go_sem, h3] <;> rfl)), [], by (simp -implicitDefEqProofs only [go_sem, h3] <;> first | done | rfl | trivial)⟩ | exact ⟨[], by rfl, by (first | rfl | (simp -implicitDefEqProofs only [go_sem, h3] <;> rfl))⟩ | exact ⟨[], by rfl, by (simp -implicitDefEqProofs only [go_sem, h3] <;> first | done | rfl | trivial)⟩
def M_levels_times_levels_Join__levels_Same_2_1.l0 (x : Int × List T_levels_Join × Int × Int × T_levels_Join × T_levels_Levels × T_levels_Levels) : Option (Int) :=
  if (decide (x.2.2.2.1 < x.2.2.1)) = true then
    (getI x.2.1 x.2.2.2.1) >>= fun (e2 : T_levels_Join) =>
    M_levels_Same_2_1 (e2, x.2.2.2.2.1, x.2.2.2.2.2.1, x.2.2.2.2.2.2) >>= fun r4 =>
    if r4 = true then
      M_levels_times_levels_Join__levels_Same_2_1.l0 ((w64 (x.1 + 1)), x.2.1, x.2.2.1, (w64 (x.2.2.2.1 + 1)), x.2.2.2.2.1, x.2.2.2.2.2.1, x.2.2.2.2.2.2)
    else
      M_levels_times_levels_Join__levels_Same_2_1.l0 (x.1, x.2.1, x.2.2.1, (w64 (x.2.2.2.1 + 1)), x.2.2.2.2.1, x.2.2.2.2.2.1, x.2.2.2.2.2.2)
  else
    some x.1
  partial_fixpoint
theorem M_levels_times_levels_Join__levels_Same_2_1.l0.ws : (∀ (x : Int × List T_levels_Join × Int × Int × T_levels_Join × T_levels_Levels × T_levels_Levels) (o : Int), M_levels_times_levels_Join__levels_Same_2_1.l0 x = some o → (fun (x : Int × List T_levels_Join × Int × Int × T_levels_Join × T_levels_Levels × T_levels_Levels) (o : Int) => ∀ (lo : Option Nat) (c : LCtx) (Q : Exit → LEnv → Prop) (hb : ∀ s : Int, o = s → Q (.exit 0) ⟨[(5, .v (.i64 s))], [(3000000, [.v (.i64 x.2.2.2.2.1.Pred.Kind), .v (.i64 x.2.2.2.2.1.Pred.Truth), .v (.i64 x.2.2.2.2.1.Pred.Op), .v (.i64 x.2.2.2.2.1.Pred.A.Kind), .v (.i64 x.2.2.2.2.1.Pred.A.Table), .v (.i64 x.2.2.2.2.1.Pred.A.Col), .v (.bool x.2.2.2.2.1.Pred.A.Value.Null), .v (.i64 x.2.2.2.2.1.Pred.A.Value.N), .v (.i64 x.2.2.2.2.1.Pred.B.Kind), .v (.i64 x.2.2.2.2.1.Pred.B.Table), .v (.i64 x.2.2.2.2.1.Pred.B.Col), .v (.bool x.2.2.2.2.1.Pred.B.Value.Null), .v (.i64 x.2.2.2.2.1.Pred.B.Value.N), .v (.slice .foreign (x.2.2.2.2.1.Pred.Parts.map T_api_Pred.av)), .v (.w x.2.2.2.2.1.Left), .v (.w x.2.2.2.2.1.Right), .v (.i64 x.2.2.2.2.1.Home)]), (3000001, [.v (.slice .foreign (x.2.2.2.2.2.1.Joins.map T_levels_Join.av)), .v (.slice .foreign (x.2.2.2.2.2.1.Ops.map T_levels_Op.av))]), (3000002, [.v (.slice .foreign (x.2.2.2.2.2.2.Joins.map T_levels_Join.av)), .v (.slice .foreign (x.2.2.2.2.2.2.Ops.map T_levels_Op.av))])]⟩), LLoop Try.prog 92 lo c 0 (VQ Q) ⟨[(1, .fn 93 [] [.p 3000000, .p 3000001, .p 3000002]), (5, .v (.i64 x.1)), (8, .v (.slice .foreign (x.2.1.map T_levels_Join.av))), (9, .v (.i64 x.2.2.1)), (10, .v (.i64 x.2.2.2.1))], [(3000000, [.v (.i64 x.2.2.2.2.1.Pred.Kind), .v (.i64 x.2.2.2.2.1.Pred.Truth), .v (.i64 x.2.2.2.2.1.Pred.Op), .v (.i64 x.2.2.2.2.1.Pred.A.Kind), .v (.i64 x.2.2.2.2.1.Pred.A.Table), .v (.i64 x.2.2.2.2.1.Pred.A.Col), .v (.bool x.2.2.2.2.1.Pred.A.Value.Null), .v (.i64 x.2.2.2.2.1.Pred.A.Value.N), .v (.i64 x.2.2.2.2.1.Pred.B.Kind), .v (.i64 x.2.2.2.2.1.Pred.B.Table), .v (.i64 x.2.2.2.2.1.Pred.B.Col), .v (.bool x.2.2.2.2.1.Pred.B.Value.Null), .v (.i64 x.2.2.2.2.1.Pred.B.Value.N), .v (.slice .foreign (x.2.2.2.2.1.Pred.Parts.map T_api_Pred.av)), .v (.w x.2.2.2.2.1.Left), .v (.w x.2.2.2.2.1.Right), .v (.i64 x.2.2.2.2.1.Home)]), (3000001, [.v (.slice .foreign (x.2.2.2.2.2.1.Joins.map T_levels_Join.av)), .v (.slice .foreign (x.2.2.2.2.2.1.Ops.map T_levels_Op.av))]), (3000002, [.v (.slice .foreign (x.2.2.2.2.2.2.Joins.map T_levels_Join.av)), .v (.slice .foreign (x.2.2.2.2.2.2.Ops.map T_levels_Op.av))])]⟩) x o) := by
  refine M_levels_times_levels_Join__levels_Same_2_1.l0.partial_correctness _ ?_
  · intro M_M_levels_times_levels_Join__levels_Same_2_1_l0 ih_M_levels_times_levels_Join__levels_Same_2_1_l0 x o h
    intro lo c Q hb
    refine LLoop.step mix fn_92 (by kernel_rfl) ?_
    simp -implicitDefEqProofs only [go_sem, Try.f92]
    by_cases h1 : (decide (x.2.2.2.1 < x.2.2.1)) = true
    · replace h := ite_some h h1
      try simp -implicitDefEqProofs only [go_sem, h1]
      obtain ⟨e2, h3, h⟩ := bind_some' h; replace h3 := getI_some h3; obtain ⟨h3', h3⟩ := h3
      try simp -implicitDefEqProofs only [go_sem, h1, h3, h3']
      obtain ⟨r4, h5, h⟩ := bind_some' h
      have hw := M_levels_Same_2_1.w (e2, x.2.2.2.2.1, x.2.2.2.2.2.1, x.2.2.2.2.2.2) _ h5
      refine .vars [] [(3000000, 3000000), (3000001, 3000001), (3000002, 3000002)] _ _ _ _ hw (by (first | rfl | (simp -implicitDefEqProofs only [go_sem, h1, h3, h3'] <;> rfl))) (by rfl) (by rfl) (by rfl) (by rfl) (by (first | rfl | (simp -implicitDefEqProofs only [go_sem, h1, h3, h3'] <;> rfl))) (by (first | rfl | (simp -implicitDefEqProofs only [go_sem, h1, h3, h3'] <;> rfl))) (by (first | rfl | (simp -implicitDefEqProofs only [go_sem, h1, h3, h3'] <;> rfl))) ?_
      clear hw
      try simp -implicitDefEqProofs only [go_sem, h1, h3, h3']
      by_cases h6 : r4 = true
      · replace h := ite_some h h6
        try simp -implicitDefEqProofs only [go_sem, h1, h3, h3', h6]
        exact LLoop.view [] (by (first | rfl | (simp -implicitDefEqProofs only [go_sem, h1, h3, h3', h6] <;> rfl))) (ih_M_levels_times_levels_Join__levels_Same_2_1_l0 _ _ h lo c Q hb)
      · replace h := ite_none h h6; replace h6 := bfalse h6
        try simp -implicitDefEqProofs only [go_sem, h1, h3, h3', h6]
        exact LLoop.view [] (by (first | rfl | (simp -implicitDefEqProofs only [go_sem, h1, h3, h3', h6] <;> rfl))) (ih_M_levels_times_levels_Join__levels_Same_2_1_l0 _ _ h lo c Q hb)
    · replace h := ite_none h h1; replace h1 := bfalse h1
      try simp -implicitDefEqProofs only [go_sem, h1]
      injection h with h; subst h
      exact .inr ⟨[], _, by (simp -implicitDefEqProofs only [go_sem, h1] <;> first | done | rfl | trivial), hb _ rfl⟩
theorem M_levels_times_levels_Join__levels_Same_2_1.l0.w : type_of% (M_levels_times_levels_Join__levels_Same_2_1.l0.ws) := M_levels_times_levels_Join__levels_Same_2_1.l0.ws
def M_levels_times_levels_Join__levels_Same_2_1 (x : List T_levels_Join × T_levels_Join × T_levels_Levels × T_levels_Levels) : Option (Int) :=
  M_levels_times_levels_Join__levels_Same_2_1.l0 (0, x.1, (x.1.length : Int), 0, x.2.1, x.2.2.1, x.2.2.2) >>= fun (o7 : Int) =>
  some o7
theorem M_levels_times_levels_Join__levels_Same_2_1.w : ∀ (x : List T_levels_Join × T_levels_Join × T_levels_Levels × T_levels_Levels) (r : Int), M_levels_times_levels_Join__levels_Same_2_1 x = some r → (fun (x : List T_levels_Join × T_levels_Join × T_levels_Levels × T_levels_Levels) (r : Int) => FnB Try.prog 92 [(3000000, [.v (.i64 x.2.1.Pred.Kind), .v (.i64 x.2.1.Pred.Truth), .v (.i64 x.2.1.Pred.Op), .v (.i64 x.2.1.Pred.A.Kind), .v (.i64 x.2.1.Pred.A.Table), .v (.i64 x.2.1.Pred.A.Col), .v (.bool x.2.1.Pred.A.Value.Null), .v (.i64 x.2.1.Pred.A.Value.N), .v (.i64 x.2.1.Pred.B.Kind), .v (.i64 x.2.1.Pred.B.Table), .v (.i64 x.2.1.Pred.B.Col), .v (.bool x.2.1.Pred.B.Value.Null), .v (.i64 x.2.1.Pred.B.Value.N), .v (.slice .foreign (x.2.1.Pred.Parts.map T_api_Pred.av)), .v (.w x.2.1.Left), .v (.w x.2.1.Right), .v (.i64 x.2.1.Home)]), (3000001, [.v (.slice .foreign (x.2.2.1.Joins.map T_levels_Join.av)), .v (.slice .foreign (x.2.2.1.Ops.map T_levels_Op.av))]), (3000002, [.v (.slice .foreign (x.2.2.2.Joins.map T_levels_Join.av)), .v (.slice .foreign (x.2.2.2.Ops.map T_levels_Op.av))])] [.a (.slice .foreign (x.1.map T_levels_Join.av)), .fn 93 [] [.p 3000000, .p 3000001, .p 3000002]] (.i64 r) [(3000000, [.v (.i64 x.2.1.Pred.Kind), .v (.i64 x.2.1.Pred.Truth), .v (.i64 x.2.1.Pred.Op), .v (.i64 x.2.1.Pred.A.Kind), .v (.i64 x.2.1.Pred.A.Table), .v (.i64 x.2.1.Pred.A.Col), .v (.bool x.2.1.Pred.A.Value.Null), .v (.i64 x.2.1.Pred.A.Value.N), .v (.i64 x.2.1.Pred.B.Kind), .v (.i64 x.2.1.Pred.B.Table), .v (.i64 x.2.1.Pred.B.Col), .v (.bool x.2.1.Pred.B.Value.Null), .v (.i64 x.2.1.Pred.B.Value.N), .v (.slice .foreign (x.2.1.Pred.Parts.map T_api_Pred.av)), .v (.w x.2.1.Left), .v (.w x.2.1.Right), .v (.i64 x.2.1.Home)]), (3000001, [.v (.slice .foreign (x.2.2.1.Joins.map T_levels_Join.av)), .v (.slice .foreign (x.2.2.1.Ops.map T_levels_Op.av))]), (3000002, [.v (.slice .foreign (x.2.2.2.Joins.map T_levels_Join.av)), .v (.slice .foreign (x.2.2.2.Ops.map T_levels_Op.av))])]) x r := by
  intro x r h
  rw [M_levels_times_levels_Join__levels_Same_2_1] at h
  try dsimp only
  refine FnB.of_lc mix fn_92 lok_92 (by rfl) (by rfl) fun c => ?_
  simp -implicitDefEqProofs only [go_sem, Try.f92]
  obtain ⟨o7, h8, h⟩ := bind_some' h
  refine LLoop.viewQ (LLoop.view [] (by (first | rfl | (simp -implicitDefEqProofs only [go_sem] <;> rfl))) (M_levels_times_levels_Join__levels_Same_2_1.l0.w (0, x.1, (x.1.length : Int), 0, x.2.1, x.2.2.1, x.2.2.2) _ h8 _ _ _ ?_))
  intro s' hs'; subst hs'
  try simp -implicitDefEqProofs only [go_sem]
  injection h with h; subst h
  first | exact ⟨by (first | rfl | (simp -implicitDefEqProofs only [go_sem] <;> rfl)), [], by rfl, by (first | rfl | (simp -implicitDefEqProofs only [go_sem] <;> rfl))⟩ | exact ⟨by (first | rfl | (simp -implicitDefEqProofs only [go_sem] <;> rfl)), [], by rfl⟩ | exact ⟨by (first | rfl | (simp -implicitDefEqProofs only [go_sem] <;> rfl)), [], by (simp -implicitDefEqProofs only [go_sem] <;> first | done | rfl | trivial)⟩ | exact ⟨[], by rfl, by (first | rfl | (simp -implicitDefEqProofs only [go_sem] <;> rfl))⟩ | exact ⟨[], by rfl, by (simp -implicitDefEqProofs only [go_sem] <;> first | done | rfl | trivial)⟩
def M_levels_Same_2 (x : T_levels_Levels × T_levels_Join × T_levels_Levels) : Option (Int) :=
  M_levels_times_levels_Join__levels_Same_2_1 (x.1.Joins, x.2.1, x.1, x.2.2) >>= fun r1 =>
  some r1
theorem M_levels_Same_2.w : ∀ (x : T_levels_Levels × T_levels_Join × T_levels_Levels) (r : Int), M_levels_Same_2 x = some r → (fun (x : T_levels_Levels × T_levels_Join × T_levels_Levels) (r : Int) => FnB Try.prog 91 [(3000000, [.v (.i64 x.2.1.Pred.Kind), .v (.i64 x.2.1.Pred.Truth), .v (.i64 x.2.1.Pred.Op), .v (.i64 x.2.1.Pred.A.Kind), .v (.i64 x.2.1.Pred.A.Table), .v (.i64 x.2.1.Pred.A.Col), .v (.bool x.2.1.Pred.A.Value.Null), .v (.i64 x.2.1.Pred.A.Value.N), .v (.i64 x.2.1.Pred.B.Kind), .v (.i64 x.2.1.Pred.B.Table), .v (.i64 x.2.1.Pred.B.Col), .v (.bool x.2.1.Pred.B.Value.Null), .v (.i64 x.2.1.Pred.B.Value.N), .v (.slice .foreign (x.2.1.Pred.Parts.map T_api_Pred.av)), .v (.w x.2.1.Left), .v (.w x.2.1.Right), .v (.i64 x.2.1.Home)]), (3000001, [.v (.slice .foreign (x.2.2.Joins.map T_levels_Join.av)), .v (.slice .foreign (x.2.2.Ops.map T_levels_Op.av))])] [.a (.agg [.slice .foreign (x.1.Joins.map T_levels_Join.av), .slice .foreign (x.1.Ops.map T_levels_Op.av)]), .p 3000000, .p 3000001] (.i64 r) [(3000000, [.v (.i64 x.2.1.Pred.Kind), .v (.i64 x.2.1.Pred.Truth), .v (.i64 x.2.1.Pred.Op), .v (.i64 x.2.1.Pred.A.Kind), .v (.i64 x.2.1.Pred.A.Table), .v (.i64 x.2.1.Pred.A.Col), .v (.bool x.2.1.Pred.A.Value.Null), .v (.i64 x.2.1.Pred.A.Value.N), .v (.i64 x.2.1.Pred.B.Kind), .v (.i64 x.2.1.Pred.B.Table), .v (.i64 x.2.1.Pred.B.Col), .v (.bool x.2.1.Pred.B.Value.Null), .v (.i64 x.2.1.Pred.B.Value.N), .v (.slice .foreign (x.2.1.Pred.Parts.map T_api_Pred.av)), .v (.w x.2.1.Left), .v (.w x.2.1.Right), .v (.i64 x.2.1.Home)]), (3000001, [.v (.slice .foreign (x.2.2.Joins.map T_levels_Join.av)), .v (.slice .foreign (x.2.2.Ops.map T_levels_Op.av))])]) x r := by
  intro x r h
  rw [M_levels_Same_2] at h
  try dsimp only
  refine FnB.of_lc mix fn_91 lok_91 (by rfl) (by rfl) fun c => ?_
  simp -implicitDefEqProofs only [go_sem, Try.f91]
  obtain ⟨r1, h2, h⟩ := bind_some' h
  have hw := M_levels_times_levels_Join__levels_Same_2_1.w (x.1.Joins, x.2.1, x.1, x.2.2) _ h2
  refine .vars [] [(3000000, 3000000), (3000001, 3), (3000002, 3000001)] _ _ _ _ hw (by (first | rfl | (simp -implicitDefEqProofs only [go_sem] <;> rfl))) (by rfl) (by rfl) (by rfl) (by rfl) (by (first | rfl | (simp -implicitDefEqProofs only [go_sem] <;> rfl))) (by (first | rfl | (simp -implicitDefEqProofs only [go_sem] <;> rfl))) (by (first | rfl | (simp -implicitDefEqProofs only [go_sem] <;> rfl))) ?_
  clear hw
  try simp -implicitDefEqProofs only [go_sem]
  injection h with h; subst h
  first | exact ⟨by (first | rfl | (simp -implicitDefEqProofs only [go_sem] <;> rfl)), [], by rfl, by (first | rfl | (simp -implicitDefEqProofs only [go_sem] <;> rfl))⟩ | exact ⟨by (first | rfl | (simp -implicitDefEqProofs only [go_sem] <;> rfl)), [], by rfl⟩ | exact ⟨by (first | rfl | (simp -implicitDefEqProofs only [go_sem] <;> rfl)), [], by (simp -implicitDefEqProofs only [go_sem] <;> first | done | rfl | trivial)⟩ | exact ⟨[], by rfl, by (first | rfl | (simp -implicitDefEqProofs only [go_sem] <;> rfl))⟩ | exact ⟨[], by rfl, by (simp -implicitDefEqProofs only [go_sem] <;> first | done | rfl | trivial)⟩
def M_levels_Same.l1 (x : List T_levels_Join × Int × Int × T_levels_Levels × T_levels_Levels) : Option (Lp (Unit) (Bool)) :=
  if (decide (x.2.2.1 < x.2.1)) = true then
    (getI x.1 x.2.2.1) >>= fun (e14 : T_levels_Join) =>
    M_levels_Same_2 (x.2.2.2.1, e14, x.2.2.2.1) >>= fun r16 =>
    M_levels_Same_2 (x.2.2.2.2, e14, x.2.2.2.1) >>= fun r18 =>
    if (r16 != r18) = true then
      some (.ret false)
    else
      M_levels_Same.l1 (x.1, x.2.1, (w64 (x.2.2.1 + 1)), x.2.2.2.1, x.2.2.2.2)
  else
    some (.brk ())
  partial_fixpoint
theorem M_levels_Same.l1.ws : (∀ (x : List T_levels_Join × Int × Int × T_levels_Levels × T_levels_Levels) (o : Lp (Unit) (Bool)), M_levels_Same.l1 x = some o → (fun (x : List T_levels_Join × Int × Int × T_levels_Levels × T_levels_Levels) (o : Lp (Unit) (Bool)) => ∀ (lo : Option Nat) (c : LCtx) (Q : Exit → LEnv → Prop) (hb : ∀ s : Unit, o = Lp.brk s → Q (.exit 2) ⟨[], []⟩) (hr : ∀ (r : Bool) (L : LEnv), o = .ret r → LPostF Try.prog [.tmp 4] (.bool r) (fun _ => True) .ret L → Q .ret L), LLoop Try.prog 37 lo c 1 (VQ Q) ⟨[(2, .lref 2 0), (3, .lref 3 0), (40, .v (.slice .foreign (x.1.map T_levels_Join.av))), (41, .v (.i64 x.2.1)), (42, .v (.i64 x.2.2.1))], [(2, [.v (.slice .foreign (x.2.2.2.1.Joins.map T_levels_Join.av)), .v (.slice .foreign (x.2.2.2.1.Ops.map T_levels_Op.av))]), (3, [.v (.slice .foreign (x.2.2.2.2.Joins.map T_levels_Join.av)), .v (.slice .foreign (x.2.2.2.2.Ops.map T_levels_Op.av))])]⟩) x o) := by
  refine M_levels_Same.l1.partial_correctness _ ?_
  · intro M_M_levels_Same_l1 ih_M_levels_Same_l1 x o h
    intro lo c Q hb hr
    refine LLoop.step mix fn_37 (by kernel_rfl) ?_
    simp -implicitDefEqProofs only [go_sem, Try.f37]
    by_cases h13 : (decide (x.2.2.1 < x.2.1)) = true
    · replace h := ite_some h h13
      try simp -implicitDefEqProofs only [go_sem, h13]
      obtain ⟨e14, h15, h⟩ := bind_some' h; replace h15 := getI_some h15; obtain ⟨h15', h15⟩ := h15
      try simp -implicitDefEqProofs only [go_sem, h13, h15, h15']
      obtain ⟨r16, h17, h⟩ := bind_some' h
      have hw := M_levels_Same_2.w (x.2.2.2.1, e14, x.2.2.2.1) _ h17
      refine .vars [] [(3000000, 8), (3000001, 2)] _ _ _ _ hw (by (first | rfl | (simp -implicitDefEqProofs only [go_sem, h13, h15, h15'] <;> rfl))) (by rfl) (by rfl) (by rfl) (by rfl) (by (first | rfl | (simp -implicitDefEqProofs only [go_sem, h13, h15, h15'] <;> rfl))) (by (first | rfl | (simp -implicitDefEqProofs only [go_sem, h13, h15, h15'] <;> rfl))) (by (first | rfl | (simp -implicitDefEqProofs only [go_sem, h13, h15, h15'] <;> rfl))) ?_
      clear hw
      try simp -implicitDefEqProofs only [go_sem, h13, h15, h15']
      obtain ⟨r18, h19, h⟩ := bind_some' h
      have hw := M_levels_Same_2.w (x.2.2.2.2, e14, x.2.2.2.1) _ h19
      refine .vars [] [(3000000, 8), (3000001, 2)] _ _ _ _ hw (by (first | rfl | (simp -implicitDefEqProofs only [go_sem, h13, h15, h15'] <;> rfl))) (by rfl) (by rfl) (by rfl) (by rfl) (by (first | rfl | (simp -implicitDefEqProofs only [go_sem, h13, h15, h15'] <;> rfl))) (by (first | rfl | (simp -implicitDefEqProofs only [go_sem, h13, h15, h15'] <;> rfl))) (by (first | rfl | (simp -implicitDefEqProofs only [go_sem, h13, h15, h15'] <;> rfl))) ?_
      clear hw
      try simp -implicitDefEqProofs only [go_sem, h13, h15, h15']
      by_cases h20 : (r16 != r18) = true
      · replace h := ite_some h h20
        try simp -implicitDefEqProofs only [go_sem, h13, h15, h15', h20]
        injection h with h; subst h
        exact .inl (hr _ _ rfl (by (first | rfl | (simp -implicitDefEqProofs only [go_sem, h13, h15, h15', h20] <;> rfl))))
      · replace h := ite_none h h20; replace h20 := bfalse h20
        try simp -implicitDefEqProofs only [go_sem, h13, h15, h15', h20]
        exact LLoop.view [] (by (first | rfl | (simp -implicitDefEqProofs only [go_sem, h13, h15, h15', h20] <;> rfl))) (ih_M_levels_Same_l1 _ _ h lo c Q hb hr)
    · replace h := ite_none h h13; replace h13 := bfalse h13
      try simp -implicitDefEqProofs only [go_sem, h13]
      injection h with h; subst h
      exact .inr ⟨[], _, by (simp -implicitDefEqProofs only [go_sem, h13] <;> first | done | rfl | trivial), hb _ rfl⟩
theorem M_levels_Same.l1.w : type_of% (M_levels_Same.l1.ws) := M_levels_Same.l1.ws
def M_levels_Same (x : T_levels_Levels × T_levels_Levels) : Option (Bool) :=
  if ((x.1.Joins.length : Int) != (x.2.Joins.length : Int)) = true then
    some false
  else
    if ((x.1.Ops.length : Int) != (x.2.Ops.length : Int)) = true then
      some false
    else
      M_levels_Same.l0 (x.1.Ops, (x.1.Ops.length : Int), 0, x.1, x.2) >>= fun (o9 : Lp (T_levels_Levels × T_levels_Levels) (Bool)) => match o9 with
      | .brk s12 =>
        M_levels_Same.l1 (s12.1.Joins, (s12.1.Joins.length : Int), 0, s12.1, s12.2) >>= fun (o21 : Lp (Unit) (Bool)) => match o21 with
        | .brk s24 =>
          some true
        | .ret r23 =>
          some r23
      | .ret r11 =>
        some r11
theorem M_levels_Same.w : ∀ (x : T_levels_Levels × T_levels_Levels) (r : Bool), M_levels_Same x = some r → (fun (x : T_levels_Levels × T_levels_Levels) (r : Bool) => Fn Try.prog 37 [.agg (T_levels_Levels.C x.1), .agg (T_levels_Levels.C x.2)] (.bool r)) x r := by
  intro x r h
  rw [M_levels_Same] at h
  try dsimp only
  refine Fn.of_lc mix fn_37 lok_37 (by rfl) (flC (T_levels_Levels.flatC _) (flC (T_levels_Levels.flatC _) (flN))) (.atom _) ?_
  simp -implicitDefEqProofs only [go_sem, Try.f37]
  by_cases h1 : ((x.1.Joins.length : Int) != (x.2.Joins.length : Int)) = true
  · replace h := ite_some h h1
    try simp -implicitDefEqProofs only [go_sem, h1]
    injection h with h; subst h
    first | rfl | (simp -implicitDefEqProofs only [go_sem, h1] <;> rfl)
  · replace h := ite_none h h1; replace h1 := bfalse h1
    try simp -implicitDefEqProofs only [go_sem, h1]
    by_cases h2 : ((x.1.Ops.length : Int) != (x.2.Ops.length : Int)) = true
    · replace h := ite_some h h2
      try simp -implicitDefEqProofs only [go_sem, h1, h2]
      injection h with h; subst h
      first | rfl | (simp -implicitDefEqProofs only [go_sem, h1, h2] <;> rfl)
    · replace h := ite_none h h2; replace h2 := bfalse h2
      try simp -implicitDefEqProofs only [go_sem, h1, h2]
      obtain ⟨o9, h10, h⟩ := bind_some' h
      refine LLoop.viewQ (LLoop.view [] (by (first | rfl | (simp -implicitDefEqProofs only [go_sem, h1, h2] <;> rfl))) (M_levels_Same.l0.w (x.1.Ops, (x.1.Ops.length : Int), 0, x.1, x.2) _ h10 _ _ _ ?_ ?_))
      · intro s12 hs'; subst hs'
        try simp -implicitDefEqProofs only [go_sem, h1, h2]
        obtain ⟨o21, h22, h⟩ := bind_some' h
        refine LLoop.viewQ (LLoop.view [] (by (first | rfl | (simp -implicitDefEqProofs only [go_sem, h1, h2] <;> rfl))) (M_levels_Same.l1.w (s12.1.Joins, (s12.1.Joins.length : Int), 0, s12.1, s12.2) _ h22 _ _ _ ?_ ?_))
        · intro s24 hs'; subst hs'
          try simp -implicitDefEqProofs only [go_sem, h1, h2]
          injection h with h; subst h
          first | rfl | (simp -implicitDefEqProofs only [go_sem, h1, h2] <;> rfl)
        · intro r23 L' hs' hL'; subst hs'
          injection h with h; subst h
          first | exact hL' | (simp -implicitDefEqProofs only [go_sem]; exact hL') | (simp -implicitDefEqProofs only [go_sem]; simp -implicitDefEqProofs only [go_sem] at hL'; exact hL')
      · intro r11 L' hs' hL'; subst hs'
        injection h with h; subst h
        first | exact hL' | (simp -implicitDefEqProofs only [go_sem]; exact hL') | (simp -implicitDefEqProofs only [go_sem]; simp -implicitDefEqProofs only [go_sem] at hL'; exact hL')
end Go.Proofs.Ytakmilmckdllfaa.G
set_option linter.unusedVariables false
set_option linter.unusedSimpArgs false
set_option maxRecDepth 100000
namespace Go.Proofs.Ytakmilmckdllfaa.G
end Go.Proofs.Ytakmilmckdllfaa.G
set_option linter.unusedVariables false
set_option linter.unusedSimpArgs false
set_option maxRecDepth 100000
namespace Go.Proofs.Ytakmilmckdllfaa.G
mutual
def M_ref06_Same.l0 (x : Int × T_api_Pred × T_api_Pred) : Option (Lp (Unit) (Bool)) :=
  if (decide (x.1 < (x.2.1.Parts.length : Int))) = true then
    (getI x.2.1.Parts x.1) >>= fun (e8 : T_api_Pred) =>
    (getI x.2.2.Parts x.1) >>= fun (e10 : T_api_Pred) =>
    M_ref06_Same (e8, e10) >>= fun r12 =>
    if r12 = true then
      M_ref06_Same.l0 ((w64 (x.1 + 1)), x.2.1, x.2.2)
    else
      some (.ret false)
  else
    some (.brk ())
  partial_fixpoint
def M_ref06_Same (x : T_api_Pred × T_api_Pred) : Option (Bool) :=
  if (x.1.Kind != x.2.Kind) = true then
    some false
  else
    if (x.1.Truth != x.2.Truth) = true then
      some false
    else
      if (x.1.Op != x.2.Op) = true then
        some false
      else
        if ((x.1.A.Kind == x.2.A.Kind) && ((x.1.A.Table == x.2.A.Table) && ((x.1.A.Col == x.2.A.Col) && ((x.1.A.Value.Null == x.2.A.Value.Null) && (x.1.A.Value.N == x.2.A.Value.N))))) = true then
          if ((x.1.B.Kind == x.2.B.Kind) && ((x.1.B.Table == x.2.B.Table) && ((x.1.B.Col == x.2.B.Col) && ((x.1.B.Value.Null == x.2.B.Value.Null) && (x.1.B.Value.N == x.2.B.Value.N))))) = true then
            if ((x.1.Parts.length : Int) != (x.2.Parts.length : Int)) = true then
              some false
            else
              M_ref06_Same.l0 (0, x.1, x.2) >>= fun (o15 : Lp (Unit) (Bool)) => match o15 with
              | .brk s18 =>
                some true
              | .ret r17 =>
                some r17
          else
            some false
        else
          some false
  partial_fixpoint
end
end Go.Proofs.Ytakmilmckdllfaa.G
set_option linter.unusedVariables false
set_option linter.unusedSimpArgs false
set_option maxRecDepth 100000
namespace Go.Proofs.Ytakmilmckdllfaa.G
def M_ref06_List.l0 (x : List T_api_Pred × List T_api_Pred × Int) : Option (Lp (Unit) (Bool)) :=
  if (decide (x.2.2 < (x.1.length : Int))) = true then
    (getI x.1 x.2.2) >>= fun (e3 : T_api_Pred) =>
    (getI x.2.1 x.2.2) >>= fun (e5 : T_api_Pred) =>
    M_ref06_Same (e3, e5) >>= fun r7 =>
    if r7 = true then
      M_ref06_List.l0 (x.1, x.2.1, (w64 (x.2.2 + 1)))
    else
      some (.ret false)
  else
    some (.brk ())
  partial_fixpoint
def M_ref06_List (x : List T_api_Pred × List T_api_Pred) : Option (Bool) :=
  if ((x.1.length : Int) != (x.2.length : Int)) = true then
    some false
  else
    M_ref06_List.l0 (x.1, x.2, 0) >>= fun (o10 : Lp (Unit) (Bool)) => match o10 with
    | .brk s13 =>
      some true
    | .ret r12 =>
      some r12
end Go.Proofs.Ytakmilmckdllfaa.G
set_option linter.unusedVariables false
set_option linter.unusedSimpArgs false
set_option maxRecDepth 100000
namespace Go.Proofs.Ytakmilmckdllfaa.G
end Go.Proofs.Ytakmilmckdllfaa.G
set_option linter.unusedVariables false
set_option linter.unusedSimpArgs false
set_option maxRecDepth 100000
namespace Go.Proofs.Ytakmilmckdllfaa.G
end Go.Proofs.Ytakmilmckdllfaa.G
set_option linter.unusedVariables false
set_option linter.unusedSimpArgs false
set_option maxRecDepth 100000
namespace Go.Proofs.Ytakmilmckdllfaa.G
end Go.Proofs.Ytakmilmckdllfaa.G
set_option linter.unusedVariables false
set_option linter.unusedSimpArgs false
set_option maxRecDepth 100000
namespace Go.Proofs.Ytakmilmckdllfaa.G
end Go.Proofs.Ytakmilmckdllfaa.G
set_option linter.unusedVariables false
set_option linter.unusedSimpArgs false
set_option maxRecDepth 100000
namespace Go.Proofs.Ytakmilmckdllfaa.G
end Go.Proofs.Ytakmilmckdllfaa.G
set_option linter.unusedVariables false
set_option linter.unusedSimpArgs false
set_option maxRecDepth 100000
namespace Go.Proofs.Ytakmilmckdllfaa.G
end Go.Proofs.Ytakmilmckdllfaa.G
set_option linter.unusedVariables false
set_option linter.unusedSimpArgs false
set_option maxRecDepth 100000
namespace Go.Proofs.Ytakmilmckdllfaa.G
end Go.Proofs.Ytakmilmckdllfaa.G
set_option maxRecDepth 100000
namespace Go.Proofs.Ytakmilmckdllfaa.G
theorem aw_law18 : Fn Try.prog 32 [] (.bool true) := Fn.run_bool mix okBits_ok (n := 1000) (μ := fun _ => true) (by kernel_rfl)
end Go.Proofs.Ytakmilmckdllfaa.G
set_option linter.unusedVariables false
set_option linter.unusedSimpArgs false
set_option maxRecDepth 100000
namespace Go.Proofs.Ytakmilmckdllfaa.G
end Go.Proofs.Ytakmilmckdllfaa.G
set_option linter.unusedVariables false
set_option linter.unusedSimpArgs false
namespace Go.Proofs.Ytakmilmckdllfaa.G
open Classical

theorem term_tab (t : T_api_Term) : M_term_Tables t = some (ttab t) := by
  unfold M_term_Tables ttab
  by_cases h : t.Kind = 1
  · rw [if_pos (by simpa using h), if_pos h, sets_Of_eq _ (by simp)]
    simp -implicitDefEqProofs only [Option.bind_eq_bind, Option.bind_some]
    rw [ofL_cons, ofL_nil, BitVec.or_zero]
  · rw [if_neg (by simpa using h), if_neg h]
/-- The sets that a walk over a predicate gathers. -/
def T_api_Pred.sets : T_api_Pred → List Set64
  | ⟨_, _, _, a, b, ps⟩ => (ttab a ||| ttab b) :: setsL ps
where setsL : List T_api_Pred → List Set64
  | [] => []
  | x :: l => x.sets ++ setsL l
theorem psets_eq (p : T_api_Pred) : p.sets = (ttab p.A ||| ttab p.B) :: T_api_Pred.sets.setsL p.Parts := by
  obtain ⟨a, b, c, d, e, ps⟩ := p
  simp only [T_api_Pred.sets]
theorem psets_len (p : T_api_Pred) : p.sets.length = p.size := by
  induction p using T_api_Pred.induct with
  | h p ih =>
    have hl : ∀ l : List T_api_Pred, (∀ x ∈ l, x.sets.length = x.size) → (T_api_Pred.sets.setsL l).length = (l.map T_api_Pred.size).sum := by
      intro l
      induction l with
      | nil => intro _; simp [T_api_Pred.sets.setsL]
      | cons x l ih2 =>
        intro h
        have h1 := h x List.mem_cons_self
        have h2 := ih2 fun y hy => h y (List.mem_cons_of_mem _ hy)
        simp only [T_api_Pred.sets.setsL, List.length_append, List.map_cons, List.sum_cons]; omega
    have := hl p.Parts ih
    rw [psets_eq, psize_eq, List.length_cons]; omega
theorem orL_append (l l' : List Set64) (s : Set64) : (l ++ l').foldl (fun a b => a ||| b) s = l'.foldl (fun a b => a ||| b) (l.foldl (fun a b => a ||| b) s) := List.foldl_append
theorem orL_out (l : List Set64) : ∀ s : Set64, l.foldl (fun a b => a ||| b) s = s ||| l.foldl (fun a b => a ||| b) 0#64 := by
  induction l with
  | nil => intro s; simp
  | cons x l ih => intro s; simp only [List.foldl_cons]; rw [ih, ih (0#64 ||| x), BitVec.zero_or, BitVec.or_assoc]
theorem psets_or (p : T_api_Pred) : p.sets.foldl (fun a b => a ||| b) 0#64 = p.tabs := by
  induction p using T_api_Pred.induct with
  | h p ih =>
    have hl : ∀ l : List T_api_Pred, (∀ x ∈ l, x.sets.foldl (fun a b => a ||| b) 0#64 = x.tabs) → (T_api_Pred.sets.setsL l).foldl (fun a b => a ||| b) 0#64 = T_api_Pred.tabs.tabsL l := by
      intro l
      induction l with
      | nil => intro _; rfl
      | cons x l ih2 =>
        intro h
        have h1 := h x List.mem_cons_self
        have h2 := ih2 fun y hy => h y (List.mem_cons_of_mem _ hy)
        rw [T_api_Pred.sets.setsL, T_api_Pred.tabs.tabsL, orL_append, orL_out, h1, h2]
    have := hl p.Parts ih
    rw [psets_eq, ptabs_eq, List.foldl_cons, orL_out, BitVec.zero_or, this]
theorem gather_eq (p : T_api_Pred) : p.size ≤ 1000000 → M_pred_gather_uint64__pred_Tables_1 p = some p.sets := by
  induction p using T_api_Pred.induct with
  | h p ih =>
    intro hsz
    have hpl := parts_len p
    have key : ∀ n i (s : List Set64), p.Parts.length - i = n → i ≤ p.Parts.length → s.length + ((p.Parts.drop i).map T_api_Pred.size).sum ≤ 1000000 →
        M_pred_gather_uint64__pred_Tables_1.l0 (s, p.Parts, (p.Parts.length : Int), (i : Int)) = some (s ++ T_api_Pred.sets.setsL (p.Parts.drop i)) := by
      intro n
      induction n with
      | zero =>
        intro i s h1 h2 _
        obtain rfl : i = p.Parts.length := by omega
        rw [M_pred_gather_uint64__pred_Tables_1.l0, if_neg (dge (by dsimp only; omega)), List.drop_length]
        simp [T_api_Pred.sets.setsL]
      | succ n ihn =>
        intro i s h1 h2 hs
        have hi : i < p.Parts.length := by omega
        rw [List.drop_eq_getElem_cons hi] at hs ⊢
        rw [List.map_cons, List.sum_cons] at hs
        rw [M_pred_gather_uint64__pred_Tables_1.l0, if_pos (dlt (by dsimp only; omega))]
        dsimp only
        rw [getI_nat hi]
        simp -implicitDefEqProofs only [Option.bind_eq_bind, Option.bind_some]
        have hm := List.getElem_mem hi
        have hsz2 := part_size hm
        rw [ih _ hm (by omega)]
        simp -implicitDefEqProofs only [Option.bind_some]
        have hl := psets_len p.Parts[i]
        rw [room_of (by omega), w64_succ (by omega)]
        simp -implicitDefEqProofs only [Option.bind_some]
        rw [ihn (i + 1) _ (by omega) (by omega) (by rw [List.length_append]; omega), T_api_Pred.sets.setsL, List.append_assoc]
    rw [M_pred_gather_uint64__pred_Tables_1, M_pred_Tables_1_R, term_tab, term_tab]
    simp -implicitDefEqProofs only [Option.bind_eq_bind, Option.bind_some]
    have h0 := key p.Parts.length 0 [(ttab p.A ||| ttab p.B)] (by omega) (by omega) (by
      rw [List.drop_zero]
      have := psize_eq p
      simp only [List.length_cons, List.length_nil]; omega)
    rw [show ((0 : Nat) : Int) = 0 from rfl] at h0
    rw [h0, List.drop_zero, psets_eq]
    rfl
theorem pred_Tables_eq (p : T_api_Pred) (h : p.size ≤ 1000000) : M_pred_Tables p = some p.tabs := by
  unfold M_pred_Tables
  rw [gather_eq p h]
  simp -implicitDefEqProofs only [Option.bind_eq_bind, Option.bind_some]
  have hl := psets_len p
  have key := loop_all p.sets (fun i (s : Set64) => M_pred_Tables.l0 (s, p.sets, (p.sets.length : Int), (i : Int))) (fun s l => some (l.foldl (fun a b => a ||| b) s)) (fun s => by
      show M_pred_Tables.l0 _ = _
      rw [M_pred_Tables.l0, if_neg (dge (by dsimp only; omega))]; rfl)
    (fun i s h ih => by
      show M_pred_Tables.l0 _ = _
      rw [M_pred_Tables.l0, if_pos (dlt (by dsimp only; omega))]
      dsimp only
      rw [getI_nat h, w64_succ (by omega)]
      simp -implicitDefEqProofs only [Option.bind_eq_bind, Option.bind_some]
      exact ih _) 0#64
  have key' : M_pred_Tables.l0 (0#64, p.sets, (p.sets.length : Int), 0) = _ := key
  rw [key', psets_or]; rfl
theorem pred_Copy_eq (p : T_api_Pred) : p.size ≤ 1000000 → M_pred_Copy p = some p := by
  induction p using T_api_Pred.induct with
  | h p ih =>
    intro hsz
    have hpl := parts_len p
    have key : ∀ (q : T_api_Pred) n i (s : List T_api_Pred), p.Parts.length - i = n → i ≤ p.Parts.length → s.length ≤ i →
        M_pred_Copy.l0 (s, p.Parts, (p.Parts.length : Int), (i : Int), p, q) = some (s ++ p.Parts.drop i) := by
      intro q n
      induction n with
      | zero =>
        intro i s h1 h2 _
        obtain rfl : i = p.Parts.length := by omega
        rw [M_pred_Copy.l0, if_neg (dge (by dsimp only; omega)), List.drop_length, List.append_nil]
      | succ n ihn =>
        intro i s h1 h2 hs
        have hi : i < p.Parts.length := by omega
        rw [List.drop_eq_getElem_cons hi]
        rw [M_pred_Copy.l0, if_pos (dlt (by dsimp only; omega))]
        dsimp only
        rw [getI_nat hi]
        simp -implicitDefEqProofs only [Option.bind_eq_bind, Option.bind_some]
        have hm := List.getElem_mem hi
        have hsz2 := part_size hm
        rw [ih _ hm (by omega)]
        simp -implicitDefEqProofs only [Option.bind_some]
        rw [room_of (by simp only [List.length_cons, List.length_nil]; omega), w64_succ (by omega)]
        simp -implicitDefEqProofs only [Option.bind_some]
        rw [ihn (i + 1) _ (by omega) (by omega) (by rw [List.length_append]; simp only [List.length_cons, List.length_nil]; omega), List.append_assoc]; rfl
    rw [M_pred_Copy]
    have h0 := key ⟨0, 0, 0, ⟨0, 0, 0, ⟨false, 0⟩⟩, ⟨0, 0, 0, ⟨false, 0⟩⟩, []⟩ p.Parts.length 0 [] (by omega) (by omega) (by simp)
    rw [show ((0 : Nat) : Int) = 0 from rfl] at h0
    rw [h0, List.drop_zero, List.nil_append]
    obtain ⟨a, b, c, d, e, f⟩ := p
    rfl

/- Equality. -/
theorem lenne {α β : Type} {l : List α} {l' : List β} (h : ¬ l.length = l'.length) : ((l.length : Int) != (l'.length : Int)) = true := by
  simp only [bne_iff_ne, ne_eq]; omega
theorem leneq {α β : Type} {l : List α} {l' : List β} (h : l.length = l'.length) : ¬ ((l.length : Int) != (l'.length : Int)) = true := by
  simp only [bne_iff_ne, ne_eq]; omega
theorem term_ext {a b : T_api_Term} (h : ((a.Kind == b.Kind) && ((a.Table == b.Table) && ((a.Col == b.Col) && ((a.Value.Null == b.Value.Null) && (a.Value.N == b.Value.N))))) = true) : a = b := by
  obtain ⟨a1, a2, a3, a4, a5⟩ := a
  obtain ⟨b1, b2, b3, b4, b5⟩ := b
  simpa using h
theorem term_same (a b : T_api_Term) : ((a.Kind == b.Kind) && ((a.Table == b.Table) && ((a.Col == b.Col) && ((a.Value.Null == b.Value.Null) && (a.Value.N == b.Value.N))))) = decide (a = b) := by
  rw [Bool.eq_iff_iff]
  constructor
  · intro h; simpa using term_ext h
  · intro h; have : a = b := by simpa using h
    subst this; simp
theorem pred_eq_iff (p q : T_api_Pred) : p = q ↔ p.Kind = q.Kind ∧ p.Truth = q.Truth ∧ p.Op = q.Op ∧ p.A = q.A ∧ p.B = q.B ∧ p.Parts = q.Parts := by
  obtain ⟨a, b, c, d, e, f⟩ := p
  obtain ⟨a', b', c', d', e', f'⟩ := q
  simp
/-- A loop that compares two lists place by place. -/
theorem loop_eq {α : Type} (l l' : List α) (hlen : l.length = l'.length) (F : Nat → Option (Lp Unit Bool)) (P : α → Prop)
    (h0 : F l.length = some (.brk ()))
    (hs : ∀ i (h : i < l.length), F i = if l[i] = l'[i]'(hlen ▸ h) then F (i + 1) else some (.ret false)) : F 0 = if l = l' then some (.brk ()) else some (.ret false) := by
  have key : ∀ n i, l.length - i = n → i ≤ l.length → F i = if l.drop i = l'.drop i then some (.brk ()) else some (.ret false) := by
    intro n
    induction n with
    | zero =>
      intro i h1 h2
      obtain rfl : i = l.length := by omega
      rw [h0, if_pos (by rw [List.drop_length, hlen, List.drop_length])]
    | succ n ih =>
      intro i h1 h2
      have hi : i < l.length := by omega
      have hi' : i < l'.length := hlen ▸ hi
      rw [hs i hi, List.drop_eq_getElem_cons hi, List.drop_eq_getElem_cons hi', ih (i + 1) (by omega) (by omega)]
      by_cases e : l[i] = l'[i]
      · rw [if_pos e, e]
        by_cases e2 : l.drop (i + 1) = l'.drop (i + 1)
        · rw [if_pos e2, if_pos (by rw [e2])]
        · rw [if_neg e2, if_neg (fun h => e2 (List.cons.inj h).2)]
      · rw [if_neg e, if_neg (fun h => e (List.cons.inj h).1)]
  have := key l.length 0 (by omega) (by omega)
  rwa [List.drop_zero, List.drop_zero] at this
theorem ref06_Same_eq (p : T_api_Pred) : ∀ q : T_api_Pred, p.size ≤ 1000000 → M_ref06_Same (p, q) = some (decide (p = q)) := by
  induction p using T_api_Pred.induct with
  | h p ih =>
    intro q hsz
    have hpl := parts_len p
    rw [M_ref06_Same]
    dsimp only
    rw [term_same, term_same]
    by_cases h1 : p.Kind = q.Kind
    case neg => rw [if_pos (by simpa using h1)]; congr 1; exact (decide_eq_false (fun h => h1 (by rw [h]))).symm
    rw [if_neg (by simpa using h1)]
    by_cases h2 : p.Truth = q.Truth
    case neg => rw [if_pos (by simpa using h2)]; congr 1; exact (decide_eq_false (fun h => h2 (by rw [h]))).symm
    rw [if_neg (by simpa using h2)]
    by_cases h3 : p.Op = q.Op
    case neg => rw [if_pos (by simpa using h3)]; congr 1; exact (decide_eq_false (fun h => h3 (by rw [h]))).symm
    rw [if_neg (by simpa using h3)]
    by_cases h4 : p.A = q.A
    case neg => rw [if_neg (by simpa using h4)]; congr 1; exact (decide_eq_false (fun h => h4 (by rw [h]))).symm
    rw [if_pos (by simpa using h4)]
    by_cases h5 : p.B = q.B
    case neg => rw [if_neg (by simpa using h5)]; congr 1; exact (decide_eq_false (fun h => h5 (by rw [h]))).symm
    rw [if_pos (by simpa using h5)]
    by_cases h6 : p.Parts.length = q.Parts.length
    case neg => rw [if_pos (lenne h6)]; congr 1; exact (decide_eq_false (fun h => h6 (by rw [h]))).symm
    rw [if_neg (leneq h6)]
    have key := loop_eq p.Parts q.Parts h6 (fun i => M_ref06_Same.l0 ((i : Int), p, q)) (fun _ => True) (by
      show M_ref06_Same.l0 _ = _
      rw [M_ref06_Same.l0, if_neg (dge (by dsimp only; omega))]) (fun i h => by
      show M_ref06_Same.l0 _ = _
      rw [M_ref06_Same.l0, if_pos (dlt (by dsimp only; omega))]
      dsimp only
      rw [getI_nat h, getI_nat (h6 ▸ h), w64_succ (by omega)]
      simp -implicitDefEqProofs only [Option.bind_eq_bind, Option.bind_some]
      have hm := List.getElem_mem h
      have hs := part_size hm
      rw [ih _ hm _ (by omega)]
      simp -implicitDefEqProofs only [Option.bind_some, decide_eq_true_eq])
    have key' : M_ref06_Same.l0 (0, p, q) = _ := key
    rw [key']
    by_cases e : p.Parts = q.Parts
    · rw [if_pos e, decide_eq_true ((pred_eq_iff p q).2 ⟨h1, h2, h3, h4, h5, e⟩)]; rfl
    · rw [if_neg e, decide_eq_false (fun h => e (by rw [h]))]; rfl
theorem ref06_List_eq (l l' : List T_api_Pred) (hlen : l.length ≤ 1000000) (hsz : ∀ p ∈ l, p.size ≤ 1000000) : M_ref06_List (l, l') = some (decide (l = l')) := by
  unfold M_ref06_List
  dsimp only
  by_cases h6 : l.length = l'.length
  case neg => rw [if_pos (lenne h6)]; congr 1; exact (decide_eq_false (fun h => h6 (by rw [h]))).symm
  rw [if_neg (leneq h6)]
  have key := loop_eq l l' h6 (fun i => M_ref06_List.l0 (l, l', (i : Int))) (fun _ => True) (by
    show M_ref06_List.l0 _ = _
    rw [M_ref06_List.l0, if_neg (dge (by dsimp only; omega))]) (fun i h => by
    show M_ref06_List.l0 _ = _
    rw [M_ref06_List.l0, if_pos (dlt (by dsimp only; omega))]
    dsimp only
    rw [getI_nat h, getI_nat (h6 ▸ h), w64_succ (by omega)]
    simp -implicitDefEqProofs only [Option.bind_eq_bind, Option.bind_some]
    rw [ref06_Same_eq _ _ (hsz _ (List.getElem_mem h))]
    simp -implicitDefEqProofs only [Option.bind_some, decide_eq_true_eq])
  have key' : M_ref06_List.l0 (l, l', 0) = _ := key
  rw [key']
  by_cases e : l = l'
  · rw [if_pos e, decide_eq_true e]; rfl
  · rw [if_neg e, decide_eq_false e]; rfl
theorem term_Same_eq (a b : T_api_Term) : M_term_Same (a, b) = some (decide (a = b)) := by
  unfold M_term_Same
  dsimp only
  rw [term_same]
theorem equalFunc_of (l l' : List T_api_Pred) (hlen : l.length ≤ 1000000) (hp : ∀ p ∈ l, ∀ q, M_pred_Same (p, q) = some (decide (p = q))) : M_slices_EqualFunc_api_Pred_api_Pred_api_Pred_api_Pred__pred_Same (l, l') = some (decide (l = l')) := by
  rw [M_slices_EqualFunc_api_Pred_api_Pred_api_Pred_api_Pred__pred_Same]
  dsimp only
  by_cases h6 : l.length = l'.length
  case neg => rw [if_pos (lenne h6)]; congr 1; exact (decide_eq_false (fun h => h6 (by rw [h]))).symm
  rw [if_neg (leneq h6)]
  have key := loop_eq l l' h6 (fun i => M_slices_EqualFunc_api_Pred_api_Pred_api_Pred_api_Pred__pred_Same.l0 (l', l, (l.length : Int), (i : Int))) (fun _ => True) (by
    show M_slices_EqualFunc_api_Pred_api_Pred_api_Pred_api_Pred__pred_Same.l0 _ = _
    rw [M_slices_EqualFunc_api_Pred_api_Pred_api_Pred_api_Pred__pred_Same.l0, if_neg (dge (by dsimp only; omega))]) (fun i h => by
    show M_slices_EqualFunc_api_Pred_api_Pred_api_Pred_api_Pred__pred_Same.l0 _ = _
    rw [M_slices_EqualFunc_api_Pred_api_Pred_api_Pred_api_Pred__pred_Same.l0, if_pos (dlt (by dsimp only; omega))]
    dsimp only
    rw [getI_nat h, getI_nat (h6 ▸ h), w64_succ (by omega)]
    simp -implicitDefEqProofs only [Option.bind_eq_bind, Option.bind_some]
    rw [hp _ (List.getElem_mem h)]
    simp -implicitDefEqProofs only [Option.bind_some, decide_eq_true_eq])
  have key' : M_slices_EqualFunc_api_Pred_api_Pred_api_Pred_api_Pred__pred_Same.l0 (l', l, (l.length : Int), 0) = _ := key
  rw [key']
  by_cases e : l = l'
  · rw [if_pos e, decide_eq_true e]; rfl
  · rw [if_neg e, decide_eq_false e]; rfl
theorem pred_Same_eq (p : T_api_Pred) : ∀ q : T_api_Pred, p.size ≤ 1000000 → M_pred_Same (p, q) = some (decide (p = q)) := by
  induction p using T_api_Pred.induct with
  | h p ih =>
    intro q hsz
    have hpl := parts_len p
    rw [M_pred_Same]
    dsimp only
    rw [term_Same_eq, term_Same_eq]
    simp -implicitDefEqProofs only [Option.bind_eq_bind, Option.bind_some, decide_eq_true_eq]
    by_cases h1 : p.Kind = q.Kind
    case neg => rw [if_neg (by simpa using h1)]; congr 1; exact (decide_eq_false (fun h => h1 (by rw [h]))).symm
    rw [if_pos (by simpa using h1)]
    by_cases h2 : p.Truth = q.Truth
    case neg => rw [if_neg (by simpa using h2)]; congr 1; exact (decide_eq_false (fun h => h2 (by rw [h]))).symm
    rw [if_pos (by simpa using h2)]
    by_cases h3 : p.Op = q.Op
    case neg => rw [if_neg (by simpa using h3)]; congr 1; exact (decide_eq_false (fun h => h3 (by rw [h]))).symm
    rw [if_pos (by simpa using h3)]
    by_cases h4 : p.A = q.A
    case neg => rw [if_neg h4]; congr 1; exact (decide_eq_false (fun h => h4 (by rw [h]))).symm
    rw [if_pos h4]
    by_cases h5 : p.B = q.B
    case neg => rw [if_neg h5]; congr 1; exact (decide_eq_false (fun h => h5 (by rw [h]))).symm
    rw [if_pos h5, equalFunc_of p.Parts q.Parts (by omega) (fun x hx y => ih x hx y (by have := part_size hx; omega))]
    simp -implicitDefEqProofs only [Option.bind_some]
    congr 1
    exact decide_eq_decide.2 ⟨fun e => (pred_eq_iff p q).2 ⟨h1, h2, h3, h4, h5, e⟩, fun e => by rw [e]⟩
theorem equalFunc_eq (l l' : List T_api_Pred) (hlen : l.length ≤ 1000000) (hsz : ∀ p ∈ l, p.size ≤ 1000000) : M_slices_EqualFunc_api_Pred_api_Pred_api_Pred_api_Pred__pred_Same (l, l') = some (decide (l = l')) :=
  equalFunc_of l l' hlen fun p hp q => pred_Same_eq p q (hsz p hp)
end Go.Proofs.Ytakmilmckdllfaa.G
set_option linter.unusedVariables false
set_option linter.unusedSimpArgs false
namespace Go.Proofs.Ytakmilmckdllfaa.G

theorem hasI_lt {s : Set64} {n : Int} (h : hasI s n = true) : ∃ j : Nat, j < 64 ∧ n = (j : Int) ∧ s.getLsbD j = true := by
  unfold hasI at h
  rw [Bool.and_eq_true, decide_eq_true_eq] at h
  exact ⟨n.toNat, by omega, by omega, h.2⟩
theorem hasI_or (a b : Set64) (n : Int) : hasI (a ||| b) n = (hasI a n || hasI b n) := by
  unfold hasI
  rw [BitVec.getLsbD_or]
  cases decide (0 ≤ n ∧ n < 64) <;> simp
theorem hasI_ofL (l : List Int) (n : Int) : hasI (ofL l) n = true ↔ 0 ≤ n ∧ n < 64 ∧ n ∈ l := by
  constructor
  · intro h
    obtain ⟨j, hj, rfl, hb⟩ := hasI_lt h
    rw [ofL_lsb _ _ hj, List.any_eq_true] at hb
    obtain ⟨x, hx, hxj⟩ := hb
    have : x = (j : Int) := by simpa using hxj
    exact ⟨by omega, by omega, this ▸ hx⟩
  · intro ⟨h0, h1, h2⟩
    obtain ⟨j, rfl⟩ : ∃ j : Nat, n = j := ⟨n.toNat, by omega⟩
    rw [hasI_nat _ _ (by omega), ofL_lsb _ _ (by omega), List.any_eq_true]
    exact ⟨_, h2, by simp⟩

/- A tree whose nodes are leaves or have two kids. -/
inductive BinN (cols : List Int) (t : T_api_Tree) : Prop
  | leaf (hk : t.Kind = 0) (hks : t.Kids = []) (hc : t.Conj = []) (h0 : 0 ≤ t.Table) (h1 : t.Table < (cols.length : Int))
  | op (a b : T_api_Tree) (hk1 : 1 ≤ t.Kind) (hk2 : t.Kind ≤ 4) (hks : t.Kids = [a, b])
abbrev OkT (cols : List Int) (t : T_api_Tree) : Prop := ∀ y ∈ t.tour, BinN cols y
theorem OkNode.bin {cols : List Int} {t : T_api_Tree} (h : OkNode cols t) : BinN cols t := by
  cases h with
  | leaf hk hks hc hh h0 h1 => exact .leaf hk hks hc h0 h1
  | op a b hk1 hk2 hks => exact .op a b hk1 hk2 hks
theorem okT {cols : List Int} {t : T_api_Tree} (h : ∀ y ∈ t.tour, OkNode cols y) : OkT cols t := fun y hy => (h y hy).bin
theorem OkT.kid {cols : List Int} {t y : T_api_Tree} (h : OkT cols t) (hy : y ∈ t.Kids) : OkT cols y := fun z hz => h z (tour_kid hy z hz)
theorem OkT.self {cols : List Int} {t : T_api_Tree} (h : OkT cols t) : BinN cols t := h t (tour_self t)
theorem tour2 {t a b : T_api_Tree} (h : t.Kids = [a, b]) : t.tour = a.tour ++ b.tour ++ [t] := by
  rw [tour_eq, h]; simp
theorem tour0 {t : T_api_Tree} (h : t.Kids = []) : t.tour = [t] := by
  rw [tour_eq, h]; simp
/-- Outer nodes. -/
def outs (l : List T_api_Tree) : List T_api_Tree := l.filter fun y => decide (1 < y.Kind)
theorem outs_append (l l' : List T_api_Tree) : outs (l ++ l') = outs l ++ outs l' := List.filter_append _ _
abbrev nOut (t : T_api_Tree) : Nat := (outs t.tour).length
/-- Each node of a tree, as_ it is walked, with its home: the outer node that it lies under on the right. -/
def tagged (t : T_api_Tree) (off : Nat) (home : Int) : List (T_api_Tree × Int) :=
  match h : t.Kids with
  | [a, b] => tagged a off home ++ tagged b (off + nOut a) (if 1 < t.Kind then ((off + nOut a + nOut b : Nat) : Int) else home) ++ [(t, home)]
  | _ => [(t, home)]
termination_by t.size
decreasing_by
  · exact kid_size (by rw [h]; simp)
  · exact kid_size (by rw [h]; simp)
theorem tagged2 {t a b : T_api_Tree} (h : t.Kids = [a, b]) (off : Nat) (home : Int) : tagged t off home = tagged a off home ++ tagged b (off + nOut a) (if 1 < t.Kind then ((off + nOut a + nOut b : Nat) : Int) else home) ++ [(t, home)] := by
  rw [tagged]
  split
  · rename_i x y e
    rw [h] at e
    injection e with e1 e2
    injection e2 with e2 _
    subst e1; subst e2; rfl
  · rename_i e; exact absurd h (e _ _)
theorem tagged0 {t : T_api_Tree} (h : t.Kids = []) (off : Nat) (home : Int) : tagged t off home = [(t, home)] := by
  rw [tagged]
  split
  · rename_i x y e
    rw [h] at e; cases e
  · rfl
def ctabs (l : List T_api_Pred) : Set64 := l.foldl (fun s p => s ||| p.tabs) 0#64
theorem ctabs_out (l : List T_api_Pred) : ∀ s : Set64, l.foldl (fun s p => s ||| p.tabs) s = s ||| ctabs l := by
  unfold ctabs
  induction l with
  | nil => intro s; simp
  | cons x l ih => intro s; simp only [List.foldl_cons]; rw [ih, ih (0#64 ||| x.tabs), BitVec.zero_or, BitVec.or_assoc]
theorem ctabs_cons (x : T_api_Pred) (l : List T_api_Pred) : ctabs (x :: l) = x.tabs ||| ctabs l := by
  rw [ctabs, List.foldl_cons, ctabs_out, BitVec.zero_or]
def kid0 (t : T_api_Tree) : Set64 := match t.Kids with | a :: _ => tabs a | _ => 0#64
def kid1 (t : T_api_Tree) : Set64 := match t.Kids with | _ :: b :: _ => tabs b | _ => 0#64
theorem kid0_eq {t a b : T_api_Tree} (h : t.Kids = [a, b]) : kid0 t = tabs a := by unfold kid0; rw [h]
theorem kid1_eq {t a b : T_api_Tree} (h : t.Kids = [a, b]) : kid1 t = tabs b := by unfold kid1; rw [h]
def mkOp (x : T_api_Tree × Int) : T_levels_Op := ⟨x.1.Kind, x.1.Conj, ctabs x.1.Conj &&& kid0 x.1, ctabs x.1.Conj &&& kid1 x.1, kid1 x.1, x.2⟩
def mkJ (x : T_api_Tree × Int) : List T_levels_Join := x.1.Conj.map fun p => ⟨p, p.tabs &&& kid0 x.1, p.tabs &&& kid1 x.1, x.2⟩
def opsT (l : List (T_api_Tree × Int)) : List T_levels_Op := (l.filter fun x => decide (1 < x.1.Kind)).map mkOp
def joinsT (l : List (T_api_Tree × Int)) : List T_levels_Join := l.flatMap fun x => if x.1.Kind = 1 then mkJ x else []
theorem opsT_append (l l' : List (T_api_Tree × Int)) : opsT (l ++ l') = opsT l ++ opsT l' := by unfold opsT; rw [List.filter_append, List.map_append]
theorem joinsT_append (l l' : List (T_api_Tree × Int)) : joinsT (l ++ l') = joinsT l ++ joinsT l' := by unfold joinsT; rw [List.flatMap_append]
theorem tagged_fst {cols : List Int} (t : T_api_Tree) : OkT cols t → ∀ off home, (tagged t off home).map Prod.fst = t.tour := by
  induction t using T_api_Tree.induct with
  | h t ih =>
    intro ok off home
    cases ok.self with
    | leaf hk hks => rw [tagged0 hks, tour0 hks]; rfl
    | op a b hk1 hk2 hks =>
      rw [tagged2 hks, tour2 hks, List.map_append, List.map_append, ih a (by rw [hks]; simp) (ok.kid (by rw [hks]; simp)), ih b (by rw [hks]; simp) (ok.kid (by rw [hks]; simp))]; rfl
theorem opsT_len {cols : List Int} {t : T_api_Tree} (ok : OkT cols t) (off : Nat) (home : Int) : (opsT (tagged t off home)).length = nOut t := by
  unfold opsT nOut outs
  rw [List.length_map, ← tagged_fst t ok off home, List.filter_map, List.length_map]; rfl
theorem joinsT_len {cols : List Int} {t : T_api_Tree} (ok : OkT cols t) (off : Nat) (home : Int) : (joinsT (tagged t off home)).length ≤ nconj t.tour := by
  rw [← tagged_fst t ok off home]
  generalize tagged t off home = l
  induction l with
  | nil => simp [joinsT]
  | cons x l ih =>
    have : joinsT (x :: l) = (if x.1.Kind = 1 then mkJ x else []) ++ joinsT l := rfl
    rw [this, List.length_append, List.map_cons, nconj_cons]
    split
    · unfold mkJ; rw [List.length_map]; omega
    · simp only [List.length_nil]; omega
/- Adopting. -/
def setT (h : Int) (x : T_api_Tree × Int) : T_api_Tree × Int := if x.2 = -1 then (x.1, h) else x
def setJ (h : Int) (x : T_levels_Join) : T_levels_Join := if x.Home = -1 then ⟨x.Pred, x.Left, x.Right, h⟩ else x
def setO (h : Int) (x : T_levels_Op) : T_levels_Op := if x.Home = -1 then ⟨x.Kind, x.Conj, x.Left, x.Right, x.Own, h⟩ else x
theorem setT_fst (h : Int) (x : T_api_Tree × Int) : (setT h x).1 = x.1 := by unfold setT; split <;> rfl
theorem mkOp_set (h : Int) (x : T_api_Tree × Int) : mkOp (setT h x) = setO h (mkOp x) := by
  by_cases e : x.2 = -1
  · rw [setT, if_pos e, setO, if_pos (by exact e)]; rfl
  · rw [setT, if_neg e, setO, if_neg (by exact e)]
theorem mkJ_set (h : Int) (x : T_api_Tree × Int) : mkJ (setT h x) = (mkJ x).map (setJ h) := by
  by_cases e : x.2 = -1
  · rw [setT, if_pos e, mkJ, mkJ, List.map_map]
    refine List.map_congr_left fun p _ => ?_
    rw [Function.comp_apply, setJ, if_pos e]
  · rw [setT, if_neg e, mkJ, List.map_map]
    refine List.map_congr_left fun p _ => ?_
    rw [Function.comp_apply, setJ, if_neg e]
theorem opsT_set (h : Int) (l : List (T_api_Tree × Int)) : opsT (l.map (setT h)) = (opsT l).map (setO h) := by
  induction l with
  | nil => rfl
  | cons x l ih =>
    have e1 : opsT (x :: l) = opsT [x] ++ opsT l := opsT_append [x] l
    have e2 : opsT (setT h x :: l.map (setT h)) = opsT [setT h x] ++ opsT (l.map (setT h)) := opsT_append [setT h x] _
    rw [List.map_cons, e1, e2, ih, List.map_append]
    congr 1
    unfold opsT
    by_cases e : 1 < x.1.Kind
    · rw [List.filter_cons_of_pos (by rw [setT_fst]; simpa using e), List.filter_cons_of_pos (by simpa using e)]
      simp only [List.filter_nil, List.map_cons, List.map_nil, mkOp_set]
    · rw [List.filter_cons_of_neg (by rw [setT_fst]; simpa using e), List.filter_cons_of_neg (by simpa using e)]; rfl
theorem joinsT_set (h : Int) (l : List (T_api_Tree × Int)) : joinsT (l.map (setT h)) = (joinsT l).map (setJ h) := by
  induction l with
  | nil => rfl
  | cons x l ih =>
    have e1 : joinsT (x :: l) = (if x.1.Kind = 1 then mkJ x else []) ++ joinsT l := rfl
    have e2 : joinsT (setT h x :: l.map (setT h)) = (if (setT h x).1.Kind = 1 then mkJ (setT h x) else []) ++ joinsT (l.map (setT h)) := rfl
    rw [List.map_cons, e1, e2, ih, List.map_append, setT_fst, mkJ_set]
    congr 1
    split <;> rfl
theorem tagged_set {cols : List Int} (t : T_api_Tree) : OkT cols t → ∀ off (home h : Int), (tagged t off home).map (setT h) = tagged t off (if home = -1 then h else home) := by
  induction t using T_api_Tree.induct with
  | h t ih =>
    intro ok off home h
    have hs : setT h (t, home) = (t, if home = -1 then h else home) := by
      unfold setT; dsimp only; split <;> rfl
    cases ok.self with
    | leaf hk hks => rw [tagged0 hks, tagged0 hks, List.map_cons, hs]; rfl
    | op a b hk1 hk2 hks =>
      rw [tagged2 hks, tagged2 hks, List.map_append, List.map_append, ih a (by rw [hks]; simp) (ok.kid (by rw [hks]; simp)), ih b (by rw [hks]; simp) (ok.kid (by rw [hks]; simp)), List.map_cons, hs]
      by_cases e : 1 < t.Kind
      · rw [if_pos e, if_pos e, if_neg (show ¬ ((off + nOut a + nOut b : Nat) : Int) = -1 by omega)]; rfl
      · rw [if_neg e, if_neg e]; rfl
end Go.Proofs.Ytakmilmckdllfaa.G
set_option linter.unusedVariables false
set_option linter.unusedSimpArgs false
namespace Go.Proofs.Ytakmilmckdllfaa.G

theorem getI_mid {α : Type} (pre : List α) (x : α) (post : List α) : getI (pre ++ x :: post) (pre.length : Int) = some x := by
  have h : pre.length < (pre ++ x :: post).length := by rw [List.length_append, List.length_cons]; omega
  rw [getI_nat h]
  congr 1
  rw [List.getElem_append_right (Nat.le_refl _)]; simp
theorem set_mid {α : Type} (pre : List α) (x y : α) (post : List α) : (pre ++ x :: post).set pre.length y = pre ++ y :: post := by
  rw [List.set_append_right _ _ (Nat.le_refl _)]; simp
theorem snoc_len {α : Type} (pre : List α) (x : α) : (pre ++ [x]).length = pre.length + 1 := by rw [List.length_append]; rfl
theorem count_eq {cols : List Int} {t : T_api_Tree} (ok : OkT cols t) (hsz : t.size ≤ 1000000) : M_levels_count t = some (nOut t : Int) := by
  have htl := tour_len t
  have key : ∀ (l : List T_api_Tree) (n : Nat), (∀ y ∈ l, BinN cols y) → n + l.length ≤ 1000000 → M_levels_count.r0 (l, (n : Int)) = some ((n + (outs l).length : Nat) : Int) := by
    intro l
    induction l with
    | nil => intro n _ _; rw [M_levels_count.r0]; rfl
    | cons x l ih =>
      intro n h hn
      rw [List.length_cons] at hn
      have hl := fun y hy => h y (List.mem_cons_of_mem _ hy)
      rw [M_levels_count.r0]
      dsimp only
      unfold outs
      cases h x List.mem_cons_self with
      | leaf hk hks =>
        rw [if_neg (by simp [hk]), ih n hl (by omega), List.filter_cons_of_neg (by simp [hk])]; rfl
      | op a b hk1 hk2 hks =>
        rw [if_pos (by simp; omega)]
        by_cases e : x.Kind = 1
        · rw [if_neg (by simp [e]), ih n hl (by omega), List.filter_cons_of_neg (by simp [e])]; rfl
        · rw [if_pos (by simpa using e), w64_succ (by omega), ih (n + 1) hl (by omega), List.filter_cons_of_pos (by simp; omega), List.length_cons]
          congr 2
          show n + 1 + (outs l).length = n + ((outs l).length + 1)
          omega
  unfold M_levels_count
  rw [tree_Walk_eq t (by omega)]
  have h0 := key t.tour 0 ok (by omega)
  rw [show ((0 : Nat) : Int) = 0 from rfl] at h0
  simp -implicitDefEqProofs only [Option.bind_eq_bind, Option.bind_some]
  rw [h0, Nat.zero_add]; rfl
theorem adoptJ (os home : Int) (O : List T_levels_Op) : ∀ (post pre : List T_levels_Join), pre.length + post.length ≤ 1000000 →
    M_levels_Levels_adopt.l0 (os, home, (pre.length : Int), ⟨pre ++ post, O⟩) = some ⟨pre ++ post.map (setJ home), O⟩ := by
  intro post
  induction post with
  | nil => intro pre h; rw [M_levels_Levels_adopt.l0, if_neg (dge (by simp))]; simp
  | cons x post ih =>
    intro pre h
    rw [List.length_cons] at h
    rw [M_levels_Levels_adopt.l0, if_pos (dlt (by simp; omega))]
    dsimp only
    rw [getI_mid, w64_succ (by omega), Int.toNat_natCast]
    simp -implicitDefEqProofs only [Option.bind_eq_bind, Option.bind_some, set_mid]
    have h2 : ∀ y : T_levels_Join, M_levels_Levels_adopt.l0 (os, home, ((pre.length + 1 : Nat) : Int), ⟨pre ++ y :: post, O⟩) = some ⟨pre ++ (y :: post.map (setJ home)), O⟩ := by
      intro y
      have := ih (pre ++ [y]) (by rw [snoc_len]; omega)
      rw [snoc_len, List.append_assoc, List.append_assoc] at this
      exact this
    rw [List.map_cons]
    by_cases e : x.Home = -1
    · rw [if_pos (by simpa using e), h2, setJ, if_pos e]
    · rw [if_neg (by simpa using e), h2, setJ, if_neg e]
theorem adoptO (os home : Int) (J : List T_levels_Join) : ∀ (post pre : List T_levels_Op), pre.length + post.length ≤ 1000000 →
    M_levels_Levels_adopt.l1 (home, (pre.length : Int), ⟨J, pre ++ post⟩) = some ⟨J, pre ++ post.map (setO home)⟩ := by
  intro post
  induction post with
  | nil => intro pre h; rw [M_levels_Levels_adopt.l1, if_neg (dge (by simp))]; simp
  | cons x post ih =>
    intro pre h
    rw [List.length_cons] at h
    rw [M_levels_Levels_adopt.l1, if_pos (dlt (by simp; omega))]
    dsimp only
    rw [getI_mid, w64_succ (by omega), Int.toNat_natCast]
    simp -implicitDefEqProofs only [Option.bind_eq_bind, Option.bind_some, set_mid]
    have h2 : ∀ y : T_levels_Op, M_levels_Levels_adopt.l1 (home, ((pre.length + 1 : Nat) : Int), ⟨J, pre ++ y :: post⟩) = some ⟨J, pre ++ (y :: post.map (setO home))⟩ := by
      intro y
      have := ih (pre ++ [y]) (by rw [snoc_len]; omega)
      rw [snoc_len, List.append_assoc, List.append_assoc] at this
      exact this
    rw [List.map_cons]
    by_cases e : x.Home = -1
    · rw [if_pos (by simpa using e), h2, setO, if_pos e]
    · rw [if_neg (by simpa using e), h2, setO, if_neg e]
theorem adopt_eq (home : Int) (J J' : List T_levels_Join) (O O' : List T_levels_Op) (hJ : J.length + J'.length ≤ 1000000) (hO : O.length + O'.length ≤ 1000000) :
    M_levels_Levels_adopt ((J.length : Int), (O.length : Int), home, ⟨J ++ J', O ++ O'⟩) = some ⟨J ++ J'.map (setJ home), O ++ O'.map (setO home)⟩ := by
  unfold M_levels_Levels_adopt
  dsimp only
  rw [adoptJ _ _ _ _ _ hJ]
  simp -implicitDefEqProofs only [Option.bind_eq_bind, Option.bind_some]
  rw [adoptO 0 _ _ _ _ hO]; rfl
theorem and_or_l (a b c : Set64) : (a ||| b) &&& c = a &&& c ||| b &&& c := by
  apply BitVec.eq_of_getLsbD_eq
  intro i _
  simp only [BitVec.getLsbD_and, BitVec.getLsbD_or]
  cases a.getLsbD i <;> cases b.getLsbD i <;> cases c.getLsbD i <;> rfl
theorem addO (l r : Set64) (g : T_levels_Levels) : ∀ (post pre : List T_api_Pred) (op : T_levels_Op), op.Conj.length ≤ pre.length → pre.length + post.length ≤ 1000000 → (∀ p ∈ post, p.size ≤ 1000000) →
    M_levels_Levels_add.l0 (l, r, pre ++ post, ((pre ++ post).length : Int), (pre.length : Int), op, g) = some (⟨op.Kind, op.Conj ++ post, op.Left ||| (ctabs post &&& l), op.Right ||| (ctabs post &&& r), op.Own, op.Home⟩, g) := by
  intro post
  induction post with
  | nil =>
    intro pre op _ h _
    rw [M_levels_Levels_add.l0, if_neg (dge (by simp))]
    simp [ctabs]
  | cons x post ih =>
    intro pre op hop h hs
    rw [List.length_cons] at h
    have hx := hs x List.mem_cons_self
    rw [M_levels_Levels_add.l0, if_pos (dlt (by simp; omega))]
    dsimp only
    rw [getI_mid, w64_succ (by omega)]
    simp -implicitDefEqProofs only [Option.bind_eq_bind, Option.bind_some]
    rw [pred_Tables_eq _ hx]
    simp -implicitDefEqProofs only [Option.bind_some]
    rw [pred_Copy_eq _ hx]
    simp -implicitDefEqProofs only [Option.bind_some]
    rw [room_of (by simp only [List.length_cons, List.length_nil]; omega)]
    simp -implicitDefEqProofs only [Option.bind_some]
    have := ih (pre ++ [x]) ⟨op.Kind, op.Conj ++ [x], op.Left ||| (x.tabs &&& l), op.Right ||| (x.tabs &&& r), op.Own, op.Home⟩ (by rw [snoc_len, snoc_len]; omega) (by rw [snoc_len]; omega) (fun p hp => hs p (List.mem_cons_of_mem _ hp))
    rw [snoc_len, List.append_assoc] at this
    rw [show (pre ++ x :: post) = pre ++ ([x] ++ post) from rfl, this]
    dsimp only
    rw [List.append_assoc, ctabs_cons, and_or_l, and_or_l, BitVec.or_assoc, BitVec.or_assoc]; rfl
theorem addJ (l r : Set64) (O : List T_levels_Op) : ∀ (post pre : List T_api_Pred) (J : List T_levels_Join), J.length + post.length ≤ 1000000 → pre.length + post.length ≤ 1000000 → (∀ p ∈ post, p.size ≤ 1000000) →
    M_levels_Levels_add.l1 (l, r, pre ++ post, ((pre ++ post).length : Int), (pre.length : Int), ⟨J, O⟩) = some ⟨J ++ post.map fun p => ⟨p, p.tabs &&& l, p.tabs &&& r, -1⟩, O⟩ := by
  intro post
  induction post with
  | nil =>
    intro pre J _ h _
    rw [M_levels_Levels_add.l1, if_neg (dge (by simp))]
    simp
  | cons x post ih =>
    intro pre J hJ h hs
    rw [List.length_cons] at h hJ
    have hx := hs x List.mem_cons_self
    rw [M_levels_Levels_add.l1, if_pos (dlt (by simp; omega))]
    dsimp only
    rw [getI_mid, w64_succ (by omega)]
    simp -implicitDefEqProofs only [Option.bind_eq_bind, Option.bind_some]
    rw [pred_Tables_eq _ hx]
    simp -implicitDefEqProofs only [Option.bind_some]
    rw [pred_Copy_eq _ hx]
    simp -implicitDefEqProofs only [Option.bind_some]
    rw [room_of (by simp only [List.length_cons, List.length_nil]; omega)]
    simp -implicitDefEqProofs only [Option.bind_some]
    have := ih (pre ++ [x]) (J ++ [⟨x, x.tabs &&& l, x.tabs &&& r, -1⟩]) (by rw [snoc_len]; omega) (by rw [snoc_len]; omega) (fun p hp => hs p (List.mem_cons_of_mem _ hp))
    rw [snoc_len, List.append_assoc] at this
    rw [show (pre ++ x :: post) = pre ++ ([x] ++ post) from rfl, this, List.append_assoc]; rfl
theorem add_eq {cols : List Int} (t : T_api_Tree) : OkT cols t → t.size ≤ 100000 → ∀ (J : List T_levels_Join) (O : List T_levels_Op), J.length + nconj t.tour ≤ 1000000 → O.length + t.tour.length ≤ 1000000 →
    M_levels_Levels_add (t, ⟨J, O⟩) = some ⟨J ++ joinsT (tagged t O.length (-1)), O ++ opsT (tagged t O.length (-1))⟩ := by
  induction t using T_api_Tree.induct with
  | h t ih =>
    intro ok hsz J O hJ hO
    rw [M_levels_Levels_add]
    dsimp only
    cases ok.self with
    | leaf hk hks hc =>
      rw [if_pos (by simpa using hk), tagged0 hks]
      have e1 : joinsT [(t, -1)] = [] := by simp [joinsT, hk]
      have e2 : opsT [(t, -1)] = [] := by simp [opsT, hk]
      rw [e1, e2, List.append_nil, List.append_nil]
    | op a b hk1 hk2 hks =>
      have oka : OkT cols a := ok.kid (by rw [hks]; simp)
      have okb : OkT cols b := ok.kid (by rw [hks]; simp)
      have sa : a.size < t.size := kid_size (by rw [hks]; simp)
      have sb : b.size < t.size := kid_size (by rw [hks]; simp)
      have ht2 := tour2 hks
      have hl : t.tour.length = a.tour.length + b.tour.length + 1 := by rw [ht2, snoc_len, List.length_append]
      have hn : nconj t.tour = nconj a.tour + nconj b.tour + t.Conj.length := by
        rw [ht2, nconj_append, nconj_append]
        have : nconj [t] = t.Conj.length := by simp [nconj]
        omega
      have hna : nOut a ≤ a.tour.length := List.length_filter_le _ _
      have hnb : nOut b ≤ b.tour.length := List.length_filter_le _ _
      rw [if_neg (by simp; omega), if_neg (by rw [hks]; simp)]
      rw [hks]
      have g0 : ([a, b] : List T_api_Tree)[0]? = some a := rfl
      have g1 : ([a, b] : List T_api_Tree)[1]? = some b := rfl
      rw [g0, g1]
      simp -implicitDefEqProofs only [Option.bind_eq_bind, Option.bind_some]
      rw [tree_Tables_eq a (by omega), tree_Tables_eq b (by omega)]
      simp -implicitDefEqProofs only [Option.bind_some]
      rw [ih a (by rw [hks]; simp) oka (by omega) J O (by omega) (by omega)]
      simp -implicitDefEqProofs only [Option.bind_some]
      have lJa := joinsT_len oka O.length (-1)
      have lOa := opsT_len oka O.length (-1)
      have eO : (O ++ opsT (tagged a O.length (-1))).length = O.length + nOut a := by rw [List.length_append, lOa]
      have eJ : (J ++ joinsT (tagged a O.length (-1))).length ≤ J.length + nconj a.tour := by rw [List.length_append]; omega
      rw [ih b (by rw [hks]; simp) okb (by omega) _ _ (by omega) (by omega), eO]
      simp -implicitDefEqProofs only [Option.bind_some]
      have lJb := joinsT_len okb (O.length + nOut a) (-1)
      have lOb := opsT_len okb (O.length + nOut a) (-1)
      have hcs : ∀ p ∈ t.Conj, p.size ≤ 1000000 := fun p hp => by have := conj_size hp; omega
      have hcl := conj_len t
      by_cases e1 : t.Kind = 1
      · rw [if_neg (by simpa using e1)]
        have := addJ (tabs a) (tabs b) (O ++ opsT (tagged a O.length (-1)) ++ opsT (tagged b (O.length + nOut a) (-1))) t.Conj [] (J ++ joinsT (tagged a O.length (-1)) ++ joinsT (tagged b (O.length + nOut a) (-1))) (by rw [List.length_append]; omega) (by simp; omega) hcs
        rw [List.nil_append] at this
        have t0 : (([] : List T_api_Pred).length : Int) = 0 := rfl
        rw [t0] at this
        rw [this]
        simp -implicitDefEqProofs only [Option.bind_some]
        rw [tagged2 hks, if_neg (by omega), joinsT_append, joinsT_append, opsT_append, opsT_append]
        have k1 : joinsT [(t, -1)] = t.Conj.map fun p => ⟨p, p.tabs &&& tabs a, p.tabs &&& tabs b, -1⟩ := by
          simp [joinsT, e1, mkJ, kid0_eq hks, kid1_eq hks]
        have k2 : opsT [(t, -1)] = [] := by simp [opsT, e1]
        rw [k1, k2, List.append_nil]
        simp only [List.append_assoc]
      · rw [if_pos (by simpa using e1), count_eq okb (by omega)]
        simp -implicitDefEqProofs only [Option.bind_some]
        rw [w64_of (by omega) (by omega)]
        have e3 : ((O.length + nOut a : Nat) : Int) + (nOut b : Int) = ((O.length + nOut a + nOut b : Nat) : Int) := by omega
        rw [e3]
        have had := adopt_eq ((O.length + nOut a + nOut b : Nat) : Int) (J ++ joinsT (tagged a O.length (-1))) (joinsT (tagged b (O.length + nOut a) (-1))) (O ++ opsT (tagged a O.length (-1))) (opsT (tagged b (O.length + nOut a) (-1))) (by omega) (by omega)
        rw [eO] at had
        rw [had]
        simp -implicitDefEqProofs only [Option.bind_some]
        have := addO (tabs a) (tabs b) ⟨J ++ joinsT (tagged a O.length (-1)) ++ (joinsT (tagged b (O.length + nOut a) (-1))).map (setJ ((O.length + nOut a + nOut b : Nat) : Int)), O ++ opsT (tagged a O.length (-1)) ++ (opsT (tagged b (O.length + nOut a) (-1))).map (setO ((O.length + nOut a + nOut b : Nat) : Int))⟩ t.Conj [] ⟨t.Kind, [], 0#64, 0#64, tabs b, -1⟩ (by simp) (by simp; omega) hcs
        rw [List.nil_append] at this
        have t0 : (([] : List T_api_Pred).length : Int) = 0 := rfl
        rw [t0] at this
        rw [this]
        simp -implicitDefEqProofs only [Option.bind_some]
        rw [room_of (by rw [List.length_append, List.length_map]; simp only [List.length_cons, List.length_nil]; omega)]
        simp -implicitDefEqProofs only [Option.bind_some]
        rw [tagged2 hks, if_pos (by omega), joinsT_append, joinsT_append, opsT_append, opsT_append, ← joinsT_set, ← opsT_set, tagged_set b okb, if_pos rfl]
        have k1 : joinsT [(t, -1)] = [] := by simp [joinsT, e1]
        have k2 : opsT [(t, -1)] = [⟨t.Kind, t.Conj, ctabs t.Conj &&& tabs a, ctabs t.Conj &&& tabs b, tabs b, -1⟩] := by
          have : (1 : Int) < t.Kind := by omega
          simp [opsT, this, mkOp, kid0_eq hks, kid1_eq hks]
        rw [k1, k2, List.append_nil, BitVec.zero_or, BitVec.zero_or]
        simp only [List.append_assoc]
/-- What the program tells. -/
def levOf (t : T_api_Tree) : T_levels_Levels := ⟨joinsT (tagged t 0 (-1)), opsT (tagged t 0 (-1))⟩
theorem levels_Of_eq {cols : List Int} {t : T_api_Tree} (ok : OkT cols t) (hsz : t.size ≤ 100000) : M_levels_Of t = some (levOf t) := by
  unfold M_levels_Of
  have h1 := tour_len t
  have h2 := nconj_tour t
  rw [add_eq t ok hsz [] [] (by simp; omega) (by simp; omega)]
  simp -implicitDefEqProofs only [Option.bind_eq_bind, Option.bind_some, List.nil_append, List.length_nil]
  rfl
end Go.Proofs.Ytakmilmckdllfaa.G
set_option linter.unusedVariables false
set_option linter.unusedSimpArgs false
namespace Go.Proofs.Ytakmilmckdllfaa.G

/- The sets of a right tree. -/
theorem tabs2 {t a b : T_api_Tree} (h : t.Kids = [a, b]) (hk : 1 ≤ t.Kind) (n : Int) : hasI (tabs t) n = true ↔ hasI (tabs a) n = true ∨ hasI (tabs b) n = true := by
  have : tabs t = tabs a ||| tabs b := by
    unfold tabs
    rw [tour2 h, leafTabs_append, leafTabs_append, leafTabs_neg [] (by omega)]
    have : leafTabs [] = [] := rfl
    rw [this, List.append_nil, ofL_append]
  rw [this, hasI_or, Bool.or_eq_true]
theorem leafTabs_ok' {cols : List Int} {l : List T_api_Tree} (h : ∀ y ∈ l, BinN cols y) : ∀ n ∈ leafTabs l, 0 ≤ n ∧ n < (cols.length : Int) := by
  intro n hn
  unfold leafTabs at hn
  obtain ⟨y, hy, rfl⟩ := List.mem_map.1 hn
  obtain ⟨hy, hk⟩ := List.mem_filter.1 hy
  cases h y hy with
  | leaf _ _ _ h0 h1 => exact ⟨h0, h1⟩
  | op a b hk1 => simp only [beq_iff_eq] at hk; omega
theorem tabs_has {cols : List Int} (hc : cols.length ≤ 64) {t : T_api_Tree} (ok : OkT cols t) (n : Int) : hasI (tabs t) n = true ↔ n ∈ leafTabs t.tour := by
  unfold tabs
  rw [hasI_ofL]
  constructor
  · exact fun h => h.2.2
  · intro h
    have := leafTabs_ok' ok n h
    exact ⟨by omega, by omega, h⟩
theorem tabs_ne {cols : List Int} (hc : cols.length ≤ 64) (t : T_api_Tree) : OkT cols t → ∃ n, hasI (tabs t) n = true := by
  induction t using T_api_Tree.induct with
  | h t ih =>
    intro ok
    cases ok.self with
    | leaf hk hks =>
      refine ⟨t.Table, (tabs_has hc ok _).2 ?_⟩
      rw [tour0 hks, leafTabs_pos [] hk]; exact List.mem_cons_self
    | op a b hk1 hk2 hks =>
      obtain ⟨n, hn⟩ := ih a (by rw [hks]; simp) (ok.kid (by rw [hks]; simp))
      exact ⟨n, (tabs2 hks hk1 n).2 (.inl hn)⟩
theorem nodup2 {t a b : T_api_Tree} (h : t.Kids = [a, b]) (hk : 1 ≤ t.Kind) (hnd : (leafTabs t.tour).Nodup) : (leafTabs a.tour).Nodup ∧ (leafTabs b.tour).Nodup ∧ ∀ n, n ∈ leafTabs a.tour → n ∈ leafTabs b.tour → False := by
  rw [tour2 h, leafTabs_append, leafTabs_append, leafTabs_neg [] (by omega)] at hnd
  have e : leafTabs [] = [] := rfl
  rw [e, List.append_nil] at hnd
  obtain ⟨h1, h2, h3⟩ := List.nodup_append.1 hnd
  exact ⟨h1, h2, fun n ha hb => h3 n ha n hb rfl⟩
def ownsL (l : List T_api_Tree) : List Set64 := (outs l).map kid1
theorem ownsL_append (l l' : List T_api_Tree) : ownsL (l ++ l') = ownsL l ++ ownsL l' := by unfold ownsL; rw [outs_append, List.map_append]
theorem ownsL_len (t : T_api_Tree) : (ownsL t.tour).length = nOut t := List.length_map _
theorem ownsL1 {t a b : T_api_Tree} (h : t.Kids = [a, b]) : ownsL [t] = if 1 < t.Kind then [tabs b] else [] := by
  unfold ownsL outs
  by_cases e : 1 < t.Kind
  · rw [List.filter_cons_of_pos (by simpa using e), if_pos e]; simp [kid1_eq h]
  · rw [List.filter_cons_of_neg (by simpa using e), if_neg e]; rfl
theorem own_in {cols : List Int} (hc : cols.length ≤ 64) (t : T_api_Tree) : OkT cols t → (leafTabs t.tour).Nodup → ∀ s ∈ ownsL t.tour, (∀ n, hasI s n = true → hasI (tabs t) n = true) ∧ ∃ n, hasI (tabs t) n = true ∧ ¬ hasI s n = true := by
  induction t using T_api_Tree.induct with
  | h t ih =>
    intro ok hnd s hs
    cases ok.self with
    | leaf hk hks =>
      rw [tour0 hks] at hs
      simp [ownsL, outs, hk] at hs
    | op a b hk1 hk2 hks =>
      have oka : OkT cols a := ok.kid (by rw [hks]; simp)
      have okb : OkT cols b := ok.kid (by rw [hks]; simp)
      obtain ⟨na, nb, hd⟩ := nodup2 hks hk1 hnd
      obtain ⟨xa, hxa⟩ := tabs_ne hc a oka
      obtain ⟨xb, hxb⟩ := tabs_ne hc b okb
      rw [tour2 hks, ownsL_append, ownsL_append, List.mem_append, List.mem_append] at hs
      rcases hs with (hs | hs) | hs
      · obtain ⟨h1, _⟩ := ih a (by rw [hks]; simp) oka na s hs
        refine ⟨fun n hn => (tabs2 hks hk1 n).2 (.inl (h1 n hn)), xb, (tabs2 hks hk1 xb).2 (.inr hxb), fun hn => hd xb ((tabs_has hc oka _).1 (h1 xb hn)) ((tabs_has hc okb _).1 hxb)⟩
      · obtain ⟨h1, _⟩ := ih b (by rw [hks]; simp) okb nb s hs
        refine ⟨fun n hn => (tabs2 hks hk1 n).2 (.inr (h1 n hn)), xa, (tabs2 hks hk1 xa).2 (.inl hxa), fun hn => hd xa ((tabs_has hc oka _).1 hxa) ((tabs_has hc okb _).1 (h1 xa hn))⟩
      · rw [ownsL1 hks] at hs
        split at hs
        · have : s = tabs b := by simpa using hs
          subst this
          exact ⟨fun n hn => (tabs2 hks hk1 n).2 (.inr hn), xa, (tabs2 hks hk1 xa).2 (.inl hxa), fun hn => hd xa ((tabs_has hc oka _).1 hxa) ((tabs_has hc okb _).1 hn)⟩
        · cases hs
end Go.Proofs.Ytakmilmckdllfaa.G
set_option linter.unusedVariables false
set_option linter.unusedSimpArgs false
namespace Go.Proofs.Ytakmilmckdllfaa.G
open Classical

end Go.Proofs.Ytakmilmckdllfaa.G
set_option linter.unusedVariables false
set_option linter.unusedSimpArgs false
namespace Go.Proofs.Ytakmilmckdllfaa.G
open Classical

/-- The homes of a list of outer nodes that begins at the place `i`. -/
def HF : List T_levels_Op → Nat → Int → Nat → Prop
  | [], _, _, _ => True
  | x :: l, i, home, top => (x.Home = home ∨ ((i : Int) < x.Home ∧ x.Home < (top : Int))) ∧ HF l (i + 1) home top
theorem HF_append : ∀ (l l' : List T_levels_Op) (i : Nat) (home : Int) (top : Nat), HF l i home top → HF l' (i + l.length) home top → HF (l ++ l') i home top := by
  intro l
  induction l with
  | nil => intro l' i home top _ h; exact h
  | cons x l ih =>
    intro l' i home top h h'
    refine ⟨h.1, ih l' (i + 1) home top h.2 ?_⟩
    rw [List.length_cons] at h'
    rw [show i + 1 + l.length = i + (l.length + 1) by omega]; exact h'
theorem HF_up : ∀ (l : List T_levels_Op) (i : Nat) (home home' : Int) (top top' : Nat), HF l i home top → top ≤ top' → (home = home' ∨ (((i + l.length : Nat) : Int) ≤ home ∧ home < (top' : Int))) → HF l i home' top' := by
  intro l
  induction l with
  | nil => intro i home home' top top' _ _ _; trivial
  | cons x l ih =>
    intro i home home' top top' h h2 h3
    rw [List.length_cons] at h3
    refine ⟨?_, ih (i + 1) home home' top top' h.2 h2 (by omega)⟩
    rcases h.1 with h | h
    · rcases h3 with h3 | h3
      · exact .inl (h.trans h3)
      · exact .inr (by omega)
    · exact .inr (by omega)
theorem HF_get : ∀ (l : List T_levels_Op) (i : Nat) (home : Int) (top : Nat), HF l i home top → ∀ k (h : k < l.length), l[k].Home = home ∨ (((i + k : Nat) : Int) < l[k].Home ∧ l[k].Home < (top : Int)) := by
  intro l
  induction l with
  | nil => intro i home top _ k h; cases h
  | cons x l ih =>
    intro i home top h k hk
    cases k with
    | zero => exact h.1
    | succ k =>
      rw [List.getElem_cons_succ]
      have := ih (i + 1) home top h.2 k (by rw [List.length_cons] at hk; omega)
      rw [show i + (k + 1) = i + 1 + k by omega]; exact this
theorem nOut2 {t a b : T_api_Tree} (h : t.Kids = [a, b]) : nOut t = nOut a + nOut b + if 1 < t.Kind then 1 else 0 := by
  rw [← ownsL_len, ← ownsL_len, ← ownsL_len, tour2 h, ownsL_append, ownsL_append, List.length_append, List.length_append, ownsL1 h]
  congr 1
  split <;> rfl
theorem tagged_homes {cols : List Int} (t : T_api_Tree) : OkT cols t → ∀ off home, HF (opsT (tagged t off home)) off home (off + nOut t) ∧ ∀ x ∈ tagged t off home, x.2 = home ∨ ((off : Int) ≤ x.2 ∧ x.2 < ((off + nOut t : Nat) : Int)) := by
  induction t using T_api_Tree.induct with
  | h t ih =>
    intro ok off home
    cases hself : ok.self with
    | leaf hk hks =>
      rw [tagged0 hks]
      refine ⟨?_, fun x hx => ?_⟩
      · have k2 : opsT [(t, home)] = [] := by simp [opsT, hk]
        rw [k2]; trivial
      · have : x = (t, home) := by simpa using hx
        rw [this]; exact .inl rfl
    | op a b hk1 hk2 hks =>
      have oka : OkT cols a := ok.kid (by rw [hks]; simp)
      have okb : OkT cols b := ok.kid (by rw [hks]; simp)
      have hn := nOut2 hks
      obtain ⟨a1, a2⟩ := ih a (by rw [hks]; simp) oka off home
      obtain ⟨b1, b2⟩ := ih b (by rw [hks]; simp) okb (off + nOut a) (if 1 < t.Kind then ((off + nOut a + nOut b : Nat) : Int) else home)
      have la := opsT_len oka off home
      have lb := opsT_len okb (off + nOut a) (if 1 < t.Kind then ((off + nOut a + nOut b : Nat) : Int) else home)
      rw [tagged2 hks, opsT_append, opsT_append]
      refine ⟨HF_append _ _ _ _ _ (HF_append _ _ _ _ _ (HF_up _ _ _ _ _ _ a1 (by omega) (.inl rfl)) ?_) ?_, fun x hx => ?_⟩
      · rw [la]
        refine HF_up _ _ _ _ _ _ b1 (by omega) ?_
        rw [lb]
        by_cases e : 1 < t.Kind
        · rw [if_pos e]; rw [if_pos e] at hn; right; omega
        · rw [if_neg e]; exact .inl rfl
      · by_cases e : 1 < t.Kind
        · have k2 : opsT [(t, home)] = [mkOp (t, home)] := by simp [opsT, e]
          rw [k2]; exact ⟨.inl rfl, trivial⟩
        · have k2 : opsT [(t, home)] = [] := by simp [opsT, e]
          rw [k2]; trivial
      · rw [List.mem_append, List.mem_append] at hx
        rcases hx with (hx | hx) | hx
        · rcases a2 x hx with h | h
          · exact .inl h
          · right; omega
        · rcases b2 x hx with h | h
          · by_cases e : 1 < t.Kind
            · rw [if_pos e] at h hn; right; omega
            · rw [if_neg e] at h; exact .inl h
          · right; omega
        · have : x = (t, home) := by simpa using hx
          rw [this]; exact .inl rfl
/-- Levels as_ Of makes them. -/
structure WellG (g : T_levels_Levels) : Prop where
  jl : g.Joins.length ≤ 1000000
  ol : g.Ops.length ≤ 1000000
  jp : ∀ j ∈ g.Joins, j.Pred.size ≤ 1000000
  ol2 : ∀ o ∈ g.Ops, o.Conj.length ≤ 1000000
  op : ∀ o ∈ g.Ops, ∀ p ∈ o.Conj, p.size ≤ 1000000
  jh : ∀ j ∈ g.Joins, j.Home < (g.Ops.length : Int)
  oh : ∀ i (h : i < g.Ops.length), g.Ops[i].Home = -1 ∨ ((i : Int) < g.Ops[i].Home ∧ g.Ops[i].Home < (g.Ops.length : Int))
theorem tagged_mem {cols : List Int} {t : T_api_Tree} (ok : OkT cols t) {off : Nat} {home : Int} {x : T_api_Tree × Int} (hx : x ∈ tagged t off home) : x.1 ∈ t.tour := by
  rw [← tagged_fst t ok off home]; exact List.mem_map_of_mem hx
theorem levOf_well {cols : List Int} {t : T_api_Tree} (ok : OkT cols t) (hsz : t.size ≤ 100000) : WellG (levOf t) := by
  have h1 := tour_len t
  have h2 := nconj_tour t
  have lJ := joinsT_len ok 0 (-1)
  have lO := opsT_len ok 0 (-1)
  have hno : nOut t ≤ t.tour.length := List.length_filter_le _ _
  obtain ⟨hf, hh⟩ := tagged_homes t ok 0 (-1)
  have mJ : ∀ j ∈ joinsT (tagged t 0 (-1)), ∃ x ∈ tagged t 0 (-1), j.Pred ∈ x.1.Conj ∧ j.Home = x.2 := by
    intro j hj
    obtain ⟨x, hx, hj⟩ := List.mem_flatMap.1 hj
    split at hj
    · obtain ⟨p, hp, rfl⟩ := List.mem_map.1 hj
      exact ⟨x, hx, hp, rfl⟩
    · cases hj
  have mO : ∀ o ∈ opsT (tagged t 0 (-1)), ∃ x ∈ tagged t 0 (-1), o.Conj = x.1.Conj := by
    intro o ho
    obtain ⟨x, hx, rfl⟩ := List.mem_map.1 ho
    exact ⟨x, (List.mem_filter.1 hx).1, rfl⟩
  refine ⟨by show (joinsT _).length ≤ _; omega, by show (opsT _).length ≤ _; omega, fun j hj => ?_, fun o ho => ?_, fun o ho p hp => ?_, fun j hj => ?_, fun i hi => ?_⟩
  · obtain ⟨x, hx, hp, _⟩ := mJ j hj
    have := conj_size hp
    have := tour_size t x.1 (tagged_mem ok hx); omega
  · obtain ⟨x, hx, e⟩ := mO o ho
    have := conj_len x.1
    have := tour_size t x.1 (tagged_mem ok hx)
    rw [e]; omega
  · obtain ⟨x, hx, e⟩ := mO o ho
    rw [e] at hp
    have := conj_size hp
    have := tour_size t x.1 (tagged_mem ok hx); omega
  · obtain ⟨x, hx, hp, e⟩ := mJ j hj
    have e2 : (levOf t).Ops.length = nOut t := lO
    rw [e, e2]
    rcases hh x hx with h | h <;> omega
  · have e2 : (levOf t).Ops.length = nOut t := lO
    have := HF_get _ _ _ _ hf i hi
    rw [Nat.zero_add, Nat.zero_add] at this
    rw [e2]
    exact this

/- Homes' tables. -/
def ownOf (g : T_levels_Levels) (h : Int) : Set64 := if h < 0 then 0#64 else match g.Ops[h.toNat]? with | some e => e.Own | none => 0#64
theorem levels_own_eq (g : T_levels_Levels) (h : Int) : M_levels_Levels_own (g, h) = some (ownOf g h) := by
  unfold M_levels_Levels_own ownOf
  dsimp only
  by_cases h0 : h < 0
  · rw [if_pos (by simpa using h0), if_pos h0]
  rw [if_neg (by simpa using h0), if_neg h0]
  obtain ⟨k, rfl⟩ : ∃ k : Nat, h = k := ⟨h.toNat, by omega⟩
  rw [Int.toNat_natCast]
  by_cases h1 : k < g.Ops.length
  · rw [if_neg (by simp; omega), getI_nat h1, List.getElem?_eq_getElem h1]; rfl
  · rw [if_pos (by simp; omega), List.getElem?_eq_none (by omega)]
/- Counting loops. -/
def matchO (g o : T_levels_Levels) (e e2 : T_levels_Op) : Prop := e2.Kind = e.Kind ∧ e2.Own = e.Own ∧ ownOf o e2.Home = ownOf g e.Home ∧ e2.Conj = e.Conj
theorem same1_eq (g o : T_levels_Levels) (wo : WellG o) (e e2 : T_levels_Op) (h2 : e2 ∈ o.Ops) : M_levels_Same_1 (e2, o, g, e) = some (decide (matchO g o e e2)) := by
  unfold M_levels_Same_1 M_levels_Levels_place
  dsimp only
  rw [levels_own_eq, levels_own_eq]
  simp -implicitDefEqProofs only [Option.bind_eq_bind, Option.bind_some]
  rw [equalFunc_eq _ _ (wo.ol2 e2 h2) (wo.op e2 h2)]
  simp -implicitDefEqProofs only [Option.bind_some]
  by_cases hm : e2.Kind = e.Kind ∧ e2.Own = e.Own ∧ ownOf o e2.Home = ownOf g e.Home
  · rw [if_pos (by simp only [Bool.and_eq_true, beq_iff_eq]; exact hm)]
    congr 1
    exact decide_eq_decide.2 ⟨fun h => ⟨hm.1, hm.2.1, hm.2.2, h⟩, fun h => h.2.2.2⟩
  · rw [if_neg (by simp only [Bool.and_eq_true, beq_iff_eq]; exact hm)]
    congr 1
    exact (decide_eq_false fun h => hm ⟨h.1, h.2.1, h.2.2.1⟩).symm
theorem timesO_eq (g o : T_levels_Levels) (wo : WellG o) (e : T_levels_Op) : M_levels_times_levels_Op__levels_Same_1 (o.Ops, o, g, e) = some ((o.Ops.countP fun e2 => decide (matchO g o e e2) : Nat) : Int) := by
  have key : ∀ (post pre : List T_levels_Op) (n : Nat), pre ++ post = o.Ops → n ≤ pre.length →
      M_levels_times_levels_Op__levels_Same_1.l0 ((n : Int), o.Ops, (o.Ops.length : Int), (pre.length : Int), o, g, e) = some ((n + post.countP fun e2 => decide (matchO g o e e2) : Nat) : Int) := by
    intro post
    induction post with
    | nil =>
      intro pre n he hn
      rw [List.append_nil] at he
      rw [M_levels_times_levels_Op__levels_Same_1.l0, if_neg (dge (by dsimp only; rw [he]; omega))]; rfl
    | cons x post ih =>
      intro pre n he hn
      have hl : pre.length + (post.length + 1) = o.Ops.length := by rw [← he, List.length_append]; rfl
      have hol := wo.ol
      have hx : x ∈ o.Ops := by rw [← he]; simp
      rw [M_levels_times_levels_Op__levels_Same_1.l0, if_pos (dlt (by dsimp only; omega))]
      dsimp only
      have hg : getI o.Ops (pre.length : Int) = some x := by rw [← he]; exact getI_mid _ _ _
      rw [hg, w64_succ (i := pre.length) (by omega), w64_succ (i := n) (by omega)]
      simp -implicitDefEqProofs only [Option.bind_eq_bind, Option.bind_some]
      rw [same1_eq g o wo e x hx]
      simp -implicitDefEqProofs only [Option.bind_some, decide_eq_true_eq]
      rw [List.countP_cons]
      by_cases hm : matchO g o e x
      · rw [if_pos hm, if_pos (by simpa using hm)]
        have := ih (pre ++ [x]) (n + 1) (by rw [← he, List.append_assoc]; rfl) (by rw [snoc_len]; omega)
        rw [snoc_len] at this
        rw [this]; congr 2; omega
      · rw [if_neg hm, if_neg (by simpa using hm)]
        have := ih (pre ++ [x]) n (by rw [← he, List.append_assoc]; rfl) (by rw [snoc_len]; omega)
        rw [snoc_len] at this
        rw [this]; rfl
  unfold M_levels_times_levels_Op__levels_Same_1
  have h0 := key o.Ops [] 0 (List.nil_append _) (Nat.le_refl _)
  have t0 : (([] : List T_levels_Op).length : Int) = 0 := rfl
  rw [t0, show ((0 : Nat) : Int) = 0 from rfl] at h0
  dsimp only
  rw [h0, Nat.zero_add]; rfl
theorem levels_same0 (g o : T_levels_Levels) (wg : WellG g) (wo : WellG o) : M_levels_Same.l0 (g.Ops, (g.Ops.length : Int), 0, g, o) = if ∀ e ∈ g.Ops, ∃ e2 ∈ o.Ops, matchO g o e e2 then some (.brk (g, o)) else some (.ret false) := by
  have key : ∀ (post pre : List T_levels_Op), pre ++ post = g.Ops →
      M_levels_Same.l0 (g.Ops, (g.Ops.length : Int), (pre.length : Int), g, o) = if ∀ e ∈ post, ∃ e2 ∈ o.Ops, matchO g o e e2 then some (.brk (g, o)) else some (.ret false) := by
    intro post
    induction post with
    | nil =>
      intro pre he
      rw [List.append_nil] at he
      rw [M_levels_Same.l0, if_neg (dge (by dsimp only; rw [he]; omega)), if_pos (by simp)]
    | cons x post ih =>
      intro pre he
      have hl : pre.length + (post.length + 1) = g.Ops.length := by rw [← he, List.length_append]; rfl
      have hol := wg.ol
      rw [M_levels_Same.l0, if_pos (dlt (by dsimp only; omega))]
      dsimp only
      have hg : getI g.Ops (pre.length : Int) = some x := by rw [← he]; exact getI_mid _ _ _
      rw [hg, w64_succ (by omega)]
      simp -implicitDefEqProofs only [Option.bind_eq_bind, Option.bind_some]
      rw [timesO_eq g o wo x]
      simp -implicitDefEqProofs only [Option.bind_some]
      by_cases hm : ∃ e2 ∈ o.Ops, matchO g o x e2
      · have hp : 0 < o.Ops.countP fun e2 => decide (matchO g o x e2) := by
          rw [List.countP_pos_iff]
          obtain ⟨e2, h1, h2⟩ := hm
          exact ⟨e2, h1, by simpa using h2⟩
        rw [if_neg (by simp only [beq_iff_eq]; omega)]
        have := ih (pre ++ [x]) (by rw [← he, List.append_assoc]; rfl)
        rw [snoc_len] at this
        rw [this]
        by_cases hh : ∀ e ∈ post, ∃ e2 ∈ o.Ops, matchO g o e e2
        · rw [if_pos hh, if_pos (fun e he => (List.mem_cons.1 he).elim (fun h => h ▸ hm) (hh e))]
        · rw [if_neg hh, if_neg (fun h => hh fun e he => h e (List.mem_cons_of_mem _ he))]
      · have hp : o.Ops.countP (fun e2 => decide (matchO g o x e2)) = 0 := by
          rw [List.countP_eq_zero]
          intro e2 h1 h2
          exact hm ⟨e2, h1, by simpa using h2⟩
        rw [hp, if_pos (by rfl), if_neg (fun h => hm (h x List.mem_cons_self))]
  have := key g.Ops [] (List.nil_append _)
  have t0 : (([] : List T_levels_Op).length : Int) = 0 := rfl
  rwa [t0] at this
def matchJ (x g : T_levels_Levels) (e e2 : T_levels_Join) : Prop := e2.Pred = e.Pred ∧ ownOf x e2.Home = ownOf g e.Home
theorem same2_eq (x g : T_levels_Levels) (wx : WellG x) (e : T_levels_Join) : M_levels_Same_2 (x, e, g) = some ((x.Joins.countP fun e2 => decide (matchJ x g e e2) : Nat) : Int) := by
  have h1 : ∀ e2 ∈ x.Joins, M_levels_Same_2_1 (e2, e, x, g) = some (decide (matchJ x g e e2)) := by
    intro e2 h2
    unfold M_levels_Same_2_1
    dsimp only
    rw [pred_Same_eq _ _ (wx.jp e2 h2), levels_own_eq, levels_own_eq]
    simp -implicitDefEqProofs only [Option.bind_eq_bind, Option.bind_some, decide_eq_true_eq]
    by_cases hm : e2.Pred = e.Pred
    · rw [if_pos hm]
      congr 1
      rw [Bool.eq_iff_iff, beq_iff_eq, decide_eq_true_eq]
      exact ⟨fun h => ⟨hm, h⟩, fun h => h.2⟩
    · rw [if_neg hm]
      congr 1
      exact (decide_eq_false fun h => hm h.1).symm
  have key : ∀ (post pre : List T_levels_Join) (n : Nat), pre ++ post = x.Joins → n ≤ pre.length →
      M_levels_times_levels_Join__levels_Same_2_1.l0 ((n : Int), x.Joins, (x.Joins.length : Int), (pre.length : Int), e, x, g) = some ((n + post.countP fun e2 => decide (matchJ x g e e2) : Nat) : Int) := by
    intro post
    induction post with
    | nil =>
      intro pre n he hn
      rw [List.append_nil] at he
      rw [M_levels_times_levels_Join__levels_Same_2_1.l0, if_neg (dge (by dsimp only; rw [he]; omega))]; rfl
    | cons y post ih =>
      intro pre n he hn
      have hl : pre.length + (post.length + 1) = x.Joins.length := by rw [← he, List.length_append]; rfl
      have hol := wx.jl
      have hy : y ∈ x.Joins := by rw [← he]; simp
      rw [M_levels_times_levels_Join__levels_Same_2_1.l0, if_pos (dlt (by dsimp only; omega))]
      dsimp only
      have hg : getI x.Joins (pre.length : Int) = some y := by rw [← he]; exact getI_mid _ _ _
      rw [hg, w64_succ (i := pre.length) (by omega), w64_succ (i := n) (by omega)]
      simp -implicitDefEqProofs only [Option.bind_eq_bind, Option.bind_some]
      rw [h1 y hy]
      simp -implicitDefEqProofs only [Option.bind_some, decide_eq_true_eq]
      rw [List.countP_cons]
      by_cases hm : matchJ x g e y
      · rw [if_pos hm, if_pos (by simpa using hm)]
        have := ih (pre ++ [y]) (n + 1) (by rw [← he, List.append_assoc]; rfl) (by rw [snoc_len]; omega)
        rw [snoc_len] at this
        rw [this]; congr 2; omega
      · rw [if_neg hm, if_neg (by simpa using hm)]
        have := ih (pre ++ [y]) n (by rw [← he, List.append_assoc]; rfl) (by rw [snoc_len]; omega)
        rw [snoc_len] at this
        rw [this]; rfl
  unfold M_levels_Same_2 M_levels_times_levels_Join__levels_Same_2_1
  have h0 := key x.Joins [] 0 (List.nil_append _) (Nat.le_refl _)
  have t0 : (([] : List T_levels_Join).length : Int) = 0 := rfl
  rw [t0, show ((0 : Nat) : Int) = 0 from rfl] at h0
  dsimp only
  rw [h0, Nat.zero_add]; rfl
noncomputable abbrev cntJ (x g : T_levels_Levels) (e : T_levels_Join) : Nat := x.Joins.countP fun e2 => decide (matchJ x g e e2)
theorem levels_same1 (g o : T_levels_Levels) (wg : WellG g) (wo : WellG o) : M_levels_Same.l1 (g.Joins, (g.Joins.length : Int), 0, g, o) = if ∀ e ∈ g.Joins, cntJ g g e = cntJ o g e then some (.brk ()) else some (.ret false) := by
  have key : ∀ (post pre : List T_levels_Join), pre ++ post = g.Joins →
      M_levels_Same.l1 (g.Joins, (g.Joins.length : Int), (pre.length : Int), g, o) = if ∀ e ∈ post, cntJ g g e = cntJ o g e then some (.brk ()) else some (.ret false) := by
    intro post
    induction post with
    | nil =>
      intro pre he
      rw [List.append_nil] at he
      rw [M_levels_Same.l1, if_neg (dge (by dsimp only; rw [he]; omega)), if_pos (by simp)]
    | cons x post ih =>
      intro pre he
      have hl : pre.length + (post.length + 1) = g.Joins.length := by rw [← he, List.length_append]; rfl
      have hol := wg.jl
      rw [M_levels_Same.l1, if_pos (dlt (by dsimp only; omega))]
      dsimp only
      have hg : getI g.Joins (pre.length : Int) = some x := by rw [← he]; exact getI_mid _ _ _
      rw [hg, w64_succ (by omega)]
      simp -implicitDefEqProofs only [Option.bind_eq_bind, Option.bind_some]
      rw [same2_eq g g wg x, same2_eq o g wo x]
      simp -implicitDefEqProofs only [Option.bind_some]
      by_cases hm : cntJ g g x = cntJ o g x
      · rw [if_neg (by simp only [bne_iff_ne, ne_eq]; unfold cntJ at hm; omega)]
        have := ih (pre ++ [x]) (by rw [← he, List.append_assoc]; rfl)
        rw [snoc_len] at this
        rw [this]
        by_cases hh : ∀ e ∈ post, cntJ g g e = cntJ o g e
        · rw [if_pos hh, if_pos (fun e he => (List.mem_cons.1 he).elim (fun h => h ▸ hm) (hh e))]
        · rw [if_neg hh, if_neg (fun h => hh fun e he => h e (List.mem_cons_of_mem _ he))]
      · rw [if_pos (by simp only [bne_iff_ne, ne_eq]; unfold cntJ at hm; omega), if_neg (fun h => hm (h x List.mem_cons_self))]
  have := key g.Joins [] (List.nil_append _)
  have t0 : (([] : List T_levels_Join).length : Int) = 0 := rfl
  rwa [t0] at this
def sameG (g o : T_levels_Levels) : Prop := g.Joins.length = o.Joins.length ∧ g.Ops.length = o.Ops.length ∧ (∀ e ∈ g.Ops, ∃ e2 ∈ o.Ops, matchO g o e e2) ∧ ∀ e ∈ g.Joins, cntJ g g e = cntJ o g e
theorem levels_Same_eq (g o : T_levels_Levels) (wg : WellG g) (wo : WellG o) : M_levels_Same (g, o) = some (decide (sameG g o)) := by
  unfold M_levels_Same
  dsimp only
  by_cases h1 : g.Joins.length = o.Joins.length
  case neg => rw [if_pos (lenne h1)]; congr 1; exact (decide_eq_false fun h => h1 h.1).symm
  rw [if_neg (leneq h1)]
  by_cases h2 : g.Ops.length = o.Ops.length
  case neg => rw [if_pos (lenne h2)]; congr 1; exact (decide_eq_false fun h => h2 h.2.1).symm
  rw [if_neg (leneq h2), levels_same0 g o wg wo]
  by_cases h3 : ∀ e ∈ g.Ops, ∃ e2 ∈ o.Ops, matchO g o e e2
  case neg => rw [if_neg h3]; simp -implicitDefEqProofs only [Option.bind_eq_bind, Option.bind_some]; congr 1; exact (decide_eq_false fun h => h3 h.2.2.1).symm
  rw [if_pos h3]
  simp -implicitDefEqProofs only [Option.bind_eq_bind, Option.bind_some]
  rw [levels_same1 g o wg wo]
  by_cases h4 : ∀ e ∈ g.Joins, cntJ g g e = cntJ o g e
  case neg => rw [if_neg h4]; simp -implicitDefEqProofs only [Option.bind_some]; congr 1; exact (decide_eq_false fun h => h4 h.2.2.2).symm
  rw [if_pos h4]
  simp -implicitDefEqProofs only [Option.bind_some]
  congr 1
  exact (decide_eq_true (show sameG g o from ⟨h1, h2, h3, h4⟩)).symm
end Go.Proofs.Ytakmilmckdllfaa.G
set_option linter.unusedVariables false
set_option linter.unusedSimpArgs false
namespace Go.Proofs.Ytakmilmckdllfaa.G
open Classical

def keyO (g : T_levels_Levels) (o : T_levels_Op) : Int × Set64 × Set64 × List T_api_Pred := (o.Kind, o.Own, ownOf g o.Home, o.Conj)
def keyJ (g : T_levels_Levels) (j : T_levels_Join) : T_api_Pred × Set64 := (j.Pred, ownOf g j.Home)
/-- Each node with the tables of its home. -/
def taggedS (t : T_api_Tree) (hs : Set64) : List (T_api_Tree × Set64) :=
  match h : t.Kids with
  | [a, b] => taggedS a hs ++ taggedS b (if 1 < t.Kind then tabs b else hs) ++ [(t, hs)]
  | _ => [(t, hs)]
termination_by t.size
decreasing_by
  · exact kid_size (by rw [h]; simp)
  · exact kid_size (by rw [h]; simp)
theorem taggedS2 {t a b : T_api_Tree} (h : t.Kids = [a, b]) (hs : Set64) : taggedS t hs = taggedS a hs ++ taggedS b (if 1 < t.Kind then tabs b else hs) ++ [(t, hs)] := by
  rw [taggedS]
  split
  · rename_i x y e
    rw [h] at e
    injection e with e1 e2
    injection e2 with e2 _
    subst e1; subst e2; rfl
  · rename_i e; exact absurd h (e _ _)
theorem taggedS0 {t : T_api_Tree} (h : t.Kids = []) (hs : Set64) : taggedS t hs = [(t, hs)] := by
  rw [taggedS]
  split
  · rename_i x y e
    rw [h] at e; cases e
  · rfl
def opsK (l : List (T_api_Tree × Set64)) : List (Int × Set64 × Set64 × List T_api_Pred) := (l.filter fun x => decide (1 < x.1.Kind)).map fun x => (x.1.Kind, kid1 x.1, x.2, x.1.Conj)
def joinsK (l : List (T_api_Tree × Set64)) : List (T_api_Pred × Set64) := l.flatMap fun x => if x.1.Kind = 1 then x.1.Conj.map fun p => (p, x.2) else []
theorem opsK_append (l l' : List (T_api_Tree × Set64)) : opsK (l ++ l') = opsK l ++ opsK l' := by unfold opsK; rw [List.filter_append, List.map_append]
theorem joinsK_append (l l' : List (T_api_Tree × Set64)) : joinsK (l ++ l') = joinsK l ++ joinsK l' := by unfold joinsK; rw [List.flatMap_append]
theorem drop_at {α : Type} {l r : List α} {n : Nat} (h : l.length = n) : (l ++ r).drop n = r := by subst h; exact List.drop_left
theorem tagged_S {cols : List Int} (g : T_levels_Levels) (t : T_api_Tree) : OkT cols t → ∀ (off : Nat) (home : Int) (rest : List T_levels_Op), g.Ops.drop off = opsT (tagged t off home) ++ rest →
    (tagged t off home).map (fun x => (x.1, ownOf g x.2)) = taggedS t (ownOf g home) := by
  induction t using T_api_Tree.induct with
  | h t ih =>
    intro ok off home rest hd
    cases ok.self with
    | leaf hk hks => rw [tagged0 hks, taggedS0 hks]; rfl
    | op a b hk1 hk2 hks =>
      have oka : OkT cols a := ok.kid (by rw [hks]; simp)
      have okb : OkT cols b := ok.kid (by rw [hks]; simp)
      have la := opsT_len oka off home
      have lb := opsT_len okb (off + nOut a) (if 1 < t.Kind then ((off + nOut a + nOut b : Nat) : Int) else home)
      rw [tagged2 hks, opsT_append, opsT_append, List.append_assoc, List.append_assoc] at hd
      have hdb : g.Ops.drop (off + nOut a) = opsT (tagged b (off + nOut a) (if 1 < t.Kind then ((off + nOut a + nOut b : Nat) : Int) else home)) ++ (opsT [(t, home)] ++ rest) := by
        rw [← List.drop_drop, hd, drop_at la]
      have hdt : g.Ops.drop (off + nOut a + nOut b) = opsT [(t, home)] ++ rest := by
        rw [← List.drop_drop, hdb, drop_at lb]
      rw [tagged2 hks, taggedS2 hks, List.map_append, List.map_append, ih a (by rw [hks]; simp) oka off home _ hd, ih b (by rw [hks]; simp) okb _ _ _ hdb]
      by_cases e : 1 < t.Kind
      · rw [if_pos e, if_pos e]
        have k2 : opsT [(t, home)] = [mkOp (t, home)] := by simp [opsT, e]
        rw [k2] at hdt
        have hlt : off + nOut a + nOut b < g.Ops.length := by
          rcases Nat.lt_or_ge (off + nOut a + nOut b) g.Ops.length with h | h
          · exact h
          · rw [List.drop_eq_nil_of_le h] at hdt; cases hdt
        have hget : g.Ops[off + nOut a + nOut b] = mkOp (t, home) := by
          rw [List.drop_eq_getElem_cons hlt] at hdt
          injection hdt
        have : ownOf g ((off + nOut a + nOut b : Nat) : Int) = tabs b := by
          unfold ownOf
          rw [if_neg (by omega), Int.toNat_natCast, List.getElem?_eq_getElem hlt, hget]
          exact kid1_eq hks
        rw [this]; rfl
      · rw [if_neg e, if_neg e]; rfl
theorem ownOf_neg (g : T_levels_Levels) : ownOf g (-1) = 0#64 := by unfold ownOf; rw [if_pos (by decide)]
theorem levOf_S {cols : List Int} {t : T_api_Tree} (ok : OkT cols t) : (tagged t 0 (-1)).map (fun x => (x.1, ownOf (levOf t) x.2)) = taggedS t 0#64 := by
  have := tagged_S (levOf t) t ok 0 (-1) [] (by rw [List.drop_zero, List.append_nil]; rfl)
  rw [this, ownOf_neg]
theorem keyO_all {cols : List Int} {t : T_api_Tree} (ok : OkT cols t) : (levOf t).Ops.map (keyO (levOf t)) = opsK (taggedS t 0#64) := by
  rw [← levOf_S ok]
  show (opsT (tagged t 0 (-1))).map (keyO (levOf t)) = _
  generalize tagged t 0 (-1) = l
  unfold opsT opsK
  rw [List.filter_map, List.map_map, List.map_map]
  rfl
theorem keyJ_all {cols : List Int} {t : T_api_Tree} (ok : OkT cols t) : (levOf t).Joins.map (keyJ (levOf t)) = joinsK (taggedS t 0#64) := by
  rw [← levOf_S ok]
  show (joinsT (tagged t 0 (-1))).map (keyJ (levOf t)) = _
  generalize tagged t 0 (-1) = l
  induction l with
  | nil => rfl
  | cons x l ih =>
    have e1 : joinsT (x :: l) = (if x.1.Kind = 1 then mkJ x else []) ++ joinsT l := rfl
    have e2 : joinsK ((x :: l).map fun x => (x.1, ownOf (levOf t) x.2)) = (if x.1.Kind = 1 then x.1.Conj.map fun p => (p, ownOf (levOf t) x.2) else []) ++ joinsK (l.map fun x => (x.1, ownOf (levOf t) x.2)) := rfl
    rw [e1, e2, List.map_append, ih]
    congr 1
    split
    · unfold mkJ; rw [List.map_map]; rfl
    · rfl
theorem matchO_iff (g o : T_levels_Levels) (e e2 : T_levels_Op) : matchO g o e e2 ↔ keyO o e2 = keyO g e := by
  unfold matchO keyO
  rw [Prod.mk.injEq, Prod.mk.injEq, Prod.mk.injEq]
theorem matchJ_iff (x g : T_levels_Levels) (e e2 : T_levels_Join) : matchJ x g e e2 ↔ keyJ x e2 = keyJ g e := by
  unfold matchJ keyJ
  rw [Prod.mk.injEq]
theorem cntJ_eq (x g : T_levels_Levels) (e : T_levels_Join) : cntJ x g e = (x.Joins.map (keyJ x)).countP fun k => decide (k = keyJ g e) := by
  rw [List.countP_map]
  unfold cntJ
  congr 1
  funext e2
  exact decide_eq_decide.2 (matchJ_iff x g e e2)
theorem sameG_of {cols : List Int} {t t' : T_api_Tree} (ok : OkT cols t) (ok' : OkT cols t') (h1 : (opsK (taggedS t 0#64)).length = (opsK (taggedS t' 0#64)).length) (h2 : ∀ k ∈ opsK (taggedS t 0#64), k ∈ opsK (taggedS t' 0#64))
    (h3 : (joinsK (taggedS t 0#64)).length = (joinsK (taggedS t' 0#64)).length) (h4 : ∀ k, (joinsK (taggedS t 0#64)).countP (fun x => decide (x = k)) = (joinsK (taggedS t' 0#64)).countP (fun x => decide (x = k))) : sameG (levOf t) (levOf t') := by
  rw [← keyO_all ok, ← keyO_all ok'] at h1 h2
  rw [← keyJ_all ok, ← keyJ_all ok'] at h3 h4
  rw [List.length_map, List.length_map] at h1 h3
  refine ⟨h3, h1, fun e he => ?_, fun e he => ?_⟩
  · obtain ⟨e2, h, hk⟩ := List.mem_map.1 (h2 _ (List.mem_map_of_mem he))
    exact ⟨e2, h, (matchO_iff _ _ _ _).2 hk⟩
  · rw [cntJ_eq, cntJ_eq]; exact h4 _
theorem sameG_not {cols : List Int} {t t' : T_api_Tree} (ok : OkT cols t) (ok' : OkT cols t') (k) (hk : k ∈ opsK (taggedS t 0#64)) (hk' : k ∉ opsK (taggedS t' 0#64)) : ¬ sameG (levOf t) (levOf t') := by
  intro h
  rw [← keyO_all ok] at hk
  rw [← keyO_all ok'] at hk'
  obtain ⟨e, he, rfl⟩ := List.mem_map.1 hk
  obtain ⟨e2, h2, hm⟩ := h.2.2.1 e he
  exact hk' (List.mem_map.2 ⟨e2, h2, (matchO_iff _ _ _ _).1 hm⟩)
/- The parts of a node. -/
def nodeO (t : T_api_Tree) (b : T_api_Tree) (hs : Set64) : List (Int × Set64 × Set64 × List T_api_Pred) := if 1 < t.Kind then [(t.Kind, tabs b, hs, t.Conj)] else []
def nodeJ (t : T_api_Tree) (hs : Set64) : List (T_api_Pred × Set64) := if t.Kind = 1 then t.Conj.map fun p => (p, hs) else []
theorem opsK2 {t a b : T_api_Tree} (h : t.Kids = [a, b]) (hs : Set64) : opsK (taggedS t hs) = opsK (taggedS a hs) ++ opsK (taggedS b (if 1 < t.Kind then tabs b else hs)) ++ nodeO t b hs := by
  rw [taggedS2 h, opsK_append, opsK_append]
  congr 1
  unfold opsK nodeO
  by_cases e : 1 < t.Kind
  · rw [List.filter_cons_of_pos (by simpa using e), if_pos e]; simp [kid1_eq h]
  · rw [List.filter_cons_of_neg (by simpa using e), if_neg e]; rfl
theorem joinsK2 {t a b : T_api_Tree} (h : t.Kids = [a, b]) (hs : Set64) : joinsK (taggedS t hs) = joinsK (taggedS a hs) ++ joinsK (taggedS b (if 1 < t.Kind then tabs b else hs)) ++ nodeJ t hs := by
  rw [taggedS2 h, joinsK_append, joinsK_append]
  congr 1
  unfold joinsK nodeJ
  simp
/-- The tables of what lies on the right of an outer node of a tree are tables of the tree, and not all. -/
theorem opsK_own {cols : List Int} (t : T_api_Tree) : OkT cols t → ∀ hs, ∀ k ∈ opsK (taggedS t hs), k.2.1 ∈ ownsL t.tour := by
  induction t using T_api_Tree.induct with
  | h t ih =>
    intro ok hs k hk
    cases ok.self with
    | leaf hk0 hks =>
      rw [taggedS0 hks] at hk
      simp [opsK, hk0] at hk
    | op a b hk1 hk2 hks =>
      rw [opsK2 hks, List.mem_append, List.mem_append] at hk
      rw [tour2 hks, ownsL_append, ownsL_append, List.mem_append, List.mem_append]
      rcases hk with (hk | hk) | hk
      · exact .inl (.inl (ih a (by rw [hks]; simp) (ok.kid (by rw [hks]; simp)) _ k hk))
      · exact .inl (.inr (ih b (by rw [hks]; simp) (ok.kid (by rw [hks]; simp)) _ k hk))
      · refine .inr ?_
        rw [ownsL1 hks]
        unfold nodeO at hk
        split at hk
        · rename_i e
          have hk : k = (t.Kind, tabs b, hs, t.Conj) := by simpa using hk
          rw [if_pos e, hk]; simp
        · cases hk
end Go.Proofs.Ytakmilmckdllfaa.G
set_option linter.unusedVariables false
set_option linter.unusedSimpArgs false
set_option maxRecDepth 100000
namespace Go.Proofs.Ytakmilmckdllfaa.G
theorem lok_134 : (Try.f134.body.isSome && !(Try.f134.name == "runtime.NumGoroutine") && okL (bodyF Try.f134) Try.f134.ntmps (bodyF Try.f134)) = true := by kernel_rfl
def M_ref17_op (x : Int) : Option (Bool) :=
  if (x == 1) = true then
    some true
  else
    if (x == 2) = true then
      some true
    else
      if (x == 3) = true then
        some true
      else
        some (x == 4)
theorem M_ref17_op.w : ∀ (x : Int) (r : Bool), M_ref17_op x = some r → (fun (x : Int) (r : Bool) => Fn Try.prog 134 [.i64 x] (.bool r)) x r := by
  intro x r h
  rw [M_ref17_op] at h
  try dsimp only
  refine Fn.of_lc mix fn_134 lok_134 (by rfl) (flC (.atom _) (flN)) (.atom _) ?_
  simp -implicitDefEqProofs only [go_sem, Try.f134]
  by_cases h1 : (x == 1) = true
  · replace h := ite_some h h1
    try simp -implicitDefEqProofs only [go_sem, h1]
    injection h with h; subst h
    first | rfl | (simp -implicitDefEqProofs only [go_sem, h1] <;> rfl)
  · replace h := ite_none h h1; replace h1 := bfalse h1
    try simp -implicitDefEqProofs only [go_sem, h1]
    by_cases h2 : (x == 2) = true
    · replace h := ite_some h h2
      try simp -implicitDefEqProofs only [go_sem, h1, h2]
      injection h with h; subst h
      first | rfl | (simp -implicitDefEqProofs only [go_sem, h1, h2] <;> rfl)
    · replace h := ite_none h h2; replace h2 := bfalse h2
      try simp -implicitDefEqProofs only [go_sem, h1, h2]
      by_cases h3 : (x == 3) = true
      · replace h := ite_some h h3
        try simp -implicitDefEqProofs only [go_sem, h1, h2, h3]
        injection h with h; subst h
        first | rfl | (simp -implicitDefEqProofs only [go_sem, h1, h2, h3] <;> rfl)
      · replace h := ite_none h h3; replace h3 := bfalse h3
        try simp -implicitDefEqProofs only [go_sem, h1, h2, h3]
        injection h with h; subst h
        first | rfl | (simp -implicitDefEqProofs only [go_sem, h1, h2, h3] <;> rfl)
end Go.Proofs.Ytakmilmckdllfaa.G
set_option linter.unusedVariables false
set_option linter.unusedSimpArgs false
set_option maxRecDepth 100000
namespace Go.Proofs.Ytakmilmckdllfaa.G
theorem lok_97 : (Try.f97.body.isSome && !(Try.f97.name == "runtime.NumGoroutine") && okL (bodyF Try.f97) Try.f97.ntmps (bodyF Try.f97)) = true := by kernel_rfl
def M_ref17_May (x : Int × Int × Int) : Option (Bool) :=
  if (x.1 == 1) = true then
    some (x.2.1 == 1)
  else
    if (x.1 == 2) = true then
      if (x.2.1 == 1) = true then
        M_ref17_op x.2.2 >>= fun r4 =>
        if r4 = true then
          some true
        else
          some false
      else
        if (x.2.1 == 2) = true then
          some (x.2.2 == 2)
        else
          some false
    else
      if (x.1 == 3) = true then
        if (x.2.1 == 1) = true then
          M_ref17_op x.2.2 >>= fun r11 =>
          if r11 = true then
            some true
          else
            some false
        else
          if (x.2.1 == 2) = true then
            some (x.2.2 == 2)
          else
            some false
      else
        if (x.1 == 4) = true then
          M_ref17_op x.2.1 >>= fun r17 =>
          if r17 = true then
            M_ref17_op x.2.2 >>= fun r20 =>
            some r20
          else
            some false
        else
          if (x.1 == 5) = true then
            if (x.2.1 == 1) = true then
              some (x.2.2 == 1)
            else
              some false
          else
            some false
theorem M_ref17_May.w : ∀ (x : Int × Int × Int) (r : Bool), M_ref17_May x = some r → (fun (x : Int × Int × Int) (r : Bool) => Fn Try.prog 97 [.i64 x.1, .i64 x.2.1, .i64 x.2.2] (.bool r)) x r := by
  intro x r h
  rw [M_ref17_May] at h
  try dsimp only
  refine Fn.of_lc mix fn_97 lok_97 (by rfl) (flC (.atom _) (flC (.atom _) (flC (.atom _) (flN)))) (.atom _) ?_
  simp -implicitDefEqProofs only [go_sem, Try.f97]
  by_cases h1 : (x.1 == 1) = true
  · replace h := ite_some h h1
    try simp -implicitDefEqProofs only [go_sem, h1]
    injection h with h; subst h
    first | rfl | (simp -implicitDefEqProofs only [go_sem, h1] <;> rfl)
  · replace h := ite_none h h1; replace h1 := bfalse h1
    try simp -implicitDefEqProofs only [go_sem, h1]
    by_cases h2 : (x.1 == 2) = true
    · replace h := ite_some h h2
      try simp -implicitDefEqProofs only [go_sem, h1, h2]
      by_cases h3 : (x.2.1 == 1) = true
      · replace h := ite_some h h3
        try simp -implicitDefEqProofs only [go_sem, h1, h2, h3]
        obtain ⟨r4, h5, h⟩ := bind_some' h
        refine .plain _ _ rfl (M_ref17_op.w x.2.2 _ h5) ?_
        try simp -implicitDefEqProofs only [go_sem, h1, h2, h3]
        by_cases h6 : r4 = true
        · replace h := ite_some h h6
          try simp -implicitDefEqProofs only [go_sem, h1, h2, h3, h6]
          injection h with h; subst h
          first | rfl | (simp -implicitDefEqProofs only [go_sem, h1, h2, h3, h6] <;> rfl)
        · replace h := ite_none h h6; replace h6 := bfalse h6
          try simp -implicitDefEqProofs only [go_sem, h1, h2, h3, h6]
          have h7 : (x.2.1 == 2) = false := by rw [eqbI h3]; rfl
          try simp -implicitDefEqProofs only [go_sem, h1, h2, h3, h6, h7]
          injection h with h; subst h
          first | rfl | (simp -implicitDefEqProofs only [go_sem, h1, h2, h3, h6, h7] <;> rfl)
      · replace h := ite_none h h3; replace h3 := bfalse h3
        try simp -implicitDefEqProofs only [go_sem, h1, h2, h3]
        by_cases h8 : (x.2.1 == 2) = true
        · replace h := ite_some h h8
          try simp -implicitDefEqProofs only [go_sem, h1, h2, h3, h8]
          injection h with h; subst h
          first | rfl | (simp -implicitDefEqProofs only [go_sem, h1, h2, h3, h8] <;> rfl)
        · replace h := ite_none h h8; replace h8 := bfalse h8
          try simp -implicitDefEqProofs only [go_sem, h1, h2, h3, h8]
          injection h with h; subst h
          first | rfl | (simp -implicitDefEqProofs only [go_sem, h1, h2, h3, h8] <;> rfl)
    · replace h := ite_none h h2; replace h2 := bfalse h2
      try simp -implicitDefEqProofs only [go_sem, h1, h2]
      by_cases h9 : (x.1 == 3) = true
      · replace h := ite_some h h9
        try simp -implicitDefEqProofs only [go_sem, h1, h2, h9]
        by_cases h10 : (x.2.1 == 1) = true
        · replace h := ite_some h h10
          try simp -implicitDefEqProofs only [go_sem, h1, h2, h9, h10]
          obtain ⟨r11, h12, h⟩ := bind_some' h
          refine .plain _ _ rfl (M_ref17_op.w x.2.2 _ h12) ?_
          try simp -implicitDefEqProofs only [go_sem, h1, h2, h9, h10]
          by_cases h13 : r11 = true
          · replace h := ite_some h h13
            try simp -implicitDefEqProofs only [go_sem, h1, h2, h9, h10, h13]
            injection h with h; subst h
            first | rfl | (simp -implicitDefEqProofs only [go_sem, h1, h2, h9, h10, h13] <;> rfl)
          · replace h := ite_none h h13; replace h13 := bfalse h13
            try simp -implicitDefEqProofs only [go_sem, h1, h2, h9, h10, h13]
            have h14 : (x.2.1 == 2) = false := by rw [eqbI h10]; rfl
            try simp -implicitDefEqProofs only [go_sem, h1, h2, h9, h10, h13, h14]
            injection h with h; subst h
            first | rfl | (simp -implicitDefEqProofs only [go_sem, h1, h2, h9, h10, h13, h14] <;> rfl)
        · replace h := ite_none h h10; replace h10 := bfalse h10
          try simp -implicitDefEqProofs only [go_sem, h1, h2, h9, h10]
          by_cases h15 : (x.2.1 == 2) = true
          · replace h := ite_some h h15
            try simp -implicitDefEqProofs only [go_sem, h1, h2, h9, h10, h15]
            injection h with h; subst h
            first | rfl | (simp -implicitDefEqProofs only [go_sem, h1, h2, h9, h10, h15] <;> rfl)
          · replace h := ite_none h h15; replace h15 := bfalse h15
            try simp -implicitDefEqProofs only [go_sem, h1, h2, h9, h10, h15]
            injection h with h; subst h
            first | rfl | (simp -implicitDefEqProofs only [go_sem, h1, h2, h9, h10, h15] <;> rfl)
      · replace h := ite_none h h9; replace h9 := bfalse h9
        try simp -implicitDefEqProofs only [go_sem, h1, h2, h9]
        by_cases h16 : (x.1 == 4) = true
        · replace h := ite_some h h16
          try simp -implicitDefEqProofs only [go_sem, h1, h2, h9, h16]
          obtain ⟨r17, h18, h⟩ := bind_some' h
          refine .plain _ _ rfl (M_ref17_op.w x.2.1 _ h18) ?_
          try simp -implicitDefEqProofs only [go_sem, h1, h2, h9, h16]
          by_cases h19 : r17 = true
          · replace h := ite_some h h19
            try simp -implicitDefEqProofs only [go_sem, h1, h2, h9, h16, h19]
            obtain ⟨r20, h21, h⟩ := bind_some' h
            refine .plain _ _ rfl (M_ref17_op.w x.2.2 _ h21) ?_
            try simp -implicitDefEqProofs only [go_sem, h1, h2, h9, h16, h19]
            injection h with h; subst h
            first | rfl | (simp -implicitDefEqProofs only [go_sem, h1, h2, h9, h16, h19] <;> rfl)
          · replace h := ite_none h h19; replace h19 := bfalse h19
            try simp -implicitDefEqProofs only [go_sem, h1, h2, h9, h16, h19]
            injection h with h; subst h
            first | rfl | (simp -implicitDefEqProofs only [go_sem, h1, h2, h9, h16, h19] <;> rfl)
        · replace h := ite_none h h16; replace h16 := bfalse h16
          try simp -implicitDefEqProofs only [go_sem, h1, h2, h9, h16]
          by_cases h22 : (x.1 == 5) = true
          · replace h := ite_some h h22
            try simp -implicitDefEqProofs only [go_sem, h1, h2, h9, h16, h22]
            by_cases h23 : (x.2.1 == 1) = true
            · replace h := ite_some h h23
              try simp -implicitDefEqProofs only [go_sem, h1, h2, h9, h16, h22, h23]
              injection h with h; subst h
              first | rfl | (simp -implicitDefEqProofs only [go_sem, h1, h2, h9, h16, h22, h23] <;> rfl)
            · replace h := ite_none h h23; replace h23 := bfalse h23
              try simp -implicitDefEqProofs only [go_sem, h1, h2, h9, h16, h22, h23]
              injection h with h; subst h
              first | rfl | (simp -implicitDefEqProofs only [go_sem, h1, h2, h9, h16, h22, h23] <;> rfl)
          · replace h := ite_none h h22; replace h22 := bfalse h22
            try simp -implicitDefEqProofs only [go_sem, h1, h2, h9, h16, h22]
            injection h with h; subst h
            first | rfl | (simp -implicitDefEqProofs only [go_sem, h1, h2, h9, h16, h22] <;> rfl)
end Go.Proofs.Ytakmilmckdllfaa.G
set_option linter.unusedVariables false
set_option linter.unusedSimpArgs false
set_option maxRecDepth 100000
namespace Go.Proofs.Ytakmilmckdllfaa.G
theorem lok_135 : (Try.f135.body.isSome && !(Try.f135.name == "runtime.NumGoroutine") && okL (bodyF Try.f135) Try.f135.ntmps (bodyF Try.f135)) = true := by kernel_rfl
def M_ref17_Named.l0 (x : Set64 × Int × T_api_Tree) : Option (Set64) :=
  if (decide (x.2.1 < (x.2.2.Conj.length : Int))) = true then
    (getI x.2.2.Conj x.2.1) >>= fun (e2 : T_api_Pred) =>
    M_ref06_Tables e2 >>= fun r4 =>
    M_ref17_Named.l0 ((x.1 ||| r4), (w64 (x.2.1 + 1)), x.2.2)
  else
    some x.1
  partial_fixpoint
theorem M_ref17_Named.l0.ws : (∀ (x : Set64 × Int × T_api_Tree) (o : Set64), M_ref17_Named.l0 x = some o → (fun (x : Set64 × Int × T_api_Tree) (o : Set64) => ∀ (lo : Option Nat) (c : LCtx) (Q : Exit → LEnv → Prop) (hb : ∀ s : Set64, o = s → Q (.exit 0) ⟨[(3, .v (.w s))], []⟩), LLoop Try.prog 135 lo c 0 (VQ Q) ⟨[(1, .lref 1 0), (3, .v (.w x.1)), (4, .v (.i64 x.2.1))], [(1, [.v (.i64 x.2.2.Kind), .v (.i64 x.2.2.Table), .v (.slice .foreign (x.2.2.Kids.map T_api_Tree.av)), .v (.slice .foreign (x.2.2.Conj.map T_api_Pred.av)), .v (.bool x.2.2.Hash)])]⟩) x o) := by
  refine M_ref17_Named.l0.partial_correctness _ ?_
  · intro M_M_ref17_Named_l0 ih_M_ref17_Named_l0 x o h
    intro lo c Q hb
    refine LLoop.step mix fn_135 (by kernel_rfl) ?_
    simp -implicitDefEqProofs only [go_sem, Try.f135]
    by_cases h1 : (decide (x.2.1 < (x.2.2.Conj.length : Int))) = true
    · replace h := ite_some h h1
      try simp -implicitDefEqProofs only [go_sem, h1]
      obtain ⟨e2, h3, h⟩ := bind_some' h; replace h3 := getI_some h3; obtain ⟨h3', h3⟩ := h3
      try simp -implicitDefEqProofs only [go_sem, h1, h3, h3']
      obtain ⟨r4, h5, h⟩ := bind_some' h
      refine .plain _ _ rfl (M_ref06_Tables.w e2 _ h5) ?_
      try simp -implicitDefEqProofs only [go_sem, h1, h3, h3']
      exact LLoop.view [] (by (first | rfl | (simp -implicitDefEqProofs only [go_sem, h1, h3, h3'] <;> rfl))) (ih_M_ref17_Named_l0 _ _ h lo c Q hb)
    · replace h := ite_none h h1; replace h1 := bfalse h1
      try simp -implicitDefEqProofs only [go_sem, h1]
      injection h with h; subst h
      exact .inr ⟨[], _, by (simp -implicitDefEqProofs only [go_sem, h1] <;> first | done | rfl | trivial), hb _ rfl⟩
theorem M_ref17_Named.l0.w : type_of% (M_ref17_Named.l0.ws) := M_ref17_Named.l0.ws
def M_ref17_Named (x : T_api_Tree) : Option (Set64) :=
  M_ref17_Named.l0 (0#64, 0, x) >>= fun (o6 : Set64) =>
  some o6
theorem M_ref17_Named.w : ∀ (x : T_api_Tree) (r : Set64), M_ref17_Named x = some r → (fun (x : T_api_Tree) (r : Set64) => Fn Try.prog 135 [.agg (T_api_Tree.C x)] (.w r)) x r := by
  intro x r h
  rw [M_ref17_Named] at h
  try dsimp only
  refine Fn.of_lc mix fn_135 lok_135 (by rfl) (flC (T_api_Tree.flatC _) (flN)) (.atom _) ?_
  simp -implicitDefEqProofs only [go_sem, Try.f135]
  obtain ⟨o6, h7, h⟩ := bind_some' h
  refine LLoop.viewQ (LLoop.view [] (by (first | rfl | (simp -implicitDefEqProofs only [go_sem] <;> rfl))) (M_ref17_Named.l0.w (0#64, 0, x) _ h7 _ _ _ ?_))
  intro s' hs'; subst hs'
  try simp -implicitDefEqProofs only [go_sem]
  injection h with h; subst h
  first | rfl | (simp -implicitDefEqProofs only [go_sem] <;> rfl)
end Go.Proofs.Ytakmilmckdllfaa.G
set_option linter.unusedVariables false
set_option linter.unusedSimpArgs false
set_option maxRecDepth 100000
namespace Go.Proofs.Ytakmilmckdllfaa.G
@[go_sem] theorem lrp_99_1 : lrp Try.prog 99 1 = (7, []) := by kernel_rfl
theorem lok_99 : (Try.f99.body.isSome && !(Try.f99.name == "runtime.NumGoroutine") && okL (bodyF Try.f99) Try.f99.ntmps (bodyF Try.f99)) = true := by kernel_rfl
def M_ref17_apart (x : T_api_Tree × T_api_Tree) : Option (Bool) :=
  M_ref17_Named x.1 >>= fun r1 =>
  M_ref10_Tables x.2 >>= fun r3 =>
  some ((r1 &&& r3) == 0#64)
theorem M_ref17_apart.w : ∀ (x : T_api_Tree × T_api_Tree) (r : Bool), M_ref17_apart x = some r → (fun (x : T_api_Tree × T_api_Tree) (r : Bool) => Fn Try.prog 99 [.agg (T_api_Tree.C x.1), .agg (T_api_Tree.C x.2)] (.bool r)) x r := by
  intro x r h
  rw [M_ref17_apart] at h
  try dsimp only
  refine Fn.of_lc mix fn_99 lok_99 (by rfl) (flC (T_api_Tree.flatC _) (flC (T_api_Tree.flatC _) (flN))) (.atom _) ?_
  simp -implicitDefEqProofs only [go_sem, Try.f99]
  obtain ⟨r1, h2, h⟩ := bind_some' h
  refine .plain _ _ rfl (M_ref17_Named.w x.1 _ h2) ?_
  try simp -implicitDefEqProofs only [go_sem]
  obtain ⟨r3, h4, h⟩ := bind_some' h
  refine .plain _ _ rfl (M_ref10_Tables.w x.2 _ h4) ?_
  try simp -implicitDefEqProofs only [go_sem]
  injection h with h; subst h
  first | rfl | (simp -implicitDefEqProofs only [go_sem] <;> rfl)
end Go.Proofs.Ytakmilmckdllfaa.G
set_option linter.unusedVariables false
set_option linter.unusedSimpArgs false
set_option maxRecDepth 100000
namespace Go.Proofs.Ytakmilmckdllfaa.G
theorem lok_185 : (Try.f185.body.isSome && !(Try.f185.name == "runtime.NumGoroutine") && okL (bodyF Try.f185) Try.f185.ntmps (bodyF Try.f185)) = true := by kernel_rfl
def M_ref03_truth (x : Bool) : Option (Int) :=
  if x = true then
    some 2
  else
    some 0
theorem M_ref03_truth.w : ∀ (x : Bool) (r : Int), M_ref03_truth x = some r → (fun (x : Bool) (r : Int) => Fn Try.prog 185 [.bool x] (.i64 r)) x r := by
  intro x r h
  rw [M_ref03_truth] at h
  try dsimp only
  refine Fn.of_lc mix fn_185 lok_185 (by rfl) (flC (.atom _) (flN)) (.atom _) ?_
  simp -implicitDefEqProofs only [go_sem, Try.f185]
  by_cases h1 : x = true
  · replace h := ite_some h h1
    try simp -implicitDefEqProofs only [go_sem, h1]
    injection h with h; subst h
    first | rfl | simp -implicitDefEqProofs only [go_sem, h1] <;> rfl
  · replace h := ite_none h h1; replace h1 := bfalse h1
    try simp -implicitDefEqProofs only [go_sem, h1]
    injection h with h; subst h
    first | rfl | simp -implicitDefEqProofs only [go_sem, h1] <;> rfl
end Go.Proofs.Ytakmilmckdllfaa.G
set_option linter.unusedVariables false
set_option linter.unusedSimpArgs false
set_option maxRecDepth 100000
namespace Go.Proofs.Ytakmilmckdllfaa.G
theorem lok_183 : (Try.f183.body.isSome && !(Try.f183.name == "runtime.NumGoroutine") && okL (bodyF Try.f183) Try.f183.ntmps (bodyF Try.f183)) = true := by kernel_rfl
def M_ref03_Compare (x : Int × T_api_Value × T_api_Value) : Option (Int) :=
  if x.2.1.Null = true then
    some 1
  else
    if x.2.2.Null = true then
      some 1
    else
      if (x.1 == 1) = true then
        M_ref03_truth (x.2.1.N == x.2.2.N) >>= fun r4 =>
        some r4
      else
        if (x.1 == 2) = true then
          M_ref03_truth (x.2.1.N != x.2.2.N) >>= fun r7 =>
          some r7
        else
          if (x.1 == 3) = true then
            M_ref03_truth (decide (x.2.1.N < x.2.2.N)) >>= fun r10 =>
            some r10
          else
            if (x.1 == 4) = true then
              M_ref03_truth (decide (x.2.1.N ≤ x.2.2.N)) >>= fun r13 =>
              some r13
            else
              if (x.1 == 5) = true then
                M_ref03_truth (decide (x.2.1.N > x.2.2.N)) >>= fun r16 =>
                some r16
              else
                if (x.1 == 6) = true then
                  M_ref03_truth (decide (x.2.1.N ≥ x.2.2.N)) >>= fun r19 =>
                  some r19
                else
                  some 1
theorem M_ref03_Compare.w : ∀ (x : Int × T_api_Value × T_api_Value) (r : Int), M_ref03_Compare x = some r → (fun (x : Int × T_api_Value × T_api_Value) (r : Int) => Fn Try.prog 183 [.i64 x.1, .agg (T_api_Value.C x.2.1), .agg (T_api_Value.C x.2.2)] (.i64 r)) x r := by
  intro x r h
  rw [M_ref03_Compare] at h
  try dsimp only
  refine Fn.of_lc mix fn_183 lok_183 (by rfl) (flC (.atom _) (flC (T_api_Value.flatC _) (flC (T_api_Value.flatC _) (flN)))) (.atom _) ?_
  simp -implicitDefEqProofs only [go_sem, Try.f183]
  by_cases h1 : x.2.1.Null = true
  · replace h := ite_some h h1
    try simp -implicitDefEqProofs only [go_sem, h1]
    injection h with h; subst h
    first | rfl | simp -implicitDefEqProofs only [go_sem, h1] <;> rfl
  · replace h := ite_none h h1; replace h1 := bfalse h1
    try simp -implicitDefEqProofs only [go_sem, h1]
    by_cases h2 : x.2.2.Null = true
    · replace h := ite_some h h2
      try simp -implicitDefEqProofs only [go_sem, h1, h2]
      injection h with h; subst h
      first | rfl | simp -implicitDefEqProofs only [go_sem, h1, h2] <;> rfl
    · replace h := ite_none h h2; replace h2 := bfalse h2
      try simp -implicitDefEqProofs only [go_sem, h1, h2]
      by_cases h3 : (x.1 == 1) = true
      · replace h := ite_some h h3
        try simp -implicitDefEqProofs only [go_sem, h1, h2, h3]
        obtain ⟨r4, h5, h⟩ := bind_some' h
        refine .plain _ _ rfl (M_ref03_truth.w (x.2.1.N == x.2.2.N) _ h5) ?_
        try simp -implicitDefEqProofs only [go_sem, h1, h2, h3]
        injection h with h; subst h
        first | rfl | simp -implicitDefEqProofs only [go_sem, h1, h2, h3] <;> rfl
      · replace h := ite_none h h3; replace h3 := bfalse h3
        try simp -implicitDefEqProofs only [go_sem, h1, h2, h3]
        by_cases h6 : (x.1 == 2) = true
        · replace h := ite_some h h6
          try simp -implicitDefEqProofs only [go_sem, h1, h2, h3, h6]
          obtain ⟨r7, h8, h⟩ := bind_some' h
          refine .plain _ _ rfl (M_ref03_truth.w (x.2.1.N != x.2.2.N) _ h8) ?_
          try simp -implicitDefEqProofs only [go_sem, h1, h2, h3, h6]
          injection h with h; subst h
          first | rfl | simp -implicitDefEqProofs only [go_sem, h1, h2, h3, h6] <;> rfl
        · replace h := ite_none h h6; replace h6 := bfalse h6
          try simp -implicitDefEqProofs only [go_sem, h1, h2, h3, h6]
          by_cases h9 : (x.1 == 3) = true
          · replace h := ite_some h h9
            try simp -implicitDefEqProofs only [go_sem, h1, h2, h3, h6, h9]
            obtain ⟨r10, h11, h⟩ := bind_some' h
            refine .plain _ _ rfl (M_ref03_truth.w (decide (x.2.1.N < x.2.2.N)) _ h11) ?_
            try simp -implicitDefEqProofs only [go_sem, h1, h2, h3, h6, h9]
            injection h with h; subst h
            first | rfl | simp -implicitDefEqProofs only [go_sem, h1, h2, h3, h6, h9] <;> rfl
          · replace h := ite_none h h9; replace h9 := bfalse h9
            try simp -implicitDefEqProofs only [go_sem, h1, h2, h3, h6, h9]
            by_cases h12 : (x.1 == 4) = true
            · replace h := ite_some h h12
              try simp -implicitDefEqProofs only [go_sem, h1, h2, h3, h6, h9, h12]
              obtain ⟨r13, h14, h⟩ := bind_some' h
              refine .plain _ _ rfl (M_ref03_truth.w (decide (x.2.1.N ≤ x.2.2.N)) _ h14) ?_
              try simp -implicitDefEqProofs only [go_sem, h1, h2, h3, h6, h9, h12]
              injection h with h; subst h
              first | rfl | simp -implicitDefEqProofs only [go_sem, h1, h2, h3, h6, h9, h12] <;> rfl
            · replace h := ite_none h h12; replace h12 := bfalse h12
              try simp -implicitDefEqProofs only [go_sem, h1, h2, h3, h6, h9, h12]
              by_cases h15 : (x.1 == 5) = true
              · replace h := ite_some h h15
                try simp -implicitDefEqProofs only [go_sem, h1, h2, h3, h6, h9, h12, h15]
                obtain ⟨r16, h17, h⟩ := bind_some' h
                refine .plain _ _ rfl (M_ref03_truth.w (decide (x.2.1.N > x.2.2.N)) _ h17) ?_
                try simp -implicitDefEqProofs only [go_sem, h1, h2, h3, h6, h9, h12, h15]
                injection h with h; subst h
                first | rfl | simp -implicitDefEqProofs only [go_sem, h1, h2, h3, h6, h9, h12, h15] <;> rfl
              · replace h := ite_none h h15; replace h15 := bfalse h15
                try simp -implicitDefEqProofs only [go_sem, h1, h2, h3, h6, h9, h12, h15]
                by_cases h18 : (x.1 == 6) = true
                · replace h := ite_some h h18
                  try simp -implicitDefEqProofs only [go_sem, h1, h2, h3, h6, h9, h12, h15, h18]
                  obtain ⟨r19, h20, h⟩ := bind_some' h
                  refine .plain _ _ rfl (M_ref03_truth.w (decide (x.2.1.N ≥ x.2.2.N)) _ h20) ?_
                  try simp -implicitDefEqProofs only [go_sem, h1, h2, h3, h6, h9, h12, h15, h18]
                  injection h with h; subst h
                  first | rfl | simp -implicitDefEqProofs only [go_sem, h1, h2, h3, h6, h9, h12, h15, h18] <;> rfl
                · replace h := ite_none h h18; replace h18 := bfalse h18
                  try simp -implicitDefEqProofs only [go_sem, h1, h2, h3, h6, h9, h12, h15, h18]
                  injection h with h; subst h
                  first | rfl | simp -implicitDefEqProofs only [go_sem, h1, h2, h3, h6, h9, h12, h15, h18] <;> rfl
end Go.Proofs.Ytakmilmckdllfaa.G
set_option linter.unusedVariables false
set_option linter.unusedSimpArgs false
set_option maxRecDepth 100000
namespace Go.Proofs.Ytakmilmckdllfaa.G
theorem lok_182 : (Try.f182.body.isSome && !(Try.f182.name == "runtime.NumGoroutine") && okL (bodyF Try.f182) Try.f182.ntmps (bodyF Try.f182)) = true := by kernel_rfl
def M_ref07_sure (x : T_api_Term × Set64) : Option (Bool) :=
  if (x.1.Kind == 1) = true then
    M_ref01_Has (x.2, x.1.Table) >>= fun r2 =>
    if r2 = true then
      some true
    else
      some false
  else
    some x.1.Value.Null
theorem M_ref07_sure.w : ∀ (x : T_api_Term × Set64) (r : Bool), M_ref07_sure x = some r → (fun (x : T_api_Term × Set64) (r : Bool) => Fn Try.prog 182 [.agg (T_api_Term.C x.1), .w x.2] (.bool r)) x r := by
  intro x r h
  rw [M_ref07_sure] at h
  try dsimp only
  refine Fn.of_lc mix fn_182 lok_182 (by rfl) (flC (T_api_Term.flatC _) (flC (.atom _) (flN))) (.atom _) ?_
  simp -implicitDefEqProofs only [go_sem, Try.f182]
  by_cases h1 : (x.1.Kind == 1) = true
  · replace h := ite_some h h1
    try simp -implicitDefEqProofs only [go_sem, h1]
    obtain ⟨r2, h3, h⟩ := bind_some' h
    refine .plain _ _ rfl (M_ref01_Has.w (x.2, x.1.Table) _ h3) ?_
    try simp -implicitDefEqProofs only [go_sem, h1]
    by_cases h4 : r2 = true
    · replace h := ite_some h h4
      try simp -implicitDefEqProofs only [go_sem, h1, h4]
      injection h with h; subst h
      first | rfl | simp -implicitDefEqProofs only [go_sem, h1, h4] <;> rfl
    · replace h := ite_none h h4; replace h4 := bfalse h4
      try simp -implicitDefEqProofs only [go_sem, h1, h4]
      have h5 : (x.1.Kind != 1) = false := eqb_t h1
      try simp -implicitDefEqProofs only [go_sem, h1, h4, h5]
      injection h with h; subst h
      first | rfl | simp -implicitDefEqProofs only [go_sem, h1, h4, h5] <;> rfl
  · replace h := ite_none h h1; replace h1 := bfalse h1
    try simp -implicitDefEqProofs only [go_sem, h1]
    have h6 : (x.1.Kind != 1) = true := eqb_f h1
    try simp -implicitDefEqProofs only [go_sem, h1, h6]
    injection h with h; subst h
    first | rfl | simp -implicitDefEqProofs only [go_sem, h1, h6] <;> rfl
end Go.Proofs.Ytakmilmckdllfaa.G
set_option linter.unusedVariables false
set_option linter.unusedSimpArgs false
set_option maxRecDepth 100000
namespace Go.Proofs.Ytakmilmckdllfaa.G
theorem lok_174 : (Try.f174.body.isSome && !(Try.f174.name == "runtime.NumGoroutine") && okL (bodyF Try.f174) Try.f174.ntmps (bodyF Try.f174)) = true := by kernel_rfl
theorem lok_175 : (Try.f175.body.isSome && !(Try.f175.name == "runtime.NumGoroutine") && okL (bodyF Try.f175) Try.f175.ntmps (bodyF Try.f175)) = true := by kernel_rfl
theorem lok_176 : (Try.f176.body.isSome && !(Try.f176.name == "runtime.NumGoroutine") && okL (bodyF Try.f176) Try.f176.ntmps (bodyF Try.f176)) = true := by kernel_rfl
theorem lok_160 : (Try.f160.body.isSome && !(Try.f160.name == "runtime.NumGoroutine") && okL (bodyF Try.f160) Try.f160.ntmps (bodyF Try.f160)) = true := by kernel_rfl
theorem lok_179 : (Try.f179.body.isSome && !(Try.f179.name == "runtime.NumGoroutine") && okL (bodyF Try.f179) Try.f179.ntmps (bodyF Try.f179)) = true := by kernel_rfl
mutual
def M_ref07_all.l0 (x : List T_api_Pred × Set64 × Int) : Option (Lp (Unit) (Bool)) :=
  if (decide (x.2.2 < (x.1.length : Int))) = true then
    (getI x.1 x.2.2) >>= fun (e2 : T_api_Pred) =>
    M_ref07_Is (e2, x.2.1, 0) >>= fun r4 =>
    if r4 = true then
      M_ref07_all.l0 (x.1, x.2.1, (w64 (x.2.2 + 1)))
    else
      M_ref07_Is (e2, x.2.1, 1) >>= fun r7 =>
      if r7 = true then
        M_ref07_all.l0 (x.1, x.2.1, (w64 (x.2.2 + 1)))
      else
        M_ref07_Is (e2, x.2.1, 2) >>= fun r10 =>
        if r10 = true then
          M_ref07_all.l0 (x.1, x.2.1, (w64 (x.2.2 + 1)))
        else
          some (.ret false)
  else
    some (.brk ())
  partial_fixpoint
def M_ref07_Is (x : T_api_Pred × Set64 × Int) : Option (Bool) :=
  if (x.1.Kind == 1) = true then
    if (x.2.2 == x.1.Truth) = true then
      some true
    else
      if (x.2.2 == 1) = true then
        if (decide (x.1.Truth < 0)) = true then
          some true
        else
          some (decide (x.1.Truth > 2))
      else
        some false
  else
    if (x.1.Kind == 2) = true then
      if (decide (x.1.Op < 1)) = true then
        some (x.2.2 == 1)
      else
        if (decide (x.1.Op > 6)) = true then
          some (x.2.2 == 1)
        else
          M_ref07_sure (x.1.A, x.2.1) >>= fun r8 =>
          if r8 = true then
            some (x.2.2 == 1)
          else
            M_ref07_sure (x.1.B, x.2.1) >>= fun r11 =>
            if r11 = true then
              some (x.2.2 == 1)
            else
              if (x.1.A.Kind == 1) = true then
                some true
              else
                if (x.1.B.Kind == 1) = true then
                  some true
                else
                  M_ref03_Compare (x.1.Op, x.1.A.Value, x.1.B.Value) >>= fun r16 =>
                  some (x.2.2 == r16)
    else
      if (x.1.Kind == 3) = true then
        M_ref07_sure (x.1.A, x.2.1) >>= fun r19 =>
        if r19 = true then
          some (x.2.2 == 2)
        else
          if (x.2.2 == 0) = true then
            some true
          else
            if (x.2.2 == 2) = true then
              some (x.1.A.Kind == 1)
            else
              some false
      else
        if (x.1.Kind == 4) = true then
          M_ref07_many (x.1.Parts, x.2.1, x.2.2, 2) >>= fun r25 =>
          some r25
        else
          if (x.1.Kind == 5) = true then
            M_ref07_many (x.1.Parts, x.2.1, x.2.2, 0) >>= fun r28 =>
            some r28
          else
            if (x.1.Kind == 6) = true then
              if (decide ((x.1.Parts.length : Int) > 0)) = true then
                (x.1.Parts[0]?) >>= fun (e32 : T_api_Pred) =>
                M_ref07_Is (e32, x.2.1, (w64 (2 - x.2.2))) >>= fun r34 =>
                some r34
              else
                some (x.2.2 == 1)
            else
              some (x.2.2 == 1)
  partial_fixpoint
def M_ref07_many (x : List T_api_Pred × Set64 × Int × Int) : Option (Bool) :=
  M_ref07_all (x.1, x.2.1) >>= fun r1 =>
  if r1 = true then
    if (x.2.2.1 == x.2.2.2) = true then
      M_ref07_every (x.1, x.2.1, x.2.2.2, x.2.2.2) >>= fun r5 =>
      some r5
    else
      if (x.2.2.1 == 1) = true then
        M_ref07_some (x.1, x.2.1, 1) >>= fun r8 =>
        if r8 = true then
          M_ref07_every (x.1, x.2.1, 1, x.2.2.2) >>= fun r11 =>
          some r11
        else
          some false
      else
        M_ref07_some (x.1, x.2.1, (w64 (2 - x.2.2.2))) >>= fun r13 =>
        some r13
  else
    some false
  partial_fixpoint
def M_ref07_some (x : List T_api_Pred × Set64 × Int) : Option (Bool) :=
  M_ref07_some.l0 (x.1, x.2.1, x.2.2, 0) >>= fun (o7 : Lp (Unit) (Bool)) => match o7 with
  | .brk s10 =>
    some false
  | .ret r9 =>
    some r9
  partial_fixpoint
def M_ref07_some.l0 (x : List T_api_Pred × Set64 × Int × Int) : Option (Lp (Unit) (Bool)) :=
  if (decide (x.2.2.2 < (x.1.length : Int))) = true then
    (getI x.1 x.2.2.2) >>= fun (e2 : T_api_Pred) =>
    M_ref07_Is (e2, x.2.1, x.2.2.1) >>= fun r4 =>
    if r4 = true then
      some (.ret true)
    else
      M_ref07_some.l0 (x.1, x.2.1, x.2.2.1, (w64 (x.2.2.2 + 1)))
  else
    some (.brk ())
  partial_fixpoint
def M_ref07_every (x : List T_api_Pred × Set64 × Int × Int) : Option (Bool) :=
  M_ref07_every.l0 (x.1, x.2.1, x.2.2.1, x.2.2.2, 0) >>= fun (o10 : Lp (Unit) (Bool)) => match o10 with
  | .brk s13 =>
    some true
  | .ret r12 =>
    some r12
  partial_fixpoint
def M_ref07_every.l0 (x : List T_api_Pred × Set64 × Int × Int × Int) : Option (Lp (Unit) (Bool)) :=
  if (decide (x.2.2.2.2 < (x.1.length : Int))) = true then
    (getI x.1 x.2.2.2.2) >>= fun (e2 : T_api_Pred) =>
    M_ref07_Is (e2, x.2.1, x.2.2.1) >>= fun r4 =>
    if r4 = true then
      M_ref07_every.l0 (x.1, x.2.1, x.2.2.1, x.2.2.2.1, (w64 (x.2.2.2.2 + 1)))
    else
      M_ref07_Is (e2, x.2.1, x.2.2.2.1) >>= fun r7 =>
      if r7 = true then
        M_ref07_every.l0 (x.1, x.2.1, x.2.2.1, x.2.2.2.1, (w64 (x.2.2.2.2 + 1)))
      else
        some (.ret false)
  else
    some (.brk ())
  partial_fixpoint
def M_ref07_all (x : List T_api_Pred × Set64) : Option (Bool) :=
  M_ref07_all.l0 (x.1, x.2, 0) >>= fun (o13 : Lp (Unit) (Bool)) => match o13 with
  | .brk s16 =>
    some true
  | .ret r15 =>
    some r15
  partial_fixpoint
end
set_option maxHeartbeats 8000000 in
theorem M_ref07_all.l0.ws : (∀ (x : List T_api_Pred × Set64 × Int) (o : Lp (Unit) (Bool)), M_ref07_all.l0 x = some o → (fun (x : List T_api_Pred × Set64 × Int) (o : Lp (Unit) (Bool)) => ∀ (lo : Option Nat) (c : LCtx) (Q : Exit → LEnv → Prop) (hb : ∀ s : Unit, o = Lp.brk s → Q (.exit 0) ⟨[], []⟩) (hr : ∀ (r : Bool) (L : LEnv), o = .ret r → LPostF Try.prog [.tmp 4] (.bool r) (fun _ => True) .ret L → Q .ret L), LLoop Try.prog 174 lo c 0 (VQ Q) ⟨[(0, .v (.slice .foreign (x.1.map T_api_Pred.av))), (1, .v (.w x.2.1)), (5, .v (.i64 x.2.2))], []⟩) x o) ∧ (∀ (x : T_api_Pred × Set64 × Int) (o : Bool), M_ref07_Is x = some o → (fun (x : T_api_Pred × Set64 × Int) (r : Bool) => Fn Try.prog 179 [.agg (T_api_Pred.C x.1), .w x.2.1, .i64 x.2.2] (.bool r)) x o) ∧ (∀ (x : List T_api_Pred × Set64 × Int × Int) (o : Bool), M_ref07_many x = some o → (fun (x : List T_api_Pred × Set64 × Int × Int) (r : Bool) => Fn Try.prog 160 [.slice .foreign (x.1.map T_api_Pred.av), .w x.2.1, .i64 x.2.2.1, .i64 x.2.2.2] (.bool r)) x o) ∧ (∀ (x : List T_api_Pred × Set64 × Int) (o : Bool), M_ref07_some x = some o → (fun (x : List T_api_Pred × Set64 × Int) (r : Bool) => Fn Try.prog 176 [.slice .foreign (x.1.map T_api_Pred.av), .w x.2.1, .i64 x.2.2] (.bool r)) x o) ∧ (∀ (x : List T_api_Pred × Set64 × Int × Int) (o : Lp (Unit) (Bool)), M_ref07_some.l0 x = some o → (fun (x : List T_api_Pred × Set64 × Int × Int) (o : Lp (Unit) (Bool)) => ∀ (lo : Option Nat) (c : LCtx) (Q : Exit → LEnv → Prop) (hb : ∀ s : Unit, o = Lp.brk s → Q (.exit 0) ⟨[], []⟩) (hr : ∀ (r : Bool) (L : LEnv), o = .ret r → LPostF Try.prog [.tmp 6] (.bool r) (fun _ => True) .ret L → Q .ret L), LLoop Try.prog 176 lo c 0 (VQ Q) ⟨[(0, .v (.slice .foreign (x.1.map T_api_Pred.av))), (1, .v (.w x.2.1)), (2, .v (.i64 x.2.2.1)), (7, .v (.i64 x.2.2.2))], []⟩) x o) ∧ (∀ (x : List T_api_Pred × Set64 × Int × Int) (o : Bool), M_ref07_every x = some o → (fun (x : List T_api_Pred × Set64 × Int × Int) (r : Bool) => Fn Try.prog 175 [.slice .foreign (x.1.map T_api_Pred.av), .w x.2.1, .i64 x.2.2.1, .i64 x.2.2.2] (.bool r)) x o) ∧ (∀ (x : List T_api_Pred × Set64 × Int × Int × Int) (o : Lp (Unit) (Bool)), M_ref07_every.l0 x = some o → (fun (x : List T_api_Pred × Set64 × Int × Int × Int) (o : Lp (Unit) (Bool)) => ∀ (lo : Option Nat) (c : LCtx) (Q : Exit → LEnv → Prop) (hb : ∀ s : Unit, o = Lp.brk s → Q (.exit 0) ⟨[], []⟩) (hr : ∀ (r : Bool) (L : LEnv), o = .ret r → LPostF Try.prog [.tmp 8] (.bool r) (fun _ => True) .ret L → Q .ret L), LLoop Try.prog 175 lo c 0 (VQ Q) ⟨[(0, .v (.slice .foreign (x.1.map T_api_Pred.av))), (1, .v (.w x.2.1)), (2, .v (.i64 x.2.2.1)), (3, .v (.i64 x.2.2.2.1)), (9, .v (.i64 x.2.2.2.2))], []⟩) x o) ∧ (∀ (x : List T_api_Pred × Set64) (o : Bool), M_ref07_all x = some o → (fun (x : List T_api_Pred × Set64) (r : Bool) => Fn Try.prog 174 [.slice .foreign (x.1.map T_api_Pred.av), .w x.2] (.bool r)) x o) := by
  refine M_ref07_all.l0.mutual_partial_correctness _ _ _ _ _ _ _ _ ?_ ?_ ?_ ?_ ?_ ?_ ?_ ?_
  · intro M_M_ref07_all_l0 M_M_ref07_Is ih_M_ref07_all_l0 ih_M_ref07_Is x o h
    intro lo c Q hb hr
    refine LLoop.step mix fn_174 (by kernel_rfl) ?_
    simp -implicitDefEqProofs only [go_sem, Try.f174]
    by_cases h1 : (decide (x.2.2 < (x.1.length : Int))) = true
    · replace h := ite_some h h1
      try simp -implicitDefEqProofs only [go_sem, h1]
      obtain ⟨e2, h3, h⟩ := bind_some' h; replace h3 := getI_some h3; obtain ⟨h3', h3⟩ := h3
      try simp -implicitDefEqProofs only [go_sem, h1, h3, h3']
      obtain ⟨r4, h5, h⟩ := bind_some' h
      refine .plain _ _ rfl (ih_M_ref07_Is (e2, x.2.1, 0) _ h5) ?_
      try simp -implicitDefEqProofs only [go_sem, h1, h3, h3']
      by_cases h6 : r4 = true
      · replace h := ite_some h h6
        try simp -implicitDefEqProofs only [go_sem, h1, h3, h3', h6]
        exact LLoop.view [] (by (first | rfl | simp -implicitDefEqProofs only [go_sem, h1, h3, h3', h6] <;> rfl)) (ih_M_ref07_all_l0 _ _ h lo c Q hb hr)
      · replace h := ite_none h h6; replace h6 := bfalse h6
        try simp -implicitDefEqProofs only [go_sem, h1, h3, h3', h6]
        obtain ⟨r7, h8, h⟩ := bind_some' h
        refine .plain _ _ rfl (ih_M_ref07_Is (e2, x.2.1, 1) _ h8) ?_
        try simp -implicitDefEqProofs only [go_sem, h1, h3, h3', h6]
        by_cases h9 : r7 = true
        · replace h := ite_some h h9
          try simp -implicitDefEqProofs only [go_sem, h1, h3, h3', h6, h9]
          exact LLoop.view [] (by (first | rfl | simp -implicitDefEqProofs only [go_sem, h1, h3, h3', h6, h9] <;> rfl)) (ih_M_ref07_all_l0 _ _ h lo c Q hb hr)
        · replace h := ite_none h h9; replace h9 := bfalse h9
          try simp -implicitDefEqProofs only [go_sem, h1, h3, h3', h6, h9]
          obtain ⟨r10, h11, h⟩ := bind_some' h
          refine .plain _ _ rfl (ih_M_ref07_Is (e2, x.2.1, 2) _ h11) ?_
          try simp -implicitDefEqProofs only [go_sem, h1, h3, h3', h6, h9]
          by_cases h12 : r10 = true
          · replace h := ite_some h h12
            try simp -implicitDefEqProofs only [go_sem, h1, h3, h3', h6, h9, h12]
            exact LLoop.view [] (by (first | rfl | simp -implicitDefEqProofs only [go_sem, h1, h3, h3', h6, h9, h12] <;> rfl)) (ih_M_ref07_all_l0 _ _ h lo c Q hb hr)
          · replace h := ite_none h h12; replace h12 := bfalse h12
            try simp -implicitDefEqProofs only [go_sem, h1, h3, h3', h6, h9, h12]
            injection h with h; subst h
            exact .inl (hr _ _ rfl (by (first | rfl | simp -implicitDefEqProofs only [go_sem, h1, h3, h3', h6, h9, h12] <;> rfl)))
    · replace h := ite_none h h1; replace h1 := bfalse h1
      try simp -implicitDefEqProofs only [go_sem, h1]
      injection h with h; subst h
      exact .inr ⟨[], _, by (simp -implicitDefEqProofs only [go_sem, h1] <;> first | done | rfl | trivial), hb _ rfl⟩
  · intro M_M_ref07_Is M_M_ref07_many ih_M_ref07_Is ih_M_ref07_many x r h
    refine Fn.of_lc mix fn_179 lok_179 (by rfl) (flC (T_api_Pred.flatC _) (flC (.atom _) (flC (.atom _) (flN)))) (.atom _) ?_
    simp -implicitDefEqProofs only [go_sem, Try.f179]
    by_cases h1 : (x.1.Kind == 1) = true
    · replace h := ite_some h h1
      try simp -implicitDefEqProofs only [go_sem, h1]
      by_cases h2 : (x.2.2 == x.1.Truth) = true
      · replace h := ite_some h h2
        try simp -implicitDefEqProofs only [go_sem, h1, h2]
        injection h with h; subst h
        first | rfl | simp -implicitDefEqProofs only [go_sem, h1, h2] <;> rfl
      · replace h := ite_none h h2; replace h2 := bfalse h2
        try simp -implicitDefEqProofs only [go_sem, h1, h2]
        by_cases h3 : (x.2.2 == 1) = true
        · replace h := ite_some h h3
          try simp -implicitDefEqProofs only [go_sem, h1, h2, h3]
          by_cases h4 : (decide (x.1.Truth < 0)) = true
          · replace h := ite_some h h4
            try simp -implicitDefEqProofs only [go_sem, h1, h2, h3, h4]
            injection h with h; subst h
            first | rfl | simp -implicitDefEqProofs only [go_sem, h1, h2, h3, h4] <;> rfl
          · replace h := ite_none h h4; replace h4 := bfalse h4
            try simp -implicitDefEqProofs only [go_sem, h1, h2, h3, h4]
            injection h with h; subst h
            first | rfl | simp -implicitDefEqProofs only [go_sem, h1, h2, h3, h4] <;> rfl
        · replace h := ite_none h h3; replace h3 := bfalse h3
          try simp -implicitDefEqProofs only [go_sem, h1, h2, h3]
          injection h with h; subst h
          first | rfl | simp -implicitDefEqProofs only [go_sem, h1, h2, h3] <;> rfl
    · replace h := ite_none h h1; replace h1 := bfalse h1
      try simp -implicitDefEqProofs only [go_sem, h1]
      by_cases h5 : (x.1.Kind == 2) = true
      · replace h := ite_some h h5
        try simp -implicitDefEqProofs only [go_sem, h1, h5]
        by_cases h6 : (decide (x.1.Op < 1)) = true
        · replace h := ite_some h h6
          try simp -implicitDefEqProofs only [go_sem, h1, h5, h6]
          injection h with h; subst h
          first | rfl | simp -implicitDefEqProofs only [go_sem, h1, h5, h6] <;> rfl
        · replace h := ite_none h h6; replace h6 := bfalse h6
          try simp -implicitDefEqProofs only [go_sem, h1, h5, h6]
          by_cases h7 : (decide (x.1.Op > 6)) = true
          · replace h := ite_some h h7
            try simp -implicitDefEqProofs only [go_sem, h1, h5, h6, h7]
            injection h with h; subst h
            first | rfl | simp -implicitDefEqProofs only [go_sem, h1, h5, h6, h7] <;> rfl
          · replace h := ite_none h h7; replace h7 := bfalse h7
            try simp -implicitDefEqProofs only [go_sem, h1, h5, h6, h7]
            obtain ⟨r8, h9, h⟩ := bind_some' h
            refine .plain _ _ rfl (M_ref07_sure.w (x.1.A, x.2.1) _ h9) ?_
            try simp -implicitDefEqProofs only [go_sem, h1, h5, h6, h7]
            by_cases h10 : r8 = true
            · replace h := ite_some h h10
              try simp -implicitDefEqProofs only [go_sem, h1, h5, h6, h7, h10]
              injection h with h; subst h
              first | rfl | simp -implicitDefEqProofs only [go_sem, h1, h5, h6, h7, h10] <;> rfl
            · replace h := ite_none h h10; replace h10 := bfalse h10
              try simp -implicitDefEqProofs only [go_sem, h1, h5, h6, h7, h10]
              obtain ⟨r11, h12, h⟩ := bind_some' h
              refine .plain _ _ rfl (M_ref07_sure.w (x.1.B, x.2.1) _ h12) ?_
              try simp -implicitDefEqProofs only [go_sem, h1, h5, h6, h7, h10]
              by_cases h13 : r11 = true
              · replace h := ite_some h h13
                try simp -implicitDefEqProofs only [go_sem, h1, h5, h6, h7, h10, h13]
                injection h with h; subst h
                first | rfl | simp -implicitDefEqProofs only [go_sem, h1, h5, h6, h7, h10, h13] <;> rfl
              · replace h := ite_none h h13; replace h13 := bfalse h13
                try simp -implicitDefEqProofs only [go_sem, h1, h5, h6, h7, h10, h13]
                by_cases h14 : (x.1.A.Kind == 1) = true
                · replace h := ite_some h h14
                  try simp -implicitDefEqProofs only [go_sem, h1, h5, h6, h7, h10, h13, h14]
                  injection h with h; subst h
                  first | rfl | simp -implicitDefEqProofs only [go_sem, h1, h5, h6, h7, h10, h13, h14] <;> rfl
                · replace h := ite_none h h14; replace h14 := bfalse h14
                  try simp -implicitDefEqProofs only [go_sem, h1, h5, h6, h7, h10, h13, h14]
                  by_cases h15 : (x.1.B.Kind == 1) = true
                  · replace h := ite_some h h15
                    try simp -implicitDefEqProofs only [go_sem, h1, h5, h6, h7, h10, h13, h14, h15]
                    injection h with h; subst h
                    first | rfl | simp -implicitDefEqProofs only [go_sem, h1, h5, h6, h7, h10, h13, h14, h15] <;> rfl
                  · replace h := ite_none h h15; replace h15 := bfalse h15
                    try simp -implicitDefEqProofs only [go_sem, h1, h5, h6, h7, h10, h13, h14, h15]
                    obtain ⟨r16, h17, h⟩ := bind_some' h
                    refine .plain _ _ rfl (M_ref03_Compare.w (x.1.Op, x.1.A.Value, x.1.B.Value) _ h17) ?_
                    try simp -implicitDefEqProofs only [go_sem, h1, h5, h6, h7, h10, h13, h14, h15]
                    injection h with h; subst h
                    first | rfl | simp -implicitDefEqProofs only [go_sem, h1, h5, h6, h7, h10, h13, h14, h15] <;> rfl
      · replace h := ite_none h h5; replace h5 := bfalse h5
        try simp -implicitDefEqProofs only [go_sem, h1, h5]
        by_cases h18 : (x.1.Kind == 3) = true
        · replace h := ite_some h h18
          try simp -implicitDefEqProofs only [go_sem, h1, h5, h18]
          obtain ⟨r19, h20, h⟩ := bind_some' h
          refine .plain _ _ rfl (M_ref07_sure.w (x.1.A, x.2.1) _ h20) ?_
          try simp -implicitDefEqProofs only [go_sem, h1, h5, h18]
          by_cases h21 : r19 = true
          · replace h := ite_some h h21
            try simp -implicitDefEqProofs only [go_sem, h1, h5, h18, h21]
            injection h with h; subst h
            first | rfl | simp -implicitDefEqProofs only [go_sem, h1, h5, h18, h21] <;> rfl
          · replace h := ite_none h h21; replace h21 := bfalse h21
            try simp -implicitDefEqProofs only [go_sem, h1, h5, h18, h21]
            by_cases h22 : (x.2.2 == 0) = true
            · replace h := ite_some h h22
              try simp -implicitDefEqProofs only [go_sem, h1, h5, h18, h21, h22]
              injection h with h; subst h
              first | rfl | simp -implicitDefEqProofs only [go_sem, h1, h5, h18, h21, h22] <;> rfl
            · replace h := ite_none h h22; replace h22 := bfalse h22
              try simp -implicitDefEqProofs only [go_sem, h1, h5, h18, h21, h22]
              by_cases h23 : (x.2.2 == 2) = true
              · replace h := ite_some h h23
                try simp -implicitDefEqProofs only [go_sem, h1, h5, h18, h21, h22, h23]
                injection h with h; subst h
                first | rfl | simp -implicitDefEqProofs only [go_sem, h1, h5, h18, h21, h22, h23] <;> rfl
              · replace h := ite_none h h23; replace h23 := bfalse h23
                try simp -implicitDefEqProofs only [go_sem, h1, h5, h18, h21, h22, h23]
                injection h with h; subst h
                first | rfl | simp -implicitDefEqProofs only [go_sem, h1, h5, h18, h21, h22, h23] <;> rfl
        · replace h := ite_none h h18; replace h18 := bfalse h18
          try simp -implicitDefEqProofs only [go_sem, h1, h5, h18]
          by_cases h24 : (x.1.Kind == 4) = true
          · replace h := ite_some h h24
            try simp -implicitDefEqProofs only [go_sem, h1, h5, h18, h24]
            obtain ⟨r25, h26, h⟩ := bind_some' h
            refine .plain _ _ rfl (ih_M_ref07_many (x.1.Parts, x.2.1, x.2.2, 2) _ h26) ?_
            try simp -implicitDefEqProofs only [go_sem, h1, h5, h18, h24]
            injection h with h; subst h
            first | rfl | simp -implicitDefEqProofs only [go_sem, h1, h5, h18, h24] <;> rfl
          · replace h := ite_none h h24; replace h24 := bfalse h24
            try simp -implicitDefEqProofs only [go_sem, h1, h5, h18, h24]
            by_cases h27 : (x.1.Kind == 5) = true
            · replace h := ite_some h h27
              try simp -implicitDefEqProofs only [go_sem, h1, h5, h18, h24, h27]
              obtain ⟨r28, h29, h⟩ := bind_some' h
              refine .plain _ _ rfl (ih_M_ref07_many (x.1.Parts, x.2.1, x.2.2, 0) _ h29) ?_
              try simp -implicitDefEqProofs only [go_sem, h1, h5, h18, h24, h27]
              injection h with h; subst h
              first | rfl | simp -implicitDefEqProofs only [go_sem, h1, h5, h18, h24, h27] <;> rfl
            · replace h := ite_none h h27; replace h27 := bfalse h27
              try simp -implicitDefEqProofs only [go_sem, h1, h5, h18, h24, h27]
              by_cases h30 : (x.1.Kind == 6) = true
              · replace h := ite_some h h30
                try simp -implicitDefEqProofs only [go_sem, h1, h5, h18, h24, h27, h30]
                by_cases h31 : (decide ((x.1.Parts.length : Int) > 0)) = true
                · replace h := ite_some h h31
                  try simp -implicitDefEqProofs only [go_sem, h1, h5, h18, h24, h27, h30, h31]
                  obtain ⟨e32, h33, h⟩ := bind_some' h
                  try simp -implicitDefEqProofs only [go_sem, h1, h5, h18, h24, h27, h30, h31, h33]
                  obtain ⟨r34, h35, h⟩ := bind_some' h
                  refine .plain _ _ rfl (ih_M_ref07_Is (e32, x.2.1, (w64 (2 - x.2.2))) _ h35) ?_
                  try simp -implicitDefEqProofs only [go_sem, h1, h5, h18, h24, h27, h30, h31, h33]
                  injection h with h; subst h
                  first | rfl | simp -implicitDefEqProofs only [go_sem, h1, h5, h18, h24, h27, h30, h31, h33] <;> rfl
                · replace h := ite_none h h31; replace h31 := bfalse h31
                  try simp -implicitDefEqProofs only [go_sem, h1, h5, h18, h24, h27, h30, h31]
                  injection h with h; subst h
                  first | rfl | simp -implicitDefEqProofs only [go_sem, h1, h5, h18, h24, h27, h30, h31] <;> rfl
              · replace h := ite_none h h30; replace h30 := bfalse h30
                try simp -implicitDefEqProofs only [go_sem, h1, h5, h18, h24, h27, h30]
                injection h with h; subst h
                first | rfl | simp -implicitDefEqProofs only [go_sem, h1, h5, h18, h24, h27, h30] <;> rfl
  · intro M_M_ref07_some M_M_ref07_every M_M_ref07_all ih_M_ref07_some ih_M_ref07_every ih_M_ref07_all x r h
    refine Fn.of_lc mix fn_160 lok_160 (by rfl) (flC (flat_slice _ T_api_Pred.flat _) (flC (.atom _) (flC (.atom _) (flC (.atom _) (flN))))) (.atom _) ?_
    simp -implicitDefEqProofs only [go_sem, Try.f160]
    obtain ⟨r1, h2, h⟩ := bind_some' h
    refine .plain _ _ rfl (ih_M_ref07_all (x.1, x.2.1) _ h2) ?_
    try simp -implicitDefEqProofs only [go_sem]
    by_cases h3 : r1 = true
    · replace h := ite_some h h3
      try simp -implicitDefEqProofs only [go_sem, h3]
      by_cases h4 : (x.2.2.1 == x.2.2.2) = true
      · replace h := ite_some h h4
        try simp -implicitDefEqProofs only [go_sem, h3, h4]
        obtain ⟨r5, h6, h⟩ := bind_some' h
        refine .plain _ _ rfl (ih_M_ref07_every (x.1, x.2.1, x.2.2.2, x.2.2.2) _ h6) ?_
        try simp -implicitDefEqProofs only [go_sem, h3, h4]
        injection h with h; subst h
        first | rfl | simp -implicitDefEqProofs only [go_sem, h3, h4] <;> rfl
      · replace h := ite_none h h4; replace h4 := bfalse h4
        try simp -implicitDefEqProofs only [go_sem, h3, h4]
        by_cases h7 : (x.2.2.1 == 1) = true
        · replace h := ite_some h h7
          try simp -implicitDefEqProofs only [go_sem, h3, h4, h7]
          obtain ⟨r8, h9, h⟩ := bind_some' h
          refine .plain _ _ rfl (ih_M_ref07_some (x.1, x.2.1, 1) _ h9) ?_
          try simp -implicitDefEqProofs only [go_sem, h3, h4, h7]
          by_cases h10 : r8 = true
          · replace h := ite_some h h10
            try simp -implicitDefEqProofs only [go_sem, h3, h4, h7, h10]
            obtain ⟨r11, h12, h⟩ := bind_some' h
            refine .plain _ _ rfl (ih_M_ref07_every (x.1, x.2.1, 1, x.2.2.2) _ h12) ?_
            try simp -implicitDefEqProofs only [go_sem, h3, h4, h7, h10]
            injection h with h; subst h
            first | rfl | simp -implicitDefEqProofs only [go_sem, h3, h4, h7, h10] <;> rfl
          · replace h := ite_none h h10; replace h10 := bfalse h10
            try simp -implicitDefEqProofs only [go_sem, h3, h4, h7, h10]
            injection h with h; subst h
            first | rfl | simp -implicitDefEqProofs only [go_sem, h3, h4, h7, h10] <;> rfl
        · replace h := ite_none h h7; replace h7 := bfalse h7
          try simp -implicitDefEqProofs only [go_sem, h3, h4, h7]
          obtain ⟨r13, h14, h⟩ := bind_some' h
          refine .plain _ _ rfl (ih_M_ref07_some (x.1, x.2.1, (w64 (2 - x.2.2.2))) _ h14) ?_
          try simp -implicitDefEqProofs only [go_sem, h3, h4, h7]
          injection h with h; subst h
          first | rfl | simp -implicitDefEqProofs only [go_sem, h3, h4, h7] <;> rfl
    · replace h := ite_none h h3; replace h3 := bfalse h3
      try simp -implicitDefEqProofs only [go_sem, h3]
      injection h with h; subst h
      first | rfl | simp -implicitDefEqProofs only [go_sem, h3] <;> rfl
  · intro M_M_ref07_some_l0 ih_M_ref07_some_l0 x r h
    refine Fn.of_lc mix fn_176 lok_176 (by rfl) (flC (flat_slice _ T_api_Pred.flat _) (flC (.atom _) (flC (.atom _) (flN)))) (.atom _) ?_
    simp -implicitDefEqProofs only [go_sem, Try.f176]
    obtain ⟨o7, h8, h⟩ := bind_some' h
    refine LLoop.viewQ (LLoop.view [] (by (first | rfl | simp -implicitDefEqProofs only [go_sem] <;> rfl)) (ih_M_ref07_some_l0 (x.1, x.2.1, x.2.2, 0) _ h8 _ _ _ ?_ ?_))
    · intro s10 hs'; subst hs'
      try simp -implicitDefEqProofs only [go_sem]
      injection h with h; subst h
      first | rfl | simp -implicitDefEqProofs only [go_sem] <;> rfl
    · intro r9 L' hs' hL'; subst hs'
      injection h with h; subst h
      first | exact hL' | (simp -implicitDefEqProofs only [go_sem]; exact hL') | (simp -implicitDefEqProofs only [go_sem]; simp -implicitDefEqProofs only [go_sem] at hL'; exact hL')
  · intro M_M_ref07_Is M_M_ref07_some_l0 ih_M_ref07_Is ih_M_ref07_some_l0 x o h
    intro lo c Q hb hr
    refine LLoop.step mix fn_176 (by kernel_rfl) ?_
    simp -implicitDefEqProofs only [go_sem, Try.f176]
    by_cases h1 : (decide (x.2.2.2 < (x.1.length : Int))) = true
    · replace h := ite_some h h1
      try simp -implicitDefEqProofs only [go_sem, h1]
      obtain ⟨e2, h3, h⟩ := bind_some' h; replace h3 := getI_some h3; obtain ⟨h3', h3⟩ := h3
      try simp -implicitDefEqProofs only [go_sem, h1, h3, h3']
      obtain ⟨r4, h5, h⟩ := bind_some' h
      refine .plain _ _ rfl (ih_M_ref07_Is (e2, x.2.1, x.2.2.1) _ h5) ?_
      try simp -implicitDefEqProofs only [go_sem, h1, h3, h3']
      by_cases h6 : r4 = true
      · replace h := ite_some h h6
        try simp -implicitDefEqProofs only [go_sem, h1, h3, h3', h6]
        injection h with h; subst h
        exact .inl (hr _ _ rfl (by (first | rfl | simp -implicitDefEqProofs only [go_sem, h1, h3, h3', h6] <;> rfl)))
      · replace h := ite_none h h6; replace h6 := bfalse h6
        try simp -implicitDefEqProofs only [go_sem, h1, h3, h3', h6]
        exact LLoop.view [] (by (first | rfl | simp -implicitDefEqProofs only [go_sem, h1, h3, h3', h6] <;> rfl)) (ih_M_ref07_some_l0 _ _ h lo c Q hb hr)
    · replace h := ite_none h h1; replace h1 := bfalse h1
      try simp -implicitDefEqProofs only [go_sem, h1]
      injection h with h; subst h
      exact .inr ⟨[], _, by (simp -implicitDefEqProofs only [go_sem, h1] <;> first | done | rfl | trivial), hb _ rfl⟩
  · intro M_M_ref07_every_l0 ih_M_ref07_every_l0 x r h
    refine Fn.of_lc mix fn_175 lok_175 (by rfl) (flC (flat_slice _ T_api_Pred.flat _) (flC (.atom _) (flC (.atom _) (flC (.atom _) (flN))))) (.atom _) ?_
    simp -implicitDefEqProofs only [go_sem, Try.f175]
    obtain ⟨o10, h11, h⟩ := bind_some' h
    refine LLoop.viewQ (LLoop.view [] (by (first | rfl | simp -implicitDefEqProofs only [go_sem] <;> rfl)) (ih_M_ref07_every_l0 (x.1, x.2.1, x.2.2.1, x.2.2.2, 0) _ h11 _ _ _ ?_ ?_))
    · intro s13 hs'; subst hs'
      try simp -implicitDefEqProofs only [go_sem]
      injection h with h; subst h
      first | rfl | simp -implicitDefEqProofs only [go_sem] <;> rfl
    · intro r12 L' hs' hL'; subst hs'
      injection h with h; subst h
      first | exact hL' | (simp -implicitDefEqProofs only [go_sem]; exact hL') | (simp -implicitDefEqProofs only [go_sem]; simp -implicitDefEqProofs only [go_sem] at hL'; exact hL')
  · intro M_M_ref07_Is M_M_ref07_every_l0 ih_M_ref07_Is ih_M_ref07_every_l0 x o h
    intro lo c Q hb hr
    refine LLoop.step mix fn_175 (by kernel_rfl) ?_
    simp -implicitDefEqProofs only [go_sem, Try.f175]
    by_cases h1 : (decide (x.2.2.2.2 < (x.1.length : Int))) = true
    · replace h := ite_some h h1
      try simp -implicitDefEqProofs only [go_sem, h1]
      obtain ⟨e2, h3, h⟩ := bind_some' h; replace h3 := getI_some h3; obtain ⟨h3', h3⟩ := h3
      try simp -implicitDefEqProofs only [go_sem, h1, h3, h3']
      obtain ⟨r4, h5, h⟩ := bind_some' h
      refine .plain _ _ rfl (ih_M_ref07_Is (e2, x.2.1, x.2.2.1) _ h5) ?_
      try simp -implicitDefEqProofs only [go_sem, h1, h3, h3']
      by_cases h6 : r4 = true
      · replace h := ite_some h h6
        try simp -implicitDefEqProofs only [go_sem, h1, h3, h3', h6]
        exact LLoop.view [] (by (first | rfl | simp -implicitDefEqProofs only [go_sem, h1, h3, h3', h6] <;> rfl)) (ih_M_ref07_every_l0 _ _ h lo c Q hb hr)
      · replace h := ite_none h h6; replace h6 := bfalse h6
        try simp -implicitDefEqProofs only [go_sem, h1, h3, h3', h6]
        obtain ⟨r7, h8, h⟩ := bind_some' h
        refine .plain _ _ rfl (ih_M_ref07_Is (e2, x.2.1, x.2.2.2.1) _ h8) ?_
        try simp -implicitDefEqProofs only [go_sem, h1, h3, h3', h6]
        by_cases h9 : r7 = true
        · replace h := ite_some h h9
          try simp -implicitDefEqProofs only [go_sem, h1, h3, h3', h6, h9]
          exact LLoop.view [] (by (first | rfl | simp -implicitDefEqProofs only [go_sem, h1, h3, h3', h6, h9] <;> rfl)) (ih_M_ref07_every_l0 _ _ h lo c Q hb hr)
        · replace h := ite_none h h9; replace h9 := bfalse h9
          try simp -implicitDefEqProofs only [go_sem, h1, h3, h3', h6, h9]
          injection h with h; subst h
          exact .inl (hr _ _ rfl (by (first | rfl | simp -implicitDefEqProofs only [go_sem, h1, h3, h3', h6, h9] <;> rfl)))
    · replace h := ite_none h h1; replace h1 := bfalse h1
      try simp -implicitDefEqProofs only [go_sem, h1]
      injection h with h; subst h
      exact .inr ⟨[], _, by (simp -implicitDefEqProofs only [go_sem, h1] <;> first | done | rfl | trivial), hb _ rfl⟩
  · intro M_M_ref07_all_l0 ih_M_ref07_all_l0 x r h
    refine Fn.of_lc mix fn_174 lok_174 (by rfl) (flC (flat_slice _ T_api_Pred.flat _) (flC (.atom _) (flN))) (.atom _) ?_
    simp -implicitDefEqProofs only [go_sem, Try.f174]
    obtain ⟨o13, h14, h⟩ := bind_some' h
    refine LLoop.viewQ (LLoop.view [] (by (first | rfl | simp -implicitDefEqProofs only [go_sem] <;> rfl)) (ih_M_ref07_all_l0 (x.1, x.2, 0) _ h14 _ _ _ ?_ ?_))
    · intro s16 hs'; subst hs'
      try simp -implicitDefEqProofs only [go_sem]
      injection h with h; subst h
      first | rfl | simp -implicitDefEqProofs only [go_sem] <;> rfl
    · intro r15 L' hs' hL'; subst hs'
      injection h with h; subst h
      first | exact hL' | (simp -implicitDefEqProofs only [go_sem]; exact hL') | (simp -implicitDefEqProofs only [go_sem]; simp -implicitDefEqProofs only [go_sem] at hL'; exact hL')
theorem M_ref07_many.w : type_of% (M_ref07_all.l0.ws.2.2.1) := M_ref07_all.l0.ws.2.2.1
end Go.Proofs.Ytakmilmckdllfaa.G
set_option linter.unusedVariables false
set_option linter.unusedSimpArgs false
set_option maxRecDepth 100000
namespace Go.Proofs.Ytakmilmckdllfaa.G
theorem lok_136 : (Try.f136.body.isSome && !(Try.f136.name == "runtime.NumGoroutine") && okL (bodyF Try.f136) Try.f136.ntmps (bodyF Try.f136)) = true := by kernel_rfl
def M_ref07_Rejects (x : List T_api_Pred × Set64) : Option (Bool) :=
  M_ref07_many (x.1, x.2, 2, 2) >>= fun r1 =>
  some (!r1)
theorem M_ref07_Rejects.w : ∀ (x : List T_api_Pred × Set64) (r : Bool), M_ref07_Rejects x = some r → (fun (x : List T_api_Pred × Set64) (r : Bool) => Fn Try.prog 136 [.slice .foreign (x.1.map T_api_Pred.av), .w x.2] (.bool r)) x r := by
  intro x r h
  rw [M_ref07_Rejects] at h
  try dsimp only
  refine Fn.of_lc mix fn_136 lok_136 (by rfl) (flC (flat_slice _ T_api_Pred.flat _) (flC (.atom _) (flN))) (.atom _) ?_
  simp -implicitDefEqProofs only [go_sem, Try.f136]
  obtain ⟨r1, h2, h⟩ := bind_some' h
  refine .plain _ _ rfl (M_ref07_many.w (x.1, x.2, 2, 2) _ h2) ?_
  try simp -implicitDefEqProofs only [go_sem]
  injection h with h; subst h
  first | rfl | simp -implicitDefEqProofs only [go_sem] <;> rfl
end Go.Proofs.Ytakmilmckdllfaa.G
set_option linter.unusedVariables false
set_option linter.unusedSimpArgs false
set_option maxRecDepth 100000
namespace Go.Proofs.Ytakmilmckdllfaa.G
@[go_sem] theorem lrp_100_3 : lrp Try.prog 100 3 = (9, []) := by kernel_rfl
theorem lok_100 : (Try.f100.body.isSome && !(Try.f100.name == "runtime.NumGoroutine") && okL (bodyF Try.f100) Try.f100.ntmps (bodyF Try.f100)) = true := by kernel_rfl
def M_ref17_firm (x : T_api_Tree × T_api_Tree × T_api_Tree) : Option (Bool) :=
  if (x.1.Kind != 2) = true then
    some true
  else
    if (x.2.1.Kind != 2) = true then
      some true
    else
      M_ref17_Named x.2.1 >>= fun r3 =>
      M_ref10_Tables x.2.2 >>= fun r5 =>
      M_ref07_Rejects (x.2.1.Conj, (r3 &&& r5)) >>= fun r7 =>
      some r7
theorem M_ref17_firm.w : ∀ (x : T_api_Tree × T_api_Tree × T_api_Tree) (r : Bool), M_ref17_firm x = some r → (fun (x : T_api_Tree × T_api_Tree × T_api_Tree) (r : Bool) => Fn Try.prog 100 [.agg (T_api_Tree.C x.1), .agg (T_api_Tree.C x.2.1), .agg (T_api_Tree.C x.2.2)] (.bool r)) x r := by
  intro x r h
  rw [M_ref17_firm] at h
  try dsimp only
  refine Fn.of_lc mix fn_100 lok_100 (by rfl) (flC (T_api_Tree.flatC _) (flC (T_api_Tree.flatC _) (flC (T_api_Tree.flatC _) (flN)))) (.atom _) ?_
  simp -implicitDefEqProofs only [go_sem, Try.f100]
  by_cases h1 : (x.1.Kind != 2) = true
  · replace h := ite_some h h1
    try simp -implicitDefEqProofs only [go_sem, h1]
    injection h with h; subst h
    first | rfl | (simp -implicitDefEqProofs only [go_sem, h1] <;> rfl)
  · replace h := ite_none h h1; replace h1 := bfalse h1
    try simp -implicitDefEqProofs only [go_sem, h1]
    by_cases h2 : (x.2.1.Kind != 2) = true
    · replace h := ite_some h h2
      try simp -implicitDefEqProofs only [go_sem, h1, h2]
      injection h with h; subst h
      first | rfl | (simp -implicitDefEqProofs only [go_sem, h1, h2] <;> rfl)
    · replace h := ite_none h h2; replace h2 := bfalse h2
      try simp -implicitDefEqProofs only [go_sem, h1, h2]
      obtain ⟨r3, h4, h⟩ := bind_some' h
      refine .plain _ _ rfl (M_ref17_Named.w x.2.1 _ h4) ?_
      try simp -implicitDefEqProofs only [go_sem, h1, h2]
      obtain ⟨r5, h6, h⟩ := bind_some' h
      refine .plain _ _ rfl (M_ref10_Tables.w x.2.2 _ h6) ?_
      try simp -implicitDefEqProofs only [go_sem, h1, h2]
      obtain ⟨r7, h8, h⟩ := bind_some' h
      refine .plain _ _ rfl (M_ref07_Rejects.w (x.2.1.Conj, (r3 &&& r5)) _ h8) ?_
      try simp -implicitDefEqProofs only [go_sem, h1, h2]
      injection h with h; subst h
      first | rfl | (simp -implicitDefEqProofs only [go_sem, h1, h2] <;> rfl)
end Go.Proofs.Ytakmilmckdllfaa.G
set_option linter.unusedVariables false
set_option linter.unusedSimpArgs false
set_option maxRecDepth 100000
namespace Go.Proofs.Ytakmilmckdllfaa.G
theorem lok_98 : (Try.f98.body.isSome && !(Try.f98.name == "runtime.NumGoroutine") && okL (bodyF Try.f98) Try.f98.ntmps (bodyF Try.f98)) = true := by kernel_rfl
def M_ref17_with (x : T_api_Tree × T_api_Tree × T_api_Tree) : Option (T_api_Tree) :=
  some (⟨x.1.Kind, x.1.Table, [x.2.1, x.2.2], x.1.Conj, x.1.Hash⟩ : T_api_Tree)
theorem M_ref17_with.w : ∀ (x : T_api_Tree × T_api_Tree × T_api_Tree) (r : T_api_Tree), M_ref17_with x = some r → (fun (x : T_api_Tree × T_api_Tree × T_api_Tree) (r : T_api_Tree) => Fn Try.prog 98 [.agg (T_api_Tree.C x.1), .agg (T_api_Tree.C x.2.1), .agg (T_api_Tree.C x.2.2)] (.agg (T_api_Tree.C r))) x r := by
  intro x r h
  rw [M_ref17_with] at h
  try dsimp only
  refine Fn.of_lc mix fn_98 lok_98 (by rfl) (flC (T_api_Tree.flatC _) (flC (T_api_Tree.flatC _) (flC (T_api_Tree.flatC _) (flN)))) (T_api_Tree.flatC _) ?_
  simp -implicitDefEqProofs only [go_sem, Try.f98]
  injection h with h; subst h
  first | rfl | (simp -implicitDefEqProofs only [go_sem] <;> rfl)
end Go.Proofs.Ytakmilmckdllfaa.G
