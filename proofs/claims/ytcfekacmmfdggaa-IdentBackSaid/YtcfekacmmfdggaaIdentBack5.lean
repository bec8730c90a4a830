/-
Part 5 of the proof of IdentBack: merged by mkclaim.py (a program of this repo) out of texts of wip/g and printed models.
-/
import Derived.Test.YtcfekacmmfdggaaIdentBack4
set_option linter.unusedVariables false
set_option linter.unusedSimpArgs false
set_option maxRecDepth 100000
namespace Go.Proofs.Ytcfekacmmfdggaa.G
theorem lok_180 : (Try.f180.body.isSome && !(Try.f180.name == "runtime.NumGoroutine") && okL (bodyF Try.f180) Try.f180.ntmps (bodyF Try.f180)) = true := by kernel_rfl
theorem lok_175 : (Try.f175.body.isSome && !(Try.f175.name == "runtime.NumGoroutine") && okL (bodyF Try.f175) Try.f175.ntmps (bodyF Try.f175)) = true := by kernel_rfl
@[go_sem] theorem lrp_174_1 : lrp Try.prog 174 1 = (5, []) := by kernel_rfl
theorem lok_174 : (Try.f174.body.isSome && !(Try.f174.name == "runtime.NumGoroutine") && okL (bodyF Try.f174) Try.f174.ntmps (bodyF Try.f174)) = true := by kernel_rfl
theorem lok_179 : (Try.f179.body.isSome && !(Try.f179.name == "runtime.NumGoroutine") && okL (bodyF Try.f179) Try.f179.ntmps (bodyF Try.f179)) = true := by kernel_rfl
theorem lok_173 : (Try.f173.body.isSome && !(Try.f173.name == "runtime.NumGoroutine") && okL (bodyF Try.f173) Try.f173.ntmps (bodyF Try.f173)) = true := by kernel_rfl
theorem lok_172 : (Try.f172.body.isSome && !(Try.f172.name == "runtime.NumGoroutine") && okL (bodyF Try.f172) Try.f172.ntmps (bodyF Try.f172)) = true := by kernel_rfl
theorem lok_168 : (Try.f168.body.isSome && !(Try.f168.name == "runtime.NumGoroutine") && okL (bodyF Try.f168) Try.f168.ntmps (bodyF Try.f168)) = true := by kernel_rfl
def M_logic_Right (x : Int) : Option (Bool) :=
  if (decide (x ≥ 0)) = true then
    some (decide (x ≤ 2))
  else
    some false
set_option maxHeartbeats 8000000 in
theorem M_logic_Right.w : ∀ (x : Int) (r : Bool), M_logic_Right x = some r → (fun (x : Int) (r : Bool) => Fn Try.prog 180 [.i64 x] (.bool r)) x r := by
  intro x r h
  rw [M_logic_Right] at h
  try dsimp only
  refine Fn.of_lc mix fn_180 lok_180 (by rfl) (flC (.atom _) (flN)) (.atom _) ?_
  simp -implicitDefEqProofs only [go_sem, Try.f180]
  by_cases h1 : (decide (x ≥ 0)) = true
  · replace h := ite_some h h1
    try simp -implicitDefEqProofs only [go_sem, h1]
    injection h with h; subst h
    first | rfl | simp -implicitDefEqProofs only [go_sem, h1] <;> rfl
  · replace h := ite_none h h1; replace h1 := bfalse h1
    try simp -implicitDefEqProofs only [go_sem, h1]
    injection h with h; subst h
    first | rfl | simp -implicitDefEqProofs only [go_sem, h1] <;> rfl
def M_logic_of (x : Int) : Option (Int) :=
  M_logic_Right x >>= fun r1 =>
  if r1 = true then
    some x
  else
    some 1
set_option maxHeartbeats 8000000 in
theorem M_logic_of.w : ∀ (x : Int) (r : Int), M_logic_of x = some r → (fun (x : Int) (r : Int) => Fn Try.prog 175 [.i64 x] (.i64 r)) x r := by
  intro x r h
  rw [M_logic_of] at h
  try dsimp only
  refine Fn.of_lc mix fn_175 lok_175 (by rfl) (flC (.atom _) (flN)) (.atom _) ?_
  simp -implicitDefEqProofs only [go_sem, Try.f175]
  obtain ⟨r1, h2, h⟩ := bind_some' h
  refine .plain _ _ rfl (M_logic_Right.w x _ h2) ?_
  try simp -implicitDefEqProofs only [go_sem]
  by_cases h3 : r1 = true
  · replace h := ite_some h h3
    try simp -implicitDefEqProofs only [go_sem, h3]
    injection h with h; subst h
    first | rfl | simp -implicitDefEqProofs only [go_sem, h3] <;> rfl
  · replace h := ite_none h h3; replace h3 := bfalse h3
    try simp -implicitDefEqProofs only [go_sem, h3]
    injection h with h; subst h
    first | rfl | simp -implicitDefEqProofs only [go_sem, h3] <;> rfl
def M_logic_first_1_1 (x : Int × Int) : Option (Bool) :=
  M_logic_of x.1 >>= fun r1 =>
  some (r1 == x.2)
set_option maxHeartbeats 8000000 in
theorem M_logic_first_1_1.w : ∀ (x : Int × Int) (r : Bool), M_logic_first_1_1 x = some r → (fun (x : Int × Int) (r : Bool) => FnB Try.prog 174 [(3000000, [.v (.i64 x.2)])] [.a (.i64 x.1), .p 3000000] (.bool r) [(3000000, [.v (.i64 x.2)])]) x r := by
  intro x r h
  rw [M_logic_first_1_1] at h
  try dsimp only
  refine FnB.of_lc mix fn_174 lok_174 (by rfl) (by rfl) fun c => ?_
  simp -implicitDefEqProofs only [go_sem, Try.f174]
  obtain ⟨r1, h2, h⟩ := bind_some' h
  refine .plain _ _ rfl (M_logic_of.w x.1 _ h2) ?_
  try simp -implicitDefEqProofs only [go_sem]
  injection h with h; subst h
  first | exact ⟨by (first | rfl | simp -implicitDefEqProofs only [go_sem] <;> rfl), [], by rfl, by (first | rfl | simp -implicitDefEqProofs only [go_sem] <;> rfl)⟩ | exact ⟨by (first | rfl | simp -implicitDefEqProofs only [go_sem] <;> rfl), [], by rfl⟩ | exact ⟨by (first | rfl | simp -implicitDefEqProofs only [go_sem] <;> rfl), [], by (simp -implicitDefEqProofs only [go_sem] <;> first | done | rfl | trivial)⟩ | exact ⟨[], by rfl, by (first | rfl | simp -implicitDefEqProofs only [go_sem] <;> rfl)⟩ | exact ⟨[], by rfl, by (simp -implicitDefEqProofs only [go_sem] <;> first | done | rfl | trivial)⟩
def M_slices_IndexFunc_int_int__logic_first_1_1.l0 (x : List Int × Int × Int × Int) : Option (Lp (Unit) (Int)) :=
  if (decide (x.2.2.1 < x.2.1)) = true then
    (getI x.1 x.2.2.1) >>= fun (e2 : Int) =>
    M_logic_first_1_1 (e2, x.2.2.2) >>= fun r4 =>
    if r4 = true then
      some (.ret x.2.2.1)
    else
      M_slices_IndexFunc_int_int__logic_first_1_1.l0 (x.1, x.2.1, (w64 (x.2.2.1 + 1)), x.2.2.2)
  else
    some (.brk ())
  partial_fixpoint
theorem M_slices_IndexFunc_int_int__logic_first_1_1.l0.ws : (∀ (x : List Int × Int × Int × Int) (o : Lp (Unit) (Int)), M_slices_IndexFunc_int_int__logic_first_1_1.l0 x = some o → (fun (x : List Int × Int × Int × Int) (o : Lp (Unit) (Int)) => ∀ (lo : Option Nat) (c : LCtx) (Q : Exit → LEnv → Prop) (hb : ∀ s : Unit, o = Lp.brk s → Q (.exit 0) ⟨[], [(3000000, [.v (.i64 x.2.2.2)])]⟩) (hr : ∀ (r : Int) (L : LEnv), o = .ret r → LPost Try.prog [.tmp 4] (.i64 r) (fun L => ∃ σ, sgOk σ = true ∧ vwN σ [] L.N [(3000000, [.v (.i64 x.2.2.2)])]) .ret L → Q .ret L), LLoop Try.prog 179 lo c 0 (VQ Q) ⟨[(0, .v (.slice .foreign (x.1.map AV.i64))), (1, .fn 174 [] [.p 3000000]), (7, .v (.i64 x.2.1)), (8, .v (.i64 x.2.2.1))], [(3000000, [.v (.i64 x.2.2.2)])]⟩) x o) := by
  refine M_slices_IndexFunc_int_int__logic_first_1_1.l0.partial_correctness _ ?_
  · intro M_M_slices_IndexFunc_int_int__logic_first_1_1_l0 ih_M_slices_IndexFunc_int_int__logic_first_1_1_l0 x o h
    intro lo c Q hb hr
    refine LLoop.step mix fn_179 (by kernel_rfl) ?_
    simp -implicitDefEqProofs only [go_sem, Try.f179]
    by_cases h1 : (decide (x.2.2.1 < x.2.1)) = true
    · replace h := ite_some h h1
      try simp -implicitDefEqProofs only [go_sem, h1]
      obtain ⟨e2, h3, h⟩ := bind_some' h; replace h3 := getI_some h3; obtain ⟨h3', h3⟩ := h3
      try simp -implicitDefEqProofs only [go_sem, h1, h3, h3']
      obtain ⟨r4, h5, h⟩ := bind_some' h
      have hw := M_logic_first_1_1.w (e2, x.2.2.2) _ h5
      refine .vars [] [(3000000, 3000000)] _ _ _ _ hw (by (first | rfl | simp -implicitDefEqProofs only [go_sem, h1, h3, h3'] <;> rfl)) (by rfl) (by rfl) (by rfl) (by rfl) (by (first | rfl | simp -implicitDefEqProofs only [go_sem, h1, h3, h3'] <;> rfl)) (by (first | rfl | simp -implicitDefEqProofs only [go_sem, h1, h3, h3'] <;> rfl)) (by (first | rfl | simp -implicitDefEqProofs only [go_sem, h1, h3, h3'] <;> rfl)) ?_
      clear hw
      try simp -implicitDefEqProofs only [go_sem, h1, h3, h3']
      by_cases h6 : r4 = true
      · replace h := ite_some h h6
        try simp -implicitDefEqProofs only [go_sem, h1, h3, h3', h6]
        injection h with h; subst h
        exact .inl (hr _ _ rfl (by first | exact (show _ ∧ _ from ⟨by (first | rfl | simp -implicitDefEqProofs only [go_sem, h1, h3, h3', h6] <;> rfl), [], by rfl, by (first | rfl | simp -implicitDefEqProofs only [go_sem, h1, h3, h3', h6] <;> rfl)⟩) | exact (show _ ∧ _ from ⟨by (first | rfl | simp -implicitDefEqProofs only [go_sem, h1, h3, h3', h6] <;> rfl), [], by rfl⟩) | exact (show _ ∧ _ from ⟨by (first | rfl | simp -implicitDefEqProofs only [go_sem, h1, h3, h3', h6] <;> rfl), [], by (simp -implicitDefEqProofs only [go_sem, h1, h3, h3', h6] <;> first | done | rfl | trivial)⟩) | exact (show _ ∧ _ from ⟨[], by rfl, by (first | rfl | simp -implicitDefEqProofs only [go_sem, h1, h3, h3', h6] <;> rfl)⟩) | exact (show _ ∧ _ from ⟨[], by rfl, by (simp -implicitDefEqProofs only [go_sem, h1, h3, h3', h6] <;> first | done | rfl | trivial)⟩)))
      · replace h := ite_none h h6; replace h6 := bfalse h6
        try simp -implicitDefEqProofs only [go_sem, h1, h3, h3', h6]
        exact LLoop.view [] (by (first | rfl | simp -implicitDefEqProofs only [go_sem, h1, h3, h3', h6] <;> rfl)) (ih_M_slices_IndexFunc_int_int__logic_first_1_1_l0 _ _ h lo c Q hb hr)
    · replace h := ite_none h h1; replace h1 := bfalse h1
      try simp -implicitDefEqProofs only [go_sem, h1]
      injection h with h; subst h
      exact .inr ⟨[], _, by (simp -implicitDefEqProofs only [go_sem, h1] <;> first | done | rfl | trivial), hb _ rfl⟩
theorem M_slices_IndexFunc_int_int__logic_first_1_1.l0.w : type_of% @M_slices_IndexFunc_int_int__logic_first_1_1.l0.ws := @M_slices_IndexFunc_int_int__logic_first_1_1.l0.ws
def M_slices_IndexFunc_int_int__logic_first_1_1 (x : List Int × Int) : Option (Int) :=
  M_slices_IndexFunc_int_int__logic_first_1_1.l0 (x.1, (x.1.length : Int), 0, x.2) >>= fun (o7 : Lp (Unit) (Int)) => match o7 with
  | .brk s10 =>
    some (-1)
  | .ret r9 =>
    some r9
set_option maxHeartbeats 8000000 in
theorem M_slices_IndexFunc_int_int__logic_first_1_1.w : ∀ (x : List Int × Int) (r : Int), M_slices_IndexFunc_int_int__logic_first_1_1 x = some r → (fun (x : List Int × Int) (r : Int) => FnB Try.prog 179 [(3000000, [.v (.i64 x.2)])] [.a (.slice .foreign (x.1.map AV.i64)), .fn 174 [] [.p 3000000]] (.i64 r) [(3000000, [.v (.i64 x.2)])]) x r := by
  intro x r h
  rw [M_slices_IndexFunc_int_int__logic_first_1_1] at h
  try dsimp only
  refine FnB.of_lc mix fn_179 lok_179 (by rfl) (by rfl) fun c => ?_
  simp -implicitDefEqProofs only [go_sem, Try.f179]
  obtain ⟨o7, h8, h⟩ := bind_some' h
  refine LLoop.viewQ (LLoop.view [] (by (first | rfl | simp -implicitDefEqProofs only [go_sem] <;> rfl)) (M_slices_IndexFunc_int_int__logic_first_1_1.l0.w (x.1, (x.1.length : Int), 0, x.2) _ h8 _ _ _ ?_ ?_))
  · intro s10 hs'; subst hs'
    try simp -implicitDefEqProofs only [go_sem]
    injection h with h; subst h
    first | exact ⟨by (first | rfl | simp -implicitDefEqProofs only [go_sem] <;> rfl), [], by rfl, by (first | rfl | simp -implicitDefEqProofs only [go_sem] <;> rfl)⟩ | exact ⟨by (first | rfl | simp -implicitDefEqProofs only [go_sem] <;> rfl), [], by rfl⟩ | exact ⟨by (first | rfl | simp -implicitDefEqProofs only [go_sem] <;> rfl), [], by (simp -implicitDefEqProofs only [go_sem] <;> first | done | rfl | trivial)⟩ | exact ⟨[], by rfl, by (first | rfl | simp -implicitDefEqProofs only [go_sem] <;> rfl)⟩ | exact ⟨[], by rfl, by (simp -implicitDefEqProofs only [go_sem] <;> first | done | rfl | trivial)⟩
  · intro r9 L' hs' hL'; subst hs'
    injection h with h; subst h
    first | exact hL' | (simp -implicitDefEqProofs only [go_sem]; exact hL') | (simp -implicitDefEqProofs only [go_sem]; simp -implicitDefEqProofs only [go_sem] at hL'; exact hL')
def M_slices_ContainsFunc_int_int__logic_first_1_1 (x : List Int × Int) : Option (Bool) :=
  M_slices_IndexFunc_int_int__logic_first_1_1 (x.1, x.2) >>= fun r1 =>
  some (decide (r1 ≥ 0))
set_option maxHeartbeats 8000000 in
theorem M_slices_ContainsFunc_int_int__logic_first_1_1.w : ∀ (x : List Int × Int) (r : Bool), M_slices_ContainsFunc_int_int__logic_first_1_1 x = some r → (fun (x : List Int × Int) (r : Bool) => FnB Try.prog 173 [(3000000, [.v (.i64 x.2)])] [.a (.slice .foreign (x.1.map AV.i64)), .fn 174 [] [.p 3000000]] (.bool r) [(3000000, [.v (.i64 x.2)])]) x r := by
  intro x r h
  rw [M_slices_ContainsFunc_int_int__logic_first_1_1] at h
  try dsimp only
  refine FnB.of_lc mix fn_173 lok_173 (by rfl) (by rfl) fun c => ?_
  simp -implicitDefEqProofs only [go_sem, Try.f173]
  obtain ⟨r1, h2, h⟩ := bind_some' h
  have hw := M_slices_IndexFunc_int_int__logic_first_1_1.w (x.1, x.2) _ h2
  refine .vars [] [(3000000, 3000000)] _ _ _ _ hw (by (first | rfl | simp -implicitDefEqProofs only [go_sem] <;> rfl)) (by rfl) (by rfl) (by rfl) (by rfl) (by (first | rfl | simp -implicitDefEqProofs only [go_sem] <;> rfl)) (by (first | rfl | simp -implicitDefEqProofs only [go_sem] <;> rfl)) (by (first | rfl | simp -implicitDefEqProofs only [go_sem] <;> rfl)) ?_
  clear hw
  try simp -implicitDefEqProofs only [go_sem]
  injection h with h; subst h
  first | exact ⟨by (first | rfl | simp -implicitDefEqProofs only [go_sem] <;> rfl), [], by rfl, by (first | rfl | simp -implicitDefEqProofs only [go_sem] <;> rfl)⟩ | exact ⟨by (first | rfl | simp -implicitDefEqProofs only [go_sem] <;> rfl), [], by rfl⟩ | exact ⟨by (first | rfl | simp -implicitDefEqProofs only [go_sem] <;> rfl), [], by (simp -implicitDefEqProofs only [go_sem] <;> first | done | rfl | trivial)⟩ | exact ⟨[], by rfl, by (first | rfl | simp -implicitDefEqProofs only [go_sem] <;> rfl)⟩ | exact ⟨[], by rfl, by (simp -implicitDefEqProofs only [go_sem] <;> first | done | rfl | trivial)⟩
def M_logic_first_1 (x : Int × List Int) : Option (Bool) :=
  M_slices_ContainsFunc_int_int__logic_first_1_1 (x.2, x.1) >>= fun r1 =>
  some r1
set_option maxHeartbeats 8000000 in
theorem M_logic_first_1.w : ∀ (x : Int × List Int) (r : Bool), M_logic_first_1 x = some r → (fun (x : Int × List Int) (r : Bool) => FnB Try.prog 172 [(3000000, [.v (.slice .foreign (x.2.map AV.i64))])] [.a (.i64 x.1), .p 3000000] (.bool r) [(3000000, [.v (.slice .foreign (x.2.map AV.i64))])]) x r := by
  intro x r h
  rw [M_logic_first_1] at h
  try dsimp only
  refine FnB.of_lc mix fn_172 lok_172 (by rfl) (by rfl) fun c => ?_
  simp -implicitDefEqProofs only [go_sem, Try.f172]
  obtain ⟨r1, h2, h⟩ := bind_some' h
  have hw := M_slices_ContainsFunc_int_int__logic_first_1_1.w (x.2, x.1) _ h2
  refine .vars [] [(3000000, 2)] _ _ _ _ hw (by (first | rfl | simp -implicitDefEqProofs only [go_sem] <;> rfl)) (by rfl) (by rfl) (by rfl) (by rfl) (by (first | rfl | simp -implicitDefEqProofs only [go_sem] <;> rfl)) (by (first | rfl | simp -implicitDefEqProofs only [go_sem] <;> rfl)) (by (first | rfl | simp -implicitDefEqProofs only [go_sem] <;> rfl)) ?_
  clear hw
  try simp -implicitDefEqProofs only [go_sem]
  injection h with h; subst h
  first | exact ⟨by (first | rfl | simp -implicitDefEqProofs only [go_sem] <;> rfl), [], by rfl, by (first | rfl | simp -implicitDefEqProofs only [go_sem] <;> rfl)⟩ | exact ⟨by (first | rfl | simp -implicitDefEqProofs only [go_sem] <;> rfl), [], by rfl⟩ | exact ⟨by (first | rfl | simp -implicitDefEqProofs only [go_sem] <;> rfl), [], by (simp -implicitDefEqProofs only [go_sem] <;> first | done | rfl | trivial)⟩ | exact ⟨[], by rfl, by (first | rfl | simp -implicitDefEqProofs only [go_sem] <;> rfl)⟩ | exact ⟨[], by rfl, by (simp -implicitDefEqProofs only [go_sem] <;> first | done | rfl | trivial)⟩
def M_logic_first (x : List Int × Int × Int × Int) : Option (Int) :=
  M_logic_first_1 (x.2.1, x.1) >>= fun r1 =>
  if r1 = true then
    some x.2.1
  else
    M_logic_first_1 (x.2.2.1, x.1) >>= fun r4 =>
    if r4 = true then
      some x.2.2.1
    else
      some x.2.2.2
set_option maxHeartbeats 8000000 in
theorem M_logic_first.w : ∀ (x : List Int × Int × Int × Int) (r : Int), M_logic_first x = some r → (fun (x : List Int × Int × Int × Int) (r : Int) => Fn Try.prog 168 [.slice .foreign (x.1.map AV.i64), .i64 x.2.1, .i64 x.2.2.1, .i64 x.2.2.2] (.i64 r)) x r := by
  intro x r h
  rw [M_logic_first] at h
  try dsimp only
  refine Fn.of_lc mix fn_168 lok_168 (by rfl) (flC (flat_slice _ (fun _ => .atom _) _) (flC (.atom _) (flC (.atom _) (flC (.atom _) (flN))))) (.atom _) ?_
  simp -implicitDefEqProofs only [go_sem, Try.f168]
  obtain ⟨r1, h2, h⟩ := bind_some' h
  have hw := M_logic_first_1.w (x.2.1, x.1) _ h2
  refine .vars [] [(3000000, 4)] _ _ _ _ hw (by (first | rfl | simp -implicitDefEqProofs only [go_sem] <;> rfl)) (by rfl) (by rfl) (by rfl) (by rfl) (by (first | rfl | simp -implicitDefEqProofs only [go_sem] <;> rfl)) (by (first | rfl | simp -implicitDefEqProofs only [go_sem] <;> rfl)) (by (first | rfl | simp -implicitDefEqProofs only [go_sem] <;> rfl)) ?_
  clear hw
  try simp -implicitDefEqProofs only [go_sem]
  by_cases h3 : r1 = true
  · replace h := ite_some h h3
    try simp -implicitDefEqProofs only [go_sem, h3]
    injection h with h; subst h
    first | rfl | simp -implicitDefEqProofs only [go_sem, h3] <;> rfl
  · replace h := ite_none h h3; replace h3 := bfalse h3
    try simp -implicitDefEqProofs only [go_sem, h3]
    obtain ⟨r4, h5, h⟩ := bind_some' h
    have hw := M_logic_first_1.w (x.2.2.1, x.1) _ h5
    refine .vars [] [(3000000, 4)] _ _ _ _ hw (by (first | rfl | simp -implicitDefEqProofs only [go_sem, h3] <;> rfl)) (by rfl) (by rfl) (by rfl) (by rfl) (by (first | rfl | simp -implicitDefEqProofs only [go_sem, h3] <;> rfl)) (by (first | rfl | simp -implicitDefEqProofs only [go_sem, h3] <;> rfl)) (by (first | rfl | simp -implicitDefEqProofs only [go_sem, h3] <;> rfl)) ?_
    clear hw
    try simp -implicitDefEqProofs only [go_sem, h3]
    by_cases h6 : r4 = true
    · replace h := ite_some h h6
      try simp -implicitDefEqProofs only [go_sem, h3, h6]
      injection h with h; subst h
      first | rfl | simp -implicitDefEqProofs only [go_sem, h3, h6] <;> rfl
    · replace h := ite_none h h6; replace h6 := bfalse h6
      try simp -implicitDefEqProofs only [go_sem, h3, h6]
      injection h with h; subst h
      first | rfl | simp -implicitDefEqProofs only [go_sem, h3, h6] <;> rfl
end Go.Proofs.Ytcfekacmmfdggaa.G
set_option linter.unusedVariables false
set_option linter.unusedSimpArgs false
set_option maxRecDepth 100000
namespace Go.Proofs.Ytcfekacmmfdggaa.G
theorem lok_157 : (Try.f157.body.isSome && !(Try.f157.name == "runtime.NumGoroutine") && okL (bodyF Try.f157) Try.f157.ntmps (bodyF Try.f157)) = true := by kernel_rfl
def M_logic_And (x : List Int) : Option (Int) :=
  M_logic_first (x, 0, 1, 2) >>= fun r1 =>
  some r1
set_option maxHeartbeats 8000000 in
theorem M_logic_And.w : ∀ (x : List Int) (r : Int), M_logic_And x = some r → (fun (x : List Int) (r : Int) => Fn Try.prog 157 [.slice .foreign (x.map AV.i64)] (.i64 r)) x r := by
  intro x r h
  rw [M_logic_And] at h
  try dsimp only
  refine Fn.of_lc mix fn_157 lok_157 (by rfl) (flC (flat_slice _ (fun _ => .atom _) _) (flN)) (.atom _) ?_
  simp -implicitDefEqProofs only [go_sem, Try.f157]
  obtain ⟨r1, h2, h⟩ := bind_some' h
  refine .plain _ _ rfl (M_logic_first.w (x, 0, 1, 2) _ h2) ?_
  try simp -implicitDefEqProofs only [go_sem]
  injection h with h; subst h
  first | rfl | simp -implicitDefEqProofs only [go_sem] <;> rfl
end Go.Proofs.Ytcfekacmmfdggaa.G
set_option linter.unusedVariables false
set_option linter.unusedSimpArgs false
set_option maxRecDepth 100000
namespace Go.Proofs.Ytcfekacmmfdggaa.G
theorem lok_158 : (Try.f158.body.isSome && !(Try.f158.name == "runtime.NumGoroutine") && okL (bodyF Try.f158) Try.f158.ntmps (bodyF Try.f158)) = true := by kernel_rfl
def M_logic_Or (x : List Int) : Option (Int) :=
  M_logic_first (x, 2, 1, 0) >>= fun r1 =>
  some r1
set_option maxHeartbeats 8000000 in
theorem M_logic_Or.w : ∀ (x : List Int) (r : Int), M_logic_Or x = some r → (fun (x : List Int) (r : Int) => Fn Try.prog 158 [.slice .foreign (x.map AV.i64)] (.i64 r)) x r := by
  intro x r h
  rw [M_logic_Or] at h
  try dsimp only
  refine Fn.of_lc mix fn_158 lok_158 (by rfl) (flC (flat_slice _ (fun _ => .atom _) _) (flN)) (.atom _) ?_
  simp -implicitDefEqProofs only [go_sem, Try.f158]
  obtain ⟨r1, h2, h⟩ := bind_some' h
  refine .plain _ _ rfl (M_logic_first.w (x, 2, 1, 0) _ h2) ?_
  try simp -implicitDefEqProofs only [go_sem]
  injection h with h; subst h
  first | rfl | simp -implicitDefEqProofs only [go_sem] <;> rfl
end Go.Proofs.Ytcfekacmmfdggaa.G
set_option linter.unusedVariables false
set_option linter.unusedSimpArgs false
set_option maxRecDepth 100000
namespace Go.Proofs.Ytcfekacmmfdggaa.G
theorem lok_156 : (Try.f156.body.isSome && !(Try.f156.name == "runtime.NumGoroutine") && okL (bodyF Try.f156) Try.f156.ntmps (bodyF Try.f156)) = true := by kernel_rfl
def M_reject_isNull (x : T_api_Term × Set64) : Option (Bool) :=
  if (x.1.Kind == 1) = true then
    M_sets_Has (x.2, x.1.Table) >>= fun r2 =>
    some r2
  else
    some x.1.Value.Null
set_option maxHeartbeats 8000000 in
theorem M_reject_isNull.w : ∀ (x : T_api_Term × Set64) (r : Bool), M_reject_isNull x = some r → (fun (x : T_api_Term × Set64) (r : Bool) => Fn Try.prog 156 [.agg (T_api_Term.C x.1), .w x.2] (.bool r)) x r := by
  intro x r h
  rw [M_reject_isNull] at h
  try dsimp only
  refine Fn.of_lc mix fn_156 lok_156 (by rfl) (flC (T_api_Term.flatC _) (flC (.atom _) (flN))) (.atom _) ?_
  simp -implicitDefEqProofs only [go_sem, Try.f156]
  by_cases h1 : (x.1.Kind == 1) = true
  · replace h := ite_some h h1
    try simp -implicitDefEqProofs only [go_sem, h1]
    obtain ⟨r2, h3, h⟩ := bind_some' h
    refine .plain _ _ rfl (M_sets_Has.w (x.2, x.1.Table) _ h3) ?_
    try simp -implicitDefEqProofs only [go_sem, h1]
    injection h with h; subst h
    first | rfl | simp -implicitDefEqProofs only [go_sem, h1] <;> rfl
  · replace h := ite_none h h1; replace h1 := bfalse h1
    try simp -implicitDefEqProofs only [go_sem, h1]
    injection h with h; subst h
    first | rfl | simp -implicitDefEqProofs only [go_sem, h1] <;> rfl
end Go.Proofs.Ytcfekacmmfdggaa.G
set_option linter.unusedVariables false
set_option linter.unusedSimpArgs false
set_option maxRecDepth 100000
namespace Go.Proofs.Ytcfekacmmfdggaa.G
theorem lok_154 : (Try.f154.body.isSome && !(Try.f154.name == "runtime.NumGoroutine") && okL (bodyF Try.f154) Try.f154.ntmps (bodyF Try.f154)) = true := by kernel_rfl
def M_reject_only (x : Int) : Option (A3_Bool) :=
  M_logic_And ([x]) >>= fun r1 =>
  if (r1 == 0) = true then
    some (⟨true, false, false⟩ : A3_Bool)
  else
    if (r1 == 1) = true then
      some (⟨false, true, false⟩ : A3_Bool)
    else
      if (r1 == 2) = true then
        some (⟨false, false, true⟩ : A3_Bool)
      else
        none
set_option maxHeartbeats 8000000 in
theorem M_reject_only.w : ∀ (x : Int) (r : A3_Bool), M_reject_only x = some r → (fun (x : Int) (r : A3_Bool) => Fn Try.prog 154 [.i64 x] (.agg (A3_Bool.C r))) x r := by
  intro x r h
  rw [M_reject_only] at h
  try dsimp only
  refine Fn.of_lc mix fn_154 lok_154 (by rfl) (flC (.atom _) (flN)) (A3_Bool.flatC _) ?_
  simp -implicitDefEqProofs only [go_sem, Try.f154]
  obtain ⟨r1, h2, h⟩ := bind_some' h
  have hw := M_logic_And.w ([x]) _ h2
  simp -implicitDefEqProofs only [go_sem] at hw
  refine .plain _ _ rfl hw ?_
  clear hw
  try simp -implicitDefEqProofs only [go_sem]
  by_cases h3 : (r1 == 0) = true
  · replace h := ite_some h h3; have h4 : r1 = 0 := by simpa using h3
    try simp -implicitDefEqProofs only [go_sem, h4]
    injection h with h; subst h
    first | rfl | simp -implicitDefEqProofs only [go_sem, h4] <;> rfl
  · replace h := ite_none h h3
    by_cases h5 : (r1 == 1) = true
    · replace h := ite_some h h5; have h6 : r1 = 1 := by simpa using h5
      try simp -implicitDefEqProofs only [go_sem, h6]
      injection h with h; subst h
      first | rfl | simp -implicitDefEqProofs only [go_sem, h6] <;> rfl
    · replace h := ite_none h h5
      by_cases h7 : (r1 == 2) = true
      · replace h := ite_some h h7; have h8 : r1 = 2 := by simpa using h7
        try simp -implicitDefEqProofs only [go_sem, h8]
        injection h with h; subst h
        first | rfl | simp -implicitDefEqProofs only [go_sem, h8] <;> rfl
      · replace h := ite_none h h7
        cases h
end Go.Proofs.Ytcfekacmmfdggaa.G
set_option linter.unusedVariables false
set_option linter.unusedSimpArgs false
set_option maxRecDepth 100000
namespace Go.Proofs.Ytcfekacmmfdggaa.G
theorem lok_171 : (Try.f171.body.isSome && !(Try.f171.name == "runtime.NumGoroutine") && okL (bodyF Try.f171) Try.f171.ntmps (bodyF Try.f171)) = true := by kernel_rfl
def M_value_side (x : Int × Int) : Option (Int) :=
  if (decide (x.1 < x.2)) = true then
    some 0
  else
    if (x.1 == x.2) = true then
      some 1
    else
      some 2
set_option maxHeartbeats 8000000 in
theorem M_value_side.w : ∀ (x : Int × Int) (r : Int), M_value_side x = some r → (fun (x : Int × Int) (r : Int) => Fn Try.prog 171 [.i64 x.1, .i64 x.2] (.i64 r)) x r := by
  intro x r h
  rw [M_value_side] at h
  try dsimp only
  refine Fn.of_lc mix fn_171 lok_171 (by rfl) (flC (.atom _) (flC (.atom _) (flN))) (.atom _) ?_
  simp -implicitDefEqProofs only [go_sem, Try.f171]
  by_cases h1 : (decide (x.1 < x.2)) = true
  · replace h := ite_some h h1
    try simp -implicitDefEqProofs only [go_sem, h1]
    injection h with h; subst h
    first | rfl | simp -implicitDefEqProofs only [go_sem, h1] <;> rfl
  · replace h := ite_none h h1; replace h1 := bfalse h1
    try simp -implicitDefEqProofs only [go_sem, h1]
    by_cases h2 : (x.1 == x.2) = true
    · replace h := ite_some h h2
      try simp -implicitDefEqProofs only [go_sem, h1, h2]
      injection h with h; subst h
      first | rfl | simp -implicitDefEqProofs only [go_sem, h1, h2] <;> rfl
    · replace h := ite_none h h2; replace h2 := bfalse h2
      try simp -implicitDefEqProofs only [go_sem, h1, h2]
      injection h with h; subst h
      first | rfl | simp -implicitDefEqProofs only [go_sem, h1, h2] <;> rfl
end Go.Proofs.Ytcfekacmmfdggaa.G
set_option linter.unusedVariables false
set_option linter.unusedSimpArgs false
set_option maxRecDepth 100000
namespace Go.Proofs.Ytcfekacmmfdggaa.G
@[go_sem] theorem lrp_167_4 : lrp Try.prog 167 4 = (10, []) := by kernel_rfl
theorem lok_167 : (Try.f167.body.isSome && !(Try.f167.name == "runtime.NumGoroutine") && okL (bodyF Try.f167) Try.f167.ntmps (bodyF Try.f167)) = true := by kernel_rfl
def M_value_Compare (x : Int × T_api_Value × T_api_Value) : Option (Int) :=
  if (decide (x.1 < 1)) = true then
    some 1
  else
    if (decide (x.1 > 6)) = true then
      some 1
    else
      if x.2.1.Null = true then
        some 1
      else
        if x.2.2.Null = true then
          some 1
        else
          M_value_side (x.2.1.N, x.2.2.N) >>= fun r5 =>
          if (x.1 == 0) = true then
            if (r5 == 0) = true then
              some 0
            else
              if (r5 == 1) = true then
                some 0
              else
                if (r5 == 2) = true then
                  some 0
                else
                  none
          else
            if (x.1 == 1) = true then
              if (r5 == 0) = true then
                some 0
              else
                if (r5 == 1) = true then
                  some 2
                else
                  if (r5 == 2) = true then
                    some 0
                  else
                    none
            else
              if (x.1 == 2) = true then
                if (r5 == 0) = true then
                  some 2
                else
                  if (r5 == 1) = true then
                    some 0
                  else
                    if (r5 == 2) = true then
                      some 2
                    else
                      none
              else
                if (x.1 == 3) = true then
                  if (r5 == 0) = true then
                    some 2
                  else
                    if (r5 == 1) = true then
                      some 0
                    else
                      if (r5 == 2) = true then
                        some 0
                      else
                        none
                else
                  if (x.1 == 4) = true then
                    if (r5 == 0) = true then
                      some 2
                    else
                      if (r5 == 1) = true then
                        some 2
                      else
                        if (r5 == 2) = true then
                          some 0
                        else
                          none
                  else
                    if (x.1 == 5) = true then
                      if (r5 == 0) = true then
                        some 0
                      else
                        if (r5 == 1) = true then
                          some 0
                        else
                          if (r5 == 2) = true then
                            some 2
                          else
                            none
                    else
                      if (x.1 == 6) = true then
                        if (r5 == 0) = true then
                          some 0
                        else
                          if (r5 == 1) = true then
                            some 2
                          else
                            if (r5 == 2) = true then
                              some 2
                            else
                              none
                      else
                        none
set_option maxHeartbeats 8000000 in
theorem M_value_Compare.w : ∀ (x : Int × T_api_Value × T_api_Value) (r : Int), M_value_Compare x = some r → (fun (x : Int × T_api_Value × T_api_Value) (r : Int) => Fn Try.prog 167 [.i64 x.1, .agg (T_api_Value.C x.2.1), .agg (T_api_Value.C x.2.2)] (.i64 r)) x r := by
  intro x r h
  rw [M_value_Compare] at h
  try dsimp only
  refine Fn.of_lc mix fn_167 lok_167 (by rfl) (flC (.atom _) (flC (T_api_Value.flatC _) (flC (T_api_Value.flatC _) (flN)))) (.atom _) ?_
  simp -implicitDefEqProofs only [go_sem, Try.f167]
  by_cases h1 : (decide (x.1 < 1)) = true
  · replace h := ite_some h h1
    try simp -implicitDefEqProofs only [go_sem, h1]
    injection h with h; subst h
    first | rfl | simp -implicitDefEqProofs only [go_sem, h1] <;> rfl
  · replace h := ite_none h h1; replace h1 := bfalse h1
    try simp -implicitDefEqProofs only [go_sem, h1]
    by_cases h2 : (decide (x.1 > 6)) = true
    · replace h := ite_some h h2
      try simp -implicitDefEqProofs only [go_sem, h1, h2]
      injection h with h; subst h
      first | rfl | simp -implicitDefEqProofs only [go_sem, h1, h2] <;> rfl
    · replace h := ite_none h h2; replace h2 := bfalse h2
      try simp -implicitDefEqProofs only [go_sem, h1, h2]
      by_cases h3 : x.2.1.Null = true
      · replace h := ite_some h h3
        try simp -implicitDefEqProofs only [go_sem, h1, h2, h3]
        injection h with h; subst h
        first | rfl | simp -implicitDefEqProofs only [go_sem, h1, h2, h3] <;> rfl
      · replace h := ite_none h h3; replace h3 := bfalse h3
        try simp -implicitDefEqProofs only [go_sem, h1, h2, h3]
        by_cases h4 : x.2.2.Null = true
        · replace h := ite_some h h4
          try simp -implicitDefEqProofs only [go_sem, h1, h2, h3, h4]
          injection h with h; subst h
          first | rfl | simp -implicitDefEqProofs only [go_sem, h1, h2, h3, h4] <;> rfl
        · replace h := ite_none h h4; replace h4 := bfalse h4
          try simp -implicitDefEqProofs only [go_sem, h1, h2, h3, h4]
          obtain ⟨r5, h6, h⟩ := bind_some' h
          refine .plain _ _ rfl (M_value_side.w (x.2.1.N, x.2.2.N) _ h6) ?_
          try simp -implicitDefEqProofs only [go_sem, h1, h2, h3, h4]
          by_cases h7 : (x.1 == 0) = true
          · replace h := ite_some h h7; have h8 : x.1 = 0 := by simpa using h7
            try simp -implicitDefEqProofs only [go_sem, h1, h2, h3, h4, h8]
            by_cases h9 : (r5 == 0) = true
            · replace h := ite_some h h9; have h10 : r5 = 0 := by simpa using h9
              try simp -implicitDefEqProofs only [go_sem, h1, h2, h3, h4, h8, h10]
              injection h with h; subst h
              first | rfl | simp -implicitDefEqProofs only [go_sem, h1, h2, h3, h4, h8, h10] <;> rfl
            · replace h := ite_none h h9
              by_cases h11 : (r5 == 1) = true
              · replace h := ite_some h h11; have h12 : r5 = 1 := by simpa using h11
                try simp -implicitDefEqProofs only [go_sem, h1, h2, h3, h4, h8, h12]
                injection h with h; subst h
                first | rfl | simp -implicitDefEqProofs only [go_sem, h1, h2, h3, h4, h8, h12] <;> rfl
              · replace h := ite_none h h11
                by_cases h13 : (r5 == 2) = true
                · replace h := ite_some h h13; have h14 : r5 = 2 := by simpa using h13
                  try simp -implicitDefEqProofs only [go_sem, h1, h2, h3, h4, h8, h14]
                  injection h with h; subst h
                  first | rfl | simp -implicitDefEqProofs only [go_sem, h1, h2, h3, h4, h8, h14] <;> rfl
                · replace h := ite_none h h13
                  cases h
          · replace h := ite_none h h7
            by_cases h15 : (x.1 == 1) = true
            · replace h := ite_some h h15; have h16 : x.1 = 1 := by simpa using h15
              try simp -implicitDefEqProofs only [go_sem, h1, h2, h3, h4, h16]
              by_cases h17 : (r5 == 0) = true
              · replace h := ite_some h h17; have h18 : r5 = 0 := by simpa using h17
                try simp -implicitDefEqProofs only [go_sem, h1, h2, h3, h4, h16, h18]
                injection h with h; subst h
                first | rfl | simp -implicitDefEqProofs only [go_sem, h1, h2, h3, h4, h16, h18] <;> rfl
              · replace h := ite_none h h17
                by_cases h19 : (r5 == 1) = true
                · replace h := ite_some h h19; have h20 : r5 = 1 := by simpa using h19
                  try simp -implicitDefEqProofs only [go_sem, h1, h2, h3, h4, h16, h20]
                  injection h with h; subst h
                  first | rfl | simp -implicitDefEqProofs only [go_sem, h1, h2, h3, h4, h16, h20] <;> rfl
                · replace h := ite_none h h19
                  by_cases h21 : (r5 == 2) = true
                  · replace h := ite_some h h21; have h22 : r5 = 2 := by simpa using h21
                    try simp -implicitDefEqProofs only [go_sem, h1, h2, h3, h4, h16, h22]
                    injection h with h; subst h
                    first | rfl | simp -implicitDefEqProofs only [go_sem, h1, h2, h3, h4, h16, h22] <;> rfl
                  · replace h := ite_none h h21
                    cases h
            · replace h := ite_none h h15
              by_cases h23 : (x.1 == 2) = true
              · replace h := ite_some h h23; have h24 : x.1 = 2 := by simpa using h23
                try simp -implicitDefEqProofs only [go_sem, h1, h2, h3, h4, h24]
                by_cases h25 : (r5 == 0) = true
                · replace h := ite_some h h25; have h26 : r5 = 0 := by simpa using h25
                  try simp -implicitDefEqProofs only [go_sem, h1, h2, h3, h4, h24, h26]
                  injection h with h; subst h
                  first | rfl | simp -implicitDefEqProofs only [go_sem, h1, h2, h3, h4, h24, h26] <;> rfl
                · replace h := ite_none h h25
                  by_cases h27 : (r5 == 1) = true
                  · replace h := ite_some h h27; have h28 : r5 = 1 := by simpa using h27
                    try simp -implicitDefEqProofs only [go_sem, h1, h2, h3, h4, h24, h28]
                    injection h with h; subst h
                    first | rfl | simp -implicitDefEqProofs only [go_sem, h1, h2, h3, h4, h24, h28] <;> rfl
                  · replace h := ite_none h h27
                    by_cases h29 : (r5 == 2) = true
                    · replace h := ite_some h h29; have h30 : r5 = 2 := by simpa using h29
                      try simp -implicitDefEqProofs only [go_sem, h1, h2, h3, h4, h24, h30]
                      injection h with h; subst h
                      first | rfl | simp -implicitDefEqProofs only [go_sem, h1, h2, h3, h4, h24, h30] <;> rfl
                    · replace h := ite_none h h29
                      cases h
              · replace h := ite_none h h23
                by_cases h31 : (x.1 == 3) = true
                · replace h := ite_some h h31; have h32 : x.1 = 3 := by simpa using h31
                  try simp -implicitDefEqProofs only [go_sem, h1, h2, h3, h4, h32]
                  by_cases h33 : (r5 == 0) = true
                  · replace h := ite_some h h33; have h34 : r5 = 0 := by simpa using h33
                    try simp -implicitDefEqProofs only [go_sem, h1, h2, h3, h4, h32, h34]
                    injection h with h; subst h
                    first | rfl | simp -implicitDefEqProofs only [go_sem, h1, h2, h3, h4, h32, h34] <;> rfl
                  · replace h := ite_none h h33
                    by_cases h35 : (r5 == 1) = true
                    · replace h := ite_some h h35; have h36 : r5 = 1 := by simpa using h35
                      try simp -implicitDefEqProofs only [go_sem, h1, h2, h3, h4, h32, h36]
                      injection h with h; subst h
                      first | rfl | simp -implicitDefEqProofs only [go_sem, h1, h2, h3, h4, h32, h36] <;> rfl
                    · replace h := ite_none h h35
                      by_cases h37 : (r5 == 2) = true
                      · replace h := ite_some h h37; have h38 : r5 = 2 := by simpa using h37
                        try simp -implicitDefEqProofs only [go_sem, h1, h2, h3, h4, h32, h38]
                        injection h with h; subst h
                        first | rfl | simp -implicitDefEqProofs only [go_sem, h1, h2, h3, h4, h32, h38] <;> rfl
                      · replace h := ite_none h h37
                        cases h
                · replace h := ite_none h h31
                  by_cases h39 : (x.1 == 4) = true
                  · replace h := ite_some h h39; have h40 : x.1 = 4 := by simpa using h39
                    try simp -implicitDefEqProofs only [go_sem, h1, h2, h3, h4, h40]
                    by_cases h41 : (r5 == 0) = true
                    · replace h := ite_some h h41; have h42 : r5 = 0 := by simpa using h41
                      try simp -implicitDefEqProofs only [go_sem, h1, h2, h3, h4, h40, h42]
                      injection h with h; subst h
                      first | rfl | simp -implicitDefEqProofs only [go_sem, h1, h2, h3, h4, h40, h42] <;> rfl
                    · replace h := ite_none h h41
                      by_cases h43 : (r5 == 1) = true
                      · replace h := ite_some h h43; have h44 : r5 = 1 := by simpa using h43
                        try simp -implicitDefEqProofs only [go_sem, h1, h2, h3, h4, h40, h44]
                        injection h with h; subst h
                        first | rfl | simp -implicitDefEqProofs only [go_sem, h1, h2, h3, h4, h40, h44] <;> rfl
                      · replace h := ite_none h h43
                        by_cases h45 : (r5 == 2) = true
                        · replace h := ite_some h h45; have h46 : r5 = 2 := by simpa using h45
                          try simp -implicitDefEqProofs only [go_sem, h1, h2, h3, h4, h40, h46]
                          injection h with h; subst h
                          first | rfl | simp -implicitDefEqProofs only [go_sem, h1, h2, h3, h4, h40, h46] <;> rfl
                        · replace h := ite_none h h45
                          cases h
                  · replace h := ite_none h h39
                    by_cases h47 : (x.1 == 5) = true
                    · replace h := ite_some h h47; have h48 : x.1 = 5 := by simpa using h47
                      try simp -implicitDefEqProofs only [go_sem, h1, h2, h3, h4, h48]
                      by_cases h49 : (r5 == 0) = true
                      · replace h := ite_some h h49; have h50 : r5 = 0 := by simpa using h49
                        try simp -implicitDefEqProofs only [go_sem, h1, h2, h3, h4, h48, h50]
                        injection h with h; subst h
                        first | rfl | simp -implicitDefEqProofs only [go_sem, h1, h2, h3, h4, h48, h50] <;> rfl
                      · replace h := ite_none h h49
                        by_cases h51 : (r5 == 1) = true
                        · replace h := ite_some h h51; have h52 : r5 = 1 := by simpa using h51
                          try simp -implicitDefEqProofs only [go_sem, h1, h2, h3, h4, h48, h52]
                          injection h with h; subst h
                          first | rfl | simp -implicitDefEqProofs only [go_sem, h1, h2, h3, h4, h48, h52] <;> rfl
                        · replace h := ite_none h h51
                          by_cases h53 : (r5 == 2) = true
                          · replace h := ite_some h h53; have h54 : r5 = 2 := by simpa using h53
                            try simp -implicitDefEqProofs only [go_sem, h1, h2, h3, h4, h48, h54]
                            injection h with h; subst h
                            first | rfl | simp -implicitDefEqProofs only [go_sem, h1, h2, h3, h4, h48, h54] <;> rfl
                          · replace h := ite_none h h53
                            cases h
                    · replace h := ite_none h h47
                      by_cases h55 : (x.1 == 6) = true
                      · replace h := ite_some h h55; have h56 : x.1 = 6 := by simpa using h55
                        try simp -implicitDefEqProofs only [go_sem, h1, h2, h3, h4, h56]
                        by_cases h57 : (r5 == 0) = true
                        · replace h := ite_some h h57; have h58 : r5 = 0 := by simpa using h57
                          try simp -implicitDefEqProofs only [go_sem, h1, h2, h3, h4, h56, h58]
                          injection h with h; subst h
                          first | rfl | simp -implicitDefEqProofs only [go_sem, h1, h2, h3, h4, h56, h58] <;> rfl
                        · replace h := ite_none h h57
                          by_cases h59 : (r5 == 1) = true
                          · replace h := ite_some h h59; have h60 : r5 = 1 := by simpa using h59
                            try simp -implicitDefEqProofs only [go_sem, h1, h2, h3, h4, h56, h60]
                            injection h with h; subst h
                            first | rfl | simp -implicitDefEqProofs only [go_sem, h1, h2, h3, h4, h56, h60] <;> rfl
                          · replace h := ite_none h h59
                            by_cases h61 : (r5 == 2) = true
                            · replace h := ite_some h h61; have h62 : r5 = 2 := by simpa using h61
                              try simp -implicitDefEqProofs only [go_sem, h1, h2, h3, h4, h56, h62]
                              injection h with h; subst h
                              first | rfl | simp -implicitDefEqProofs only [go_sem, h1, h2, h3, h4, h56, h62] <;> rfl
                            · replace h := ite_none h h61
                              cases h
                      · replace h := ite_none h h55
                        cases h
end Go.Proofs.Ytcfekacmmfdggaa.G
set_option linter.unusedVariables false
set_option linter.unusedSimpArgs false
set_option maxRecDepth 100000
namespace Go.Proofs.Ytcfekacmmfdggaa.G
theorem lok_155 : (Try.f155.body.isSome && !(Try.f155.name == "runtime.NumGoroutine") && okL (bodyF Try.f155) Try.f155.ntmps (bodyF Try.f155)) = true := by kernel_rfl
def M_reject_compares (x : T_api_Pred × Set64) : Option (A3_Bool) :=
  if (decide (x.1.Op < 1)) = true then
    M_reject_only 1 >>= fun r2 =>
    some r2
  else
    if (decide (x.1.Op > 6)) = true then
      M_reject_only 1 >>= fun r5 =>
      some r5
    else
      M_reject_isNull (x.1.A, x.2) >>= fun r7 =>
      if r7 = true then
        M_reject_only 1 >>= fun r10 =>
        some r10
      else
        M_reject_isNull (x.1.B, x.2) >>= fun r12 =>
        if r12 = true then
          M_reject_only 1 >>= fun r15 =>
          some r15
        else
          if (x.1.A.Kind != 1) = true then
            if (x.1.B.Kind != 1) = true then
              M_value_Compare (x.1.Op, x.1.A.Value, x.1.B.Value) >>= fun r19 =>
              M_reject_only r19 >>= fun r21 =>
              some r21
            else
              some (⟨true, true, true⟩ : A3_Bool)
          else
            some (⟨true, true, true⟩ : A3_Bool)
set_option maxHeartbeats 8000000 in
theorem M_reject_compares.w : ∀ (x : T_api_Pred × Set64) (r : A3_Bool), M_reject_compares x = some r → (fun (x : T_api_Pred × Set64) (r : A3_Bool) => Fn Try.prog 155 [.agg (T_api_Pred.C x.1), .w x.2] (.agg (A3_Bool.C r))) x r := by
  intro x r h
  rw [M_reject_compares] at h
  try dsimp only
  refine Fn.of_lc mix fn_155 lok_155 (by rfl) (flC (T_api_Pred.flatC _) (flC (.atom _) (flN))) (A3_Bool.flatC _) ?_
  simp -implicitDefEqProofs only [go_sem, Try.f155]
  by_cases h1 : (decide (x.1.Op < 1)) = true
  · replace h := ite_some h h1
    try simp -implicitDefEqProofs only [go_sem, h1]
    obtain ⟨r2, h3, h⟩ := bind_some' h
    refine .plain _ _ rfl (M_reject_only.w 1 _ h3) ?_
    try simp -implicitDefEqProofs only [go_sem, h1]
    injection h with h; subst h
    first | rfl | simp -implicitDefEqProofs only [go_sem, h1] <;> rfl
  · replace h := ite_none h h1; replace h1 := bfalse h1
    try simp -implicitDefEqProofs only [go_sem, h1]
    by_cases h4 : (decide (x.1.Op > 6)) = true
    · replace h := ite_some h h4
      try simp -implicitDefEqProofs only [go_sem, h1, h4]
      obtain ⟨r5, h6, h⟩ := bind_some' h
      refine .plain _ _ rfl (M_reject_only.w 1 _ h6) ?_
      try simp -implicitDefEqProofs only [go_sem, h1, h4]
      injection h with h; subst h
      first | rfl | simp -implicitDefEqProofs only [go_sem, h1, h4] <;> rfl
    · replace h := ite_none h h4; replace h4 := bfalse h4
      try simp -implicitDefEqProofs only [go_sem, h1, h4]
      obtain ⟨r7, h8, h⟩ := bind_some' h
      refine .plain _ _ rfl (M_reject_isNull.w (x.1.A, x.2) _ h8) ?_
      try simp -implicitDefEqProofs only [go_sem, h1, h4]
      by_cases h9 : r7 = true
      · replace h := ite_some h h9
        try simp -implicitDefEqProofs only [go_sem, h1, h4, h9]
        obtain ⟨r10, h11, h⟩ := bind_some' h
        refine .plain _ _ rfl (M_reject_only.w 1 _ h11) ?_
        try simp -implicitDefEqProofs only [go_sem, h1, h4, h9]
        injection h with h; subst h
        first | rfl | simp -implicitDefEqProofs only [go_sem, h1, h4, h9] <;> rfl
      · replace h := ite_none h h9; replace h9 := bfalse h9
        try simp -implicitDefEqProofs only [go_sem, h1, h4, h9]
        obtain ⟨r12, h13, h⟩ := bind_some' h
        refine .plain _ _ rfl (M_reject_isNull.w (x.1.B, x.2) _ h13) ?_
        try simp -implicitDefEqProofs only [go_sem, h1, h4, h9]
        by_cases h14 : r12 = true
        · replace h := ite_some h h14
          try simp -implicitDefEqProofs only [go_sem, h1, h4, h9, h14]
          obtain ⟨r15, h16, h⟩ := bind_some' h
          refine .plain _ _ rfl (M_reject_only.w 1 _ h16) ?_
          try simp -implicitDefEqProofs only [go_sem, h1, h4, h9, h14]
          injection h with h; subst h
          first | rfl | simp -implicitDefEqProofs only [go_sem, h1, h4, h9, h14] <;> rfl
        · replace h := ite_none h h14; replace h14 := bfalse h14
          try simp -implicitDefEqProofs only [go_sem, h1, h4, h9, h14]
          by_cases h17 : (x.1.A.Kind != 1) = true
          · replace h := ite_some h h17
            try simp -implicitDefEqProofs only [go_sem, h1, h4, h9, h14, h17]
            by_cases h18 : (x.1.B.Kind != 1) = true
            · replace h := ite_some h h18
              try simp -implicitDefEqProofs only [go_sem, h1, h4, h9, h14, h17, h18]
              obtain ⟨r19, h20, h⟩ := bind_some' h
              refine .plain _ _ rfl (M_value_Compare.w (x.1.Op, x.1.A.Value, x.1.B.Value) _ h20) ?_
              try simp -implicitDefEqProofs only [go_sem, h1, h4, h9, h14, h17, h18]
              obtain ⟨r21, h22, h⟩ := bind_some' h
              refine .plain _ _ rfl (M_reject_only.w r19 _ h22) ?_
              try simp -implicitDefEqProofs only [go_sem, h1, h4, h9, h14, h17, h18]
              injection h with h; subst h
              first | rfl | simp -implicitDefEqProofs only [go_sem, h1, h4, h9, h14, h17, h18] <;> rfl
            · replace h := ite_none h h18; replace h18 := bfalse h18
              try simp -implicitDefEqProofs only [go_sem, h1, h4, h9, h14, h17, h18]
              injection h with h; subst h
              first | rfl | simp -implicitDefEqProofs only [go_sem, h1, h4, h9, h14, h17, h18] <;> rfl
          · replace h := ite_none h h17; replace h17 := bfalse h17
            try simp -implicitDefEqProofs only [go_sem, h1, h4, h9, h14, h17]
            injection h with h; subst h
            first | rfl | simp -implicitDefEqProofs only [go_sem, h1, h4, h9, h14, h17] <;> rfl
end Go.Proofs.Ytcfekacmmfdggaa.G
set_option linter.unusedVariables false
set_option linter.unusedSimpArgs false
set_option maxRecDepth 100000
namespace Go.Proofs.Ytcfekacmmfdggaa.G
theorem lok_159 : (Try.f159.body.isSome && !(Try.f159.name == "runtime.NumGoroutine") && okL (bodyF Try.f159) Try.f159.ntmps (bodyF Try.f159)) = true := by kernel_rfl
@[go_sem] theorem lrp_148_18 : lrp Try.prog 148 18 = (6, []) := by kernel_rfl
theorem lok_148 : (Try.f148.body.isSome && !(Try.f148.name == "runtime.NumGoroutine") && okL (bodyF Try.f148) Try.f148.ntmps (bodyF Try.f148)) = true := by kernel_rfl
def M_reject_both__logic_And.l1 (x : Int × Int × Int × A3_Bool × A3_Bool × A3_Bool × A3_Bool) : Option (A3_Bool) :=
  if (decide (x.2.2.1 < 3)) = true then
    if (x.1 == 0) = true then
      if x.2.2.2.1.e0 = true then
        if (x.2.2.1 == 0) = true then
          if x.2.2.2.2.1.e0 = true then
            M_logic_And ([0, 0]) >>= fun r9 =>
            if (r9 == 0) = true then
              M_reject_both__logic_And.l1 (0, x.2.1, (w64 1), x.2.2.2.1, x.2.2.2.2.1, x.2.2.2.2.2.1, (⟨true, x.2.2.2.2.2.2.e1, x.2.2.2.2.2.2.e2⟩ : A3_Bool))
            else
              if (r9 == 1) = true then
                M_reject_both__logic_And.l1 (0, x.2.1, (w64 1), x.2.2.2.1, x.2.2.2.2.1, x.2.2.2.2.2.1, (⟨x.2.2.2.2.2.2.e0, true, x.2.2.2.2.2.2.e2⟩ : A3_Bool))
              else
                if (r9 == 2) = true then
                  M_reject_both__logic_And.l1 (0, x.2.1, (w64 1), x.2.2.2.1, x.2.2.2.2.1, x.2.2.2.2.2.1, (⟨x.2.2.2.2.2.2.e0, x.2.2.2.2.2.2.e1, true⟩ : A3_Bool))
                else
                  none
          else
            M_reject_both__logic_And.l1 (0, x.2.1, (w64 1), x.2.2.2.1, x.2.2.2.2.1, x.2.2.2.2.2.1, x.2.2.2.2.2.2)
        else
          if (x.2.2.1 == 1) = true then
            if x.2.2.2.2.1.e1 = true then
              M_logic_And ([0, 1]) >>= fun r20 =>
              if (r20 == 0) = true then
                M_reject_both__logic_And.l1 (0, x.2.1, (w64 2), x.2.2.2.1, x.2.2.2.2.1, x.2.2.2.2.2.1, (⟨true, x.2.2.2.2.2.2.e1, x.2.2.2.2.2.2.e2⟩ : A3_Bool))
              else
                if (r20 == 1) = true then
                  M_reject_both__logic_And.l1 (0, x.2.1, (w64 2), x.2.2.2.1, x.2.2.2.2.1, x.2.2.2.2.2.1, (⟨x.2.2.2.2.2.2.e0, true, x.2.2.2.2.2.2.e2⟩ : A3_Bool))
                else
                  if (r20 == 2) = true then
                    M_reject_both__logic_And.l1 (0, x.2.1, (w64 2), x.2.2.2.1, x.2.2.2.2.1, x.2.2.2.2.2.1, (⟨x.2.2.2.2.2.2.e0, x.2.2.2.2.2.2.e1, true⟩ : A3_Bool))
                  else
                    none
            else
              M_reject_both__logic_And.l1 (0, x.2.1, (w64 2), x.2.2.2.1, x.2.2.2.2.1, x.2.2.2.2.2.1, x.2.2.2.2.2.2)
          else
            if (x.2.2.1 == 2) = true then
              if x.2.2.2.2.1.e2 = true then
                M_logic_And ([0, 2]) >>= fun r31 =>
                if (r31 == 0) = true then
                  M_reject_both__logic_And.l1 (0, x.2.1, (w64 3), x.2.2.2.1, x.2.2.2.2.1, x.2.2.2.2.2.1, (⟨true, x.2.2.2.2.2.2.e1, x.2.2.2.2.2.2.e2⟩ : A3_Bool))
                else
                  if (r31 == 1) = true then
                    M_reject_both__logic_And.l1 (0, x.2.1, (w64 3), x.2.2.2.1, x.2.2.2.2.1, x.2.2.2.2.2.1, (⟨x.2.2.2.2.2.2.e0, true, x.2.2.2.2.2.2.e2⟩ : A3_Bool))
                  else
                    if (r31 == 2) = true then
                      M_reject_both__logic_And.l1 (0, x.2.1, (w64 3), x.2.2.2.1, x.2.2.2.2.1, x.2.2.2.2.2.1, (⟨x.2.2.2.2.2.2.e0, x.2.2.2.2.2.2.e1, true⟩ : A3_Bool))
                    else
                      none
              else
                M_reject_both__logic_And.l1 (0, x.2.1, (w64 3), x.2.2.2.1, x.2.2.2.2.1, x.2.2.2.2.2.1, x.2.2.2.2.2.2)
            else
              none
      else
        M_reject_both__logic_And.l1 (0, x.2.1, (w64 (x.2.2.1 + 1)), x.2.2.2.1, x.2.2.2.2.1, x.2.2.2.2.2.1, x.2.2.2.2.2.2)
    else
      if (x.1 == 1) = true then
        if x.2.2.2.1.e1 = true then
          if (x.2.2.1 == 0) = true then
            if x.2.2.2.2.1.e0 = true then
              M_logic_And ([1, 0]) >>= fun r45 =>
              if (r45 == 0) = true then
                M_reject_both__logic_And.l1 (1, x.2.1, (w64 1), x.2.2.2.1, x.2.2.2.2.1, x.2.2.2.2.2.1, (⟨true, x.2.2.2.2.2.2.e1, x.2.2.2.2.2.2.e2⟩ : A3_Bool))
              else
                if (r45 == 1) = true then
                  M_reject_both__logic_And.l1 (1, x.2.1, (w64 1), x.2.2.2.1, x.2.2.2.2.1, x.2.2.2.2.2.1, (⟨x.2.2.2.2.2.2.e0, true, x.2.2.2.2.2.2.e2⟩ : A3_Bool))
                else
                  if (r45 == 2) = true then
                    M_reject_both__logic_And.l1 (1, x.2.1, (w64 1), x.2.2.2.1, x.2.2.2.2.1, x.2.2.2.2.2.1, (⟨x.2.2.2.2.2.2.e0, x.2.2.2.2.2.2.e1, true⟩ : A3_Bool))
                  else
                    none
            else
              M_reject_both__logic_And.l1 (1, x.2.1, (w64 1), x.2.2.2.1, x.2.2.2.2.1, x.2.2.2.2.2.1, x.2.2.2.2.2.2)
          else
            if (x.2.2.1 == 1) = true then
              if x.2.2.2.2.1.e1 = true then
                M_logic_And ([1, 1]) >>= fun r56 =>
                if (r56 == 0) = true then
                  M_reject_both__logic_And.l1 (1, x.2.1, (w64 2), x.2.2.2.1, x.2.2.2.2.1, x.2.2.2.2.2.1, (⟨true, x.2.2.2.2.2.2.e1, x.2.2.2.2.2.2.e2⟩ : A3_Bool))
                else
                  if (r56 == 1) = true then
                    M_reject_both__logic_And.l1 (1, x.2.1, (w64 2), x.2.2.2.1, x.2.2.2.2.1, x.2.2.2.2.2.1, (⟨x.2.2.2.2.2.2.e0, true, x.2.2.2.2.2.2.e2⟩ : A3_Bool))
                  else
                    if (r56 == 2) = true then
                      M_reject_both__logic_And.l1 (1, x.2.1, (w64 2), x.2.2.2.1, x.2.2.2.2.1, x.2.2.2.2.2.1, (⟨x.2.2.2.2.2.2.e0, x.2.2.2.2.2.2.e1, true⟩ : A3_Bool))
                    else
                      none
              else
                M_reject_both__logic_And.l1 (1, x.2.1, (w64 2), x.2.2.2.1, x.2.2.2.2.1, x.2.2.2.2.2.1, x.2.2.2.2.2.2)
            else
              if (x.2.2.1 == 2) = true then
                if x.2.2.2.2.1.e2 = true then
                  M_logic_And ([1, 2]) >>= fun r67 =>
                  if (r67 == 0) = true then
                    M_reject_both__logic_And.l1 (1, x.2.1, (w64 3), x.2.2.2.1, x.2.2.2.2.1, x.2.2.2.2.2.1, (⟨true, x.2.2.2.2.2.2.e1, x.2.2.2.2.2.2.e2⟩ : A3_Bool))
                  else
                    if (r67 == 1) = true then
                      M_reject_both__logic_And.l1 (1, x.2.1, (w64 3), x.2.2.2.1, x.2.2.2.2.1, x.2.2.2.2.2.1, (⟨x.2.2.2.2.2.2.e0, true, x.2.2.2.2.2.2.e2⟩ : A3_Bool))
                    else
                      if (r67 == 2) = true then
                        M_reject_both__logic_And.l1 (1, x.2.1, (w64 3), x.2.2.2.1, x.2.2.2.2.1, x.2.2.2.2.2.1, (⟨x.2.2.2.2.2.2.e0, x.2.2.2.2.2.2.e1, true⟩ : A3_Bool))
                      else
                        none
                else
                  M_reject_both__logic_And.l1 (1, x.2.1, (w64 3), x.2.2.2.1, x.2.2.2.2.1, x.2.2.2.2.2.1, x.2.2.2.2.2.2)
              else
                none
        else
          M_reject_both__logic_And.l1 (1, x.2.1, (w64 (x.2.2.1 + 1)), x.2.2.2.1, x.2.2.2.2.1, x.2.2.2.2.2.1, x.2.2.2.2.2.2)
      else
        if (x.1 == 2) = true then
          if x.2.2.2.1.e2 = true then
            if (x.2.2.1 == 0) = true then
              if x.2.2.2.2.1.e0 = true then
                M_logic_And ([2, 0]) >>= fun r81 =>
                if (r81 == 0) = true then
                  M_reject_both__logic_And.l1 (2, x.2.1, (w64 1), x.2.2.2.1, x.2.2.2.2.1, x.2.2.2.2.2.1, (⟨true, x.2.2.2.2.2.2.e1, x.2.2.2.2.2.2.e2⟩ : A3_Bool))
                else
                  if (r81 == 1) = true then
                    M_reject_both__logic_And.l1 (2, x.2.1, (w64 1), x.2.2.2.1, x.2.2.2.2.1, x.2.2.2.2.2.1, (⟨x.2.2.2.2.2.2.e0, true, x.2.2.2.2.2.2.e2⟩ : A3_Bool))
                  else
                    if (r81 == 2) = true then
                      M_reject_both__logic_And.l1 (2, x.2.1, (w64 1), x.2.2.2.1, x.2.2.2.2.1, x.2.2.2.2.2.1, (⟨x.2.2.2.2.2.2.e0, x.2.2.2.2.2.2.e1, true⟩ : A3_Bool))
                    else
                      none
              else
                M_reject_both__logic_And.l1 (2, x.2.1, (w64 1), x.2.2.2.1, x.2.2.2.2.1, x.2.2.2.2.2.1, x.2.2.2.2.2.2)
            else
              if (x.2.2.1 == 1) = true then
                if x.2.2.2.2.1.e1 = true then
                  M_logic_And ([2, 1]) >>= fun r92 =>
                  if (r92 == 0) = true then
                    M_reject_both__logic_And.l1 (2, x.2.1, (w64 2), x.2.2.2.1, x.2.2.2.2.1, x.2.2.2.2.2.1, (⟨true, x.2.2.2.2.2.2.e1, x.2.2.2.2.2.2.e2⟩ : A3_Bool))
                  else
                    if (r92 == 1) = true then
                      M_reject_both__logic_And.l1 (2, x.2.1, (w64 2), x.2.2.2.1, x.2.2.2.2.1, x.2.2.2.2.2.1, (⟨x.2.2.2.2.2.2.e0, true, x.2.2.2.2.2.2.e2⟩ : A3_Bool))
                    else
                      if (r92 == 2) = true then
                        M_reject_both__logic_And.l1 (2, x.2.1, (w64 2), x.2.2.2.1, x.2.2.2.2.1, x.2.2.2.2.2.1, (⟨x.2.2.2.2.2.2.e0, x.2.2.2.2.2.2.e1, true⟩ : A3_Bool))
                      else
                        none
                else
                  M_reject_both__logic_And.l1 (2, x.2.1, (w64 2), x.2.2.2.1, x.2.2.2.2.1, x.2.2.2.2.2.1, x.2.2.2.2.2.2)
              else
                if (x.2.2.1 == 2) = true then
                  if x.2.2.2.2.1.e2 = true then
                    M_logic_And ([2, 2]) >>= fun r103 =>
                    if (r103 == 0) = true then
                      M_reject_both__logic_And.l1 (2, x.2.1, (w64 3), x.2.2.2.1, x.2.2.2.2.1, x.2.2.2.2.2.1, (⟨true, x.2.2.2.2.2.2.e1, x.2.2.2.2.2.2.e2⟩ : A3_Bool))
                    else
                      if (r103 == 1) = true then
                        M_reject_both__logic_And.l1 (2, x.2.1, (w64 3), x.2.2.2.1, x.2.2.2.2.1, x.2.2.2.2.2.1, (⟨x.2.2.2.2.2.2.e0, true, x.2.2.2.2.2.2.e2⟩ : A3_Bool))
                      else
                        if (r103 == 2) = true then
                          M_reject_both__logic_And.l1 (2, x.2.1, (w64 3), x.2.2.2.1, x.2.2.2.2.1, x.2.2.2.2.2.1, (⟨x.2.2.2.2.2.2.e0, x.2.2.2.2.2.2.e1, true⟩ : A3_Bool))
                        else
                          none
                  else
                    M_reject_both__logic_And.l1 (2, x.2.1, (w64 3), x.2.2.2.1, x.2.2.2.2.1, x.2.2.2.2.2.1, x.2.2.2.2.2.2)
                else
                  none
          else
            M_reject_both__logic_And.l1 (2, x.2.1, (w64 (x.2.2.1 + 1)), x.2.2.2.1, x.2.2.2.2.1, x.2.2.2.2.2.1, x.2.2.2.2.2.2)
        else
          none
  else
    some x.2.2.2.2.2.2
  partial_fixpoint
set_option maxHeartbeats 8000000 in
theorem M_reject_both__logic_And.l1.ws : (∀ (x : Int × Int × Int × A3_Bool × A3_Bool × A3_Bool × A3_Bool) (o : A3_Bool), M_reject_both__logic_And.l1 x = some o → (fun (x : Int × Int × Int × A3_Bool × A3_Bool × A3_Bool × A3_Bool) (o : A3_Bool) => ∀ (lo : Option Nat) (c : LCtx) (Q : Exit → LEnv → Prop) (hb : ∀ s : A3_Bool, o = s → Q (.exit 2) ⟨[(2, .v (.func 157 [] [])), (3, .lref 3 0), (4, .lref 4 0), (6, .lref 6 0), (7, .lref 7 0), (10, .v (.i64 x.2.1))], [(3, [.v (.bool x.2.2.2.1.e0), .v (.bool x.2.2.2.1.e1), .v (.bool x.2.2.2.1.e2)]), (4, [.v (.bool x.2.2.2.2.1.e0), .v (.bool x.2.2.2.2.1.e1), .v (.bool x.2.2.2.2.1.e2)]), (6, [.v (.bool x.2.2.2.2.2.1.e0), .v (.bool x.2.2.2.2.2.1.e1), .v (.bool x.2.2.2.2.2.1.e2)]), (7, [.v (.bool s.e0), .v (.bool s.e1), .v (.bool s.e2)])]⟩), LLoop Try.prog 159 lo c 1 (VQ Q) ⟨[(2, .v (.func 157 [] [])), (3, .lref 3 0), (4, .lref 4 0), (6, .lref 6 0), (7, .lref 7 0), (8, .v (.i64 x.1)), (10, .v (.i64 x.2.1)), (13, .v (.i64 x.2.2.1))], [(3, [.v (.bool x.2.2.2.1.e0), .v (.bool x.2.2.2.1.e1), .v (.bool x.2.2.2.1.e2)]), (4, [.v (.bool x.2.2.2.2.1.e0), .v (.bool x.2.2.2.2.1.e1), .v (.bool x.2.2.2.2.1.e2)]), (6, [.v (.bool x.2.2.2.2.2.1.e0), .v (.bool x.2.2.2.2.2.1.e1), .v (.bool x.2.2.2.2.2.1.e2)]), (7, [.v (.bool x.2.2.2.2.2.2.e0), .v (.bool x.2.2.2.2.2.2.e1), .v (.bool x.2.2.2.2.2.2.e2)])]⟩) x o) := by
  refine M_reject_both__logic_And.l1.partial_correctness _ ?_
  · intro M_M_reject_both__logic_And_l1 ih_M_reject_both__logic_And_l1 x o h
    intro lo c Q hb
    refine LLoop.step mix fn_159 (by kernel_rfl) ?_
    simp -implicitDefEqProofs only [go_sem, Try.f159]
    by_cases h2 : (decide (x.2.2.1 < 3)) = true
    · replace h := ite_some h h2
      try simp -implicitDefEqProofs only [go_sem, h2]
      by_cases h3 : (x.1 == 0) = true
      · replace h := ite_some h h3; have h4 : x.1 = 0 := by simpa using h3
        try simp -implicitDefEqProofs only [go_sem, h2, h4]
        by_cases h5 : x.2.2.2.1.e0 = true
        · replace h := ite_some h h5
          try simp -implicitDefEqProofs only [go_sem, h2, h4, h5]
          by_cases h6 : (x.2.2.1 == 0) = true
          · replace h := ite_some h h6; have h7 : x.2.2.1 = 0 := by simpa using h6
            try simp -implicitDefEqProofs only [go_sem, h2, h4, h5, h7]
            by_cases h8 : x.2.2.2.2.1.e0 = true
            · replace h := ite_some h h8
              try simp -implicitDefEqProofs only [go_sem, h2, h4, h5, h7, h8]
              obtain ⟨r9, h10, h⟩ := bind_some' h
              have hw := M_logic_And.w ([0, 0]) _ h10
              simp -implicitDefEqProofs only [go_sem] at hw
              refine .plain _ _ rfl hw ?_
              clear hw
              try simp -implicitDefEqProofs only [go_sem, h2, h4, h5, h7, h8]
              by_cases h11 : (r9 == 0) = true
              · replace h := ite_some h h11; have h12 : r9 = 0 := by simpa using h11
                try simp -implicitDefEqProofs only [go_sem, h2, h4, h5, h7, h8, h12]
                exact LLoop.view [] (by (first | rfl | simp -implicitDefEqProofs only [go_sem, h2, h4, h5, h7, h8, h12] <;> rfl)) (ih_M_reject_both__logic_And_l1 _ _ h lo c Q hb)
              · replace h := ite_none h h11
                by_cases h13 : (r9 == 1) = true
                · replace h := ite_some h h13; have h14 : r9 = 1 := by simpa using h13
                  try simp -implicitDefEqProofs only [go_sem, h2, h4, h5, h7, h8, h14]
                  exact LLoop.view [] (by (first | rfl | simp -implicitDefEqProofs only [go_sem, h2, h4, h5, h7, h8, h14] <;> rfl)) (ih_M_reject_both__logic_And_l1 _ _ h lo c Q hb)
                · replace h := ite_none h h13
                  by_cases h15 : (r9 == 2) = true
                  · replace h := ite_some h h15; have h16 : r9 = 2 := by simpa using h15
                    try simp -implicitDefEqProofs only [go_sem, h2, h4, h5, h7, h8, h16]
                    exact LLoop.view [] (by (first | rfl | simp -implicitDefEqProofs only [go_sem, h2, h4, h5, h7, h8, h16] <;> rfl)) (ih_M_reject_both__logic_And_l1 _ _ h lo c Q hb)
                  · replace h := ite_none h h15
                    cases h
            · replace h := ite_none h h8; replace h8 := bfalse h8
              try simp -implicitDefEqProofs only [go_sem, h2, h4, h5, h7, h8]
              exact LLoop.view [] (by (first | rfl | simp -implicitDefEqProofs only [go_sem, h2, h4, h5, h7, h8] <;> rfl)) (ih_M_reject_both__logic_And_l1 _ _ h lo c Q hb)
          · replace h := ite_none h h6
            by_cases h17 : (x.2.2.1 == 1) = true
            · replace h := ite_some h h17; have h18 : x.2.2.1 = 1 := by simpa using h17
              try simp -implicitDefEqProofs only [go_sem, h2, h4, h5, h18]
              by_cases h19 : x.2.2.2.2.1.e1 = true
              · replace h := ite_some h h19
                try simp -implicitDefEqProofs only [go_sem, h2, h4, h5, h18, h19]
                obtain ⟨r20, h21, h⟩ := bind_some' h
                have hw := M_logic_And.w ([0, 1]) _ h21
                simp -implicitDefEqProofs only [go_sem] at hw
                refine .plain _ _ rfl hw ?_
                clear hw
                try simp -implicitDefEqProofs only [go_sem, h2, h4, h5, h18, h19]
                by_cases h22 : (r20 == 0) = true
                · replace h := ite_some h h22; have h23 : r20 = 0 := by simpa using h22
                  try simp -implicitDefEqProofs only [go_sem, h2, h4, h5, h18, h19, h23]
                  exact LLoop.view [] (by (first | rfl | simp -implicitDefEqProofs only [go_sem, h2, h4, h5, h18, h19, h23] <;> rfl)) (ih_M_reject_both__logic_And_l1 _ _ h lo c Q hb)
                · replace h := ite_none h h22
                  by_cases h24 : (r20 == 1) = true
                  · replace h := ite_some h h24; have h25 : r20 = 1 := by simpa using h24
                    try simp -implicitDefEqProofs only [go_sem, h2, h4, h5, h18, h19, h25]
                    exact LLoop.view [] (by (first | rfl | simp -implicitDefEqProofs only [go_sem, h2, h4, h5, h18, h19, h25] <;> rfl)) (ih_M_reject_both__logic_And_l1 _ _ h lo c Q hb)
                  · replace h := ite_none h h24
                    by_cases h26 : (r20 == 2) = true
                    · replace h := ite_some h h26; have h27 : r20 = 2 := by simpa using h26
                      try simp -implicitDefEqProofs only [go_sem, h2, h4, h5, h18, h19, h27]
                      exact LLoop.view [] (by (first | rfl | simp -implicitDefEqProofs only [go_sem, h2, h4, h5, h18, h19, h27] <;> rfl)) (ih_M_reject_both__logic_And_l1 _ _ h lo c Q hb)
                    · replace h := ite_none h h26
                      cases h
              · replace h := ite_none h h19; replace h19 := bfalse h19
                try simp -implicitDefEqProofs only [go_sem, h2, h4, h5, h18, h19]
                exact LLoop.view [] (by (first | rfl | simp -implicitDefEqProofs only [go_sem, h2, h4, h5, h18, h19] <;> rfl)) (ih_M_reject_both__logic_And_l1 _ _ h lo c Q hb)
            · replace h := ite_none h h17
              by_cases h28 : (x.2.2.1 == 2) = true
              · replace h := ite_some h h28; have h29 : x.2.2.1 = 2 := by simpa using h28
                try simp -implicitDefEqProofs only [go_sem, h2, h4, h5, h29]
                by_cases h30 : x.2.2.2.2.1.e2 = true
                · replace h := ite_some h h30
                  try simp -implicitDefEqProofs only [go_sem, h2, h4, h5, h29, h30]
                  obtain ⟨r31, h32, h⟩ := bind_some' h
                  have hw := M_logic_And.w ([0, 2]) _ h32
                  simp -implicitDefEqProofs only [go_sem] at hw
                  refine .plain _ _ rfl hw ?_
                  clear hw
                  try simp -implicitDefEqProofs only [go_sem, h2, h4, h5, h29, h30]
                  by_cases h33 : (r31 == 0) = true
                  · replace h := ite_some h h33; have h34 : r31 = 0 := by simpa using h33
                    try simp -implicitDefEqProofs only [go_sem, h2, h4, h5, h29, h30, h34]
                    exact LLoop.view [] (by (first | rfl | simp -implicitDefEqProofs only [go_sem, h2, h4, h5, h29, h30, h34] <;> rfl)) (ih_M_reject_both__logic_And_l1 _ _ h lo c Q hb)
                  · replace h := ite_none h h33
                    by_cases h35 : (r31 == 1) = true
                    · replace h := ite_some h h35; have h36 : r31 = 1 := by simpa using h35
                      try simp -implicitDefEqProofs only [go_sem, h2, h4, h5, h29, h30, h36]
                      exact LLoop.view [] (by (first | rfl | simp -implicitDefEqProofs only [go_sem, h2, h4, h5, h29, h30, h36] <;> rfl)) (ih_M_reject_both__logic_And_l1 _ _ h lo c Q hb)
                    · replace h := ite_none h h35
                      by_cases h37 : (r31 == 2) = true
                      · replace h := ite_some h h37; have h38 : r31 = 2 := by simpa using h37
                        try simp -implicitDefEqProofs only [go_sem, h2, h4, h5, h29, h30, h38]
                        exact LLoop.view [] (by (first | rfl | simp -implicitDefEqProofs only [go_sem, h2, h4, h5, h29, h30, h38] <;> rfl)) (ih_M_reject_both__logic_And_l1 _ _ h lo c Q hb)
                      · replace h := ite_none h h37
                        cases h
                · replace h := ite_none h h30; replace h30 := bfalse h30
                  try simp -implicitDefEqProofs only [go_sem, h2, h4, h5, h29, h30]
                  exact LLoop.view [] (by (first | rfl | simp -implicitDefEqProofs only [go_sem, h2, h4, h5, h29, h30] <;> rfl)) (ih_M_reject_both__logic_And_l1 _ _ h lo c Q hb)
              · replace h := ite_none h h28
                cases h
        · replace h := ite_none h h5; replace h5 := bfalse h5
          try simp -implicitDefEqProofs only [go_sem, h2, h4, h5]
          exact LLoop.view [] (by (first | rfl | simp -implicitDefEqProofs only [go_sem, h2, h4, h5] <;> rfl)) (ih_M_reject_both__logic_And_l1 _ _ h lo c Q hb)
      · replace h := ite_none h h3
        by_cases h39 : (x.1 == 1) = true
        · replace h := ite_some h h39; have h40 : x.1 = 1 := by simpa using h39
          try simp -implicitDefEqProofs only [go_sem, h2, h40]
          by_cases h41 : x.2.2.2.1.e1 = true
          · replace h := ite_some h h41
            try simp -implicitDefEqProofs only [go_sem, h2, h40, h41]
            by_cases h42 : (x.2.2.1 == 0) = true
            · replace h := ite_some h h42; have h43 : x.2.2.1 = 0 := by simpa using h42
              try simp -implicitDefEqProofs only [go_sem, h2, h40, h41, h43]
              by_cases h44 : x.2.2.2.2.1.e0 = true
              · replace h := ite_some h h44
                try simp -implicitDefEqProofs only [go_sem, h2, h40, h41, h43, h44]
                obtain ⟨r45, h46, h⟩ := bind_some' h
                have hw := M_logic_And.w ([1, 0]) _ h46
                simp -implicitDefEqProofs only [go_sem] at hw
                refine .plain _ _ rfl hw ?_
                clear hw
                try simp -implicitDefEqProofs only [go_sem, h2, h40, h41, h43, h44]
                by_cases h47 : (r45 == 0) = true
                · replace h := ite_some h h47; have h48 : r45 = 0 := by simpa using h47
                  try simp -implicitDefEqProofs only [go_sem, h2, h40, h41, h43, h44, h48]
                  exact LLoop.view [] (by (first | rfl | simp -implicitDefEqProofs only [go_sem, h2, h40, h41, h43, h44, h48] <;> rfl)) (ih_M_reject_both__logic_And_l1 _ _ h lo c Q hb)
                · replace h := ite_none h h47
                  by_cases h49 : (r45 == 1) = true
                  · replace h := ite_some h h49; have h50 : r45 = 1 := by simpa using h49
                    try simp -implicitDefEqProofs only [go_sem, h2, h40, h41, h43, h44, h50]
                    exact LLoop.view [] (by (first | rfl | simp -implicitDefEqProofs only [go_sem, h2, h40, h41, h43, h44, h50] <;> rfl)) (ih_M_reject_both__logic_And_l1 _ _ h lo c Q hb)
                  · replace h := ite_none h h49
                    by_cases h51 : (r45 == 2) = true
                    · replace h := ite_some h h51; have h52 : r45 = 2 := by simpa using h51
                      try simp -implicitDefEqProofs only [go_sem, h2, h40, h41, h43, h44, h52]
                      exact LLoop.view [] (by (first | rfl | simp -implicitDefEqProofs only [go_sem, h2, h40, h41, h43, h44, h52] <;> rfl)) (ih_M_reject_both__logic_And_l1 _ _ h lo c Q hb)
                    · replace h := ite_none h h51
                      cases h
              · replace h := ite_none h h44; replace h44 := bfalse h44
                try simp -implicitDefEqProofs only [go_sem, h2, h40, h41, h43, h44]
                exact LLoop.view [] (by (first | rfl | simp -implicitDefEqProofs only [go_sem, h2, h40, h41, h43, h44] <;> rfl)) (ih_M_reject_both__logic_And_l1 _ _ h lo c Q hb)
            · replace h := ite_none h h42
              by_cases h53 : (x.2.2.1 == 1) = true
              · replace h := ite_some h h53; have h54 : x.2.2.1 = 1 := by simpa using h53
                try simp -implicitDefEqProofs only [go_sem, h2, h40, h41, h54]
                by_cases h55 : x.2.2.2.2.1.e1 = true
                · replace h := ite_some h h55
                  try simp -implicitDefEqProofs only [go_sem, h2, h40, h41, h54, h55]
                  obtain ⟨r56, h57, h⟩ := bind_some' h
                  have hw := M_logic_And.w ([1, 1]) _ h57
                  simp -implicitDefEqProofs only [go_sem] at hw
                  refine .plain _ _ rfl hw ?_
                  clear hw
                  try simp -implicitDefEqProofs only [go_sem, h2, h40, h41, h54, h55]
                  by_cases h58 : (r56 == 0) = true
                  · replace h := ite_some h h58; have h59 : r56 = 0 := by simpa using h58
                    try simp -implicitDefEqProofs only [go_sem, h2, h40, h41, h54, h55, h59]
                    exact LLoop.view [] (by (first | rfl | simp -implicitDefEqProofs only [go_sem, h2, h40, h41, h54, h55, h59] <;> rfl)) (ih_M_reject_both__logic_And_l1 _ _ h lo c Q hb)
                  · replace h := ite_none h h58
                    by_cases h60 : (r56 == 1) = true
                    · replace h := ite_some h h60; have h61 : r56 = 1 := by simpa using h60
                      try simp -implicitDefEqProofs only [go_sem, h2, h40, h41, h54, h55, h61]
                      exact LLoop.view [] (by (first | rfl | simp -implicitDefEqProofs only [go_sem, h2, h40, h41, h54, h55, h61] <;> rfl)) (ih_M_reject_both__logic_And_l1 _ _ h lo c Q hb)
                    · replace h := ite_none h h60
                      by_cases h62 : (r56 == 2) = true
                      · replace h := ite_some h h62; have h63 : r56 = 2 := by simpa using h62
                        try simp -implicitDefEqProofs only [go_sem, h2, h40, h41, h54, h55, h63]
                        exact LLoop.view [] (by (first | rfl | simp -implicitDefEqProofs only [go_sem, h2, h40, h41, h54, h55, h63] <;> rfl)) (ih_M_reject_both__logic_And_l1 _ _ h lo c Q hb)
                      · replace h := ite_none h h62
                        cases h
                · replace h := ite_none h h55; replace h55 := bfalse h55
                  try simp -implicitDefEqProofs only [go_sem, h2, h40, h41, h54, h55]
                  exact LLoop.view [] (by (first | rfl | simp -implicitDefEqProofs only [go_sem, h2, h40, h41, h54, h55] <;> rfl)) (ih_M_reject_both__logic_And_l1 _ _ h lo c Q hb)
              · replace h := ite_none h h53
                by_cases h64 : (x.2.2.1 == 2) = true
                · replace h := ite_some h h64; have h65 : x.2.2.1 = 2 := by simpa using h64
                  try simp -implicitDefEqProofs only [go_sem, h2, h40, h41, h65]
                  by_cases h66 : x.2.2.2.2.1.e2 = true
                  · replace h := ite_some h h66
                    try simp -implicitDefEqProofs only [go_sem, h2, h40, h41, h65, h66]
                    obtain ⟨r67, h68, h⟩ := bind_some' h
                    have hw := M_logic_And.w ([1, 2]) _ h68
                    simp -implicitDefEqProofs only [go_sem] at hw
                    refine .plain _ _ rfl hw ?_
                    clear hw
                    try simp -implicitDefEqProofs only [go_sem, h2, h40, h41, h65, h66]
                    by_cases h69 : (r67 == 0) = true
                    · replace h := ite_some h h69; have h70 : r67 = 0 := by simpa using h69
                      try simp -implicitDefEqProofs only [go_sem, h2, h40, h41, h65, h66, h70]
                      exact LLoop.view [] (by (first | rfl | simp -implicitDefEqProofs only [go_sem, h2, h40, h41, h65, h66, h70] <;> rfl)) (ih_M_reject_both__logic_And_l1 _ _ h lo c Q hb)
                    · replace h := ite_none h h69
                      by_cases h71 : (r67 == 1) = true
                      · replace h := ite_some h h71; have h72 : r67 = 1 := by simpa using h71
                        try simp -implicitDefEqProofs only [go_sem, h2, h40, h41, h65, h66, h72]
                        exact LLoop.view [] (by (first | rfl | simp -implicitDefEqProofs only [go_sem, h2, h40, h41, h65, h66, h72] <;> rfl)) (ih_M_reject_both__logic_And_l1 _ _ h lo c Q hb)
                      · replace h := ite_none h h71
                        by_cases h73 : (r67 == 2) = true
                        · replace h := ite_some h h73; have h74 : r67 = 2 := by simpa using h73
                          try simp -implicitDefEqProofs only [go_sem, h2, h40, h41, h65, h66, h74]
                          exact LLoop.view [] (by (first | rfl | simp -implicitDefEqProofs only [go_sem, h2, h40, h41, h65, h66, h74] <;> rfl)) (ih_M_reject_both__logic_And_l1 _ _ h lo c Q hb)
                        · replace h := ite_none h h73
                          cases h
                  · replace h := ite_none h h66; replace h66 := bfalse h66
                    try simp -implicitDefEqProofs only [go_sem, h2, h40, h41, h65, h66]
                    exact LLoop.view [] (by (first | rfl | simp -implicitDefEqProofs only [go_sem, h2, h40, h41, h65, h66] <;> rfl)) (ih_M_reject_both__logic_And_l1 _ _ h lo c Q hb)
                · replace h := ite_none h h64
                  cases h
          · replace h := ite_none h h41; replace h41 := bfalse h41
            try simp -implicitDefEqProofs only [go_sem, h2, h40, h41]
            exact LLoop.view [] (by (first | rfl | simp -implicitDefEqProofs only [go_sem, h2, h40, h41] <;> rfl)) (ih_M_reject_both__logic_And_l1 _ _ h lo c Q hb)
        · replace h := ite_none h h39
          by_cases h75 : (x.1 == 2) = true
          · replace h := ite_some h h75; have h76 : x.1 = 2 := by simpa using h75
            try simp -implicitDefEqProofs only [go_sem, h2, h76]
            by_cases h77 : x.2.2.2.1.e2 = true
            · replace h := ite_some h h77
              try simp -implicitDefEqProofs only [go_sem, h2, h76, h77]
              by_cases h78 : (x.2.2.1 == 0) = true
              · replace h := ite_some h h78; have h79 : x.2.2.1 = 0 := by simpa using h78
                try simp -implicitDefEqProofs only [go_sem, h2, h76, h77, h79]
                by_cases h80 : x.2.2.2.2.1.e0 = true
                · replace h := ite_some h h80
                  try simp -implicitDefEqProofs only [go_sem, h2, h76, h77, h79, h80]
                  obtain ⟨r81, h82, h⟩ := bind_some' h
                  have hw := M_logic_And.w ([2, 0]) _ h82
                  simp -implicitDefEqProofs only [go_sem] at hw
                  refine .plain _ _ rfl hw ?_
                  clear hw
                  try simp -implicitDefEqProofs only [go_sem, h2, h76, h77, h79, h80]
                  by_cases h83 : (r81 == 0) = true
                  · replace h := ite_some h h83; have h84 : r81 = 0 := by simpa using h83
                    try simp -implicitDefEqProofs only [go_sem, h2, h76, h77, h79, h80, h84]
                    exact LLoop.view [] (by (first | rfl | simp -implicitDefEqProofs only [go_sem, h2, h76, h77, h79, h80, h84] <;> rfl)) (ih_M_reject_both__logic_And_l1 _ _ h lo c Q hb)
                  · replace h := ite_none h h83
                    by_cases h85 : (r81 == 1) = true
                    · replace h := ite_some h h85; have h86 : r81 = 1 := by simpa using h85
                      try simp -implicitDefEqProofs only [go_sem, h2, h76, h77, h79, h80, h86]
                      exact LLoop.view [] (by (first | rfl | simp -implicitDefEqProofs only [go_sem, h2, h76, h77, h79, h80, h86] <;> rfl)) (ih_M_reject_both__logic_And_l1 _ _ h lo c Q hb)
                    · replace h := ite_none h h85
                      by_cases h87 : (r81 == 2) = true
                      · replace h := ite_some h h87; have h88 : r81 = 2 := by simpa using h87
                        try simp -implicitDefEqProofs only [go_sem, h2, h76, h77, h79, h80, h88]
                        exact LLoop.view [] (by (first | rfl | simp -implicitDefEqProofs only [go_sem, h2, h76, h77, h79, h80, h88] <;> rfl)) (ih_M_reject_both__logic_And_l1 _ _ h lo c Q hb)
                      · replace h := ite_none h h87
                        cases h
                · replace h := ite_none h h80; replace h80 := bfalse h80
                  try simp -implicitDefEqProofs only [go_sem, h2, h76, h77, h79, h80]
                  exact LLoop.view [] (by (first | rfl | simp -implicitDefEqProofs only [go_sem, h2, h76, h77, h79, h80] <;> rfl)) (ih_M_reject_both__logic_And_l1 _ _ h lo c Q hb)
              · replace h := ite_none h h78
                by_cases h89 : (x.2.2.1 == 1) = true
                · replace h := ite_some h h89; have h90 : x.2.2.1 = 1 := by simpa using h89
                  try simp -implicitDefEqProofs only [go_sem, h2, h76, h77, h90]
                  by_cases h91 : x.2.2.2.2.1.e1 = true
                  · replace h := ite_some h h91
                    try simp -implicitDefEqProofs only [go_sem, h2, h76, h77, h90, h91]
                    obtain ⟨r92, h93, h⟩ := bind_some' h
                    have hw := M_logic_And.w ([2, 1]) _ h93
                    simp -implicitDefEqProofs only [go_sem] at hw
                    refine .plain _ _ rfl hw ?_
                    clear hw
                    try simp -implicitDefEqProofs only [go_sem, h2, h76, h77, h90, h91]
                    by_cases h94 : (r92 == 0) = true
                    · replace h := ite_some h h94; have h95 : r92 = 0 := by simpa using h94
                      try simp -implicitDefEqProofs only [go_sem, h2, h76, h77, h90, h91, h95]
                      exact LLoop.view [] (by (first | rfl | simp -implicitDefEqProofs only [go_sem, h2, h76, h77, h90, h91, h95] <;> rfl)) (ih_M_reject_both__logic_And_l1 _ _ h lo c Q hb)
                    · replace h := ite_none h h94
                      by_cases h96 : (r92 == 1) = true
                      · replace h := ite_some h h96; have h97 : r92 = 1 := by simpa using h96
                        try simp -implicitDefEqProofs only [go_sem, h2, h76, h77, h90, h91, h97]
                        exact LLoop.view [] (by (first | rfl | simp -implicitDefEqProofs only [go_sem, h2, h76, h77, h90, h91, h97] <;> rfl)) (ih_M_reject_both__logic_And_l1 _ _ h lo c Q hb)
                      · replace h := ite_none h h96
                        by_cases h98 : (r92 == 2) = true
                        · replace h := ite_some h h98; have h99 : r92 = 2 := by simpa using h98
                          try simp -implicitDefEqProofs only [go_sem, h2, h76, h77, h90, h91, h99]
                          exact LLoop.view [] (by (first | rfl | simp -implicitDefEqProofs only [go_sem, h2, h76, h77, h90, h91, h99] <;> rfl)) (ih_M_reject_both__logic_And_l1 _ _ h lo c Q hb)
                        · replace h := ite_none h h98
                          cases h
                  · replace h := ite_none h h91; replace h91 := bfalse h91
                    try simp -implicitDefEqProofs only [go_sem, h2, h76, h77, h90, h91]
                    exact LLoop.view [] (by (first | rfl | simp -implicitDefEqProofs only [go_sem, h2, h76, h77, h90, h91] <;> rfl)) (ih_M_reject_both__logic_And_l1 _ _ h lo c Q hb)
                · replace h := ite_none h h89
                  by_cases h100 : (x.2.2.1 == 2) = true
                  · replace h := ite_some h h100; have h101 : x.2.2.1 = 2 := by simpa using h100
                    try simp -implicitDefEqProofs only [go_sem, h2, h76, h77, h101]
                    by_cases h102 : x.2.2.2.2.1.e2 = true
                    · replace h := ite_some h h102
                      try simp -implicitDefEqProofs only [go_sem, h2, h76, h77, h101, h102]
                      obtain ⟨r103, h104, h⟩ := bind_some' h
                      have hw := M_logic_And.w ([2, 2]) _ h104
                      simp -implicitDefEqProofs only [go_sem] at hw
                      refine .plain _ _ rfl hw ?_
                      clear hw
                      try simp -implicitDefEqProofs only [go_sem, h2, h76, h77, h101, h102]
                      by_cases h105 : (r103 == 0) = true
                      · replace h := ite_some h h105; have h106 : r103 = 0 := by simpa using h105
                        try simp -implicitDefEqProofs only [go_sem, h2, h76, h77, h101, h102, h106]
                        exact LLoop.view [] (by (first | rfl | simp -implicitDefEqProofs only [go_sem, h2, h76, h77, h101, h102, h106] <;> rfl)) (ih_M_reject_both__logic_And_l1 _ _ h lo c Q hb)
                      · replace h := ite_none h h105
                        by_cases h107 : (r103 == 1) = true
                        · replace h := ite_some h h107; have h108 : r103 = 1 := by simpa using h107
                          try simp -implicitDefEqProofs only [go_sem, h2, h76, h77, h101, h102, h108]
                          exact LLoop.view [] (by (first | rfl | simp -implicitDefEqProofs only [go_sem, h2, h76, h77, h101, h102, h108] <;> rfl)) (ih_M_reject_both__logic_And_l1 _ _ h lo c Q hb)
                        · replace h := ite_none h h107
                          by_cases h109 : (r103 == 2) = true
                          · replace h := ite_some h h109; have h110 : r103 = 2 := by simpa using h109
                            try simp -implicitDefEqProofs only [go_sem, h2, h76, h77, h101, h102, h110]
                            exact LLoop.view [] (by (first | rfl | simp -implicitDefEqProofs only [go_sem, h2, h76, h77, h101, h102, h110] <;> rfl)) (ih_M_reject_both__logic_And_l1 _ _ h lo c Q hb)
                          · replace h := ite_none h h109
                            cases h
                    · replace h := ite_none h h102; replace h102 := bfalse h102
                      try simp -implicitDefEqProofs only [go_sem, h2, h76, h77, h101, h102]
                      exact LLoop.view [] (by (first | rfl | simp -implicitDefEqProofs only [go_sem, h2, h76, h77, h101, h102] <;> rfl)) (ih_M_reject_both__logic_And_l1 _ _ h lo c Q hb)
                  · replace h := ite_none h h100
                    cases h
            · replace h := ite_none h h77; replace h77 := bfalse h77
              try simp -implicitDefEqProofs only [go_sem, h2, h76, h77]
              exact LLoop.view [] (by (first | rfl | simp -implicitDefEqProofs only [go_sem, h2, h76, h77] <;> rfl)) (ih_M_reject_both__logic_And_l1 _ _ h lo c Q hb)
          · replace h := ite_none h h75
            cases h
    · replace h := ite_none h h2; replace h2 := bfalse h2
      try simp -implicitDefEqProofs only [go_sem, h2]
      injection h with h; subst h
      exact .inr ⟨[], _, by (simp -implicitDefEqProofs only [go_sem, h2] <;> first | done | rfl | trivial), hb _ rfl⟩
theorem M_reject_both__logic_And.l1.w : type_of% @M_reject_both__logic_And.l1.ws := @M_reject_both__logic_And.l1.ws
def M_reject_both__logic_And.l0 (x : Int × A3_Bool × A3_Bool × A3_Bool × A3_Bool) : Option (A3_Bool) :=
  if (decide (x.1 < 3)) = true then
    M_reject_both__logic_And.l1 (x.1, x.1, 0, x.2.1, x.2.2.1, x.2.2.2.1, x.2.2.2.2) >>= fun (o111 : A3_Bool) =>
    M_reject_both__logic_And.l0 ((w64 (x.1 + 1)), x.2.1, x.2.2.1, x.2.2.2.1, o111)
  else
    some x.2.2.2.2
  partial_fixpoint
theorem M_reject_both__logic_And.l0.ws : (∀ (x : Int × A3_Bool × A3_Bool × A3_Bool × A3_Bool) (o : A3_Bool), M_reject_both__logic_And.l0 x = some o → (fun (x : Int × A3_Bool × A3_Bool × A3_Bool × A3_Bool) (o : A3_Bool) => ∀ (lo : Option Nat) (c : LCtx) (Q : Exit → LEnv → Prop) (hb : ∀ s : A3_Bool, o = s → Q (.exit 0) ⟨[(6, .lref 6 0), (7, .lref 7 0)], [(6, [.v (.bool x.2.2.2.1.e0), .v (.bool x.2.2.2.1.e1), .v (.bool x.2.2.2.1.e2)]), (7, [.v (.bool s.e0), .v (.bool s.e1), .v (.bool s.e2)])]⟩), LLoop Try.prog 159 lo c 0 (VQ Q) ⟨[(2, .v (.func 157 [] [])), (3, .lref 3 0), (4, .lref 4 0), (6, .lref 6 0), (7, .lref 7 0), (10, .v (.i64 x.1))], [(3, [.v (.bool x.2.1.e0), .v (.bool x.2.1.e1), .v (.bool x.2.1.e2)]), (4, [.v (.bool x.2.2.1.e0), .v (.bool x.2.2.1.e1), .v (.bool x.2.2.1.e2)]), (6, [.v (.bool x.2.2.2.1.e0), .v (.bool x.2.2.2.1.e1), .v (.bool x.2.2.2.1.e2)]), (7, [.v (.bool x.2.2.2.2.e0), .v (.bool x.2.2.2.2.e1), .v (.bool x.2.2.2.2.e2)])]⟩) x o) := by
  refine M_reject_both__logic_And.l0.partial_correctness _ ?_
  · intro M_M_reject_both__logic_And_l0 ih_M_reject_both__logic_And_l0 x o h
    intro lo c Q hb
    refine LLoop.step mix fn_159 (by kernel_rfl) ?_
    simp -implicitDefEqProofs only [go_sem, Try.f159]
    by_cases h1 : (decide (x.1 < 3)) = true
    · replace h := ite_some h h1
      try simp -implicitDefEqProofs only [go_sem, h1]
      obtain ⟨o111, h112, h⟩ := bind_some' h
      refine LLoop.viewQ (LLoop.view [] (by (first | rfl | simp -implicitDefEqProofs only [go_sem, h1] <;> rfl)) (M_reject_both__logic_And.l1.w (x.1, x.1, 0, x.2.1, x.2.2.1, x.2.2.2.1, x.2.2.2.2) _ h112 _ _ _ ?_))
      intro s' hs'; subst hs'
      try simp -implicitDefEqProofs only [go_sem, h1]
      exact LLoop.view [] (by (first | rfl | simp -implicitDefEqProofs only [go_sem, h1] <;> rfl)) (ih_M_reject_both__logic_And_l0 _ _ h lo c Q hb)
    · replace h := ite_none h h1; replace h1 := bfalse h1
      try simp -implicitDefEqProofs only [go_sem, h1]
      injection h with h; subst h
      exact .inr ⟨[], _, by (simp -implicitDefEqProofs only [go_sem, h1] <;> first | done | rfl | trivial), hb _ rfl⟩
theorem M_reject_both__logic_And.l0.w : type_of% @M_reject_both__logic_And.l0.ws := @M_reject_both__logic_And.l0.ws
def M_reject_both__logic_And (x : A3_Bool × A3_Bool) : Option (A3_Bool) :=
  M_reject_both__logic_And.l0 (0, x.1, x.2, (⟨false, false, false⟩ : A3_Bool), (⟨false, false, false⟩ : A3_Bool)) >>= fun (o113 : A3_Bool) =>
  some o113
set_option maxHeartbeats 8000000 in
theorem M_reject_both__logic_And.w : ∀ (x : A3_Bool × A3_Bool) (r : A3_Bool), M_reject_both__logic_And x = some r → (fun (x : A3_Bool × A3_Bool) (r : A3_Bool) => Fn Try.prog 159 [.agg (A3_Bool.C x.1), .agg (A3_Bool.C x.2), .func 157 [] []] (.agg (A3_Bool.C r))) x r := by
  intro x r h
  rw [M_reject_both__logic_And] at h
  try dsimp only
  refine Fn.of_lc mix fn_159 lok_159 (by rfl) (flC (A3_Bool.flatC _) (flC (A3_Bool.flatC _) (flC (.func _ _ _ (flN) (flN)) (flN)))) (A3_Bool.flatC _) ?_
  simp -implicitDefEqProofs only [go_sem, Try.f159]
  obtain ⟨o113, h114, h⟩ := bind_some' h
  refine LLoop.viewQ (LLoop.view [] (by (first | rfl | simp -implicitDefEqProofs only [go_sem] <;> rfl)) (M_reject_both__logic_And.l0.w (0, x.1, x.2, (⟨false, false, false⟩ : A3_Bool), (⟨false, false, false⟩ : A3_Bool)) _ h114 _ _ _ ?_))
  intro s' hs'; subst hs'
  try simp -implicitDefEqProofs only [go_sem]
  injection h with h; subst h
  first | rfl | simp -implicitDefEqProofs only [go_sem] <;> rfl
def M_reject_both__logic_Or.l1 (x : Int × Int × Int × A3_Bool × A3_Bool × A3_Bool × A3_Bool) : Option (A3_Bool) :=
  if (decide (x.2.2.1 < 3)) = true then
    if (x.1 == 0) = true then
      if x.2.2.2.1.e0 = true then
        if (x.2.2.1 == 0) = true then
          if x.2.2.2.2.1.e0 = true then
            M_logic_Or ([0, 0]) >>= fun r9 =>
            if (r9 == 0) = true then
              M_reject_both__logic_Or.l1 (0, x.2.1, (w64 1), x.2.2.2.1, x.2.2.2.2.1, x.2.2.2.2.2.1, (⟨true, x.2.2.2.2.2.2.e1, x.2.2.2.2.2.2.e2⟩ : A3_Bool))
            else
              if (r9 == 1) = true then
                M_reject_both__logic_Or.l1 (0, x.2.1, (w64 1), x.2.2.2.1, x.2.2.2.2.1, x.2.2.2.2.2.1, (⟨x.2.2.2.2.2.2.e0, true, x.2.2.2.2.2.2.e2⟩ : A3_Bool))
              else
                if (r9 == 2) = true then
                  M_reject_both__logic_Or.l1 (0, x.2.1, (w64 1), x.2.2.2.1, x.2.2.2.2.1, x.2.2.2.2.2.1, (⟨x.2.2.2.2.2.2.e0, x.2.2.2.2.2.2.e1, true⟩ : A3_Bool))
                else
                  none
          else
            M_reject_both__logic_Or.l1 (0, x.2.1, (w64 1), x.2.2.2.1, x.2.2.2.2.1, x.2.2.2.2.2.1, x.2.2.2.2.2.2)
        else
          if (x.2.2.1 == 1) = true then
            if x.2.2.2.2.1.e1 = true then
              M_logic_Or ([0, 1]) >>= fun r20 =>
              if (r20 == 0) = true then
                M_reject_both__logic_Or.l1 (0, x.2.1, (w64 2), x.2.2.2.1, x.2.2.2.2.1, x.2.2.2.2.2.1, (⟨true, x.2.2.2.2.2.2.e1, x.2.2.2.2.2.2.e2⟩ : A3_Bool))
              else
                if (r20 == 1) = true then
                  M_reject_both__logic_Or.l1 (0, x.2.1, (w64 2), x.2.2.2.1, x.2.2.2.2.1, x.2.2.2.2.2.1, (⟨x.2.2.2.2.2.2.e0, true, x.2.2.2.2.2.2.e2⟩ : A3_Bool))
                else
                  if (r20 == 2) = true then
                    M_reject_both__logic_Or.l1 (0, x.2.1, (w64 2), x.2.2.2.1, x.2.2.2.2.1, x.2.2.2.2.2.1, (⟨x.2.2.2.2.2.2.e0, x.2.2.2.2.2.2.e1, true⟩ : A3_Bool))
                  else
                    none
            else
              M_reject_both__logic_Or.l1 (0, x.2.1, (w64 2), x.2.2.2.1, x.2.2.2.2.1, x.2.2.2.2.2.1, x.2.2.2.2.2.2)
          else
            if (x.2.2.1 == 2) = true then
              if x.2.2.2.2.1.e2 = true then
                M_logic_Or ([0, 2]) >>= fun r31 =>
                if (r31 == 0) = true then
                  M_reject_both__logic_Or.l1 (0, x.2.1, (w64 3), x.2.2.2.1, x.2.2.2.2.1, x.2.2.2.2.2.1, (⟨true, x.2.2.2.2.2.2.e1, x.2.2.2.2.2.2.e2⟩ : A3_Bool))
                else
                  if (r31 == 1) = true then
                    M_reject_both__logic_Or.l1 (0, x.2.1, (w64 3), x.2.2.2.1, x.2.2.2.2.1, x.2.2.2.2.2.1, (⟨x.2.2.2.2.2.2.e0, true, x.2.2.2.2.2.2.e2⟩ : A3_Bool))
                  else
                    if (r31 == 2) = true then
                      M_reject_both__logic_Or.l1 (0, x.2.1, (w64 3), x.2.2.2.1, x.2.2.2.2.1, x.2.2.2.2.2.1, (⟨x.2.2.2.2.2.2.e0, x.2.2.2.2.2.2.e1, true⟩ : A3_Bool))
                    else
                      none
              else
                M_reject_both__logic_Or.l1 (0, x.2.1, (w64 3), x.2.2.2.1, x.2.2.2.2.1, x.2.2.2.2.2.1, x.2.2.2.2.2.2)
            else
              none
      else
        M_reject_both__logic_Or.l1 (0, x.2.1, (w64 (x.2.2.1 + 1)), x.2.2.2.1, x.2.2.2.2.1, x.2.2.2.2.2.1, x.2.2.2.2.2.2)
    else
      if (x.1 == 1) = true then
        if x.2.2.2.1.e1 = true then
          if (x.2.2.1 == 0) = true then
            if x.2.2.2.2.1.e0 = true then
              M_logic_Or ([1, 0]) >>= fun r45 =>
              if (r45 == 0) = true then
                M_reject_both__logic_Or.l1 (1, x.2.1, (w64 1), x.2.2.2.1, x.2.2.2.2.1, x.2.2.2.2.2.1, (⟨true, x.2.2.2.2.2.2.e1, x.2.2.2.2.2.2.e2⟩ : A3_Bool))
              else
                if (r45 == 1) = true then
                  M_reject_both__logic_Or.l1 (1, x.2.1, (w64 1), x.2.2.2.1, x.2.2.2.2.1, x.2.2.2.2.2.1, (⟨x.2.2.2.2.2.2.e0, true, x.2.2.2.2.2.2.e2⟩ : A3_Bool))
                else
                  if (r45 == 2) = true then
                    M_reject_both__logic_Or.l1 (1, x.2.1, (w64 1), x.2.2.2.1, x.2.2.2.2.1, x.2.2.2.2.2.1, (⟨x.2.2.2.2.2.2.e0, x.2.2.2.2.2.2.e1, true⟩ : A3_Bool))
                  else
                    none
            else
              M_reject_both__logic_Or.l1 (1, x.2.1, (w64 1), x.2.2.2.1, x.2.2.2.2.1, x.2.2.2.2.2.1, x.2.2.2.2.2.2)
          else
            if (x.2.2.1 == 1) = true then
              if x.2.2.2.2.1.e1 = true then
                M_logic_Or ([1, 1]) >>= fun r56 =>
                if (r56 == 0) = true then
                  M_reject_both__logic_Or.l1 (1, x.2.1, (w64 2), x.2.2.2.1, x.2.2.2.2.1, x.2.2.2.2.2.1, (⟨true, x.2.2.2.2.2.2.e1, x.2.2.2.2.2.2.e2⟩ : A3_Bool))
                else
                  if (r56 == 1) = true then
                    M_reject_both__logic_Or.l1 (1, x.2.1, (w64 2), x.2.2.2.1, x.2.2.2.2.1, x.2.2.2.2.2.1, (⟨x.2.2.2.2.2.2.e0, true, x.2.2.2.2.2.2.e2⟩ : A3_Bool))
                  else
                    if (r56 == 2) = true then
                      M_reject_both__logic_Or.l1 (1, x.2.1, (w64 2), x.2.2.2.1, x.2.2.2.2.1, x.2.2.2.2.2.1, (⟨x.2.2.2.2.2.2.e0, x.2.2.2.2.2.2.e1, true⟩ : A3_Bool))
                    else
                      none
              else
                M_reject_both__logic_Or.l1 (1, x.2.1, (w64 2), x.2.2.2.1, x.2.2.2.2.1, x.2.2.2.2.2.1, x.2.2.2.2.2.2)
            else
              if (x.2.2.1 == 2) = true then
                if x.2.2.2.2.1.e2 = true then
                  M_logic_Or ([1, 2]) >>= fun r67 =>
                  if (r67 == 0) = true then
                    M_reject_both__logic_Or.l1 (1, x.2.1, (w64 3), x.2.2.2.1, x.2.2.2.2.1, x.2.2.2.2.2.1, (⟨true, x.2.2.2.2.2.2.e1, x.2.2.2.2.2.2.e2⟩ : A3_Bool))
                  else
                    if (r67 == 1) = true then
                      M_reject_both__logic_Or.l1 (1, x.2.1, (w64 3), x.2.2.2.1, x.2.2.2.2.1, x.2.2.2.2.2.1, (⟨x.2.2.2.2.2.2.e0, true, x.2.2.2.2.2.2.e2⟩ : A3_Bool))
                    else
                      if (r67 == 2) = true then
                        M_reject_both__logic_Or.l1 (1, x.2.1, (w64 3), x.2.2.2.1, x.2.2.2.2.1, x.2.2.2.2.2.1, (⟨x.2.2.2.2.2.2.e0, x.2.2.2.2.2.2.e1, true⟩ : A3_Bool))
                      else
                        none
                else
                  M_reject_both__logic_Or.l1 (1, x.2.1, (w64 3), x.2.2.2.1, x.2.2.2.2.1, x.2.2.2.2.2.1, x.2.2.2.2.2.2)
              else
                none
        else
          M_reject_both__logic_Or.l1 (1, x.2.1, (w64 (x.2.2.1 + 1)), x.2.2.2.1, x.2.2.2.2.1, x.2.2.2.2.2.1, x.2.2.2.2.2.2)
      else
        if (x.1 == 2) = true then
          if x.2.2.2.1.e2 = true then
            if (x.2.2.1 == 0) = true then
              if x.2.2.2.2.1.e0 = true then
                M_logic_Or ([2, 0]) >>= fun r81 =>
                if (r81 == 0) = true then
                  M_reject_both__logic_Or.l1 (2, x.2.1, (w64 1), x.2.2.2.1, x.2.2.2.2.1, x.2.2.2.2.2.1, (⟨true, x.2.2.2.2.2.2.e1, x.2.2.2.2.2.2.e2⟩ : A3_Bool))
                else
                  if (r81 == 1) = true then
                    M_reject_both__logic_Or.l1 (2, x.2.1, (w64 1), x.2.2.2.1, x.2.2.2.2.1, x.2.2.2.2.2.1, (⟨x.2.2.2.2.2.2.e0, true, x.2.2.2.2.2.2.e2⟩ : A3_Bool))
                  else
                    if (r81 == 2) = true then
                      M_reject_both__logic_Or.l1 (2, x.2.1, (w64 1), x.2.2.2.1, x.2.2.2.2.1, x.2.2.2.2.2.1, (⟨x.2.2.2.2.2.2.e0, x.2.2.2.2.2.2.e1, true⟩ : A3_Bool))
                    else
                      none
              else
                M_reject_both__logic_Or.l1 (2, x.2.1, (w64 1), x.2.2.2.1, x.2.2.2.2.1, x.2.2.2.2.2.1, x.2.2.2.2.2.2)
            else
              if (x.2.2.1 == 1) = true then
                if x.2.2.2.2.1.e1 = true then
                  M_logic_Or ([2, 1]) >>= fun r92 =>
                  if (r92 == 0) = true then
                    M_reject_both__logic_Or.l1 (2, x.2.1, (w64 2), x.2.2.2.1, x.2.2.2.2.1, x.2.2.2.2.2.1, (⟨true, x.2.2.2.2.2.2.e1, x.2.2.2.2.2.2.e2⟩ : A3_Bool))
                  else
                    if (r92 == 1) = true then
                      M_reject_both__logic_Or.l1 (2, x.2.1, (w64 2), x.2.2.2.1, x.2.2.2.2.1, x.2.2.2.2.2.1, (⟨x.2.2.2.2.2.2.e0, true, x.2.2.2.2.2.2.e2⟩ : A3_Bool))
                    else
                      if (r92 == 2) = true then
                        M_reject_both__logic_Or.l1 (2, x.2.1, (w64 2), x.2.2.2.1, x.2.2.2.2.1, x.2.2.2.2.2.1, (⟨x.2.2.2.2.2.2.e0, x.2.2.2.2.2.2.e1, true⟩ : A3_Bool))
                      else
                        none
                else
                  M_reject_both__logic_Or.l1 (2, x.2.1, (w64 2), x.2.2.2.1, x.2.2.2.2.1, x.2.2.2.2.2.1, x.2.2.2.2.2.2)
              else
                if (x.2.2.1 == 2) = true then
                  if x.2.2.2.2.1.e2 = true then
                    M_logic_Or ([2, 2]) >>= fun r103 =>
                    if (r103 == 0) = true then
                      M_reject_both__logic_Or.l1 (2, x.2.1, (w64 3), x.2.2.2.1, x.2.2.2.2.1, x.2.2.2.2.2.1, (⟨true, x.2.2.2.2.2.2.e1, x.2.2.2.2.2.2.e2⟩ : A3_Bool))
                    else
                      if (r103 == 1) = true then
                        M_reject_both__logic_Or.l1 (2, x.2.1, (w64 3), x.2.2.2.1, x.2.2.2.2.1, x.2.2.2.2.2.1, (⟨x.2.2.2.2.2.2.e0, true, x.2.2.2.2.2.2.e2⟩ : A3_Bool))
                      else
                        if (r103 == 2) = true then
                          M_reject_both__logic_Or.l1 (2, x.2.1, (w64 3), x.2.2.2.1, x.2.2.2.2.1, x.2.2.2.2.2.1, (⟨x.2.2.2.2.2.2.e0, x.2.2.2.2.2.2.e1, true⟩ : A3_Bool))
                        else
                          none
                  else
                    M_reject_both__logic_Or.l1 (2, x.2.1, (w64 3), x.2.2.2.1, x.2.2.2.2.1, x.2.2.2.2.2.1, x.2.2.2.2.2.2)
                else
                  none
          else
            M_reject_both__logic_Or.l1 (2, x.2.1, (w64 (x.2.2.1 + 1)), x.2.2.2.1, x.2.2.2.2.1, x.2.2.2.2.2.1, x.2.2.2.2.2.2)
        else
          none
  else
    some x.2.2.2.2.2.2
  partial_fixpoint
set_option maxHeartbeats 8000000 in
theorem M_reject_both__logic_Or.l1.ws : (∀ (x : Int × Int × Int × A3_Bool × A3_Bool × A3_Bool × A3_Bool) (o : A3_Bool), M_reject_both__logic_Or.l1 x = some o → (fun (x : Int × Int × Int × A3_Bool × A3_Bool × A3_Bool × A3_Bool) (o : A3_Bool) => ∀ (lo : Option Nat) (c : LCtx) (Q : Exit → LEnv → Prop) (hb : ∀ s : A3_Bool, o = s → Q (.exit 2) ⟨[(2, .v (.func 158 [] [])), (3, .lref 3 0), (4, .lref 4 0), (6, .lref 6 0), (7, .lref 7 0), (10, .v (.i64 x.2.1))], [(3, [.v (.bool x.2.2.2.1.e0), .v (.bool x.2.2.2.1.e1), .v (.bool x.2.2.2.1.e2)]), (4, [.v (.bool x.2.2.2.2.1.e0), .v (.bool x.2.2.2.2.1.e1), .v (.bool x.2.2.2.2.1.e2)]), (6, [.v (.bool x.2.2.2.2.2.1.e0), .v (.bool x.2.2.2.2.2.1.e1), .v (.bool x.2.2.2.2.2.1.e2)]), (7, [.v (.bool s.e0), .v (.bool s.e1), .v (.bool s.e2)])]⟩), LLoop Try.prog 159 lo c 1 (VQ Q) ⟨[(2, .v (.func 158 [] [])), (3, .lref 3 0), (4, .lref 4 0), (6, .lref 6 0), (7, .lref 7 0), (8, .v (.i64 x.1)), (10, .v (.i64 x.2.1)), (13, .v (.i64 x.2.2.1))], [(3, [.v (.bool x.2.2.2.1.e0), .v (.bool x.2.2.2.1.e1), .v (.bool x.2.2.2.1.e2)]), (4, [.v (.bool x.2.2.2.2.1.e0), .v (.bool x.2.2.2.2.1.e1), .v (.bool x.2.2.2.2.1.e2)]), (6, [.v (.bool x.2.2.2.2.2.1.e0), .v (.bool x.2.2.2.2.2.1.e1), .v (.bool x.2.2.2.2.2.1.e2)]), (7, [.v (.bool x.2.2.2.2.2.2.e0), .v (.bool x.2.2.2.2.2.2.e1), .v (.bool x.2.2.2.2.2.2.e2)])]⟩) x o) := by
  refine M_reject_both__logic_Or.l1.partial_correctness _ ?_
  · intro M_M_reject_both__logic_Or_l1 ih_M_reject_both__logic_Or_l1 x o h
    intro lo c Q hb
    refine LLoop.step mix fn_159 (by kernel_rfl) ?_
    simp -implicitDefEqProofs only [go_sem, Try.f159]
    by_cases h2 : (decide (x.2.2.1 < 3)) = true
    · replace h := ite_some h h2
      try simp -implicitDefEqProofs only [go_sem, h2]
      by_cases h3 : (x.1 == 0) = true
      · replace h := ite_some h h3; have h4 : x.1 = 0 := by simpa using h3
        try simp -implicitDefEqProofs only [go_sem, h2, h4]
        by_cases h5 : x.2.2.2.1.e0 = true
        · replace h := ite_some h h5
          try simp -implicitDefEqProofs only [go_sem, h2, h4, h5]
          by_cases h6 : (x.2.2.1 == 0) = true
          · replace h := ite_some h h6; have h7 : x.2.2.1 = 0 := by simpa using h6
            try simp -implicitDefEqProofs only [go_sem, h2, h4, h5, h7]
            by_cases h8 : x.2.2.2.2.1.e0 = true
            · replace h := ite_some h h8
              try simp -implicitDefEqProofs only [go_sem, h2, h4, h5, h7, h8]
              obtain ⟨r9, h10, h⟩ := bind_some' h
              have hw := M_logic_Or.w ([0, 0]) _ h10
              simp -implicitDefEqProofs only [go_sem] at hw
              refine .plain _ _ rfl hw ?_
              clear hw
              try simp -implicitDefEqProofs only [go_sem, h2, h4, h5, h7, h8]
              by_cases h11 : (r9 == 0) = true
              · replace h := ite_some h h11; have h12 : r9 = 0 := by simpa using h11
                try simp -implicitDefEqProofs only [go_sem, h2, h4, h5, h7, h8, h12]
                exact LLoop.view [] (by (first | rfl | simp -implicitDefEqProofs only [go_sem, h2, h4, h5, h7, h8, h12] <;> rfl)) (ih_M_reject_both__logic_Or_l1 _ _ h lo c Q hb)
              · replace h := ite_none h h11
                by_cases h13 : (r9 == 1) = true
                · replace h := ite_some h h13; have h14 : r9 = 1 := by simpa using h13
                  try simp -implicitDefEqProofs only [go_sem, h2, h4, h5, h7, h8, h14]
                  exact LLoop.view [] (by (first | rfl | simp -implicitDefEqProofs only [go_sem, h2, h4, h5, h7, h8, h14] <;> rfl)) (ih_M_reject_both__logic_Or_l1 _ _ h lo c Q hb)
                · replace h := ite_none h h13
                  by_cases h15 : (r9 == 2) = true
                  · replace h := ite_some h h15; have h16 : r9 = 2 := by simpa using h15
                    try simp -implicitDefEqProofs only [go_sem, h2, h4, h5, h7, h8, h16]
                    exact LLoop.view [] (by (first | rfl | simp -implicitDefEqProofs only [go_sem, h2, h4, h5, h7, h8, h16] <;> rfl)) (ih_M_reject_both__logic_Or_l1 _ _ h lo c Q hb)
                  · replace h := ite_none h h15
                    cases h
            · replace h := ite_none h h8; replace h8 := bfalse h8
              try simp -implicitDefEqProofs only [go_sem, h2, h4, h5, h7, h8]
              exact LLoop.view [] (by (first | rfl | simp -implicitDefEqProofs only [go_sem, h2, h4, h5, h7, h8] <;> rfl)) (ih_M_reject_both__logic_Or_l1 _ _ h lo c Q hb)
          · replace h := ite_none h h6
            by_cases h17 : (x.2.2.1 == 1) = true
            · replace h := ite_some h h17; have h18 : x.2.2.1 = 1 := by simpa using h17
              try simp -implicitDefEqProofs only [go_sem, h2, h4, h5, h18]
              by_cases h19 : x.2.2.2.2.1.e1 = true
              · replace h := ite_some h h19
                try simp -implicitDefEqProofs only [go_sem, h2, h4, h5, h18, h19]
                obtain ⟨r20, h21, h⟩ := bind_some' h
                have hw := M_logic_Or.w ([0, 1]) _ h21
                simp -implicitDefEqProofs only [go_sem] at hw
                refine .plain _ _ rfl hw ?_
                clear hw
                try simp -implicitDefEqProofs only [go_sem, h2, h4, h5, h18, h19]
                by_cases h22 : (r20 == 0) = true
                · replace h := ite_some h h22; have h23 : r20 = 0 := by simpa using h22
                  try simp -implicitDefEqProofs only [go_sem, h2, h4, h5, h18, h19, h23]
                  exact LLoop.view [] (by (first | rfl | simp -implicitDefEqProofs only [go_sem, h2, h4, h5, h18, h19, h23] <;> rfl)) (ih_M_reject_both__logic_Or_l1 _ _ h lo c Q hb)
                · replace h := ite_none h h22
                  by_cases h24 : (r20 == 1) = true
                  · replace h := ite_some h h24; have h25 : r20 = 1 := by simpa using h24
                    try simp -implicitDefEqProofs only [go_sem, h2, h4, h5, h18, h19, h25]
                    exact LLoop.view [] (by (first | rfl | simp -implicitDefEqProofs only [go_sem, h2, h4, h5, h18, h19, h25] <;> rfl)) (ih_M_reject_both__logic_Or_l1 _ _ h lo c Q hb)
                  · replace h := ite_none h h24
                    by_cases h26 : (r20 == 2) = true
                    · replace h := ite_some h h26; have h27 : r20 = 2 := by simpa using h26
                      try simp -implicitDefEqProofs only [go_sem, h2, h4, h5, h18, h19, h27]
                      exact LLoop.view [] (by (first | rfl | simp -implicitDefEqProofs only [go_sem, h2, h4, h5, h18, h19, h27] <;> rfl)) (ih_M_reject_both__logic_Or_l1 _ _ h lo c Q hb)
                    · replace h := ite_none h h26
                      cases h
              · replace h := ite_none h h19; replace h19 := bfalse h19
                try simp -implicitDefEqProofs only [go_sem, h2, h4, h5, h18, h19]
                exact LLoop.view [] (by (first | rfl | simp -implicitDefEqProofs only [go_sem, h2, h4, h5, h18, h19] <;> rfl)) (ih_M_reject_both__logic_Or_l1 _ _ h lo c Q hb)
            · replace h := ite_none h h17
              by_cases h28 : (x.2.2.1 == 2) = true
              · replace h := ite_some h h28; have h29 : x.2.2.1 = 2 := by simpa using h28
                try simp -implicitDefEqProofs only [go_sem, h2, h4, h5, h29]
                by_cases h30 : x.2.2.2.2.1.e2 = true
                · replace h := ite_some h h30
                  try simp -implicitDefEqProofs only [go_sem, h2, h4, h5, h29, h30]
                  obtain ⟨r31, h32, h⟩ := bind_some' h
                  have hw := M_logic_Or.w ([0, 2]) _ h32
                  simp -implicitDefEqProofs only [go_sem] at hw
                  refine .plain _ _ rfl hw ?_
                  clear hw
                  try simp -implicitDefEqProofs only [go_sem, h2, h4, h5, h29, h30]
                  by_cases h33 : (r31 == 0) = true
                  · replace h := ite_some h h33; have h34 : r31 = 0 := by simpa using h33
                    try simp -implicitDefEqProofs only [go_sem, h2, h4, h5, h29, h30, h34]
                    exact LLoop.view [] (by (first | rfl | simp -implicitDefEqProofs only [go_sem, h2, h4, h5, h29, h30, h34] <;> rfl)) (ih_M_reject_both__logic_Or_l1 _ _ h lo c Q hb)
                  · replace h := ite_none h h33
                    by_cases h35 : (r31 == 1) = true
                    · replace h := ite_some h h35; have h36 : r31 = 1 := by simpa using h35
                      try simp -implicitDefEqProofs only [go_sem, h2, h4, h5, h29, h30, h36]
                      exact LLoop.view [] (by (first | rfl | simp -implicitDefEqProofs only [go_sem, h2, h4, h5, h29, h30, h36] <;> rfl)) (ih_M_reject_both__logic_Or_l1 _ _ h lo c Q hb)
                    · replace h := ite_none h h35
                      by_cases h37 : (r31 == 2) = true
                      · replace h := ite_some h h37; have h38 : r31 = 2 := by simpa using h37
                        try simp -implicitDefEqProofs only [go_sem, h2, h4, h5, h29, h30, h38]
                        exact LLoop.view [] (by (first | rfl | simp -implicitDefEqProofs only [go_sem, h2, h4, h5, h29, h30, h38] <;> rfl)) (ih_M_reject_both__logic_Or_l1 _ _ h lo c Q hb)
                      · replace h := ite_none h h37
                        cases h
                · replace h := ite_none h h30; replace h30 := bfalse h30
                  try simp -implicitDefEqProofs only [go_sem, h2, h4, h5, h29, h30]
                  exact LLoop.view [] (by (first | rfl | simp -implicitDefEqProofs only [go_sem, h2, h4, h5, h29, h30] <;> rfl)) (ih_M_reject_both__logic_Or_l1 _ _ h lo c Q hb)
              · replace h := ite_none h h28
                cases h
        · replace h := ite_none h h5; replace h5 := bfalse h5
          try simp -implicitDefEqProofs only [go_sem, h2, h4, h5]
          exact LLoop.view [] (by (first | rfl | simp -implicitDefEqProofs only [go_sem, h2, h4, h5] <;> rfl)) (ih_M_reject_both__logic_Or_l1 _ _ h lo c Q hb)
      · replace h := ite_none h h3
        by_cases h39 : (x.1 == 1) = true
        · replace h := ite_some h h39; have h40 : x.1 = 1 := by simpa using h39
          try simp -implicitDefEqProofs only [go_sem, h2, h40]
          by_cases h41 : x.2.2.2.1.e1 = true
          · replace h := ite_some h h41
            try simp -implicitDefEqProofs only [go_sem, h2, h40, h41]
            by_cases h42 : (x.2.2.1 == 0) = true
            · replace h := ite_some h h42; have h43 : x.2.2.1 = 0 := by simpa using h42
              try simp -implicitDefEqProofs only [go_sem, h2, h40, h41, h43]
              by_cases h44 : x.2.2.2.2.1.e0 = true
              · replace h := ite_some h h44
                try simp -implicitDefEqProofs only [go_sem, h2, h40, h41, h43, h44]
                obtain ⟨r45, h46, h⟩ := bind_some' h
                have hw := M_logic_Or.w ([1, 0]) _ h46
                simp -implicitDefEqProofs only [go_sem] at hw
                refine .plain _ _ rfl hw ?_
                clear hw
                try simp -implicitDefEqProofs only [go_sem, h2, h40, h41, h43, h44]
                by_cases h47 : (r45 == 0) = true
                · replace h := ite_some h h47; have h48 : r45 = 0 := by simpa using h47
                  try simp -implicitDefEqProofs only [go_sem, h2, h40, h41, h43, h44, h48]
                  exact LLoop.view [] (by (first | rfl | simp -implicitDefEqProofs only [go_sem, h2, h40, h41, h43, h44, h48] <;> rfl)) (ih_M_reject_both__logic_Or_l1 _ _ h lo c Q hb)
                · replace h := ite_none h h47
                  by_cases h49 : (r45 == 1) = true
                  · replace h := ite_some h h49; have h50 : r45 = 1 := by simpa using h49
                    try simp -implicitDefEqProofs only [go_sem, h2, h40, h41, h43, h44, h50]
                    exact LLoop.view [] (by (first | rfl | simp -implicitDefEqProofs only [go_sem, h2, h40, h41, h43, h44, h50] <;> rfl)) (ih_M_reject_both__logic_Or_l1 _ _ h lo c Q hb)
                  · replace h := ite_none h h49
                    by_cases h51 : (r45 == 2) = true
                    · replace h := ite_some h h51; have h52 : r45 = 2 := by simpa using h51
                      try simp -implicitDefEqProofs only [go_sem, h2, h40, h41, h43, h44, h52]
                      exact LLoop.view [] (by (first | rfl | simp -implicitDefEqProofs only [go_sem, h2, h40, h41, h43, h44, h52] <;> rfl)) (ih_M_reject_both__logic_Or_l1 _ _ h lo c Q hb)
                    · replace h := ite_none h h51
                      cases h
              · replace h := ite_none h h44; replace h44 := bfalse h44
                try simp -implicitDefEqProofs only [go_sem, h2, h40, h41, h43, h44]
                exact LLoop.view [] (by (first | rfl | simp -implicitDefEqProofs only [go_sem, h2, h40, h41, h43, h44] <;> rfl)) (ih_M_reject_both__logic_Or_l1 _ _ h lo c Q hb)
            · replace h := ite_none h h42
              by_cases h53 : (x.2.2.1 == 1) = true
              · replace h := ite_some h h53; have h54 : x.2.2.1 = 1 := by simpa using h53
                try simp -implicitDefEqProofs only [go_sem, h2, h40, h41, h54]
                by_cases h55 : x.2.2.2.2.1.e1 = true
                · replace h := ite_some h h55
                  try simp -implicitDefEqProofs only [go_sem, h2, h40, h41, h54, h55]
                  obtain ⟨r56, h57, h⟩ := bind_some' h
                  have hw := M_logic_Or.w ([1, 1]) _ h57
                  simp -implicitDefEqProofs only [go_sem] at hw
                  refine .plain _ _ rfl hw ?_
                  clear hw
                  try simp -implicitDefEqProofs only [go_sem, h2, h40, h41, h54, h55]
                  by_cases h58 : (r56 == 0) = true
                  · replace h := ite_some h h58; have h59 : r56 = 0 := by simpa using h58
                    try simp -implicitDefEqProofs only [go_sem, h2, h40, h41, h54, h55, h59]
                    exact LLoop.view [] (by (first | rfl | simp -implicitDefEqProofs only [go_sem, h2, h40, h41, h54, h55, h59] <;> rfl)) (ih_M_reject_both__logic_Or_l1 _ _ h lo c Q hb)
                  · replace h := ite_none h h58
                    by_cases h60 : (r56 == 1) = true
                    · replace h := ite_some h h60; have h61 : r56 = 1 := by simpa using h60
                      try simp -implicitDefEqProofs only [go_sem, h2, h40, h41, h54, h55, h61]
                      exact LLoop.view [] (by (first | rfl | simp -implicitDefEqProofs only [go_sem, h2, h40, h41, h54, h55, h61] <;> rfl)) (ih_M_reject_both__logic_Or_l1 _ _ h lo c Q hb)
                    · replace h := ite_none h h60
                      by_cases h62 : (r56 == 2) = true
                      · replace h := ite_some h h62; have h63 : r56 = 2 := by simpa using h62
                        try simp -implicitDefEqProofs only [go_sem, h2, h40, h41, h54, h55, h63]
                        exact LLoop.view [] (by (first | rfl | simp -implicitDefEqProofs only [go_sem, h2, h40, h41, h54, h55, h63] <;> rfl)) (ih_M_reject_both__logic_Or_l1 _ _ h lo c Q hb)
                      · replace h := ite_none h h62
                        cases h
                · replace h := ite_none h h55; replace h55 := bfalse h55
                  try simp -implicitDefEqProofs only [go_sem, h2, h40, h41, h54, h55]
                  exact LLoop.view [] (by (first | rfl | simp -implicitDefEqProofs only [go_sem, h2, h40, h41, h54, h55] <;> rfl)) (ih_M_reject_both__logic_Or_l1 _ _ h lo c Q hb)
              · replace h := ite_none h h53
                by_cases h64 : (x.2.2.1 == 2) = true
                · replace h := ite_some h h64; have h65 : x.2.2.1 = 2 := by simpa using h64
                  try simp -implicitDefEqProofs only [go_sem, h2, h40, h41, h65]
                  by_cases h66 : x.2.2.2.2.1.e2 = true
                  · replace h := ite_some h h66
                    try simp -implicitDefEqProofs only [go_sem, h2, h40, h41, h65, h66]
                    obtain ⟨r67, h68, h⟩ := bind_some' h
                    have hw := M_logic_Or.w ([1, 2]) _ h68
                    simp -implicitDefEqProofs only [go_sem] at hw
                    refine .plain _ _ rfl hw ?_
                    clear hw
                    try simp -implicitDefEqProofs only [go_sem, h2, h40, h41, h65, h66]
                    by_cases h69 : (r67 == 0) = true
                    · replace h := ite_some h h69; have h70 : r67 = 0 := by simpa using h69
                      try simp -implicitDefEqProofs only [go_sem, h2, h40, h41, h65, h66, h70]
                      exact LLoop.view [] (by (first | rfl | simp -implicitDefEqProofs only [go_sem, h2, h40, h41, h65, h66, h70] <;> rfl)) (ih_M_reject_both__logic_Or_l1 _ _ h lo c Q hb)
                    · replace h := ite_none h h69
                      by_cases h71 : (r67 == 1) = true
                      · replace h := ite_some h h71; have h72 : r67 = 1 := by simpa using h71
                        try simp -implicitDefEqProofs only [go_sem, h2, h40, h41, h65, h66, h72]
                        exact LLoop.view [] (by (first | rfl | simp -implicitDefEqProofs only [go_sem, h2, h40, h41, h65, h66, h72] <;> rfl)) (ih_M_reject_both__logic_Or_l1 _ _ h lo c Q hb)
                      · replace h := ite_none h h71
                        by_cases h73 : (r67 == 2) = true
                        · replace h := ite_some h h73; have h74 : r67 = 2 := by simpa using h73
                          try simp -implicitDefEqProofs only [go_sem, h2, h40, h41, h65, h66, h74]
                          exact LLoop.view [] (by (first | rfl | simp -implicitDefEqProofs only [go_sem, h2, h40, h41, h65, h66, h74] <;> rfl)) (ih_M_reject_both__logic_Or_l1 _ _ h lo c Q hb)
                        · replace h := ite_none h h73
                          cases h
                  · replace h := ite_none h h66; replace h66 := bfalse h66
                    try simp -implicitDefEqProofs only [go_sem, h2, h40, h41, h65, h66]
                    exact LLoop.view [] (by (first | rfl | simp -implicitDefEqProofs only [go_sem, h2, h40, h41, h65, h66] <;> rfl)) (ih_M_reject_both__logic_Or_l1 _ _ h lo c Q hb)
                · replace h := ite_none h h64
                  cases h
          · replace h := ite_none h h41; replace h41 := bfalse h41
            try simp -implicitDefEqProofs only [go_sem, h2, h40, h41]
            exact LLoop.view [] (by (first | rfl | simp -implicitDefEqProofs only [go_sem, h2, h40, h41] <;> rfl)) (ih_M_reject_both__logic_Or_l1 _ _ h lo c Q hb)
        · replace h := ite_none h h39
          by_cases h75 : (x.1 == 2) = true
          · replace h := ite_some h h75; have h76 : x.1 = 2 := by simpa using h75
            try simp -implicitDefEqProofs only [go_sem, h2, h76]
            by_cases h77 : x.2.2.2.1.e2 = true
            · replace h := ite_some h h77
              try simp -implicitDefEqProofs only [go_sem, h2, h76, h77]
              by_cases h78 : (x.2.2.1 == 0) = true
              · replace h := ite_some h h78; have h79 : x.2.2.1 = 0 := by simpa using h78
                try simp -implicitDefEqProofs only [go_sem, h2, h76, h77, h79]
                by_cases h80 : x.2.2.2.2.1.e0 = true
                · replace h := ite_some h h80
                  try simp -implicitDefEqProofs only [go_sem, h2, h76, h77, h79, h80]
                  obtain ⟨r81, h82, h⟩ := bind_some' h
                  have hw := M_logic_Or.w ([2, 0]) _ h82
                  simp -implicitDefEqProofs only [go_sem] at hw
                  refine .plain _ _ rfl hw ?_
                  clear hw
                  try simp -implicitDefEqProofs only [go_sem, h2, h76, h77, h79, h80]
                  by_cases h83 : (r81 == 0) = true
                  · replace h := ite_some h h83; have h84 : r81 = 0 := by simpa using h83
                    try simp -implicitDefEqProofs only [go_sem, h2, h76, h77, h79, h80, h84]
                    exact LLoop.view [] (by (first | rfl | simp -implicitDefEqProofs only [go_sem, h2, h76, h77, h79, h80, h84] <;> rfl)) (ih_M_reject_both__logic_Or_l1 _ _ h lo c Q hb)
                  · replace h := ite_none h h83
                    by_cases h85 : (r81 == 1) = true
                    · replace h := ite_some h h85; have h86 : r81 = 1 := by simpa using h85
                      try simp -implicitDefEqProofs only [go_sem, h2, h76, h77, h79, h80, h86]
                      exact LLoop.view [] (by (first | rfl | simp -implicitDefEqProofs only [go_sem, h2, h76, h77, h79, h80, h86] <;> rfl)) (ih_M_reject_both__logic_Or_l1 _ _ h lo c Q hb)
                    · replace h := ite_none h h85
                      by_cases h87 : (r81 == 2) = true
                      · replace h := ite_some h h87; have h88 : r81 = 2 := by simpa using h87
                        try simp -implicitDefEqProofs only [go_sem, h2, h76, h77, h79, h80, h88]
                        exact LLoop.view [] (by (first | rfl | simp -implicitDefEqProofs only [go_sem, h2, h76, h77, h79, h80, h88] <;> rfl)) (ih_M_reject_both__logic_Or_l1 _ _ h lo c Q hb)
                      · replace h := ite_none h h87
                        cases h
                · replace h := ite_none h h80; replace h80 := bfalse h80
                  try simp -implicitDefEqProofs only [go_sem, h2, h76, h77, h79, h80]
                  exact LLoop.view [] (by (first | rfl | simp -implicitDefEqProofs only [go_sem, h2, h76, h77, h79, h80] <;> rfl)) (ih_M_reject_both__logic_Or_l1 _ _ h lo c Q hb)
              · replace h := ite_none h h78
                by_cases h89 : (x.2.2.1 == 1) = true
                · replace h := ite_some h h89; have h90 : x.2.2.1 = 1 := by simpa using h89
                  try simp -implicitDefEqProofs only [go_sem, h2, h76, h77, h90]
                  by_cases h91 : x.2.2.2.2.1.e1 = true
                  · replace h := ite_some h h91
                    try simp -implicitDefEqProofs only [go_sem, h2, h76, h77, h90, h91]
                    obtain ⟨r92, h93, h⟩ := bind_some' h
                    have hw := M_logic_Or.w ([2, 1]) _ h93
                    simp -implicitDefEqProofs only [go_sem] at hw
                    refine .plain _ _ rfl hw ?_
                    clear hw
                    try simp -implicitDefEqProofs only [go_sem, h2, h76, h77, h90, h91]
                    by_cases h94 : (r92 == 0) = true
                    · replace h := ite_some h h94; have h95 : r92 = 0 := by simpa using h94
                      try simp -implicitDefEqProofs only [go_sem, h2, h76, h77, h90, h91, h95]
                      exact LLoop.view [] (by (first | rfl | simp -implicitDefEqProofs only [go_sem, h2, h76, h77, h90, h91, h95] <;> rfl)) (ih_M_reject_both__logic_Or_l1 _ _ h lo c Q hb)
                    · replace h := ite_none h h94
                      by_cases h96 : (r92 == 1) = true
                      · replace h := ite_some h h96; have h97 : r92 = 1 := by simpa using h96
                        try simp -implicitDefEqProofs only [go_sem, h2, h76, h77, h90, h91, h97]
                        exact LLoop.view [] (by (first | rfl | simp -implicitDefEqProofs only [go_sem, h2, h76, h77, h90, h91, h97] <;> rfl)) (ih_M_reject_both__logic_Or_l1 _ _ h lo c Q hb)
                      · replace h := ite_none h h96
                        by_cases h98 : (r92 == 2) = true
                        · replace h := ite_some h h98; have h99 : r92 = 2 := by simpa using h98
                          try simp -implicitDefEqProofs only [go_sem, h2, h76, h77, h90, h91, h99]
                          exact LLoop.view [] (by (first | rfl | simp -implicitDefEqProofs only [go_sem, h2, h76, h77, h90, h91, h99] <;> rfl)) (ih_M_reject_both__logic_Or_l1 _ _ h lo c Q hb)
                        · replace h := ite_none h h98
                          cases h
                  · replace h := ite_none h h91; replace h91 := bfalse h91
                    try simp -implicitDefEqProofs only [go_sem, h2, h76, h77, h90, h91]
                    exact LLoop.view [] (by (first | rfl | simp -implicitDefEqProofs only [go_sem, h2, h76, h77, h90, h91] <;> rfl)) (ih_M_reject_both__logic_Or_l1 _ _ h lo c Q hb)
                · replace h := ite_none h h89
                  by_cases h100 : (x.2.2.1 == 2) = true
                  · replace h := ite_some h h100; have h101 : x.2.2.1 = 2 := by simpa using h100
                    try simp -implicitDefEqProofs only [go_sem, h2, h76, h77, h101]
                    by_cases h102 : x.2.2.2.2.1.e2 = true
                    · replace h := ite_some h h102
                      try simp -implicitDefEqProofs only [go_sem, h2, h76, h77, h101, h102]
                      obtain ⟨r103, h104, h⟩ := bind_some' h
                      have hw := M_logic_Or.w ([2, 2]) _ h104
                      simp -implicitDefEqProofs only [go_sem] at hw
                      refine .plain _ _ rfl hw ?_
                      clear hw
                      try simp -implicitDefEqProofs only [go_sem, h2, h76, h77, h101, h102]
                      by_cases h105 : (r103 == 0) = true
                      · replace h := ite_some h h105; have h106 : r103 = 0 := by simpa using h105
                        try simp -implicitDefEqProofs only [go_sem, h2, h76, h77, h101, h102, h106]
                        exact LLoop.view [] (by (first | rfl | simp -implicitDefEqProofs only [go_sem, h2, h76, h77, h101, h102, h106] <;> rfl)) (ih_M_reject_both__logic_Or_l1 _ _ h lo c Q hb)
                      · replace h := ite_none h h105
                        by_cases h107 : (r103 == 1) = true
                        · replace h := ite_some h h107; have h108 : r103 = 1 := by simpa using h107
                          try simp -implicitDefEqProofs only [go_sem, h2, h76, h77, h101, h102, h108]
                          exact LLoop.view [] (by (first | rfl | simp -implicitDefEqProofs only [go_sem, h2, h76, h77, h101, h102, h108] <;> rfl)) (ih_M_reject_both__logic_Or_l1 _ _ h lo c Q hb)
                        · replace h := ite_none h h107
                          by_cases h109 : (r103 == 2) = true
                          · replace h := ite_some h h109; have h110 : r103 = 2 := by simpa using h109
                            try simp -implicitDefEqProofs only [go_sem, h2, h76, h77, h101, h102, h110]
                            exact LLoop.view [] (by (first | rfl | simp -implicitDefEqProofs only [go_sem, h2, h76, h77, h101, h102, h110] <;> rfl)) (ih_M_reject_both__logic_Or_l1 _ _ h lo c Q hb)
                          · replace h := ite_none h h109
                            cases h
                    · replace h := ite_none h h102; replace h102 := bfalse h102
                      try simp -implicitDefEqProofs only [go_sem, h2, h76, h77, h101, h102]
                      exact LLoop.view [] (by (first | rfl | simp -implicitDefEqProofs only [go_sem, h2, h76, h77, h101, h102] <;> rfl)) (ih_M_reject_both__logic_Or_l1 _ _ h lo c Q hb)
                  · replace h := ite_none h h100
                    cases h
            · replace h := ite_none h h77; replace h77 := bfalse h77
              try simp -implicitDefEqProofs only [go_sem, h2, h76, h77]
              exact LLoop.view [] (by (first | rfl | simp -implicitDefEqProofs only [go_sem, h2, h76, h77] <;> rfl)) (ih_M_reject_both__logic_Or_l1 _ _ h lo c Q hb)
          · replace h := ite_none h h75
            cases h
    · replace h := ite_none h h2; replace h2 := bfalse h2
      try simp -implicitDefEqProofs only [go_sem, h2]
      injection h with h; subst h
      exact .inr ⟨[], _, by (simp -implicitDefEqProofs only [go_sem, h2] <;> first | done | rfl | trivial), hb _ rfl⟩
theorem M_reject_both__logic_Or.l1.w : type_of% @M_reject_both__logic_Or.l1.ws := @M_reject_both__logic_Or.l1.ws
def M_reject_both__logic_Or.l0 (x : Int × A3_Bool × A3_Bool × A3_Bool × A3_Bool) : Option (A3_Bool) :=
  if (decide (x.1 < 3)) = true then
    M_reject_both__logic_Or.l1 (x.1, x.1, 0, x.2.1, x.2.2.1, x.2.2.2.1, x.2.2.2.2) >>= fun (o111 : A3_Bool) =>
    M_reject_both__logic_Or.l0 ((w64 (x.1 + 1)), x.2.1, x.2.2.1, x.2.2.2.1, o111)
  else
    some x.2.2.2.2
  partial_fixpoint
theorem M_reject_both__logic_Or.l0.ws : (∀ (x : Int × A3_Bool × A3_Bool × A3_Bool × A3_Bool) (o : A3_Bool), M_reject_both__logic_Or.l0 x = some o → (fun (x : Int × A3_Bool × A3_Bool × A3_Bool × A3_Bool) (o : A3_Bool) => ∀ (lo : Option Nat) (c : LCtx) (Q : Exit → LEnv → Prop) (hb : ∀ s : A3_Bool, o = s → Q (.exit 0) ⟨[(6, .lref 6 0), (7, .lref 7 0)], [(6, [.v (.bool x.2.2.2.1.e0), .v (.bool x.2.2.2.1.e1), .v (.bool x.2.2.2.1.e2)]), (7, [.v (.bool s.e0), .v (.bool s.e1), .v (.bool s.e2)])]⟩), LLoop Try.prog 159 lo c 0 (VQ Q) ⟨[(2, .v (.func 158 [] [])), (3, .lref 3 0), (4, .lref 4 0), (6, .lref 6 0), (7, .lref 7 0), (10, .v (.i64 x.1))], [(3, [.v (.bool x.2.1.e0), .v (.bool x.2.1.e1), .v (.bool x.2.1.e2)]), (4, [.v (.bool x.2.2.1.e0), .v (.bool x.2.2.1.e1), .v (.bool x.2.2.1.e2)]), (6, [.v (.bool x.2.2.2.1.e0), .v (.bool x.2.2.2.1.e1), .v (.bool x.2.2.2.1.e2)]), (7, [.v (.bool x.2.2.2.2.e0), .v (.bool x.2.2.2.2.e1), .v (.bool x.2.2.2.2.e2)])]⟩) x o) := by
  refine M_reject_both__logic_Or.l0.partial_correctness _ ?_
  · intro M_M_reject_both__logic_Or_l0 ih_M_reject_both__logic_Or_l0 x o h
    intro lo c Q hb
    refine LLoop.step mix fn_159 (by kernel_rfl) ?_
    simp -implicitDefEqProofs only [go_sem, Try.f159]
    by_cases h1 : (decide (x.1 < 3)) = true
    · replace h := ite_some h h1
      try simp -implicitDefEqProofs only [go_sem, h1]
      obtain ⟨o111, h112, h⟩ := bind_some' h
      refine LLoop.viewQ (LLoop.view [] (by (first | rfl | simp -implicitDefEqProofs only [go_sem, h1] <;> rfl)) (M_reject_both__logic_Or.l1.w (x.1, x.1, 0, x.2.1, x.2.2.1, x.2.2.2.1, x.2.2.2.2) _ h112 _ _ _ ?_))
      intro s' hs'; subst hs'
      try simp -implicitDefEqProofs only [go_sem, h1]
      exact LLoop.view [] (by (first | rfl | simp -implicitDefEqProofs only [go_sem, h1] <;> rfl)) (ih_M_reject_both__logic_Or_l0 _ _ h lo c Q hb)
    · replace h := ite_none h h1; replace h1 := bfalse h1
      try simp -implicitDefEqProofs only [go_sem, h1]
      injection h with h; subst h
      exact .inr ⟨[], _, by (simp -implicitDefEqProofs only [go_sem, h1] <;> first | done | rfl | trivial), hb _ rfl⟩
theorem M_reject_both__logic_Or.l0.w : type_of% @M_reject_both__logic_Or.l0.ws := @M_reject_both__logic_Or.l0.ws
def M_reject_both__logic_Or (x : A3_Bool × A3_Bool) : Option (A3_Bool) :=
  M_reject_both__logic_Or.l0 (0, x.1, x.2, (⟨false, false, false⟩ : A3_Bool), (⟨false, false, false⟩ : A3_Bool)) >>= fun (o113 : A3_Bool) =>
  some o113
set_option maxHeartbeats 8000000 in
theorem M_reject_both__logic_Or.w : ∀ (x : A3_Bool × A3_Bool) (r : A3_Bool), M_reject_both__logic_Or x = some r → (fun (x : A3_Bool × A3_Bool) (r : A3_Bool) => Fn Try.prog 159 [.agg (A3_Bool.C x.1), .agg (A3_Bool.C x.2), .func 158 [] []] (.agg (A3_Bool.C r))) x r := by
  intro x r h
  rw [M_reject_both__logic_Or] at h
  try dsimp only
  refine Fn.of_lc mix fn_159 lok_159 (by rfl) (flC (A3_Bool.flatC _) (flC (A3_Bool.flatC _) (flC (.func _ _ _ (flN) (flN)) (flN)))) (A3_Bool.flatC _) ?_
  simp -implicitDefEqProofs only [go_sem, Try.f159]
  obtain ⟨o113, h114, h⟩ := bind_some' h
  refine LLoop.viewQ (LLoop.view [] (by (first | rfl | simp -implicitDefEqProofs only [go_sem] <;> rfl)) (M_reject_both__logic_Or.l0.w (0, x.1, x.2, (⟨false, false, false⟩ : A3_Bool), (⟨false, false, false⟩ : A3_Bool)) _ h114 _ _ _ ?_))
  intro s' hs'; subst hs'
  try simp -implicitDefEqProofs only [go_sem]
  injection h with h; subst h
  first | rfl | simp -implicitDefEqProofs only [go_sem] <;> rfl
mutual
def M_reject_May.l0 (x : Set64 × List T_api_Pred × Int × Int × A3_Bool × A3_Bool) : Option (A3_Bool) :=
  if (decide (x.2.2.2.1 < x.2.2.1)) = true then
    (getI x.2.1 x.2.2.2.1) >>= fun (e18 : T_api_Pred) =>
    M_reject_May (e18, x.1) >>= fun r20 =>
    M_reject_both__logic_And (x.2.2.2.2.2, r20) >>= fun r22 =>
    M_reject_May.l0 (x.1, x.2.1, x.2.2.1, (w64 (x.2.2.2.1 + 1)), x.2.2.2.2.1, r22)
  else
    some x.2.2.2.2.2
  partial_fixpoint
def M_reject_May (x : T_api_Pred × Set64) : Option (A3_Bool) :=
  if (x.1.Kind == 1) = true then
    M_reject_only x.1.Truth >>= fun r2 =>
    some r2
  else
    if (x.1.Kind == 2) = true then
      M_reject_compares (x.1, x.2) >>= fun r5 =>
      some r5
    else
      if (x.1.Kind == 3) = true then
        M_reject_isNull (x.1.A, x.2) >>= fun r8 =>
        if r8 = true then
          M_reject_only 2 >>= fun r11 =>
          some r11
        else
          some (⟨true, false, (x.1.A.Kind == 1)⟩ : A3_Bool)
      else
        if (x.1.Kind == 4) = true then
          M_reject_only 2 >>= fun r14 =>
          M_reject_May.l0 (x.2, x.1.Parts, (x.1.Parts.length : Int), 0, (⟨false, false, false⟩ : A3_Bool), r14) >>= fun (o24 : A3_Bool) =>
          some o24
        else
          if (x.1.Kind == 5) = true then
            M_reject_only 2 >>= fun r27 =>
            M_reject_only 0 >>= fun r29 =>
            M_reject_May.l0_1 (x.2, x.1.Parts, (x.1.Parts.length : Int), 0, (⟨false, false, false⟩ : A3_Bool), r29) >>= fun (o38 : A3_Bool) =>
            some o38
          else
            if (x.1.Kind == 6) = true then
              if (decide ((x.1.Parts.length : Int) > 0)) = true then
                (x.1.Parts[0]?) >>= fun (e42 : T_api_Pred) =>
                M_reject_May (e42, x.2) >>= fun r44 =>
                some (⟨r44.e2, r44.e1, r44.e0⟩ : A3_Bool)
              else
                M_reject_only 1 >>= fun r46 =>
                some r46
            else
              M_reject_only 1 >>= fun r48 =>
              some r48
  partial_fixpoint
def M_reject_May.l0_1 (x : Set64 × List T_api_Pred × Int × Int × A3_Bool × A3_Bool) : Option (A3_Bool) :=
  if (decide (x.2.2.2.1 < x.2.2.1)) = true then
    (getI x.2.1 x.2.2.2.1) >>= fun (e32 : T_api_Pred) =>
    M_reject_May (e32, x.1) >>= fun r34 =>
    M_reject_both__logic_Or (x.2.2.2.2.2, r34) >>= fun r36 =>
    M_reject_May.l0_1 (x.1, x.2.1, x.2.2.1, (w64 (x.2.2.2.1 + 1)), x.2.2.2.2.1, r36)
  else
    some x.2.2.2.2.2
  partial_fixpoint
end
set_option maxHeartbeats 8000000 in
theorem M_reject_May.l0.ws : (∀ (x : Set64 × List T_api_Pred × Int × Int × A3_Bool × A3_Bool) (o : A3_Bool), M_reject_May.l0 x = some o → (fun (x : Set64 × List T_api_Pred × Int × Int × A3_Bool × A3_Bool) (o : A3_Bool) => ∀ (lo : Option Nat) (c : LCtx) (Q : Exit → LEnv → Prop) (hb : ∀ s : A3_Bool, o = s → Q (.exit 1) ⟨[(4, .lref 4 0), (5, .lref 5 0)], [(4, [.v (.bool x.2.2.2.2.1.e0), .v (.bool x.2.2.2.2.1.e1), .v (.bool x.2.2.2.2.1.e2)]), (5, [.v (.bool s.e0), .v (.bool s.e1), .v (.bool s.e2)])]⟩), LLoop Try.prog 148 lo c 0 (VQ Q) ⟨[(1, .v (.w x.1)), (4, .lref 4 0), (5, .lref 5 0), (6, .v (.func 157 [] [])), (43, .v (.slice .foreign (x.2.1.map T_api_Pred.av))), (44, .v (.i64 x.2.2.1)), (45, .v (.i64 x.2.2.2.1))], [(4, [.v (.bool x.2.2.2.2.1.e0), .v (.bool x.2.2.2.2.1.e1), .v (.bool x.2.2.2.2.1.e2)]), (5, [.v (.bool x.2.2.2.2.2.e0), .v (.bool x.2.2.2.2.2.e1), .v (.bool x.2.2.2.2.2.e2)])]⟩) x o) ∧ (∀ (x : T_api_Pred × Set64) (o : A3_Bool), M_reject_May x = some o → (fun (x : T_api_Pred × Set64) (r : A3_Bool) => Fn Try.prog 148 [.agg (T_api_Pred.C x.1), .w x.2] (.agg (A3_Bool.C r))) x o) ∧ (∀ (x : Set64 × List T_api_Pred × Int × Int × A3_Bool × A3_Bool) (o : A3_Bool), M_reject_May.l0_1 x = some o → (fun (x : Set64 × List T_api_Pred × Int × Int × A3_Bool × A3_Bool) (o : A3_Bool) => ∀ (lo : Option Nat) (c : LCtx) (Q : Exit → LEnv → Prop) (hb : ∀ s : A3_Bool, o = s → Q (.exit 1) ⟨[(4, .lref 4 0), (5, .lref 5 0)], [(4, [.v (.bool x.2.2.2.2.1.e0), .v (.bool x.2.2.2.2.1.e1), .v (.bool x.2.2.2.2.1.e2)]), (5, [.v (.bool s.e0), .v (.bool s.e1), .v (.bool s.e2)])]⟩), LLoop Try.prog 148 lo c 0 (VQ Q) ⟨[(1, .v (.w x.1)), (4, .lref 4 0), (5, .lref 5 0), (6, .v (.func 158 [] [])), (43, .v (.slice .foreign (x.2.1.map T_api_Pred.av))), (44, .v (.i64 x.2.2.1)), (45, .v (.i64 x.2.2.2.1))], [(4, [.v (.bool x.2.2.2.2.1.e0), .v (.bool x.2.2.2.2.1.e1), .v (.bool x.2.2.2.2.1.e2)]), (5, [.v (.bool x.2.2.2.2.2.e0), .v (.bool x.2.2.2.2.2.e1), .v (.bool x.2.2.2.2.2.e2)])]⟩) x o) := by
  refine M_reject_May.l0.mutual_partial_correctness _ _ _ ?_ ?_ ?_
  · intro M_M_reject_May_l0 M_M_reject_May ih_M_reject_May_l0 ih_M_reject_May x o h
    intro lo c Q hb
    refine LLoop.step mix fn_148 (by kernel_rfl) ?_
    simp -implicitDefEqProofs only [go_sem, Try.f148]
    by_cases h17 : (decide (x.2.2.2.1 < x.2.2.1)) = true
    · replace h := ite_some h h17
      try simp -implicitDefEqProofs only [go_sem, h17]
      obtain ⟨e18, h19, h⟩ := bind_some' h; replace h19 := getI_some h19; obtain ⟨h19', h19⟩ := h19
      try simp -implicitDefEqProofs only [go_sem, h17, h19, h19']
      obtain ⟨r20, h21, h⟩ := bind_some' h
      refine .plain _ _ rfl (ih_M_reject_May (e18, x.1) _ h21) ?_
      try simp -implicitDefEqProofs only [go_sem, h17, h19, h19']
      obtain ⟨r22, h23, h⟩ := bind_some' h
      refine .plain _ _ rfl (M_reject_both__logic_And.w (x.2.2.2.2.2, r20) _ h23) ?_
      try simp -implicitDefEqProofs only [go_sem, h17, h19, h19']
      exact LLoop.view [] (by (first | rfl | simp -implicitDefEqProofs only [go_sem, h17, h19, h19'] <;> rfl)) (ih_M_reject_May_l0 _ _ h lo c Q hb)
    · replace h := ite_none h h17; replace h17 := bfalse h17
      try simp -implicitDefEqProofs only [go_sem, h17]
      injection h with h; subst h
      exact .inr ⟨[], _, by (simp -implicitDefEqProofs only [go_sem, h17] <;> first | done | rfl | trivial), hb _ rfl⟩
  · intro M_M_reject_May_l0 M_M_reject_May M_M_reject_May_l0_1 ih_M_reject_May_l0 ih_M_reject_May ih_M_reject_May_l0_1 x r h
    refine Fn.of_lc mix fn_148 lok_148 (by rfl) (flC (T_api_Pred.flatC _) (flC (.atom _) (flN))) (A3_Bool.flatC _) ?_
    simp -implicitDefEqProofs only [go_sem, Try.f148]
    by_cases h1 : (x.1.Kind == 1) = true
    · replace h := ite_some h h1
      try simp -implicitDefEqProofs only [go_sem, h1]
      obtain ⟨r2, h3, h⟩ := bind_some' h
      refine .plain _ _ rfl (M_reject_only.w x.1.Truth _ h3) ?_
      try simp -implicitDefEqProofs only [go_sem, h1]
      injection h with h; subst h
      first | rfl | simp -implicitDefEqProofs only [go_sem, h1] <;> rfl
    · replace h := ite_none h h1; replace h1 := bfalse h1
      try simp -implicitDefEqProofs only [go_sem, h1]
      by_cases h4 : (x.1.Kind == 2) = true
      · replace h := ite_some h h4
        try simp -implicitDefEqProofs only [go_sem, h1, h4]
        obtain ⟨r5, h6, h⟩ := bind_some' h
        refine .plain _ _ rfl (M_reject_compares.w (x.1, x.2) _ h6) ?_
        try simp -implicitDefEqProofs only [go_sem, h1, h4]
        injection h with h; subst h
        first | rfl | simp -implicitDefEqProofs only [go_sem, h1, h4] <;> rfl
      · replace h := ite_none h h4; replace h4 := bfalse h4
        try simp -implicitDefEqProofs only [go_sem, h1, h4]
        by_cases h7 : (x.1.Kind == 3) = true
        · replace h := ite_some h h7
          try simp -implicitDefEqProofs only [go_sem, h1, h4, h7]
          obtain ⟨r8, h9, h⟩ := bind_some' h
          refine .plain _ _ rfl (M_reject_isNull.w (x.1.A, x.2) _ h9) ?_
          try simp -implicitDefEqProofs only [go_sem, h1, h4, h7]
          by_cases h10 : r8 = true
          · replace h := ite_some h h10
            try simp -implicitDefEqProofs only [go_sem, h1, h4, h7, h10]
            obtain ⟨r11, h12, h⟩ := bind_some' h
            refine .plain _ _ rfl (M_reject_only.w 2 _ h12) ?_
            try simp -implicitDefEqProofs only [go_sem, h1, h4, h7, h10]
            injection h with h; subst h
            first | rfl | simp -implicitDefEqProofs only [go_sem, h1, h4, h7, h10] <;> rfl
          · replace h := ite_none h h10; replace h10 := bfalse h10
            try simp -implicitDefEqProofs only [go_sem, h1, h4, h7, h10]
            injection h with h; subst h
            first | rfl | simp -implicitDefEqProofs only [go_sem, h1, h4, h7, h10] <;> rfl
        · replace h := ite_none h h7; replace h7 := bfalse h7
          try simp -implicitDefEqProofs only [go_sem, h1, h4, h7]
          by_cases h13 : (x.1.Kind == 4) = true
          · replace h := ite_some h h13
            try simp -implicitDefEqProofs only [go_sem, h1, h4, h7, h13]
            obtain ⟨r14, h15, h⟩ := bind_some' h
            refine .plain _ _ rfl (M_reject_only.w 2 _ h15) ?_
            try simp -implicitDefEqProofs only [go_sem, h1, h4, h7, h13]
            have h16 : (x.1.Kind == 5) = false := by rw [eqbI h13]; rfl
            try simp -implicitDefEqProofs only [go_sem, h1, h4, h7, h13, h16]
            obtain ⟨o24, h25, h⟩ := bind_some' h
            refine LLoop.viewQ (LLoop.view [] (by (first | rfl | simp -implicitDefEqProofs only [go_sem, h1, h4, h7, h13, h16] <;> rfl)) (ih_M_reject_May_l0 (x.2, x.1.Parts, (x.1.Parts.length : Int), 0, (⟨false, false, false⟩ : A3_Bool), r14) _ h25 _ _ _ ?_))
            intro s' hs'; subst hs'
            try simp -implicitDefEqProofs only [go_sem, h1, h4, h7, h13, h16]
            injection h with h; subst h
            first | rfl | simp -implicitDefEqProofs only [go_sem, h1, h4, h7, h13, h16] <;> rfl
          · replace h := ite_none h h13; replace h13 := bfalse h13
            try simp -implicitDefEqProofs only [go_sem, h1, h4, h7, h13]
            by_cases h26 : (x.1.Kind == 5) = true
            · replace h := ite_some h h26
              try simp -implicitDefEqProofs only [go_sem, h1, h4, h7, h13, h26]
              obtain ⟨r27, h28, h⟩ := bind_some' h
              refine .plain _ _ rfl (M_reject_only.w 2 _ h28) ?_
              try simp -implicitDefEqProofs only [go_sem, h1, h4, h7, h13, h26]
              obtain ⟨r29, h30, h⟩ := bind_some' h
              refine .plain _ _ rfl (M_reject_only.w 0 _ h30) ?_
              try simp -implicitDefEqProofs only [go_sem, h1, h4, h7, h13, h26]
              obtain ⟨o38, h39, h⟩ := bind_some' h
              refine LLoop.viewQ (LLoop.view [] (by (first | rfl | simp -implicitDefEqProofs only [go_sem, h1, h4, h7, h13, h26] <;> rfl)) (ih_M_reject_May_l0_1 (x.2, x.1.Parts, (x.1.Parts.length : Int), 0, (⟨false, false, false⟩ : A3_Bool), r29) _ h39 _ _ _ ?_))
              intro s' hs'; subst hs'
              try simp -implicitDefEqProofs only [go_sem, h1, h4, h7, h13, h26]
              injection h with h; subst h
              first | rfl | simp -implicitDefEqProofs only [go_sem, h1, h4, h7, h13, h26] <;> rfl
            · replace h := ite_none h h26; replace h26 := bfalse h26
              try simp -implicitDefEqProofs only [go_sem, h1, h4, h7, h13, h26]
              by_cases h40 : (x.1.Kind == 6) = true
              · replace h := ite_some h h40
                try simp -implicitDefEqProofs only [go_sem, h1, h4, h7, h13, h26, h40]
                by_cases h41 : (decide ((x.1.Parts.length : Int) > 0)) = true
                · replace h := ite_some h h41
                  try simp -implicitDefEqProofs only [go_sem, h1, h4, h7, h13, h26, h40, h41]
                  obtain ⟨e42, h43, h⟩ := bind_some' h
                  try simp -implicitDefEqProofs only [go_sem, h1, h4, h7, h13, h26, h40, h41, h43]
                  obtain ⟨r44, h45, h⟩ := bind_some' h
                  refine .plain _ _ rfl (ih_M_reject_May (e42, x.2) _ h45) ?_
                  try simp -implicitDefEqProofs only [go_sem, h1, h4, h7, h13, h26, h40, h41, h43]
                  injection h with h; subst h
                  first | rfl | simp -implicitDefEqProofs only [go_sem, h1, h4, h7, h13, h26, h40, h41, h43] <;> rfl
                · replace h := ite_none h h41; replace h41 := bfalse h41
                  try simp -implicitDefEqProofs only [go_sem, h1, h4, h7, h13, h26, h40, h41]
                  obtain ⟨r46, h47, h⟩ := bind_some' h
                  refine .plain _ _ rfl (M_reject_only.w 1 _ h47) ?_
                  try simp -implicitDefEqProofs only [go_sem, h1, h4, h7, h13, h26, h40, h41]
                  injection h with h; subst h
                  first | rfl | simp -implicitDefEqProofs only [go_sem, h1, h4, h7, h13, h26, h40, h41] <;> rfl
              · replace h := ite_none h h40; replace h40 := bfalse h40
                try simp -implicitDefEqProofs only [go_sem, h1, h4, h7, h13, h26, h40]
                obtain ⟨r48, h49, h⟩ := bind_some' h
                refine .plain _ _ rfl (M_reject_only.w 1 _ h49) ?_
                try simp -implicitDefEqProofs only [go_sem, h1, h4, h7, h13, h26, h40]
                injection h with h; subst h
                first | rfl | simp -implicitDefEqProofs only [go_sem, h1, h4, h7, h13, h26, h40] <;> rfl
  · intro M_M_reject_May M_M_reject_May_l0_1 ih_M_reject_May ih_M_reject_May_l0_1 x o h
    intro lo c Q hb
    refine LLoop.step mix fn_148 (by kernel_rfl) ?_
    simp -implicitDefEqProofs only [go_sem, Try.f148]
    by_cases h31 : (decide (x.2.2.2.1 < x.2.2.1)) = true
    · replace h := ite_some h h31
      try simp -implicitDefEqProofs only [go_sem, h31]
      obtain ⟨e32, h33, h⟩ := bind_some' h; replace h33 := getI_some h33; obtain ⟨h33', h33⟩ := h33
      try simp -implicitDefEqProofs only [go_sem, h31, h33, h33']
      obtain ⟨r34, h35, h⟩ := bind_some' h
      refine .plain _ _ rfl (ih_M_reject_May (e32, x.1) _ h35) ?_
      try simp -implicitDefEqProofs only [go_sem, h31, h33, h33']
      obtain ⟨r36, h37, h⟩ := bind_some' h
      refine .plain _ _ rfl (M_reject_both__logic_Or.w (x.2.2.2.2.2, r34) _ h37) ?_
      try simp -implicitDefEqProofs only [go_sem, h31, h33, h33']
      exact LLoop.view [] (by (first | rfl | simp -implicitDefEqProofs only [go_sem, h31, h33, h33'] <;> rfl)) (ih_M_reject_May_l0_1 _ _ h lo c Q hb)
    · replace h := ite_none h h31; replace h31 := bfalse h31
      try simp -implicitDefEqProofs only [go_sem, h31]
      injection h with h; subst h
      exact .inr ⟨[], _, by (simp -implicitDefEqProofs only [go_sem, h31] <;> first | done | rfl | trivial), hb _ rfl⟩
theorem M_reject_May.w : type_of% (M_reject_May.l0.ws.2.1) := (M_reject_May.l0.ws.2.1)
end Go.Proofs.Ytcfekacmmfdggaa.G
set_option linter.unusedVariables false
set_option linter.unusedSimpArgs false
set_option maxRecDepth 100000
namespace Go.Proofs.Ytcfekacmmfdggaa.G
theorem lok_140 : (Try.f140.body.isSome && !(Try.f140.name == "runtime.NumGoroutine") && okL (bodyF Try.f140) Try.f140.ntmps (bodyF Try.f140)) = true := by kernel_rfl
def M_reject_Rejects (x : List T_api_Pred × Set64) : Option (Bool) :=
  M_reject_May ((⟨4, 0, 0, (⟨0, 0, 0, (⟨false, 0⟩ : T_api_Value)⟩ : T_api_Term), (⟨0, 0, 0, (⟨false, 0⟩ : T_api_Value)⟩ : T_api_Term), x.1⟩ : T_api_Pred), x.2) >>= fun r1 =>
  some (!r1.e2)
set_option maxHeartbeats 8000000 in
theorem M_reject_Rejects.w : ∀ (x : List T_api_Pred × Set64) (r : Bool), M_reject_Rejects x = some r → (fun (x : List T_api_Pred × Set64) (r : Bool) => Fn Try.prog 140 [.slice .foreign (x.1.map T_api_Pred.av), .w x.2] (.bool r)) x r := by
  intro x r h
  rw [M_reject_Rejects] at h
  try dsimp only
  refine Fn.of_lc mix fn_140 lok_140 (by rfl) (flC (flat_slice _ T_api_Pred.flat _) (flC (.atom _) (flN))) (.atom _) ?_
  simp -implicitDefEqProofs only [go_sem, Try.f140]
  obtain ⟨r1, h2, h⟩ := bind_some' h
  refine .plain _ _ rfl (M_reject_May.w ((⟨4, 0, 0, (⟨0, 0, 0, (⟨false, 0⟩ : T_api_Value)⟩ : T_api_Term), (⟨0, 0, 0, (⟨false, 0⟩ : T_api_Value)⟩ : T_api_Term), x.1⟩ : T_api_Pred), x.2) _ h2) ?_
  try simp -implicitDefEqProofs only [go_sem]
  injection h with h; subst h
  first | rfl | simp -implicitDefEqProofs only [go_sem] <;> rfl
end Go.Proofs.Ytcfekacmmfdggaa.G
set_option linter.unusedVariables false
set_option linter.unusedSimpArgs false
namespace Go.Proofs.Ytcfekacmmfdggaa.G

theorem getI_md {α : Type} (pre : List α) (x : α) (post : List α) : getI (pre ++ x :: post) (pre.length : Int) = some x := by
  rw [getI_nat (by rw [List.length_append, List.length_cons]; omega)]
  congr 1
  rw [List.getElem_append_right (by omega)]
  simp
theorem snoc_ln {α : Type} (pre : List α) (x : α) : (pre ++ [x]).length = pre.length + 1 := by rw [List.length_append]; rfl
theorem copy_l0 (z1 z2 : T_api_Tree) : ∀ (post pre : List T_api_Pred), pre.length + post.length ≤ 1000000 → (∀ p ∈ post, p.size ≤ 1000000) →
    M_tree_Copy.l0 (pre, pre ++ post, ((pre ++ post).length : Int), (pre.length : Int), z1, z2) = some (pre ++ post) := by
  intro post
  induction post with
  | nil => intro pre _ _; rw [List.append_nil, M_tree_Copy.l0, if_neg (dge (by dsimp only; omega))]
  | cons p post ih =>
    intro pre hl hs
    simp only [List.length_cons] at hl
    have hlen : (pre ++ p :: post).length = pre.length + (post.length + 1) := by rw [List.length_append]; rfl
    have h0 := ih (pre ++ [p]) (by rw [snoc_ln]; omega) (fun x hx => hs x (List.mem_cons_of_mem _ hx))
    rw [snoc_ln, List.append_assoc] at h0
    rw [M_tree_Copy.l0, if_pos (dlt (by dsimp only; omega))]
    dsimp only
    rw [getI_md]
    simp -implicitDefEqProofs only [Option.bind_eq_bind, Option.bind_some]
    rw [pred_Copy_eq p (hs p List.mem_cons_self)]
    simp -implicitDefEqProofs only [Option.bind_some]
    rw [room_of (by simp only [List.length_cons, List.length_nil]; omega), w64_succ (by omega)]
    exact h0
theorem tree_Copy_eq (t : T_api_Tree) : t.size ≤ 1000000 → M_tree_Copy t = some t := by
  induction t using T_api_Tree.induct with
  | h t ih =>
    intro hsz
    have hk := kids_len t
    have hc := conj_len t
    have key : ∀ (o8 : List T_api_Pred) (z1 z2 : T_api_Tree) (post pre : List T_api_Tree), pre.length + post.length ≤ 1000000 → (∀ y ∈ post, y ∈ t.Kids) →
        M_tree_Copy.l1 (o8, pre, pre ++ post, ((pre ++ post).length : Int), (pre.length : Int), z1, z2) = some (pre ++ post) := by
      intro o8 z1 z2 post
      induction post with
      | nil => intro pre _ _; rw [List.append_nil, M_tree_Copy.l1, if_neg (dge (by dsimp only; omega))]
      | cons p post ih2 =>
        intro pre hl hs
        simp only [List.length_cons] at hl
        have hlen : (pre ++ p :: post).length = pre.length + (post.length + 1) := by rw [List.length_append]; rfl
        have h0 := ih2 (pre ++ [p]) (by rw [snoc_ln]; omega) (fun x hx => hs x (List.mem_cons_of_mem _ hx))
        rw [snoc_ln, List.append_assoc] at h0
        have hp := hs p List.mem_cons_self
        have hps := kid_size hp
        rw [M_tree_Copy.l1, if_pos (dlt (by dsimp only; omega))]
        dsimp only
        rw [getI_md]
        simp -implicitDefEqProofs only [Option.bind_eq_bind, Option.bind_some]
        rw [ih p hp (by omega)]
        simp -implicitDefEqProofs only [Option.bind_some]
        rw [room_of (by simp only [List.length_cons, List.length_nil]; omega), w64_succ (by omega)]
        exact h0
    have hps : ∀ p ∈ t.Conj, p.size ≤ 1000000 := fun p hp => by have := conj_size hp; omega
    have e0 := copy_l0 t ⟨0, 0, [], [], false⟩ t.Conj [] (by simp; omega) hps
    have e1 := key t.Conj t ⟨0, 0, [], [], false⟩ t.Kids [] (by simp; omega) (fun y hy => hy)
    simp only [List.nil_append, List.length_nil] at e0 e1
    rw [show ((0 : Nat) : Int) = 0 from rfl] at e0 e1
    rw [M_tree_Copy, e0]
    simp -implicitDefEqProofs only [Option.bind_eq_bind, Option.bind_some]
    rw [e1]
    obtain ⟨a, b, c, d, e⟩ := t
    rfl
theorem ref10_Same_self (t : T_api_Tree) : t.size ≤ 1000000 → M_ref10_Same (t, t) = some true := by
  induction t using T_api_Tree.induct with
  | h t ih =>
    intro hsz
    have hk := kids_len t
    have hc := conj_len t
    have key : ∀ n i, t.Kids.length - i = n → i ≤ t.Kids.length → M_ref10_Same.l0 ((i : Int), t, t) = some (.brk ()) := by
      intro n
      induction n with
      | zero => intro i h1 h2; rw [M_ref10_Same.l0, if_neg (dge (by dsimp only; omega))]
      | succ n ihn =>
        intro i h1 h2
        have hi : i < t.Kids.length := by omega
        rw [M_ref10_Same.l0, if_pos (dlt (by dsimp only; omega))]
        dsimp only
        rw [getI_nat hi]
        simp -implicitDefEqProofs only [Option.bind_eq_bind, Option.bind_some]
        have hm := List.getElem_mem hi
        have hs2 := kid_size hm
        rw [ih _ hm (by omega)]
        simp -implicitDefEqProofs only [Option.bind_some]
        rw [if_pos trivial, w64_succ (by omega)]
        exact ihn (i + 1) (by omega) (by omega)
    have h0 := key t.Kids.length 0 (by omega) (by omega)
    rw [show ((0 : Nat) : Int) = 0 from rfl] at h0
    rw [M_ref10_Same]
    dsimp only
    rw [if_neg (by simp), if_neg (by simp), ref06_List_eq _ _ (by omega) (fun p hp => by have := conj_size hp; omega), h0]
    cases t.Hash with
    | true => rw [if_pos rfl, if_pos rfl, if_neg (by simp)]; simp
    | false => rw [if_neg (by simp), if_neg (by simp), if_neg (by simp)]; simp
/-- One of the three. -/
def ofS (x : Int) : Int := if 0 ≤ x ∧ x ≤ 2 then x else 1
theorem logic_of_eq (x : Int) : M_logic_of x = some (ofS x) := by
  unfold M_logic_of M_logic_Right ofS
  by_cases h0 : x ≥ 0
  · rw [if_pos (decide_eq_true h0)]
    simp -implicitDefEqProofs only [Option.bind_eq_bind, Option.bind_some]
    by_cases h2 : x ≤ 2
    · rw [if_pos (decide_eq_true h2), if_pos ⟨h0, h2⟩]
    · rw [if_neg (by simpa using h2), if_neg (by omega)]
  · rw [if_neg (by simpa using h0)]
    simp -implicitDefEqProofs only [Option.bind_eq_bind, Option.bind_some]
    rw [if_neg (by decide), if_neg (by omega)]
theorem index_eq (c : Int) : ∀ (post pre : List Int), pre.length + post.length ≤ 1000000 →
    ((post.any fun x => ofS x == c) = true → ∃ k : Nat, M_slices_IndexFunc_int_int__logic_first_1_1.l0 (pre ++ post, ((pre ++ post).length : Int), (pre.length : Int), c) = some (.ret (k : Int))) ∧
    ((post.any fun x => ofS x == c) = false → M_slices_IndexFunc_int_int__logic_first_1_1.l0 (pre ++ post, ((pre ++ post).length : Int), (pre.length : Int), c) = some (.brk ())) := by
  intro post
  induction post with
  | nil => intro pre _; exact ⟨fun h => (by cases h), fun _ => by rw [List.append_nil, M_slices_IndexFunc_int_int__logic_first_1_1.l0, if_neg (dge (by dsimp only; omega))]⟩
  | cons p post ih =>
    intro pre hl
    simp only [List.length_cons] at hl
    have hlen : (pre ++ p :: post).length = pre.length + (post.length + 1) := by rw [List.length_append]; rfl
    have h0 := ih (pre ++ [p]) (by rw [snoc_ln]; omega)
    rw [snoc_ln, List.append_assoc] at h0
    have e : M_logic_first_1_1 (p, c) = some (ofS p == c) := by
      unfold M_logic_first_1_1
      dsimp only
      rw [logic_of_eq]; rfl
    have st : M_slices_IndexFunc_int_int__logic_first_1_1.l0 (pre ++ p :: post, ((pre ++ p :: post).length : Int), (pre.length : Int), c) = if (ofS p == c) = true then some (.ret (pre.length : Int)) else M_slices_IndexFunc_int_int__logic_first_1_1.l0 (pre ++ p :: post, ((pre ++ p :: post).length : Int), ((pre.length + 1 : Nat) : Int), c) := by
      rw [M_slices_IndexFunc_int_int__logic_first_1_1.l0, if_pos (dlt (by dsimp only; omega))]
      dsimp only
      rw [getI_md]
      simp -implicitDefEqProofs only [Option.bind_eq_bind, Option.bind_some]
      rw [e]
      simp -implicitDefEqProofs only [Option.bind_some]
      rw [w64_succ (by omega)]
    rw [st, List.any_cons]
    by_cases hc : (ofS p == c) = true
    · rw [if_pos hc, hc]; exact ⟨fun _ => ⟨_, rfl⟩, fun h => by simp at h⟩
    · rw [if_neg hc, Bool.eq_false_iff.2 hc, Bool.false_or]; exact h0
theorem contains_eq (l : List Int) (c : Int) (hl : l.length ≤ 1000000) : M_logic_first_1 (c, l) = some (l.any fun x => ofS x == c) := by
  have h := index_eq c l [] (by simpa using hl)
  simp only [List.nil_append, List.length_nil] at h
  rw [show ((0 : Nat) : Int) = 0 from rfl] at h
  unfold M_logic_first_1 M_slices_ContainsFunc_int_int__logic_first_1_1 M_slices_IndexFunc_int_int__logic_first_1_1
  dsimp only
  cases hb : (l.any fun x => ofS x == c) with
  | true =>
    obtain ⟨k, hk⟩ := h.1 hb
    rw [hk]
    simp -implicitDefEqProofs only [Option.bind_eq_bind, Option.bind_some]
    rw [decide_eq_true (by omega)]
  | false => rw [h.2 hb]; rfl
def firstS (l : List Int) (a b c : Int) : Int := if (l.any fun x => ofS x == a) = true then a else if (l.any fun x => ofS x == b) = true then b else c
theorem first_eq (l : List Int) (a b c : Int) (hl : l.length ≤ 1000000) : M_logic_first (l, a, b, c) = some (firstS l a b c) := by
  unfold M_logic_first firstS
  dsimp only
  rw [contains_eq l a hl, contains_eq l b hl]
  simp -implicitDefEqProofs only [Option.bind_eq_bind, Option.bind_some]
  split
  · rfl
  · split <;> rfl
theorem firstS_in (l : List Int) (a b c : Int) : firstS l a b c = a ∨ firstS l a b c = b ∨ firstS l a b c = c := by
  unfold firstS
  split
  · exact .inl rfl
  · split
    · exact .inr (.inl rfl)
    · exact .inr (.inr rfl)
theorem first_some (l : List Int) (a b c : Int) (hl : l.length ≤ 1000000) : ∃ r, M_logic_first (l, a, b, c) = some r ∧ (r = a ∨ r = b ∨ r = c) := ⟨_, first_eq l a b c hl, firstS_in l a b c⟩
theorem and_eq (l : List Int) (hl : l.length ≤ 1000000) : M_logic_And l = some (firstS l 0 1 2) := by
  unfold M_logic_And; rw [first_eq l 0 1 2 hl]; rfl
theorem and_some (l : List Int) (hl : l.length ≤ 1000000) : ∃ r, M_logic_And l = some r ∧ (r = 0 ∨ r = 1 ∨ r = 2) := by
  obtain ⟨r, h1, h2⟩ := first_some l 0 1 2 hl
  exact ⟨r, by unfold M_logic_And; rw [h1]; rfl, h2⟩
theorem or_some (l : List Int) (hl : l.length ≤ 1000000) : ∃ r, M_logic_Or l = some r ∧ (r = 0 ∨ r = 1 ∨ r = 2) := by
  obtain ⟨r, h1, h2⟩ := first_some l 2 1 0 hl
  exact ⟨r, by unfold M_logic_Or; rw [h1]; rfl, by omega⟩
theorem only_some (t : Int) : ∃ r, M_reject_only t = some r := by
  obtain ⟨r, h1, h2⟩ := and_some [t] (by simp)
  unfold M_reject_only
  rw [h1]
  simp -implicitDefEqProofs only [Option.bind_eq_bind, Option.bind_some]
  rcases h2 with rfl | rfl | rfl <;> exact ⟨_, rfl⟩
theorem step_some {β : Type} {m : Option Int} (h : ∃ r, m = some r ∧ (r = 0 ∨ r = 1 ∨ r = 2)) {f g k : Option β} (hf : ∃ b, f = some b) (hg : ∃ b, g = some b) (hk : ∃ b, k = some b) :
    ∃ b, (m >>= fun r => if (r == 0) = true then f else if (r == 1) = true then g else if (r == 2) = true then k else none) = some b := by
  obtain ⟨r, h1, h2⟩ := h
  rw [h1]
  rcases h2 with rfl | rfl | rfl
  · exact hf
  · exact hg
  · exact hk
theorem isNull_some (t : T_api_Term) (s : Set64) : ∃ b, M_reject_isNull (t, s) = some b := by
  unfold M_reject_isNull
  dsimp only
  rw [sets_Has_eq]
  split <;> exact ⟨_, rfl⟩
theorem compare_some (op : Int) (a b : T_api_Value) : ∃ r, M_value_Compare (op, a, b) = some r := by
  have hs : ∃ r, M_value_side (a.N, b.N) = some r ∧ (r = 0 ∨ r = 1 ∨ r = 2) := by
    unfold M_value_side
    dsimp only
    split
    · exact ⟨_, rfl, .inl rfl⟩
    · split
      · exact ⟨_, rfl, .inr (.inl rfl)⟩
      · exact ⟨_, rfl, .inr (.inr rfl)⟩
  unfold M_value_Compare
  dsimp only
  by_cases h1 : op < 1
  · rw [if_pos (decide_eq_true h1)]; exact ⟨_, rfl⟩
  rw [if_neg (by simpa using h1)]
  by_cases h2 : op > 6
  · rw [if_pos (decide_eq_true h2)]; exact ⟨_, rfl⟩
  rw [if_neg (by simpa using h2)]
  by_cases h3 : a.Null = true
  · rw [if_pos h3]; exact ⟨_, rfl⟩
  · rw [if_neg h3]
    by_cases h4 : b.Null = true
    · rw [if_pos h4]; exact ⟨_, rfl⟩
    · rw [if_neg h4]
      obtain ⟨r, hr, hc⟩ := hs
      rw [hr]
      rcases (show op = 1 ∨ op = 2 ∨ op = 3 ∨ op = 4 ∨ op = 5 ∨ op = 6 by omega) with rfl | rfl | rfl | rfl | rfl | rfl <;> rcases hc with rfl | rfl | rfl <;> exact ⟨_, rfl⟩
theorem exb {α β : Type} {m : Option α} {f : α → Option β} (h : ∃ a, m = some a) (k : ∀ a, ∃ b, f a = some b) : ∃ b, (m >>= f) = some b := by
  obtain ⟨a, rfl⟩ := h
  exact k a
theorem compares_some (p : T_api_Pred) (s : Set64) : ∃ r, M_reject_compares (p, s) = some r := by
  unfold M_reject_compares
  dsimp only
  exact ex_ite (exb (only_some _) fun _ => ⟨_, rfl⟩) (ex_ite (exb (only_some _) fun _ => ⟨_, rfl⟩) (exb (isNull_some _ _) fun _ => ex_ite (exb (only_some _) fun _ => ⟨_, rfl⟩) (exb (isNull_some _ _) fun _ => ex_ite (exb (only_some _) fun _ => ⟨_, rfl⟩) (ex_ite (ex_ite (exb (compare_some _ _ _) fun _ => exb (only_some _) fun _ => ⟨_, rfl⟩) ⟨_, rfl⟩) ⟨_, rfl⟩))))
theorem bothAnd_l1 (i : Int) (hi : i = 0 ∨ i = 1 ∨ i = 2) (j : Int) (a b z : A3_Bool) : ∀ (n : Nat) (k : Int), (3 - k).toNat = n → 0 ≤ k → k ≤ 3 → ∀ o, ∃ r, M_reject_both__logic_And.l1 (i, j, k, a, b, z, o) = some r := by
  intro n
  induction n with
  | zero =>
    intro k h1 h2 h3 o
    obtain rfl : k = 3 := by omega
    rw [M_reject_both__logic_And.l1, if_neg (by simp)]; exact ⟨_, rfl⟩
  | succ n ih =>
    intro k h1 h2 h3 o
    have hk : k = 0 ∨ k = 1 ∨ k = 2 := by omega
    have hw : w64 (k + 1) = k + 1 := w64_of (by omega) (by omega)
    have ih' : ∀ o, ∃ r, M_reject_both__logic_And.l1 (i, j, w64 (k + 1), a, b, z, o) = some r := fun o => by rw [hw]; exact ih (k + 1) (by omega) (by omega) (by omega) o
    rw [M_reject_both__logic_And.l1, if_pos (dlt (by dsimp only; omega))]
    rcases hi with rfl | rfl | rfl <;> rcases hk with rfl | rfl | rfl <;> (dsimp only; simp only [beq_self_eq_true, show ((0 : Int) == 1) = false from rfl, show ((0 : Int) == 2) = false from rfl, show ((1 : Int) == 0) = false from rfl, show ((1 : Int) == 2) = false from rfl, show ((2 : Int) == 0) = false from rfl, show ((2 : Int) == 1) = false from rfl, if_true, Bool.false_eq_true, if_false]; repeat' (first | exact ih' _ | exact step_some (and_some _ (by simp)) (ih' _) (ih' _) (ih' _) | split))
theorem bothAnd_some (a b : A3_Bool) : ∃ r, M_reject_both__logic_And (a, b) = some r := by
  have key : ∀ (n : Nat) (i : Int), (3 - i).toNat = n → 0 ≤ i → i ≤ 3 → ∀ z o, ∃ r, M_reject_both__logic_And.l0 (i, a, b, z, o) = some r := by
    intro n
    induction n with
    | zero =>
      intro i h1 h2 h3 z o
      obtain rfl : i = 3 := by omega
      rw [M_reject_both__logic_And.l0, if_neg (by simp)]; exact ⟨_, rfl⟩
    | succ n ih =>
      intro i h1 h2 h3 z o
      obtain ⟨r, hr⟩ := bothAnd_l1 i (by omega) i a b z 3 0 (by decide) (by omega) (by omega) o
      rw [M_reject_both__logic_And.l0, if_pos (dlt (by dsimp only; omega))]
      dsimp only
      rw [hr]
      simp -implicitDefEqProofs only [Option.bind_eq_bind, Option.bind_some]
      rw [w64_of (by omega) (by omega)]
      exact ih (i + 1) (by omega) (by omega) (by omega) z r
  obtain ⟨r, hr⟩ := key 3 0 (by decide) (by omega) (by omega) ⟨false, false, false⟩ ⟨false, false, false⟩
  unfold M_reject_both__logic_And
  dsimp only
  rw [hr]; exact ⟨_, rfl⟩
theorem bothOr_l1 (i : Int) (hi : i = 0 ∨ i = 1 ∨ i = 2) (j : Int) (a b z : A3_Bool) : ∀ (n : Nat) (k : Int), (3 - k).toNat = n → 0 ≤ k → k ≤ 3 → ∀ o, ∃ r, M_reject_both__logic_Or.l1 (i, j, k, a, b, z, o) = some r := by
  intro n
  induction n with
  | zero =>
    intro k h1 h2 h3 o
    obtain rfl : k = 3 := by omega
    rw [M_reject_both__logic_Or.l1, if_neg (by simp)]; exact ⟨_, rfl⟩
  | succ n ih =>
    intro k h1 h2 h3 o
    have hk : k = 0 ∨ k = 1 ∨ k = 2 := by omega
    have hw : w64 (k + 1) = k + 1 := w64_of (by omega) (by omega)
    have ih' : ∀ o, ∃ r, M_reject_both__logic_Or.l1 (i, j, w64 (k + 1), a, b, z, o) = some r := fun o => by rw [hw]; exact ih (k + 1) (by omega) (by omega) (by omega) o
    rw [M_reject_both__logic_Or.l1, if_pos (dlt (by dsimp only; omega))]
    rcases hi with rfl | rfl | rfl <;> rcases hk with rfl | rfl | rfl <;> (dsimp only; simp only [beq_self_eq_true, show ((0 : Int) == 1) = false from rfl, show ((0 : Int) == 2) = false from rfl, show ((1 : Int) == 0) = false from rfl, show ((1 : Int) == 2) = false from rfl, show ((2 : Int) == 0) = false from rfl, show ((2 : Int) == 1) = false from rfl, if_true, Bool.false_eq_true, if_false]; repeat' (first | exact ih' _ | exact step_some (or_some _ (by simp)) (ih' _) (ih' _) (ih' _) | split))
theorem bothOr_some (a b : A3_Bool) : ∃ r, M_reject_both__logic_Or (a, b) = some r := by
  have key : ∀ (n : Nat) (i : Int), (3 - i).toNat = n → 0 ≤ i → i ≤ 3 → ∀ z o, ∃ r, M_reject_both__logic_Or.l0 (i, a, b, z, o) = some r := by
    intro n
    induction n with
    | zero =>
      intro i h1 h2 h3 z o
      obtain rfl : i = 3 := by omega
      rw [M_reject_both__logic_Or.l0, if_neg (by simp)]; exact ⟨_, rfl⟩
    | succ n ih =>
      intro i h1 h2 h3 z o
      obtain ⟨r, hr⟩ := bothOr_l1 i (by omega) i a b z 3 0 (by decide) (by omega) (by omega) o
      rw [M_reject_both__logic_Or.l0, if_pos (dlt (by dsimp only; omega))]
      dsimp only
      rw [hr]
      simp -implicitDefEqProofs only [Option.bind_eq_bind, Option.bind_some]
      rw [w64_of (by omega) (by omega)]
      exact ih (i + 1) (by omega) (by omega) (by omega) z r
  obtain ⟨r, hr⟩ := key 3 0 (by decide) (by omega) (by omega) ⟨false, false, false⟩ ⟨false, false, false⟩
  unfold M_reject_both__logic_Or
  dsimp only
  rw [hr]; exact ⟨_, rfl⟩
theorem may_some (p : T_api_Pred) : p.size ≤ 1000000 → ∀ s, ∃ r, M_reject_May (p, s) = some r := by
  induction p using T_api_Pred.induct with
  | h p ih =>
    intro hsz s
    have hpl := parts_len p
    have keyA : ∀ (z : A3_Bool) (post pre : List T_api_Pred), pre.length + post.length ≤ 1000000 → (∀ y ∈ post, y ∈ p.Parts) → ∀ acc, ∃ r, M_reject_May.l0 (s, pre ++ post, ((pre ++ post).length : Int), (pre.length : Int), z, acc) = some r := by
      intro z post
      induction post with
      | nil => intro pre _ _ acc; rw [List.append_nil, M_reject_May.l0, if_neg (dge (by dsimp only; omega))]; exact ⟨_, rfl⟩
      | cons y post ih2 =>
        intro pre hl hs acc
        simp only [List.length_cons] at hl
        have hlen : (pre ++ y :: post).length = pre.length + (post.length + 1) := by rw [List.length_append]; rfl
        have hy := hs y List.mem_cons_self
        have hys := part_size hy
        rw [M_reject_May.l0, if_pos (dlt (by dsimp only; omega))]
        dsimp only
        rw [getI_md]
        obtain ⟨v, hv⟩ := ih y hy (by omega) s
        obtain ⟨u, hu⟩ := bothAnd_some acc v
        simp -implicitDefEqProofs only [Option.bind_eq_bind, Option.bind_some]
        rw [hv]
        simp -implicitDefEqProofs only [Option.bind_some]
        rw [hu]
        simp -implicitDefEqProofs only [Option.bind_some]
        rw [w64_succ (by omega)]
        have h0 := ih2 (pre ++ [y]) (by rw [snoc_ln]; omega) (fun x hx => hs x (List.mem_cons_of_mem _ hx)) u
        rw [snoc_ln, List.append_assoc] at h0
        exact h0
    have keyO : ∀ (z : A3_Bool) (post pre : List T_api_Pred), pre.length + post.length ≤ 1000000 → (∀ y ∈ post, y ∈ p.Parts) → ∀ acc, ∃ r, M_reject_May.l0_1 (s, pre ++ post, ((pre ++ post).length : Int), (pre.length : Int), z, acc) = some r := by
      intro z post
      induction post with
      | nil => intro pre _ _ acc; rw [List.append_nil, M_reject_May.l0_1, if_neg (dge (by dsimp only; omega))]; exact ⟨_, rfl⟩
      | cons y post ih2 =>
        intro pre hl hs acc
        simp only [List.length_cons] at hl
        have hlen : (pre ++ y :: post).length = pre.length + (post.length + 1) := by rw [List.length_append]; rfl
        have hy := hs y List.mem_cons_self
        have hys := part_size hy
        rw [M_reject_May.l0_1, if_pos (dlt (by dsimp only; omega))]
        dsimp only
        rw [getI_md]
        obtain ⟨v, hv⟩ := ih y hy (by omega) s
        obtain ⟨u, hu⟩ := bothOr_some acc v
        simp -implicitDefEqProofs only [Option.bind_eq_bind, Option.bind_some]
        rw [hv]
        simp -implicitDefEqProofs only [Option.bind_some]
        rw [hu]
        simp -implicitDefEqProofs only [Option.bind_some]
        rw [w64_succ (by omega)]
        have h0 := ih2 (pre ++ [y]) (by rw [snoc_ln]; omega) (fun x hx => hs x (List.mem_cons_of_mem _ hx)) u
        rw [snoc_ln, List.append_assoc] at h0
        exact h0
    have loopA := fun z acc => keyA z p.Parts [] (by simp; omega) (fun y hy => hy) acc
    have loopO := fun z acc => keyO z p.Parts [] (by simp; omega) (fun y hy => hy) acc
    simp only [List.nil_append, List.length_nil] at loopA loopO
    rw [show ((0 : Nat) : Int) = 0 from rfl] at loopA loopO
    rw [M_reject_May]
    dsimp only
    refine ex_ite (exb (only_some _) fun _ => ⟨_, rfl⟩) (ex_ite (exb (compares_some _ _) fun _ => ⟨_, rfl⟩) (ex_ite (exb (isNull_some _ _) fun _ => ex_ite (exb (only_some _) fun _ => ⟨_, rfl⟩) ⟨_, rfl⟩) (ex_ite (exb (only_some _) fun r => exb (loopA _ r) fun _ => ⟨_, rfl⟩) (ex_ite (exb (only_some _) fun _ => exb (only_some _) fun r => exb (loopO _ r) fun _ => ⟨_, rfl⟩) (ex_ite ?_ (exb (only_some _) fun _ => ⟨_, rfl⟩))))))
    cases hp : p.Parts with
    | nil => rw [if_neg (by simp)]; exact exb (only_some _) fun _ => ⟨_, rfl⟩
    | cons y l =>
      rw [if_pos (by simp)]
      have hy : y ∈ p.Parts := by rw [hp]; exact List.mem_cons_self
      have hys := part_size hy
      show ∃ b, (M_reject_May (y, s) >>= fun r => some (⟨r.e2, r.e1, r.e0⟩ : A3_Bool)) = some b
      exact exb (ih y hy (by omega) s) fun _ => ⟨_, rfl⟩
/-- Whether conjuncts reject nulls is told of all. -/
theorem rejects_some (l : List T_api_Pred) (s : Set64) (h : 1 + (l.map T_api_Pred.size).sum ≤ 1000000) : ∃ b, M_reject_Rejects (l, s) = some b := by
  unfold M_reject_Rejects
  dsimp only
  exact exb (may_some _ (by rw [psize_eq]; exact h) s) fun _ => ⟨_, rfl⟩
end Go.Proofs.Ytcfekacmmfdggaa.G
set_option linter.unusedVariables false
set_option linter.unusedSimpArgs false
namespace Go.Proofs.Ytcfekacmmfdggaa.G

theorem two_kids' {t : T_api_Tree} (h : t.Kids.length = 2) : ∃ x y, t.Kids = [x, y] := by
  match hk : t.Kids with
  | [x, y] => exact ⟨x, y, rfl⟩
  | [] => rw [hk] at h; cases h
  | [_] => rw [hk] at h; cases h
  | _ :: _ :: _ :: _ => rw [hk] at h; simp at h
/-- A conjunct that may be, between what is seen on both sides. -/
structure OkConj (cols : List Int) (l r : Set64) (p : T_api_Pred) : Prop where
  right : M_ref06_Right p = some true
  col : ∀ c ∈ p.cols, (hasI l c.e0 = true ∨ hasI r c.e0 = true) ∧ ∃ n, getI cols c.e0 = some n ∧ c.e1 < n
  left : p.tabs &&& l ≠ 0#64
  rt : p.tabs &&& r ≠ 0#64
theorem ref11_conj_eq (p : T_api_Pred) (cols : List Int) (l r : Set64) (hsz : p.size ≤ 1000000) (hc : ∀ n, hasI l n = true ∨ hasI r n = true → ∃ x, getI cols n = some x) : ∃ e, M_ref11_conj (p, cols, l, r) = some e ∧ (e = 0 → OkConj cols l r p) := by
  unfold M_ref11_conj
  dsimp only
  obtain ⟨b, hb⟩ := ref06_Right_some p (by omega)
  rw [hb]
  simp -implicitDefEqProofs only [Option.bind_eq_bind, Option.bind_some]
  cases b with
  | false => rw [if_neg (by decide)]; exact ⟨9, rfl, fun h => by cases h⟩
  | true =>
    rw [if_pos rfl, ref06_Columns_eq p (by omega)]
    simp -implicitDefEqProofs only [Option.bind_some]
    have hcl := pcols_len p
    have key : ∀ n i, p.cols.length - i = n → i ≤ p.cols.length → M_ref11_conj.l0 (cols, l, r, p.cols, (i : Int), p) = some (.ret 10) ∨ (M_ref11_conj.l0 (cols, l, r, p.cols, (i : Int), p) = some (.brk ()) ∧ ∀ j (h : j < p.cols.length), i ≤ j → (hasI l p.cols[j].e0 = true ∨ hasI r p.cols[j].e0 = true) ∧ ∃ n, getI cols p.cols[j].e0 = some n ∧ p.cols[j].e1 < n) := by
      intro n
      induction n with
      | zero =>
        intro i h1 h2
        obtain rfl : i = p.cols.length := by omega
        rw [M_ref11_conj.l0, if_neg (dge (by dsimp only; omega))]
        exact .inr ⟨rfl, fun j h h' => by omega⟩
      | succ n ih =>
        intro i h1 h2
        have hi : i < p.cols.length := by omega
        rw [M_ref11_conj.l0, if_pos (dlt (by dsimp only; omega))]
        dsimp only
        rw [getI_nat hi, w64_succ (by omega)]
        simp -implicitDefEqProofs only [Option.bind_eq_bind, Option.bind_some, ref01_Has_eq]
        have ih := ih (i + 1) (by omega) (by omega)
        have more : ∀ (h : hasI l p.cols[i].e0 = true ∨ hasI r p.cols[i].e0 = true) (x : Int), getI cols p.cols[i].e0 = some x → (if (decide (p.cols[i].e1 ≥ x)) = true then some (Lp.ret 10) else M_ref11_conj.l0 (cols, l, r, p.cols, ((i + 1 : Nat) : Int), p)) = some (.ret 10) ∨ ((if (decide (p.cols[i].e1 ≥ x)) = true then some (Lp.ret 10) else M_ref11_conj.l0 (cols, l, r, p.cols, ((i + 1 : Nat) : Int), p)) = some (.brk ()) ∧ ∀ j (h : j < p.cols.length), i ≤ j → (hasI l p.cols[j].e0 = true ∨ hasI r p.cols[j].e0 = true) ∧ ∃ n, getI cols p.cols[j].e0 = some n ∧ p.cols[j].e1 < n) := by
          intro h x hx
          by_cases hge : p.cols[i].e1 ≥ x
          · rw [if_pos (by simpa using hge)]; exact .inl rfl
          · rw [if_neg (by simpa using hge)]
            rcases ih with ih | ⟨ih1, ih2⟩
            · exact .inl ih
            · refine .inr ⟨ih1, fun j hj hij => ?_⟩
              by_cases e : j = i
              · subst e; exact ⟨h, x, hx, by omega⟩
              · exact ih2 j hj (by omega)
        cases hl : hasI l p.cols[i].e0 with
        | true =>
          obtain ⟨x, hx⟩ := hc _ (.inl hl)
          rw [if_pos rfl, hx]
          simp -implicitDefEqProofs only [Option.bind_some]
          exact more (.inl hl) x hx
        | false =>
          rw [if_neg (by decide)]
          cases hr : hasI r p.cols[i].e0 with
          | true =>
            obtain ⟨x, hx⟩ := hc _ (.inr hr)
            rw [if_pos rfl, hx]
            simp -implicitDefEqProofs only [Option.bind_some]
            exact more (.inr hr) x hx
          | false => rw [if_neg (by decide)]; exact .inl rfl
    have h0 := key p.cols.length 0 (by omega) (by omega)
    rw [show ((0 : Nat) : Int) = 0 from rfl] at h0
    rcases h0 with h0 | ⟨h0, h1⟩
    · rw [h0]; exact ⟨10, rfl, fun h => by cases h⟩
    · rw [h0, ref06_Tables_eq p (by omega)]
      simp -implicitDefEqProofs only [Option.bind_some]
      by_cases hl : p.tabs &&& l = 0#64
      · rw [if_pos (by simpa using hl)]; exact ⟨11, rfl, fun h => by cases h⟩
      · rw [if_neg (by simpa using hl)]
        by_cases hr : p.tabs &&& r = 0#64
        · rw [if_pos (by simpa using hr)]; exact ⟨11, rfl, fun h => by cases h⟩
        · rw [if_neg (by simpa using hr)]
          refine ⟨0, rfl, fun _ => ⟨hb, fun c hc => ?_, hl, hr⟩⟩
          obtain ⟨j, hj, rfl⟩ := List.getElem_of_mem hc
          exact h1 j hj (Nat.zero_le _)

/-- A right node. -/
inductive OkNode (cols : List Int) (t : T_api_Tree) : Prop
  | leaf (hk : t.Kind = 0) (hks : t.Kids = []) (hc : t.Conj = []) (hh : t.Hash = false) (h0 : 0 ≤ t.Table) (h1 : t.Table < (cols.length : Int))
  | op (a b : T_api_Tree) (hk1 : 1 ≤ t.Kind) (hk2 : t.Kind ≤ 4) (hks : t.Kids = [a, b]) (hc : t.Conj ≠ []) (ht : t.Table = 0) (hp : ∀ p ∈ t.Conj, OkConj cols a.seen b.seen p)
/-- What is seen are tables of leaves. -/
theorem seen_tabs (t : T_api_Tree) : ∀ n, hasI t.seen n = true → n ∈ leafTabs t.tour := by
  have orI : ∀ (s u : Set64) n, hasI (s ||| u) n = true → hasI s n = true ∨ hasI u n = true := by
    intro s u n h
    unfold hasI at *
    simp only [Bool.and_eq_true, BitVec.getLsbD_or, Bool.or_eq_true] at *
    obtain ⟨h1, h2 | h2⟩ := h
    · exact .inl ⟨h1, h2⟩
    · exact .inr ⟨h1, h2⟩
  induction t using T_api_Tree.induct with
  | h t ih =>
    intro n hn
    have up : ∀ y ∈ t.Kids, n ∈ leafTabs y.tour → n ∈ leafTabs t.tour := by
      intro y hy h
      unfold leafTabs at *
      obtain ⟨z, hz, e⟩ := List.mem_map.1 h
      obtain ⟨h1, h2⟩ := List.mem_filter.1 hz
      exact List.mem_map.2 ⟨z, List.mem_filter.2 ⟨tour_kid hy z h1, h2⟩, e⟩
    rw [seen_eq] at hn
    by_cases h0 : t.Kind = 0
    · rw [if_pos h0] at hn
      unfold hasI at hn
      simp only [Bool.and_eq_true, decide_eq_true_eq] at hn
      rw [bitI_lsb] at hn
      simp only [Bool.and_eq_true, decide_eq_true_eq] at hn
      have : t.Table = n := by omega
      exact List.mem_map.2 ⟨t, List.mem_filter.2 ⟨tour_self t, by simp [h0]⟩, this⟩
    · rw [if_neg h0] at hn
      have z0 : hasI 0#64 n = false := by unfold hasI; simp
      by_cases h34 : t.Kind = 3 ∨ t.Kind = 4
      · rw [if_pos h34] at hn
        cases hk : t.Kids with
        | nil => rw [hk] at hn; simp only [T_api_Tree.seen.seen1, z0] at hn; cases hn
        | cons x l =>
          rw [hk] at hn
          simp only [T_api_Tree.seen.seen1] at hn
          have hx : x ∈ t.Kids := by rw [hk]; simp
          exact up x hx (ih x hx n hn)
      · rw [if_neg h34] at hn
        have : ∀ l : List T_api_Tree, (∀ y ∈ l, y ∈ t.Kids) → hasI (T_api_Tree.seen.seenL l) n = true → n ∈ leafTabs t.tour := by
          intro l
          induction l with
          | nil => intro _ h; simp only [T_api_Tree.seen.seenL, z0] at h; cases h
          | cons x l ih2 =>
            intro hl h
            simp only [T_api_Tree.seen.seenL] at h
            rcases orI _ _ _ h with h | h
            · exact up x (hl x List.mem_cons_self) (ih x (hl x List.mem_cons_self) n h)
            · exact ih2 (fun y hy => hl y (List.mem_cons_of_mem _ hy)) h
        exact this t.Kids (fun y hy => hy) hn

/-- A node, where those ahead are right. -/
theorem ref11_one_eq (t : T_api_Tree) (cols came : List Int) (conjs : Nat) (hsz : t.size ≤ 1000000) (hcm : came.length ≤ 1000000) (hcj : conjs ≤ 1000000) (hk : ∀ y ∈ t.Kids, ∀ n ∈ leafTabs y.tour, 0 ≤ n ∧ n < (cols.length : Int)) : ∃ e, M_ref11_one (t, cols, came, (conjs : Int)) = some e ∧ (e = 0 → OkNode cols t ∧ (t.Kind = 0 → t.Table ∉ came)) := by
  have hcl := conj_len t
  unfold M_ref11_one
  dsimp only
  by_cases k0 : t.Kind < 0
  · rw [if_pos (by simpa using k0)]; exact ⟨4, rfl, fun h => by cases h⟩
  rw [if_neg (by simpa using k0)]
  by_cases k4 : t.Kind > 4
  · rw [if_pos (by simpa using k4)]; exact ⟨4, rfl, fun h => by cases h⟩
  rw [if_neg (by simpa using k4)]
  by_cases kz : t.Kind = 0
  · rw [if_pos (by simpa using kz)]
    by_cases hh : t.Hash = true
    · rw [if_pos hh]; exact ⟨4, rfl, fun h => by cases h⟩
    rw [if_neg hh]
    by_cases hks : t.Kids = []
    · rw [if_neg (by simp [hks])]
      by_cases hcs : t.Conj = []
      · rw [if_neg (by simp [hcs])]
        by_cases h0 : t.Table < 0
        · rw [if_pos (by simpa using h0)]; exact ⟨5, rfl, fun h => by cases h⟩
        rw [if_neg (by simpa using h0)]
        by_cases h1 : t.Table ≥ (cols.length : Int)
        · rw [if_pos (by simpa using h1)]; exact ⟨5, rfl, fun h => by cases h⟩
        rw [if_neg (by simpa using h1)]
        have key : ∀ n i, came.length - i = n → i ≤ came.length → M_ref11_one.l0 (came, (i : Int), t) = some (.ret 6) ∨ (M_ref11_one.l0 (came, (i : Int), t) = some (.brk ()) ∧ ∀ j (h : j < came.length), i ≤ j → came[j] ≠ t.Table) := by
          intro n
          induction n with
          | zero =>
            intro i h1 h2
            obtain rfl : i = came.length := by omega
            rw [M_ref11_one.l0, if_neg (dge (by dsimp only; omega))]
            exact .inr ⟨rfl, fun j h h' => by omega⟩
          | succ n ih =>
            intro i h1 h2
            have hi : i < came.length := by omega
            rw [M_ref11_one.l0, if_pos (dlt (by dsimp only; omega))]
            dsimp only
            rw [getI_nat hi, w64_succ (by omega)]
            simp -implicitDefEqProofs only [Option.bind_eq_bind, Option.bind_some]
            by_cases e : came[i] = t.Table
            · rw [if_pos (by simpa using e)]; exact .inl rfl
            · rw [if_neg (by simpa using e)]
              rcases ih (i + 1) (by omega) (by omega) with ih | ⟨ih1, ih2⟩
              · exact .inl ih
              · refine .inr ⟨ih1, fun j hj hij => ?_⟩
                by_cases ej : j = i
                · subst ej; exact e
                · exact ih2 j hj (by omega)
        have h2 := key came.length 0 (by omega) (by omega)
        rw [show ((0 : Nat) : Int) = 0 from rfl] at h2
        rcases h2 with h2 | ⟨h2, h3⟩
        · rw [h2]; exact ⟨6, rfl, fun h => by cases h⟩
        · rw [h2]
          refine ⟨0, rfl, fun _ => ⟨.leaf kz hks hcs (by simpa using hh) (by omega) (by omega), fun _ hm => ?_⟩⟩
          obtain ⟨j, hj, e⟩ := List.getElem_of_mem hm
          exact h3 j hj (Nat.zero_le _) e
      · rw [if_pos (by simp; exact List.length_pos_iff.2 hcs)]; exact ⟨8, rfl, fun h => by cases h⟩
    · rw [if_pos (by simp; exact List.length_pos_iff.2 hks)]; exact ⟨7, rfl, fun h => by cases h⟩
  rw [if_neg (by simpa using kz)]
  by_cases h2 : t.Kids.length = 2
  · obtain ⟨a, b, hab⟩ := two_kids' h2
    rw [if_neg (by simp [h2])]
    by_cases hcs : t.Conj = []
    · rw [if_pos (by simp [hcs])]; exact ⟨8, rfl, fun h => by cases h⟩
    have hcp := List.length_pos_iff.2 hcs
    rw [if_neg (by simp; omega)]
    rw [w64_of (by omega) (by omega)]
    by_cases h64 : (conjs : Int) + (t.Conj.length : Int) > 64
    · rw [if_pos (by simpa using h64)]; exact ⟨8, rfl, fun h => by cases h⟩
    rw [if_neg (by simpa using h64)]
    by_cases ht : t.Table = 0
    · rw [if_neg (by simpa using ht)]
      have ha : a ∈ t.Kids := by rw [hab]; simp
      have hb : b ∈ t.Kids := by rw [hab]; simp
      have has := kid_size ha
      have hbs := kid_size hb
      have k0' : t.Kids[0]? = some a := by rw [hab]; rfl
      have k1' : t.Kids[1]? = some b := by rw [hab]; rfl
      have hidx : ∀ n, hasI a.seen n = true ∨ hasI b.seen n = true → ∃ x, getI cols n = some x := by
        intro n hn
        have : 0 ≤ n ∧ n < (cols.length : Int) := hn.elim (fun h => hk a ha n (seen_tabs a n h)) (fun h => hk b hb n (seen_tabs b n h))
        obtain ⟨k, rfl⟩ : ∃ k : Nat, n = k := ⟨n.toNat, by omega⟩
        exact ⟨_, getI_nat (by omega)⟩
      have key : ∀ n i, t.Conj.length - i = n → i ≤ t.Conj.length → ∃ o, M_ref11_one.l1 (cols, (i : Int), t) = some o ∧ ((∃ e, o = .ret e ∧ e ≠ 0) ∨ (o = .brk () ∧ ∀ j (h : j < t.Conj.length), i ≤ j → OkConj cols a.seen b.seen t.Conj[j])) := by
        intro n
        induction n with
        | zero =>
          intro i h1 h2
          obtain rfl : i = t.Conj.length := by omega
          rw [M_ref11_one.l1, if_neg (dge (by dsimp only; omega))]
          exact ⟨_, rfl, .inr ⟨rfl, fun j h h' => by omega⟩⟩
        | succ n ih =>
          intro i h1 h2
          have hi : i < t.Conj.length := by omega
          have hps := conj_size (List.getElem_mem hi)
          rw [M_ref11_one.l1, if_pos (dlt (by dsimp only; omega))]
          dsimp only
          rw [getI_nat hi, k0', k1', w64_succ (by omega)]
          simp -implicitDefEqProofs only [Option.bind_eq_bind, Option.bind_some]
          rw [ref10_Seen_eq a (by omega), ref10_Seen_eq b (by omega)]
          simp -implicitDefEqProofs only [Option.bind_some]
          obtain ⟨e, he, h0⟩ := ref11_conj_eq t.Conj[i] cols a.seen b.seen (by omega) hidx
          rw [he]
          simp -implicitDefEqProofs only [Option.bind_some]
          by_cases ez : e = 0
          · rw [if_neg (by simpa using ez)]
            obtain ⟨o, ho, hh⟩ := ih (i + 1) (by omega) (by omega)
            refine ⟨o, ho, hh.imp id fun ⟨e1, e2⟩ => ⟨e1, fun j hj hij => ?_⟩⟩
            by_cases ej : j = i
            · subst ej; exact h0 ez
            · exact e2 j hj (by omega)
          · rw [if_pos (by simpa using ez)]
            exact ⟨_, rfl, .inl ⟨e, rfl, ez⟩⟩
      obtain ⟨o, ho, hh⟩ := key t.Conj.length 0 (by omega) (by omega)
      rw [show ((0 : Nat) : Int) = 0 from rfl] at ho
      rw [ho]
      rcases hh with ⟨e, rfl, he⟩ | ⟨rfl, hall⟩
      · exact ⟨e, rfl, fun h => absurd h he⟩
      · refine ⟨0, rfl, fun _ => ⟨.op a b (by omega) (by omega) hab hcs ht (fun p hp => ?_), fun h => absurd h kz⟩⟩
        obtain ⟨j, hj, rfl⟩ := List.getElem_of_mem hp
        exact hall j hj (Nat.zero_le _)
    · rw [if_pos (by simpa using ht)]; exact ⟨5, rfl, fun h => by cases h⟩
  · rw [if_pos (by simp; omega)]; exact ⟨7, rfl, fun h => by cases h⟩
def nconj (l : List T_api_Tree) : Nat := (l.map fun y => y.Conj.length).sum
theorem nconj_append (l l' : List T_api_Tree) : nconj (l ++ l') = nconj l + nconj l' := by unfold nconj; rw [List.map_append, List.sum_append]
theorem nconj_cons (x : T_api_Tree) (l : List T_api_Tree) : nconj (x :: l) = x.Conj.length + nconj l := rfl
theorem nconj_tour (t : T_api_Tree) : nconj t.tour ≤ t.size := by
  induction t using T_api_Tree.induct with
  | h t ih =>
    rw [tour_eq, nconj_append, tsize_eq]
    have hl : ∀ l : List T_api_Tree, (∀ y ∈ l, nconj y.tour ≤ y.size) → nconj (l.flatMap T_api_Tree.tour) ≤ (l.map T_api_Tree.size).sum := by
      intro l
      induction l with
      | nil => intro _; simp [nconj]
      | cons y l ih2 =>
        intro h
        rw [List.flatMap_cons, nconj_append, List.map_cons, List.sum_cons]
        have h1 := h y List.mem_cons_self
        have h2 := ih2 fun z hz => h z (List.mem_cons_of_mem _ hz)
        omega
    have h1 := hl t.Kids ih
    have h2 := len_sum T_api_Pred.size psize_pos t.Conj
    have h3 : nconj [t] = t.Conj.length := by simp [nconj]
    omega
theorem leafTabs_append (l l' : List T_api_Tree) : leafTabs (l ++ l') = leafTabs l ++ leafTabs l' := by unfold leafTabs; rw [List.filter_append, List.map_append]
theorem leafTabs_ok {cols : List Int} {l : List T_api_Tree} (h : ∀ y ∈ l, OkNode cols y) : ∀ n ∈ leafTabs l, 0 ≤ n ∧ n < (cols.length : Int) := by
  intro n hn
  obtain ⟨y, hy, rfl⟩ := List.mem_map.1 hn
  obtain ⟨h1, h2⟩ := List.mem_filter.1 hy
  have hk : y.Kind = 0 := by simpa using h2
  cases h y h1 with
  | leaf _ _ _ _ h0 h1 => exact ⟨h0, h1⟩
  | op a b h3 => omega
theorem ref11_loop (q : T_api_Query) (all : List T_api_Tree) (hlen : all.length ≤ 1000) (hsz : ∀ y ∈ all, y.size ≤ 1000) : ∀ (t : T_api_Tree) (i : Nat) (came : List Int) (conjs : Nat) (rest : List T_api_Tree), all.drop i = t.tour ++ rest → came.length ≤ i → conjs + nconj (all.drop i) ≤ 1000 → came.Nodup →
    (∃ e, e ≠ 0 ∧ M_ref11_Query.l1 (all, came, (conjs : Int), (i : Int), q) = some (.ret e)) ∨
    (M_ref11_Query.l1 (all, came, (conjs : Int), (i : Int), q) = M_ref11_Query.l1 (all, came ++ leafTabs t.tour, ((conjs + nconj t.tour : Nat) : Int), ((i + t.tour.length : Nat) : Int), q) ∧ (∀ y ∈ t.tour, OkNode q.Cols y) ∧ (came ++ leafTabs t.tour).Nodup) := by
  intro t
  induction t using T_api_Tree.induct with
  | h t ih =>
    intro i came conjs rest hdrop hcl hcj hnd
    -- the kids
    have kids : ∀ (ks : List T_api_Tree), (∀ y ∈ ks, y ∈ t.Kids) → ∀ (i : Nat) (came : List Int) (conjs : Nat) (rest : List T_api_Tree), all.drop i = ks.flatMap T_api_Tree.tour ++ rest → came.length ≤ i → conjs + nconj (all.drop i) ≤ 1000 → came.Nodup →
        (∃ e, e ≠ 0 ∧ M_ref11_Query.l1 (all, came, (conjs : Int), (i : Int), q) = some (.ret e)) ∨
        (M_ref11_Query.l1 (all, came, (conjs : Int), (i : Int), q) = M_ref11_Query.l1 (all, came ++ leafTabs (ks.flatMap T_api_Tree.tour), ((conjs + nconj (ks.flatMap T_api_Tree.tour) : Nat) : Int), ((i + (ks.flatMap T_api_Tree.tour).length : Nat) : Int), q) ∧ (∀ y ∈ ks.flatMap T_api_Tree.tour, OkNode q.Cols y) ∧ (came ++ leafTabs (ks.flatMap T_api_Tree.tour)).Nodup) := by
      intro ks
      induction ks with
      | nil =>
        intro _ i came conjs rest _ _ _ hnd
        refine .inr ⟨?_, fun y hy => by simp at hy, by simpa [leafTabs] using hnd⟩
        simp [leafTabs, nconj]
      | cons k ks ih2 =>
        intro hks i came conjs rest hdrop hcl hcj hnd
        rw [List.flatMap_cons, List.append_assoc] at hdrop
        rcases ih k (hks k List.mem_cons_self) i came conjs _ hdrop hcl hcj hnd with h | ⟨h1, h2, h3⟩
        · exact .inl h
        · have hd2 : all.drop (i + k.tour.length) = ks.flatMap T_api_Tree.tour ++ rest := by
            rw [← List.drop_drop, hdrop, List.drop_left]
          have hc2 : (came ++ leafTabs k.tour).length ≤ i + k.tour.length := by rw [List.length_append]; have := leafTabs_len k.tour; omega
          have hj2 : conjs + nconj k.tour + nconj (all.drop (i + k.tour.length)) ≤ 1000 := by
            rw [hdrop, nconj_append] at hcj; rw [hd2]; omega
          rcases ih2 (fun y hy => hks y (List.mem_cons_of_mem _ hy)) (i + k.tour.length) (came ++ leafTabs k.tour) (conjs + nconj k.tour) rest hd2 hc2 hj2 h3 with ⟨e, he, h⟩ | ⟨g1, g2, g3⟩
          · exact .inl ⟨e, he, h1.trans h⟩
          · refine .inr ⟨?_, fun y hy => ?_, ?_⟩
            · rw [h1, g1, List.flatMap_cons, leafTabs_append, nconj_append, List.length_append, List.append_assoc, Nat.add_assoc conjs, Nat.add_assoc i]
            · rw [List.flatMap_cons] at hy
              exact (List.mem_append.1 hy).elim (h2 y) (g2 y)
            · rw [List.flatMap_cons, leafTabs_append, ← List.append_assoc]; exact g3
    rw [tour_eq, List.append_assoc] at hdrop
    rcases kids t.Kids (fun y hy => hy) i came conjs _ hdrop hcl hcj hnd with h | ⟨h1, h2, h3⟩
    · exact .inl h
    · have hd2 : all.drop (i + (t.Kids.flatMap T_api_Tree.tour).length) = [t] ++ rest := by rw [← List.drop_drop, hdrop, List.drop_left]
      have hlt : i + (t.Kids.flatMap T_api_Tree.tour).length < all.length := by
        rcases Nat.lt_or_ge (i + (t.Kids.flatMap T_api_Tree.tour).length) all.length with h | h
        · exact h
        · rw [List.drop_eq_nil_of_le h] at hd2; cases hd2
      have hget : all[i + (t.Kids.flatMap T_api_Tree.tour).length] = t := by
        have := List.drop_eq_getElem_cons hlt
        rw [hd2] at this
        injection this with h _
        exact h.symm
      have htm : t ∈ all := by rw [← hget]; exact List.getElem_mem hlt
      have hts := hsz t htm
      have hj2 : conjs + nconj (t.Kids.flatMap T_api_Tree.tour) + t.Conj.length ≤ 1000 := by
        rw [hdrop, nconj_append, List.cons_append, List.nil_append, nconj_cons] at hcj; omega
      have hc2 : (came ++ leafTabs (t.Kids.flatMap T_api_Tree.tour)).length ≤ i + (t.Kids.flatMap T_api_Tree.tour).length := by rw [List.length_append]; have := leafTabs_len (t.Kids.flatMap T_api_Tree.tour); omega
      obtain ⟨e, he, h0⟩ := ref11_one_eq t q.Cols (came ++ leafTabs (t.Kids.flatMap T_api_Tree.tour)) (conjs + nconj (t.Kids.flatMap T_api_Tree.tour)) (by omega) (by omega) (by omega) (fun y hy n hn => leafTabs_ok (cols := q.Cols) (l := y.tour) (fun z hz => h2 z (List.mem_flatMap.2 ⟨y, hy, hz⟩)) n hn)
      have hstep : M_ref11_Query.l1 (all, came ++ leafTabs (t.Kids.flatMap T_api_Tree.tour), ((conjs + nconj (t.Kids.flatMap T_api_Tree.tour) : Nat) : Int), ((i + (t.Kids.flatMap T_api_Tree.tour).length : Nat) : Int), q) =
          (if (e != 0) = true then some (.ret e) else M_ref11_Query.l1 (all, came ++ leafTabs t.tour, ((conjs + nconj t.tour : Nat) : Int), ((i + t.tour.length : Nat) : Int), q)) := by
        rw [M_ref11_Query.l1, if_pos (dlt (by dsimp only; omega))]
        dsimp only
        rw [getI_nat hlt, hget]
        simp -implicitDefEqProofs only [Option.bind_eq_bind, Option.bind_some]
        rw [he]
        simp -implicitDefEqProofs only [Option.bind_some]
        have w1 : w64 (((conjs + nconj (t.Kids.flatMap T_api_Tree.tour) : Nat) : Int) + (t.Conj.length : Int)) = ((conjs + nconj t.tour : Nat) : Int) := by
          rw [w64_of (by omega) (by omega), tour_eq t, nconj_append]
          have : nconj [t] = t.Conj.length := by simp [nconj]
          omega
        have w2 : w64 (((i + (t.Kids.flatMap T_api_Tree.tour).length : Nat) : Int) + 1) = ((i + t.tour.length : Nat) : Int) := by
          rw [w64_succ (by omega), tour_eq t, List.length_append]; simp only [List.length_cons, List.length_nil]; omega
        rw [w1, w2]
        by_cases ez : e = 0
        · have e1 : ¬ (e != 0) = true := by simpa using ez
          rw [if_neg e1, if_neg e1]
          by_cases hk : t.Kind = 0
          · rw [if_pos (by simpa using hk), room_of (by simp only [List.length_cons, List.length_nil]; omega)]
            simp -implicitDefEqProofs only [Option.bind_some]
            have : came ++ leafTabs (t.Kids.flatMap T_api_Tree.tour) ++ [t.Table] = came ++ leafTabs t.tour := by
              rw [tour_eq t, leafTabs_append, leafTabs_pos [] hk, List.append_assoc]; rfl
            rw [this]
          · rw [if_neg (by simpa using hk)]
            have : came ++ leafTabs (t.Kids.flatMap T_api_Tree.tour) = came ++ leafTabs t.tour := by
              rw [tour_eq t, leafTabs_append, leafTabs_neg [] hk]
              have : leafTabs [] = [] := rfl
              rw [this, List.append_nil]
            rw [this]
        · have e1 : (e != 0) = true := by simpa using ez
          rw [if_pos e1, if_pos e1]
      by_cases ez : e = 0
      · have e1 : ¬ (e != 0) = true := by simpa using ez
        rw [if_neg e1] at hstep
        obtain ⟨g1, g2⟩ := h0 ez
        refine .inr ⟨h1.trans hstep, fun y hy => ?_, ?_⟩
        · rw [tour_eq, List.mem_append] at hy
          rcases hy with hy | hy
          · exact h2 y hy
          · simp at hy; subst hy; exact g1
        · rw [tour_eq t, leafTabs_append, ← List.append_assoc]
          by_cases hk : t.Kind = 0
          · have e2 : leafTabs [t] = [t.Table] := leafTabs_pos [] hk
            rw [e2]
            refine List.nodup_append.2 ⟨h3, by simp, fun a ha b hb => ?_⟩
            simp at hb; subst hb
            exact fun e => g2 hk (e ▸ ha)
          · have e2 : leafTabs [t] = [] := leafTabs_neg [] hk
            rw [e2, List.append_nil]; exact h3
      · have e1 : (e != 0) = true := by simpa using ez
        rw [if_pos e1] at hstep
        exact .inl ⟨e, ez, h1.trans hstep⟩

/-- A right query. -/
structure RightQ (q : T_api_Query) : Prop where
  ncols : q.Cols.length ≤ 64
  colr : ∀ c ∈ q.Cols, 1 ≤ c ∧ c ≤ 4
  node : ∀ y ∈ q.Root.tour, OkNode q.Cols y
  nodup : (leafTabs q.Root.tour).Nodup
theorem ref11_Query_eq (q : T_api_Query) (hsz : q.Root.size ≤ 600) : ∃ e, M_ref11_Query q = some e ∧ (e = 0 → RightQ q) := by
  unfold M_ref11_Query
  by_cases h64 : (q.Cols.length : Int) > 64
  · rw [if_pos (by simpa using h64)]; exact ⟨2, rfl, fun h => by cases h⟩
  rw [if_neg (by simpa using h64)]
  have key : ∀ n i, q.Cols.length - i = n → i ≤ q.Cols.length → M_ref11_Query.l0 ((i : Int), q) = some (.ret 12) ∨ (M_ref11_Query.l0 ((i : Int), q) = some (.brk ()) ∧ ∀ j (h : j < q.Cols.length), i ≤ j → 1 ≤ q.Cols[j] ∧ q.Cols[j] ≤ 4) := by
    intro n
    induction n with
    | zero =>
      intro i h1 h2
      obtain rfl : i = q.Cols.length := by omega
      rw [M_ref11_Query.l0, if_neg (dge (by dsimp only; omega))]
      exact .inr ⟨rfl, fun j h h' => by omega⟩
    | succ n ih =>
      intro i h1 h2
      have hi : i < q.Cols.length := by omega
      rw [M_ref11_Query.l0, if_pos (dlt (by dsimp only; omega))]
      dsimp only
      rw [getI_nat hi, w64_succ (by omega)]
      simp -implicitDefEqProofs only [Option.bind_eq_bind, Option.bind_some]
      by_cases c1 : q.Cols[i] < 1
      · rw [if_pos (dlt c1)]; exact .inl rfl
      rw [if_neg (dge c1)]
      by_cases c4 : q.Cols[i] > 4
      · rw [if_pos (by simpa using c4)]; exact .inl rfl
      rw [if_neg (by simpa using c4)]
      rcases ih (i + 1) (by omega) (by omega) with ih | ⟨ih1, ih2⟩
      · exact .inl ih
      · refine .inr ⟨ih1, fun j hj hij => ?_⟩
        by_cases ej : j = i
        · subst ej; omega
        · exact ih2 j hj (by omega)
  have h0 := key q.Cols.length 0 (by omega) (by omega)
  rw [show ((0 : Nat) : Int) = 0 from rfl] at h0
  rcases h0 with h0 | ⟨h0, hcols⟩
  · rw [h0]; exact ⟨12, rfl, fun h => by cases h⟩
  rw [h0]
  simp -implicitDefEqProofs only [Option.bind_eq_bind, Option.bind_some]
  rw [ref10_All_eq _ (by omega)]
  simp -implicitDefEqProofs only [Option.bind_some]
  have htl := tour_len q.Root
  have hnc := nconj_tour q.Root
  have h1 := ref11_loop q q.Root.tour (by omega) (fun y hy => by have := tour_size q.Root y hy; omega) q.Root 0 [] 0 [] (by simp) (by simp) (by simp; omega) (by simp)
  rw [show ((0 : Nat) : Int) = 0 from rfl] at h1
  rcases h1 with ⟨e, he, h1⟩ | ⟨h1, h2, h3⟩
  · rw [h1]; exact ⟨e, rfl, fun h => absurd h he⟩
  · rw [h1, M_ref11_Query.l1, if_neg (dge (by dsimp only; omega))]
    refine ⟨0, rfl, fun _ => ⟨by omega, fun c hc => ?_, h2, by simpa using h3⟩⟩
    obtain ⟨j, hj, rfl⟩ := List.getElem_of_mem hc
    exact hcols j hj (Nat.zero_le _)
theorem ref11_Right_eq (q : T_api_Query) (hsz : q.Root.size ≤ 600) : ∃ b, M_ref11_Right q = some b ∧ (b = true → RightQ q) := by
  obtain ⟨e, he, h⟩ := ref11_Query_eq q hsz
  unfold M_ref11_Right
  rw [he]
  exact ⟨_, rfl, fun hb => h (by simpa using hb)⟩
theorem law11_Few_eq (q : T_api_Query) : M_law11_Few q = some (decide (q.Root.size ≤ 600)) := by
  unfold M_law11_Few
  have e := ref10_Size_eq q.Root 601 (by omega) (by omega)
  rw [show ((601 : Nat) : Int) = 601 from rfl] at e
  rw [e]
  simp -implicitDefEqProofs only [Option.bind_eq_bind, Option.bind_some]
  congr 1
  exact decide_eq_decide.2 (by omega)
end Go.Proofs.Ytcfekacmmfdggaa.G
set_option linter.unusedVariables false
set_option linter.unusedSimpArgs false
set_option maxRecDepth 100000
namespace Go.Proofs.Ytcfekacmmfdggaa.G
end Go.Proofs.Ytcfekacmmfdggaa.G
set_option linter.unusedVariables false
set_option linter.unusedSimpArgs false
namespace Go.Proofs.Ytcfekacmmfdggaa.G

theorem hasI_lt {s : Set64} {n : Int} (h : hasI s n = true) : ∃ j : Nat, j < 64 ∧ n = (j : Int) ∧ s.getLsbD j = true := by
  unfold hasI at h
  rw [Bool.and_eq_true, decide_eq_true_eq] at h
  exact ⟨n.toNat, by omega, by omega, h.2⟩
theorem hasI_or (a b : Set64) (n : Int) : hasI (a ||| b) n = (hasI a n || hasI b n) := by
  unfold hasI
  rw [BitVec.getLsbD_or]
  cases decide (0 ≤ n ∧ n < 64) <;> simp
theorem hasI_zero (n : Int) : hasI 0#64 n = false := by unfold hasI; simp
theorem hasI_ofL (l : List Int) (n : Int) : hasI (ofL l) n = true ↔ 0 ≤ n ∧ n < 64 ∧ n ∈ l := by
  constructor
  · intro h
    obtain ⟨j, hj, rfl, hb⟩ := hasI_lt h
    rw [ofL_lsb _ _ hj, List.any_eq_true] at hb
    obtain ⟨x, hx, hxj⟩ := hb
    have : x = (j : Int) := by simpa using hxj
    exact ⟨by omega, by omega, this ▸ hx⟩
  · intro ⟨h0, h1, h2⟩
    obtain ⟨j, rfl⟩ : ∃ j : Nat, n = j := ⟨n.toNat, by omega⟩
    rw [hasI_nat _ _ (by omega), ofL_lsb _ _ (by omega), List.any_eq_true]
    exact ⟨_, h2, by simp⟩

/- A tree whose nodes are leaves or have two kids. -/
theorem tour2 {t a b : T_api_Tree} (h : t.Kids = [a, b]) : t.tour = a.tour ++ b.tour ++ [t] := by
  rw [tour_eq, h]; simp
theorem tour0 {t : T_api_Tree} (h : t.Kids = []) : t.tour = [t] := by
  rw [tour_eq, h]; simp
def ctabs (l : List T_api_Pred) : Set64 := l.foldl (fun s p => s ||| p.tabs) 0#64
theorem ctabs_out (l : List T_api_Pred) : ∀ s : Set64, l.foldl (fun s p => s ||| p.tabs) s = s ||| ctabs l := by
  unfold ctabs
  induction l with
  | nil => intro s; simp
  | cons x l ih => intro s; simp only [List.foldl_cons]; rw [ih, ih (0#64 ||| x.tabs), BitVec.zero_or, BitVec.or_assoc]
theorem ctabs_cons (x : T_api_Pred) (l : List T_api_Pred) : ctabs (x :: l) = x.tabs ||| ctabs l := by
  rw [ctabs, List.foldl_cons, ctabs_out, BitVec.zero_or]
end Go.Proofs.Ytcfekacmmfdggaa.G
set_option linter.unusedVariables false
set_option linter.unusedSimpArgs false
set_option maxRecDepth 100000
namespace Go.Proofs.Ytcfekacmmfdggaa.G
theorem lok_115 : (Try.f115.body.isSome && !(Try.f115.name == "runtime.NumGoroutine") && okL (bodyF Try.f115) Try.f115.ntmps (bodyF Try.f115)) = true := by kernel_rfl
def M_ident_operator (x : Int) : Option (Bool) :=
  if (decide (x ≥ 1)) = true then
    some (decide (x ≤ 4))
  else
    some false
set_option maxHeartbeats 8000000 in
theorem M_ident_operator.w : ∀ (x : Int) (r : Bool), M_ident_operator x = some r → (fun (x : Int) (r : Bool) => Fn Try.prog 115 [.i64 x] (.bool r)) x r := by
  intro x r h
  rw [M_ident_operator] at h
  try dsimp only
  refine Fn.of_lc mix fn_115 lok_115 (by rfl) (flC (.atom _) (flN)) (.atom _) ?_
  simp -implicitDefEqProofs only [go_sem, Try.f115]
  by_cases h1 : (decide (x ≥ 1)) = true
  · replace h := ite_some h h1
    try simp -implicitDefEqProofs only [go_sem, h1]
    injection h with h; subst h
    first | rfl | simp -implicitDefEqProofs only [go_sem, h1] <;> rfl
  · replace h := ite_none h h1; replace h1 := bfalse h1
    try simp -implicitDefEqProofs only [go_sem, h1]
    injection h with h; subst h
    first | rfl | simp -implicitDefEqProofs only [go_sem, h1] <;> rfl
end Go.Proofs.Ytcfekacmmfdggaa.G
set_option linter.unusedVariables false
set_option linter.unusedSimpArgs false
set_option maxRecDepth 100000
namespace Go.Proofs.Ytcfekacmmfdggaa.G
theorem lok_77 : (Try.f77.body.isSome && !(Try.f77.name == "runtime.NumGoroutine") && okL (bodyF Try.f77) Try.f77.ntmps (bodyF Try.f77)) = true := by kernel_rfl
def M_ident_May (x : Int × Int × Int) : Option (Bool) :=
  if (x.1 == 1) = true then
    some (x.2.1 == 1)
  else
    if (x.1 == 2) = true then
      if (x.2.1 == 1) = true then
        M_ident_operator x.2.2 >>= fun r4 =>
        if r4 = true then
          some true
        else
          some ((x.2.1 == 2) && (x.2.2 == 2))
      else
        some ((x.2.1 == 2) && (x.2.2 == 2))
    else
      if (x.1 == 3) = true then
        if (x.2.1 == 1) = true then
          M_ident_operator x.2.2 >>= fun r9 =>
          if r9 = true then
            some true
          else
            some ((x.2.1 == 2) && (x.2.2 == 2))
        else
          some ((x.2.1 == 2) && (x.2.2 == 2))
      else
        if (x.1 == 4) = true then
          M_ident_operator x.2.1 >>= fun r13 =>
          if r13 = true then
            M_ident_operator x.2.2 >>= fun r16 =>
            some r16
          else
            some false
        else
          if (x.1 == 5) = true then
            some ((x.2.1 == 1) && (x.2.2 == 1))
          else
            some false
set_option maxHeartbeats 8000000 in
theorem M_ident_May.w : ∀ (x : Int × Int × Int) (r : Bool), M_ident_May x = some r → (fun (x : Int × Int × Int) (r : Bool) => Fn Try.prog 77 [.i64 x.1, .i64 x.2.1, .i64 x.2.2] (.bool r)) x r := by
  intro x r h
  rw [M_ident_May] at h
  try dsimp only
  refine Fn.of_lc mix fn_77 lok_77 (by rfl) (flC (.atom _) (flC (.atom _) (flC (.atom _) (flN)))) (.atom _) ?_
  simp -implicitDefEqProofs only [go_sem, Try.f77]
  by_cases h1 : (x.1 == 1) = true
  · replace h := ite_some h h1
    try simp -implicitDefEqProofs only [go_sem, h1]
    injection h with h; subst h
    first | rfl | simp -implicitDefEqProofs only [go_sem, h1] <;> rfl
  · replace h := ite_none h h1; replace h1 := bfalse h1
    try simp -implicitDefEqProofs only [go_sem, h1]
    by_cases h2 : (x.1 == 2) = true
    · replace h := ite_some h h2
      try simp -implicitDefEqProofs only [go_sem, h1, h2]
      by_cases h3 : (x.2.1 == 1) = true
      · replace h := ite_some h h3
        try simp -implicitDefEqProofs only [go_sem, h1, h2, h3]
        obtain ⟨r4, h5, h⟩ := bind_some' h
        refine .plain _ _ rfl (M_ident_operator.w x.2.2 _ h5) ?_
        try simp -implicitDefEqProofs only [go_sem, h1, h2, h3]
        by_cases h6 : r4 = true
        · replace h := ite_some h h6
          try simp -implicitDefEqProofs only [go_sem, h1, h2, h3, h6]
          injection h with h; subst h
          first | rfl | simp -implicitDefEqProofs only [go_sem, h1, h2, h3, h6] <;> rfl
        · replace h := ite_none h h6; replace h6 := bfalse h6
          try simp -implicitDefEqProofs only [go_sem, h1, h2, h3, h6]
          injection h with h; subst h
          first | rfl | simp -implicitDefEqProofs only [go_sem, h1, h2, h3, h6] <;> rfl
      · replace h := ite_none h h3; replace h3 := bfalse h3
        try simp -implicitDefEqProofs only [go_sem, h1, h2, h3]
        injection h with h; subst h
        first | rfl | simp -implicitDefEqProofs only [go_sem, h1, h2, h3] <;> rfl
    · replace h := ite_none h h2; replace h2 := bfalse h2
      try simp -implicitDefEqProofs only [go_sem, h1, h2]
      by_cases h7 : (x.1 == 3) = true
      · replace h := ite_some h h7
        try simp -implicitDefEqProofs only [go_sem, h1, h2, h7]
        by_cases h8 : (x.2.1 == 1) = true
        · replace h := ite_some h h8
          try simp -implicitDefEqProofs only [go_sem, h1, h2, h7, h8]
          obtain ⟨r9, h10, h⟩ := bind_some' h
          refine .plain _ _ rfl (M_ident_operator.w x.2.2 _ h10) ?_
          try simp -implicitDefEqProofs only [go_sem, h1, h2, h7, h8]
          by_cases h11 : r9 = true
          · replace h := ite_some h h11
            try simp -implicitDefEqProofs only [go_sem, h1, h2, h7, h8, h11]
            injection h with h; subst h
            first | rfl | simp -implicitDefEqProofs only [go_sem, h1, h2, h7, h8, h11] <;> rfl
          · replace h := ite_none h h11; replace h11 := bfalse h11
            try simp -implicitDefEqProofs only [go_sem, h1, h2, h7, h8, h11]
            injection h with h; subst h
            first | rfl | simp -implicitDefEqProofs only [go_sem, h1, h2, h7, h8, h11] <;> rfl
        · replace h := ite_none h h8; replace h8 := bfalse h8
          try simp -implicitDefEqProofs only [go_sem, h1, h2, h7, h8]
          injection h with h; subst h
          first | rfl | simp -implicitDefEqProofs only [go_sem, h1, h2, h7, h8] <;> rfl
      · replace h := ite_none h h7; replace h7 := bfalse h7
        try simp -implicitDefEqProofs only [go_sem, h1, h2, h7]
        by_cases h12 : (x.1 == 4) = true
        · replace h := ite_some h h12
          try simp -implicitDefEqProofs only [go_sem, h1, h2, h7, h12]
          obtain ⟨r13, h14, h⟩ := bind_some' h
          refine .plain _ _ rfl (M_ident_operator.w x.2.1 _ h14) ?_
          try simp -implicitDefEqProofs only [go_sem, h1, h2, h7, h12]
          by_cases h15 : r13 = true
          · replace h := ite_some h h15
            try simp -implicitDefEqProofs only [go_sem, h1, h2, h7, h12, h15]
            obtain ⟨r16, h17, h⟩ := bind_some' h
            refine .plain _ _ rfl (M_ident_operator.w x.2.2 _ h17) ?_
            try simp -implicitDefEqProofs only [go_sem, h1, h2, h7, h12, h15]
            injection h with h; subst h
            first | rfl | simp -implicitDefEqProofs only [go_sem, h1, h2, h7, h12, h15] <;> rfl
          · replace h := ite_none h h15; replace h15 := bfalse h15
            try simp -implicitDefEqProofs only [go_sem, h1, h2, h7, h12, h15]
            injection h with h; subst h
            first | rfl | simp -implicitDefEqProofs only [go_sem, h1, h2, h7, h12, h15] <;> rfl
        · replace h := ite_none h h12; replace h12 := bfalse h12
          try simp -implicitDefEqProofs only [go_sem, h1, h2, h7, h12]
          by_cases h18 : (x.1 == 5) = true
          · replace h := ite_some h h18
            try simp -implicitDefEqProofs only [go_sem, h1, h2, h7, h12, h18]
            injection h with h; subst h
            first | rfl | simp -implicitDefEqProofs only [go_sem, h1, h2, h7, h12, h18] <;> rfl
          · replace h := ite_none h h18; replace h18 := bfalse h18
            try simp -implicitDefEqProofs only [go_sem, h1, h2, h7, h12, h18]
            injection h with h; subst h
            first | rfl | simp -implicitDefEqProofs only [go_sem, h1, h2, h7, h12, h18] <;> rfl
end Go.Proofs.Ytcfekacmmfdggaa.G
set_option linter.unusedVariables false
set_option linter.unusedSimpArgs false
set_option maxRecDepth 100000
namespace Go.Proofs.Ytcfekacmmfdggaa.G
theorem lok_79 : (Try.f79.body.isSome && !(Try.f79.name == "runtime.NumGoroutine") && okL (bodyF Try.f79) Try.f79.ntmps (bodyF Try.f79)) = true := by kernel_rfl
def M_ident_changes (x : Unit) : Option (List T_ident_change) :=
  some ([(⟨1, -1, 116⟩ : T_ident_change), (⟨2, 0, 118⟩ : T_ident_change), (⟨3, 1, 121⟩ : T_ident_change), (⟨4, 0, 122⟩ : T_ident_change), (⟨5, 1, 123⟩ : T_ident_change)])
set_option maxHeartbeats 8000000 in
theorem M_ident_changes.w : ∀ (x : Unit) (r : List T_ident_change), M_ident_changes x = some r → (fun (x : Unit) (r : List T_ident_change) => Fn Try.prog 79 [] (.slice .foreign (r.map T_ident_change.av))) x r := by
  intro x r h
  rw [M_ident_changes] at h
  try dsimp only
  refine Fn.of_lc mix fn_79 lok_79 (by rfl) (flN) (flat_slice _ T_ident_change.flat _) ?_
  simp -implicitDefEqProofs only [go_sem, Try.f79]
  injection h with h; subst h
  first | rfl | simp -implicitDefEqProofs only [go_sem] <;> rfl
end Go.Proofs.Ytcfekacmmfdggaa.G
set_option linter.unusedVariables false
set_option linter.unusedSimpArgs false
set_option maxRecDepth 100000
namespace Go.Proofs.Ytcfekacmmfdggaa.G
theorem lok_117 : (Try.f117.body.isSome && !(Try.f117.name == "runtime.NumGoroutine") && okL (bodyF Try.f117) Try.f117.ntmps (bodyF Try.f117)) = true := by kernel_rfl
def M_ident_on (x : T_api_Tree × T_api_Tree × T_api_Tree) : Option (T_api_Tree) :=
  some (⟨x.1.Kind, x.1.Table, [x.2.1, x.2.2], x.1.Conj, x.1.Hash⟩ : T_api_Tree)
set_option maxHeartbeats 8000000 in
theorem M_ident_on.w : ∀ (x : T_api_Tree × T_api_Tree × T_api_Tree) (r : T_api_Tree), M_ident_on x = some r → (fun (x : T_api_Tree × T_api_Tree × T_api_Tree) (r : T_api_Tree) => Fn Try.prog 117 [.agg (T_api_Tree.C x.1), .agg (T_api_Tree.C x.2.1), .agg (T_api_Tree.C x.2.2)] (.agg (T_api_Tree.C r))) x r := by
  intro x r h
  rw [M_ident_on] at h
  try dsimp only
  refine Fn.of_lc mix fn_117 lok_117 (by rfl) (flC (T_api_Tree.flatC _) (flC (T_api_Tree.flatC _) (flC (T_api_Tree.flatC _) (flN)))) (T_api_Tree.flatC _) ?_
  simp -implicitDefEqProofs only [go_sem, Try.f117]
  injection h with h; subst h
  first | rfl | simp -implicitDefEqProofs only [go_sem] <;> rfl
end Go.Proofs.Ytcfekacmmfdggaa.G
set_option linter.unusedVariables false
set_option linter.unusedSimpArgs false
set_option maxRecDepth 100000
namespace Go.Proofs.Ytcfekacmmfdggaa.G
theorem lok_116 : (Try.f116.body.isSome && !(Try.f116.name == "runtime.NumGoroutine") && okL (bodyF Try.f116) Try.f116.ntmps (bodyF Try.f116)) = true := by kernel_rfl
def M_ident_changes_1 (x : T_api_Tree × T_api_Tree × T_api_Tree × T_api_Tree × T_api_Tree) : Option (T_api_Tree × Bool) :=
  M_ident_on (x.1, x.2.2.2.1, x.2.2.1) >>= fun r1 =>
  some (r1, true)
set_option maxHeartbeats 8000000 in
theorem M_ident_changes_1.w : ∀ (x : T_api_Tree × T_api_Tree × T_api_Tree × T_api_Tree × T_api_Tree) (r : T_api_Tree × Bool), M_ident_changes_1 x = some r → (fun (x : T_api_Tree × T_api_Tree × T_api_Tree × T_api_Tree × T_api_Tree) (r : T_api_Tree × Bool) => Fn Try.prog 116 [.agg (T_api_Tree.C x.1), .agg (T_api_Tree.C x.2.1), .agg (T_api_Tree.C x.2.2.1), .agg (T_api_Tree.C x.2.2.2.1), .agg (T_api_Tree.C x.2.2.2.2)] (.tuple [.agg (T_api_Tree.C r.1), .bool r.2])) x r := by
  intro x r h
  rw [M_ident_changes_1] at h
  try dsimp only
  refine Fn.of_lc mix fn_116 lok_116 (by rfl) (flC (T_api_Tree.flatC _) (flC (T_api_Tree.flatC _) (flC (T_api_Tree.flatC _) (flC (T_api_Tree.flatC _) (flC (T_api_Tree.flatC _) (flN)))))) (.tuple _ (flC (T_api_Tree.flatC _) (flC (.atom _) (flN)))) ?_
  simp -implicitDefEqProofs only [go_sem, Try.f116]
  obtain ⟨r1, h2, h⟩ := bind_some' h
  refine .plain _ _ rfl (M_ident_on.w (x.1, x.2.2.2.1, x.2.2.1) _ h2) ?_
  try simp -implicitDefEqProofs only [go_sem]
  injection h with h; subst h
  first | rfl | simp -implicitDefEqProofs only [go_sem] <;> rfl
end Go.Proofs.Ytcfekacmmfdggaa.G
set_option linter.unusedVariables false
set_option linter.unusedSimpArgs false
set_option maxRecDepth 100000
namespace Go.Proofs.Ytcfekacmmfdggaa.G
theorem lok_146 : (Try.f146.body.isSome && !(Try.f146.name == "runtime.NumGoroutine") && okL (bodyF Try.f146) Try.f146.ntmps (bodyF Try.f146)) = true := by kernel_rfl
def M_ident_names.l0 (x : Set64 × List T_api_Pred × Int × Int) : Option (Set64) :=
  if (decide (x.2.2.2 < x.2.2.1)) = true then
    (getI x.2.1 x.2.2.2) >>= fun (e2 : T_api_Pred) =>
    M_pred_Tables e2 >>= fun r4 =>
    M_ident_names.l0 ((x.1 ||| r4), x.2.1, x.2.2.1, (w64 (x.2.2.2 + 1)))
  else
    some x.1
  partial_fixpoint
theorem M_ident_names.l0.ws : (∀ (x : Set64 × List T_api_Pred × Int × Int) (o : Set64), M_ident_names.l0 x = some o → (fun (x : Set64 × List T_api_Pred × Int × Int) (o : Set64) => ∀ (lo : Option Nat) (c : LCtx) (Q : Exit → LEnv → Prop) (hb : ∀ s : Set64, o = s → Q (.exit 0) ⟨[(3, .v (.w s))], []⟩), LLoop Try.prog 146 lo c 0 (VQ Q) ⟨[(3, .v (.w x.1)), (6, .v (.slice .foreign (x.2.1.map T_api_Pred.av))), (7, .v (.i64 x.2.2.1)), (8, .v (.i64 x.2.2.2))], []⟩) x o) := by
  refine M_ident_names.l0.partial_correctness _ ?_
  · intro M_M_ident_names_l0 ih_M_ident_names_l0 x o h
    intro lo c Q hb
    refine LLoop.step mix fn_146 (by kernel_rfl) ?_
    simp -implicitDefEqProofs only [go_sem, Try.f146]
    by_cases h1 : (decide (x.2.2.2 < x.2.2.1)) = true
    · replace h := ite_some h h1
      try simp -implicitDefEqProofs only [go_sem, h1]
      obtain ⟨e2, h3, h⟩ := bind_some' h; replace h3 := getI_some h3; obtain ⟨h3', h3⟩ := h3
      try simp -implicitDefEqProofs only [go_sem, h1, h3, h3']
      obtain ⟨r4, h5, h⟩ := bind_some' h
      refine .plain _ _ rfl (M_pred_Tables.w e2 _ h5) ?_
      try simp -implicitDefEqProofs only [go_sem, h1, h3, h3']
      exact LLoop.view [] (by (first | rfl | simp -implicitDefEqProofs only [go_sem, h1, h3, h3'] <;> rfl)) (ih_M_ident_names_l0 _ _ h lo c Q hb)
    · replace h := ite_none h h1; replace h1 := bfalse h1
      try simp -implicitDefEqProofs only [go_sem, h1]
      injection h with h; subst h
      exact .inr ⟨[], _, by (simp -implicitDefEqProofs only [go_sem, h1] <;> first | done | rfl | trivial), hb _ rfl⟩
theorem M_ident_names.l0.w : type_of% @M_ident_names.l0.ws := @M_ident_names.l0.ws
def M_ident_names (x : List T_api_Pred) : Option (Set64) :=
  M_ident_names.l0 (0#64, x, (x.length : Int), 0) >>= fun (o6 : Set64) =>
  some o6
set_option maxHeartbeats 8000000 in
theorem M_ident_names.w : ∀ (x : List T_api_Pred) (r : Set64), M_ident_names x = some r → (fun (x : List T_api_Pred) (r : Set64) => Fn Try.prog 146 [.slice .foreign (x.map T_api_Pred.av)] (.w r)) x r := by
  intro x r h
  rw [M_ident_names] at h
  try dsimp only
  refine Fn.of_lc mix fn_146 lok_146 (by rfl) (flC (flat_slice _ T_api_Pred.flat _) (flN)) (.atom _) ?_
  simp -implicitDefEqProofs only [go_sem, Try.f146]
  obtain ⟨o6, h7, h⟩ := bind_some' h
  refine LLoop.viewQ (LLoop.view [] (by (first | rfl | simp -implicitDefEqProofs only [go_sem] <;> rfl)) (M_ident_names.l0.w (0#64, x, (x.length : Int), 0) _ h7 _ _ _ ?_))
  intro s' hs'; subst hs'
  try simp -implicitDefEqProofs only [go_sem]
  injection h with h; subst h
  first | rfl | simp -implicitDefEqProofs only [go_sem] <;> rfl
end Go.Proofs.Ytcfekacmmfdggaa.G
set_option linter.unusedVariables false
set_option linter.unusedSimpArgs false
set_option maxRecDepth 100000
namespace Go.Proofs.Ytcfekacmmfdggaa.G
@[go_sem] theorem lrp_119_1 : lrp Try.prog 119 1 = (8, []) := by kernel_rfl
theorem lok_119 : (Try.f119.body.isSome && !(Try.f119.name == "runtime.NumGoroutine") && okL (bodyF Try.f119) Try.f119.ntmps (bodyF Try.f119)) = true := by kernel_rfl
def M_ident_named (x : T_api_Tree × T_api_Tree) : Option (Bool) :=
  M_ident_names x.1.Conj >>= fun r1 =>
  M_tree_Tables x.2 >>= fun r3 =>
  some ((r1 &&& r3) != 0#64)
set_option maxHeartbeats 8000000 in
theorem M_ident_named.w : ∀ (x : T_api_Tree × T_api_Tree) (r : Bool), M_ident_named x = some r → (fun (x : T_api_Tree × T_api_Tree) (r : Bool) => Fn Try.prog 119 [.agg (T_api_Tree.C x.1), .agg (T_api_Tree.C x.2)] (.bool r)) x r := by
  intro x r h
  rw [M_ident_named] at h
  try dsimp only
  refine Fn.of_lc mix fn_119 lok_119 (by rfl) (flC (T_api_Tree.flatC _) (flC (T_api_Tree.flatC _) (flN))) (.atom _) ?_
  simp -implicitDefEqProofs only [go_sem, Try.f119]
  obtain ⟨r1, h2, h⟩ := bind_some' h
  refine .plain _ _ rfl (M_ident_names.w x.1.Conj _ h2) ?_
  try simp -implicitDefEqProofs only [go_sem]
  obtain ⟨r3, h4, h⟩ := bind_some' h
  refine .plain _ _ rfl (M_tree_Tables.w x.2 _ h4) ?_
  try simp -implicitDefEqProofs only [go_sem]
  injection h with h; subst h
  first | rfl | simp -implicitDefEqProofs only [go_sem] <;> rfl
end Go.Proofs.Ytcfekacmmfdggaa.G
set_option linter.unusedVariables false
set_option linter.unusedSimpArgs false
set_option maxRecDepth 100000
namespace Go.Proofs.Ytcfekacmmfdggaa.G
@[go_sem] theorem lrp_120_1 : lrp Try.prog 120 1 = (20, []) := by kernel_rfl
theorem lok_120 : (Try.f120.body.isSome && !(Try.f120.name == "runtime.NumGoroutine") && okL (bodyF Try.f120) Try.f120.ntmps (bodyF Try.f120)) = true := by kernel_rfl
def M_ident_rejects (x : T_api_Tree × T_api_Tree × T_api_Tree) : Option (Bool) :=
  if (x.1.Kind != 2) = true then
    some true
  else
    if (x.2.1.Kind != 2) = true then
      some true
    else
      M_ident_names x.2.1.Conj >>= fun r3 =>
      M_tree_Tables x.2.2 >>= fun r5 =>
      M_reject_Rejects (x.2.1.Conj, (r3 &&& r5)) >>= fun r7 =>
      some r7
set_option maxHeartbeats 8000000 in
theorem M_ident_rejects.w : ∀ (x : T_api_Tree × T_api_Tree × T_api_Tree) (r : Bool), M_ident_rejects x = some r → (fun (x : T_api_Tree × T_api_Tree × T_api_Tree) (r : Bool) => Fn Try.prog 120 [.agg (T_api_Tree.C x.1), .agg (T_api_Tree.C x.2.1), .agg (T_api_Tree.C x.2.2)] (.bool r)) x r := by
  intro x r h
  rw [M_ident_rejects] at h
  try dsimp only
  refine Fn.of_lc mix fn_120 lok_120 (by rfl) (flC (T_api_Tree.flatC _) (flC (T_api_Tree.flatC _) (flC (T_api_Tree.flatC _) (flN)))) (.atom _) ?_
  simp -implicitDefEqProofs only [go_sem, Try.f120]
  by_cases h1 : (x.1.Kind != 2) = true
  · replace h := ite_some h h1
    try simp -implicitDefEqProofs only [go_sem, h1]
    injection h with h; subst h
    first | rfl | simp -implicitDefEqProofs only [go_sem, h1] <;> rfl
  · replace h := ite_none h h1; replace h1 := bfalse h1
    try simp -implicitDefEqProofs only [go_sem, h1]
    by_cases h2 : (x.2.1.Kind != 2) = true
    · replace h := ite_some h h2
      try simp -implicitDefEqProofs only [go_sem, h1, h2]
      injection h with h; subst h
      first | rfl | simp -implicitDefEqProofs only [go_sem, h1, h2] <;> rfl
    · replace h := ite_none h h2; replace h2 := bfalse h2
      try simp -implicitDefEqProofs only [go_sem, h1, h2]
      obtain ⟨r3, h4, h⟩ := bind_some' h
      refine .plain _ _ rfl (M_ident_names.w x.2.1.Conj _ h4) ?_
      try simp -implicitDefEqProofs only [go_sem, h1, h2]
      obtain ⟨r5, h6, h⟩ := bind_some' h
      refine .plain _ _ rfl (M_tree_Tables.w x.2.2 _ h6) ?_
      try simp -implicitDefEqProofs only [go_sem, h1, h2]
      obtain ⟨r7, h8, h⟩ := bind_some' h
      refine .plain _ _ rfl (M_reject_Rejects.w (x.2.1.Conj, (r3 &&& r5)) _ h8) ?_
      try simp -implicitDefEqProofs only [go_sem, h1, h2]
      injection h with h; subst h
      first | rfl | simp -implicitDefEqProofs only [go_sem, h1, h2] <;> rfl
end Go.Proofs.Ytcfekacmmfdggaa.G
set_option linter.unusedVariables false
set_option linter.unusedSimpArgs false
set_option maxRecDepth 100000
namespace Go.Proofs.Ytcfekacmmfdggaa.G
@[go_sem] theorem lrp_118_1 : lrp Try.prog 118 1 = (17, []) := by kernel_rfl
theorem lok_118 : (Try.f118.body.isSome && !(Try.f118.name == "runtime.NumGoroutine") && okL (bodyF Try.f118) Try.f118.ntmps (bodyF Try.f118)) = true := by kernel_rfl
def M_ident_changes_2 (x : T_api_Tree × T_api_Tree × T_api_Tree × T_api_Tree × T_api_Tree) : Option (T_api_Tree × Bool) :=
  M_ident_on (x.2.1, x.2.2.2.1, x.2.2.2.2) >>= fun r1 =>
  M_ident_on (x.1, x.2.2.1, r1) >>= fun r3 =>
  M_ident_named (x.2.1, x.2.2.1) >>= fun r5 =>
  if r5 = true then
    some (r3, false)
  else
    M_ident_rejects (x.1, x.2.1, x.2.2.2.1) >>= fun r8 =>
    some (r3, r8)
set_option maxHeartbeats 8000000 in
theorem M_ident_changes_2.w : ∀ (x : T_api_Tree × T_api_Tree × T_api_Tree × T_api_Tree × T_api_Tree) (r : T_api_Tree × Bool), M_ident_changes_2 x = some r → (fun (x : T_api_Tree × T_api_Tree × T_api_Tree × T_api_Tree × T_api_Tree) (r : T_api_Tree × Bool) => Fn Try.prog 118 [.agg (T_api_Tree.C x.1), .agg (T_api_Tree.C x.2.1), .agg (T_api_Tree.C x.2.2.1), .agg (T_api_Tree.C x.2.2.2.1), .agg (T_api_Tree.C x.2.2.2.2)] (.tuple [.agg (T_api_Tree.C r.1), .bool r.2])) x r := by
  intro x r h
  rw [M_ident_changes_2] at h
  try dsimp only
  refine Fn.of_lc mix fn_118 lok_118 (by rfl) (flC (T_api_Tree.flatC _) (flC (T_api_Tree.flatC _) (flC (T_api_Tree.flatC _) (flC (T_api_Tree.flatC _) (flC (T_api_Tree.flatC _) (flN)))))) (.tuple _ (flC (T_api_Tree.flatC _) (flC (.atom _) (flN)))) ?_
  simp -implicitDefEqProofs only [go_sem, Try.f118]
  obtain ⟨r1, h2, h⟩ := bind_some' h
  refine .plain _ _ rfl (M_ident_on.w (x.2.1, x.2.2.2.1, x.2.2.2.2) _ h2) ?_
  try simp -implicitDefEqProofs only [go_sem]
  obtain ⟨r3, h4, h⟩ := bind_some' h
  refine .plain _ _ rfl (M_ident_on.w (x.1, x.2.2.1, r1) _ h4) ?_
  try simp -implicitDefEqProofs only [go_sem]
  obtain ⟨r5, h6, h⟩ := bind_some' h
  refine .plain _ _ rfl (M_ident_named.w (x.2.1, x.2.2.1) _ h6) ?_
  try simp -implicitDefEqProofs only [go_sem]
  by_cases h7 : r5 = true
  · replace h := ite_some h h7
    try simp -implicitDefEqProofs only [go_sem, h7]
    injection h with h; subst h
    first | rfl | simp -implicitDefEqProofs only [go_sem, h7] <;> rfl
  · replace h := ite_none h h7; replace h7 := bfalse h7
    try simp -implicitDefEqProofs only [go_sem, h7]
    obtain ⟨r8, h9, h⟩ := bind_some' h
    refine .plain _ _ rfl (M_ident_rejects.w (x.1, x.2.1, x.2.2.2.1) _ h9) ?_
    try simp -implicitDefEqProofs only [go_sem, h7]
    injection h with h; subst h
    first | rfl | simp -implicitDefEqProofs only [go_sem, h7] <;> rfl
end Go.Proofs.Ytcfekacmmfdggaa.G
set_option linter.unusedVariables false
set_option linter.unusedSimpArgs false
set_option maxRecDepth 100000
namespace Go.Proofs.Ytcfekacmmfdggaa.G
@[go_sem] theorem lrp_121_1 : lrp Try.prog 121 1 = (17, []) := by kernel_rfl
theorem lok_121 : (Try.f121.body.isSome && !(Try.f121.name == "runtime.NumGoroutine") && okL (bodyF Try.f121) Try.f121.ntmps (bodyF Try.f121)) = true := by kernel_rfl
def M_ident_changes_3 (x : T_api_Tree × T_api_Tree × T_api_Tree × T_api_Tree × T_api_Tree) : Option (T_api_Tree × Bool) :=
  M_ident_on (x.1, x.2.2.1, x.2.2.2.1) >>= fun r1 =>
  M_ident_on (x.2.1, r1, x.2.2.2.2) >>= fun r3 =>
  M_ident_named (x.1, x.2.2.2.2) >>= fun r5 =>
  if r5 = true then
    some (r3, false)
  else
    M_ident_rejects (x.1, x.2.1, x.2.2.2.1) >>= fun r8 =>
    some (r3, r8)
set_option maxHeartbeats 8000000 in
theorem M_ident_changes_3.w : ∀ (x : T_api_Tree × T_api_Tree × T_api_Tree × T_api_Tree × T_api_Tree) (r : T_api_Tree × Bool), M_ident_changes_3 x = some r → (fun (x : T_api_Tree × T_api_Tree × T_api_Tree × T_api_Tree × T_api_Tree) (r : T_api_Tree × Bool) => Fn Try.prog 121 [.agg (T_api_Tree.C x.1), .agg (T_api_Tree.C x.2.1), .agg (T_api_Tree.C x.2.2.1), .agg (T_api_Tree.C x.2.2.2.1), .agg (T_api_Tree.C x.2.2.2.2)] (.tuple [.agg (T_api_Tree.C r.1), .bool r.2])) x r := by
  intro x r h
  rw [M_ident_changes_3] at h
  try dsimp only
  refine Fn.of_lc mix fn_121 lok_121 (by rfl) (flC (T_api_Tree.flatC _) (flC (T_api_Tree.flatC _) (flC (T_api_Tree.flatC _) (flC (T_api_Tree.flatC _) (flC (T_api_Tree.flatC _) (flN)))))) (.tuple _ (flC (T_api_Tree.flatC _) (flC (.atom _) (flN)))) ?_
  simp -implicitDefEqProofs only [go_sem, Try.f121]
  obtain ⟨r1, h2, h⟩ := bind_some' h
  refine .plain _ _ rfl (M_ident_on.w (x.1, x.2.2.1, x.2.2.2.1) _ h2) ?_
  try simp -implicitDefEqProofs only [go_sem]
  obtain ⟨r3, h4, h⟩ := bind_some' h
  refine .plain _ _ rfl (M_ident_on.w (x.2.1, r1, x.2.2.2.2) _ h4) ?_
  try simp -implicitDefEqProofs only [go_sem]
  obtain ⟨r5, h6, h⟩ := bind_some' h
  refine .plain _ _ rfl (M_ident_named.w (x.1, x.2.2.2.2) _ h6) ?_
  try simp -implicitDefEqProofs only [go_sem]
  by_cases h7 : r5 = true
  · replace h := ite_some h h7
    try simp -implicitDefEqProofs only [go_sem, h7]
    injection h with h; subst h
    first | rfl | simp -implicitDefEqProofs only [go_sem, h7] <;> rfl
  · replace h := ite_none h h7; replace h7 := bfalse h7
    try simp -implicitDefEqProofs only [go_sem, h7]
    obtain ⟨r8, h9, h⟩ := bind_some' h
    refine .plain _ _ rfl (M_ident_rejects.w (x.1, x.2.1, x.2.2.2.1) _ h9) ?_
    try simp -implicitDefEqProofs only [go_sem, h7]
    injection h with h; subst h
    first | rfl | simp -implicitDefEqProofs only [go_sem, h7] <;> rfl
end Go.Proofs.Ytcfekacmmfdggaa.G
set_option linter.unusedVariables false
set_option linter.unusedSimpArgs false
set_option maxRecDepth 100000
namespace Go.Proofs.Ytcfekacmmfdggaa.G
@[go_sem] theorem lrp_122_1 : lrp Try.prog 122 1 = (11, []) := by kernel_rfl
theorem lok_122 : (Try.f122.body.isSome && !(Try.f122.name == "runtime.NumGoroutine") && okL (bodyF Try.f122) Try.f122.ntmps (bodyF Try.f122)) = true := by kernel_rfl
def M_ident_changes_4 (x : T_api_Tree × T_api_Tree × T_api_Tree × T_api_Tree × T_api_Tree) : Option (T_api_Tree × Bool) :=
  M_ident_on (x.2.1, x.2.2.1, x.2.2.2.2) >>= fun r1 =>
  M_ident_on (x.1, r1, x.2.2.2.1) >>= fun r3 =>
  M_ident_named (x.2.1, x.2.2.2.1) >>= fun r5 =>
  some (r3, (!r5))
set_option maxHeartbeats 8000000 in
theorem M_ident_changes_4.w : ∀ (x : T_api_Tree × T_api_Tree × T_api_Tree × T_api_Tree × T_api_Tree) (r : T_api_Tree × Bool), M_ident_changes_4 x = some r → (fun (x : T_api_Tree × T_api_Tree × T_api_Tree × T_api_Tree × T_api_Tree) (r : T_api_Tree × Bool) => Fn Try.prog 122 [.agg (T_api_Tree.C x.1), .agg (T_api_Tree.C x.2.1), .agg (T_api_Tree.C x.2.2.1), .agg (T_api_Tree.C x.2.2.2.1), .agg (T_api_Tree.C x.2.2.2.2)] (.tuple [.agg (T_api_Tree.C r.1), .bool r.2])) x r := by
  intro x r h
  rw [M_ident_changes_4] at h
  try dsimp only
  refine Fn.of_lc mix fn_122 lok_122 (by rfl) (flC (T_api_Tree.flatC _) (flC (T_api_Tree.flatC _) (flC (T_api_Tree.flatC _) (flC (T_api_Tree.flatC _) (flC (T_api_Tree.flatC _) (flN)))))) (.tuple _ (flC (T_api_Tree.flatC _) (flC (.atom _) (flN)))) ?_
  simp -implicitDefEqProofs only [go_sem, Try.f122]
  obtain ⟨r1, h2, h⟩ := bind_some' h
  refine .plain _ _ rfl (M_ident_on.w (x.2.1, x.2.2.1, x.2.2.2.2) _ h2) ?_
  try simp -implicitDefEqProofs only [go_sem]
  obtain ⟨r3, h4, h⟩ := bind_some' h
  refine .plain _ _ rfl (M_ident_on.w (x.1, r1, x.2.2.2.1) _ h4) ?_
  try simp -implicitDefEqProofs only [go_sem]
  obtain ⟨r5, h6, h⟩ := bind_some' h
  refine .plain _ _ rfl (M_ident_named.w (x.2.1, x.2.2.2.1) _ h6) ?_
  try simp -implicitDefEqProofs only [go_sem]
  injection h with h; subst h
  first | rfl | simp -implicitDefEqProofs only [go_sem] <;> rfl
end Go.Proofs.Ytcfekacmmfdggaa.G
set_option linter.unusedVariables false
set_option linter.unusedSimpArgs false
set_option maxRecDepth 100000
namespace Go.Proofs.Ytcfekacmmfdggaa.G
@[go_sem] theorem lrp_123_1 : lrp Try.prog 123 1 = (11, []) := by kernel_rfl
theorem lok_123 : (Try.f123.body.isSome && !(Try.f123.name == "runtime.NumGoroutine") && okL (bodyF Try.f123) Try.f123.ntmps (bodyF Try.f123)) = true := by kernel_rfl
def M_ident_changes_5 (x : T_api_Tree × T_api_Tree × T_api_Tree × T_api_Tree × T_api_Tree) : Option (T_api_Tree × Bool) :=
  M_ident_on (x.1, x.2.2.1, x.2.2.2.2) >>= fun r1 =>
  M_ident_on (x.2.1, x.2.2.2.1, r1) >>= fun r3 =>
  M_ident_named (x.1, x.2.2.2.1) >>= fun r5 =>
  some (r3, (!r5))
set_option maxHeartbeats 8000000 in
theorem M_ident_changes_5.w : ∀ (x : T_api_Tree × T_api_Tree × T_api_Tree × T_api_Tree × T_api_Tree) (r : T_api_Tree × Bool), M_ident_changes_5 x = some r → (fun (x : T_api_Tree × T_api_Tree × T_api_Tree × T_api_Tree × T_api_Tree) (r : T_api_Tree × Bool) => Fn Try.prog 123 [.agg (T_api_Tree.C x.1), .agg (T_api_Tree.C x.2.1), .agg (T_api_Tree.C x.2.2.1), .agg (T_api_Tree.C x.2.2.2.1), .agg (T_api_Tree.C x.2.2.2.2)] (.tuple [.agg (T_api_Tree.C r.1), .bool r.2])) x r := by
  intro x r h
  rw [M_ident_changes_5] at h
  try dsimp only
  refine Fn.of_lc mix fn_123 lok_123 (by rfl) (flC (T_api_Tree.flatC _) (flC (T_api_Tree.flatC _) (flC (T_api_Tree.flatC _) (flC (T_api_Tree.flatC _) (flC (T_api_Tree.flatC _) (flN)))))) (.tuple _ (flC (T_api_Tree.flatC _) (flC (.atom _) (flN)))) ?_
  simp -implicitDefEqProofs only [go_sem, Try.f123]
  obtain ⟨r1, h2, h⟩ := bind_some' h
  refine .plain _ _ rfl (M_ident_on.w (x.1, x.2.2.1, x.2.2.2.2) _ h2) ?_
  try simp -implicitDefEqProofs only [go_sem]
  obtain ⟨r3, h4, h⟩ := bind_some' h
  refine .plain _ _ rfl (M_ident_on.w (x.2.1, x.2.2.2.1, r1) _ h4) ?_
  try simp -implicitDefEqProofs only [go_sem]
  obtain ⟨r5, h6, h⟩ := bind_some' h
  refine .plain _ _ rfl (M_ident_named.w (x.1, x.2.2.2.1) _ h6) ?_
  try simp -implicitDefEqProofs only [go_sem]
  injection h with h; subst h
  first | rfl | simp -implicitDefEqProofs only [go_sem] <;> rfl
end Go.Proofs.Ytcfekacmmfdggaa.G
set_option linter.unusedVariables false
set_option linter.unusedSimpArgs false
set_option maxRecDepth 100000
namespace Go.Proofs.Ytcfekacmmfdggaa.G
@[go_sem] theorem lrp_80_2 : lrp Try.prog 80 2 = (10, [5, 7]) := by kernel_rfl
@[go_sem] theorem lrp_80_4 : lrp Try.prog 80 4 = (5, [1, 2, 3]) := by kernel_rfl
@[go_sem] theorem lrp_80_7 : lrp Try.prog 80 7 = (11, [1, 3, 5, 7, 9, 10]) := by kernel_rfl
@[go_sem] theorem lrp_80_8 : lrp Try.prog 80 8 = (11, [1, 2, 4, 6, 8, 10]) := by kernel_rfl
theorem lok_80 : (Try.f80.body.isSome && !(Try.f80.name == "runtime.NumGoroutine") && okL (bodyF Try.f80) Try.f80.ntmps (bodyF Try.f80)) = true := by kernel_rfl
def M_ident_parts (x : T_ident_change × T_api_Tree) : Option (T_api_Tree × T_api_Tree × T_api_Tree × T_api_Tree × T_api_Tree × Bool) :=
  if ((x.2.Kids.length : Int) != 2) = true then
    some ((⟨0, 0, [], [], false⟩ : T_api_Tree), (⟨0, 0, [], [], false⟩ : T_api_Tree), (⟨0, 0, [], [], false⟩ : T_api_Tree), (⟨0, 0, [], [], false⟩ : T_api_Tree), (⟨0, 0, [], [], false⟩ : T_api_Tree), false)
  else
    (x.2.Kids[0]?) >>= fun (e2 : T_api_Tree) =>
    (x.2.Kids[1]?) >>= fun (e4 : T_api_Tree) =>
    if (decide (x.1.kid < 0)) = true then
      some (x.2, x.2, e2, e4, (⟨0, 0, [], [], false⟩ : T_api_Tree), true)
    else
      (getI x.2.Kids x.1.kid) >>= fun (e7 : T_api_Tree) =>
      if ((e7.Kids.length : Int) != 2) = true then
        some ((⟨0, 0, [], [], false⟩ : T_api_Tree), (⟨0, 0, [], [], false⟩ : T_api_Tree), (⟨0, 0, [], [], false⟩ : T_api_Tree), (⟨0, 0, [], [], false⟩ : T_api_Tree), (⟨0, 0, [], [], false⟩ : T_api_Tree), false)
      else
        if (x.1.kid == 0) = true then
          (e2.Kids[0]?) >>= fun (e11 : T_api_Tree) =>
          (e2.Kids[1]?) >>= fun (e13 : T_api_Tree) =>
          some (e2, x.2, e11, e13, e4, true)
        else
          (e4.Kids[0]?) >>= fun (e15 : T_api_Tree) =>
          (e4.Kids[1]?) >>= fun (e17 : T_api_Tree) =>
          some (x.2, e4, e2, e15, e17, true)
set_option maxHeartbeats 8000000 in
theorem M_ident_parts.w : ∀ (x : T_ident_change × T_api_Tree) (r : T_api_Tree × T_api_Tree × T_api_Tree × T_api_Tree × T_api_Tree × Bool), M_ident_parts x = some r → (fun (x : T_ident_change × T_api_Tree) (r : T_api_Tree × T_api_Tree × T_api_Tree × T_api_Tree × T_api_Tree × Bool) => Fn Try.prog 80 [.agg (T_ident_change.C x.1), .agg (T_api_Tree.C x.2)] (.tuple [.agg (T_api_Tree.C r.1), .agg (T_api_Tree.C r.2.1), .agg (T_api_Tree.C r.2.2.1), .agg (T_api_Tree.C r.2.2.2.1), .agg (T_api_Tree.C r.2.2.2.2.1), .bool r.2.2.2.2.2])) x r := by
  intro x r h
  rw [M_ident_parts] at h
  try dsimp only
  refine Fn.of_lc mix fn_80 lok_80 (by rfl) (flC (T_ident_change.flatC _) (flC (T_api_Tree.flatC _) (flN))) (.tuple _ (flC (T_api_Tree.flatC _) (flC (T_api_Tree.flatC _) (flC (T_api_Tree.flatC _) (flC (T_api_Tree.flatC _) (flC (T_api_Tree.flatC _) (flC (.atom _) (flN)))))))) ?_
  simp -implicitDefEqProofs only [go_sem, Try.f80]
  by_cases h1 : ((x.2.Kids.length : Int) != 2) = true
  · replace h := ite_some h h1
    try simp -implicitDefEqProofs only [go_sem, h1]
    injection h with h; subst h
    first | rfl | simp -implicitDefEqProofs only [go_sem, h1] <;> rfl
  · replace h := ite_none h h1; replace h1 := bfalse h1
    try simp -implicitDefEqProofs only [go_sem, h1]
    obtain ⟨e2, h3, h⟩ := bind_some' h
    try simp -implicitDefEqProofs only [go_sem, h1, h3]
    obtain ⟨e4, h5, h⟩ := bind_some' h
    try simp -implicitDefEqProofs only [go_sem, h1, h3, h5]
    by_cases h6 : (decide (x.1.kid < 0)) = true
    · replace h := ite_some h h6
      try simp -implicitDefEqProofs only [go_sem, h1, h3, h5, h6]
      injection h with h; subst h
      first | rfl | simp -implicitDefEqProofs only [go_sem, h1, h3, h5, h6] <;> rfl
    · replace h := ite_none h h6; replace h6 := bfalse h6
      try simp -implicitDefEqProofs only [go_sem, h1, h3, h5, h6]
      obtain ⟨e7, h8, h⟩ := bind_some' h; replace h8 := getI_some h8; obtain ⟨h8', h8⟩ := h8
      try simp -implicitDefEqProofs only [go_sem, h1, h3, h5, h6, h8, h8']
      by_cases h9 : ((e7.Kids.length : Int) != 2) = true
      · replace h := ite_some h h9
        try simp -implicitDefEqProofs only [go_sem, h1, h3, h5, h6, h8, h8', h9]
        injection h with h; subst h
        first | rfl | simp -implicitDefEqProofs only [go_sem, h1, h3, h5, h6, h8, h8', h9] <;> rfl
      · replace h := ite_none h h9; replace h9 := bfalse h9
        try simp -implicitDefEqProofs only [go_sem, h1, h3, h5, h6, h8, h8', h9]
        by_cases h10 : (x.1.kid == 0) = true
        · replace h := ite_some h h10
          try simp -implicitDefEqProofs only [go_sem, h1, h3, h5, h6, h8, h8', h9, h10]
          obtain ⟨e11, h12, h⟩ := bind_some' h
          try simp -implicitDefEqProofs only [go_sem, h1, h3, h5, h6, h8, h8', h9, h10, h12]
          obtain ⟨e13, h14, h⟩ := bind_some' h
          try simp -implicitDefEqProofs only [go_sem, h1, h3, h5, h6, h8, h8', h9, h10, h12, h14]
          injection h with h; subst h
          first | rfl | simp -implicitDefEqProofs only [go_sem, h1, h3, h5, h6, h8, h8', h9, h10, h12, h14] <;> rfl
        · replace h := ite_none h h10; replace h10 := bfalse h10
          try simp -implicitDefEqProofs only [go_sem, h1, h3, h5, h6, h8, h8', h9, h10]
          obtain ⟨e15, h16, h⟩ := bind_some' h
          try simp -implicitDefEqProofs only [go_sem, h1, h3, h5, h6, h8, h8', h9, h10, h16]
          obtain ⟨e17, h18, h⟩ := bind_some' h
          try simp -implicitDefEqProofs only [go_sem, h1, h3, h5, h6, h8, h8', h9, h10, h16, h18]
          injection h with h; subst h
          first | rfl | simp -implicitDefEqProofs only [go_sem, h1, h3, h5, h6, h8, h8', h9, h10, h16, h18] <;> rfl
end Go.Proofs.Ytcfekacmmfdggaa.G
set_option linter.unusedVariables false
set_option linter.unusedSimpArgs false
set_option maxRecDepth 100000
namespace Go.Proofs.Ytcfekacmmfdggaa.G
theorem lok_36 : (Try.f36.body.isSome && !(Try.f36.name == "runtime.NumGoroutine") && okL (bodyF Try.f36) Try.f36.ntmps (bodyF Try.f36)) = true := by kernel_rfl
def M_fid_116_118_121_122_123 (x : Nat × T_api_Tree × T_api_Tree × T_api_Tree × T_api_Tree × T_api_Tree) : Option (T_api_Tree × Bool) :=
  if (x.1 == 116) = true then
    M_ident_changes_1 x.2
  else
    if (x.1 == 118) = true then
      M_ident_changes_2 x.2
    else
      if (x.1 == 121) = true then
        M_ident_changes_3 x.2
      else
        if (x.1 == 122) = true then
          M_ident_changes_4 x.2
        else
          if (x.1 == 123) = true then
            M_ident_changes_5 x.2
          else
            none
set_option maxHeartbeats 8000000 in
theorem M_fid_116_118_121_122_123.w : ∀ (x : Nat × T_api_Tree × T_api_Tree × T_api_Tree × T_api_Tree × T_api_Tree) (r : T_api_Tree × Bool), M_fid_116_118_121_122_123 x = some r → (fun (x : Nat × T_api_Tree × T_api_Tree × T_api_Tree × T_api_Tree × T_api_Tree) (r : T_api_Tree × Bool) => Fn Try.prog x.1 [.agg (T_api_Tree.C x.2.1), .agg (T_api_Tree.C x.2.2.1), .agg (T_api_Tree.C x.2.2.2.1), .agg (T_api_Tree.C x.2.2.2.2.1), .agg (T_api_Tree.C x.2.2.2.2.2)] (.tuple [.agg (T_api_Tree.C r.1), .bool r.2])) x r := by
  intro x r h
  rw [M_fid_116_118_121_122_123] at h
  try dsimp only
  by_cases h116 : (x.1 == 116) = true
  · replace h := ite_some h h116; have e : x.1 = 116 := by simpa using h116
    rw [e]; exact M_ident_changes_1.w _ _ h
  · replace h := ite_none h h116
    by_cases h118 : (x.1 == 118) = true
    · replace h := ite_some h h118; have e : x.1 = 118 := by simpa using h118
      rw [e]; exact M_ident_changes_2.w _ _ h
    · replace h := ite_none h h118
      by_cases h121 : (x.1 == 121) = true
      · replace h := ite_some h h121; have e : x.1 = 121 := by simpa using h121
        rw [e]; exact M_ident_changes_3.w _ _ h
      · replace h := ite_none h h121
        by_cases h122 : (x.1 == 122) = true
        · replace h := ite_some h h122; have e : x.1 = 122 := by simpa using h122
          rw [e]; exact M_ident_changes_4.w _ _ h
        · replace h := ite_none h h122
          by_cases h123 : (x.1 == 123) = true
          · replace h := ite_some h h123; have e : x.1 = 123 := by simpa using h123
            rw [e]; exact M_ident_changes_5.w _ _ h
          · replace h := ite_none h h123
            cases h
def M_ident_Do.l0 (x : Int × List T_ident_change × Int × Int × T_api_Tree × T_api_Tree) : Option (Lp (T_api_Tree) (T_api_Tree × Bool)) :=
  if (decide (x.2.2.2.1 < x.2.2.1)) = true then
    (getI x.2.1 x.2.2.2.1) >>= fun (e4 : T_ident_change) =>
    if (e4.how != x.1) = true then
      M_ident_Do.l0 (x.1, x.2.1, x.2.2.1, (w64 (x.2.2.2.1 + 1)), x.2.2.2.2.1, x.2.2.2.2.2)
    else
      M_ident_parts (e4, x.2.2.2.2.1) >>= fun r7 =>
      if r7.2.2.2.2.2 = true then
        M_ident_May (x.1, r7.1.Kind, r7.2.1.Kind) >>= fun r10 =>
        if r10 = true then
          M_fid_116_118_121_122_123 (e4.do_, r7.1, r7.2.1, r7.2.2.1, r7.2.2.2.1, r7.2.2.2.2.1) >>= fun r13 =>
          if r13.2 = true then
            M_tree_Copy r13.1 >>= fun r16 =>
            some (.ret (r16, true))
          else
            M_ident_Do.l0 (x.1, x.2.1, x.2.2.1, (w64 (x.2.2.2.1 + 1)), x.2.2.2.2.1, x.2.2.2.2.2)
        else
          some (.brk x.2.2.2.2.2)
      else
        some (.brk x.2.2.2.2.2)
  else
    some (.brk x.2.2.2.2.2)
  partial_fixpoint
set_option maxHeartbeats 8000000 in
theorem M_ident_Do.l0.ws : (∀ (x : Int × List T_ident_change × Int × Int × T_api_Tree × T_api_Tree) (o : Lp (T_api_Tree) (T_api_Tree × Bool)), M_ident_Do.l0 x = some o → (fun (x : Int × List T_ident_change × Int × Int × T_api_Tree × T_api_Tree) (o : Lp (T_api_Tree) (T_api_Tree × Bool)) => ∀ (lo : Option Nat) (c : LCtx) (Q : Exit → LEnv → Prop) (hb : ∀ s : T_api_Tree, o = Lp.brk s → Q (.exit 0) ⟨[(4, .lref 4 0)], [(4, [.v (.i64 s.Kind), .v (.i64 s.Table), .own 20000402 5 (s.Kids.map T_api_Tree.av), .own 20000403 14 (s.Conj.map T_api_Pred.av), .v (.bool s.Hash)])]⟩) (hr : ∀ (r : T_api_Tree × Bool) (L : LEnv), o = .ret r → LPostF Try.prog [.cell 4 31, .tmp 5] (.tuple [.agg (T_api_Tree.C r.1), .bool r.2]) (fun _ => True) .ret L → Q .ret L), LLoop Try.prog 36 lo c 0 (VQ Q) ⟨[(0, .v (.i64 x.1)), (3, .lref 3 0), (4, .lref 4 0), (16, .v (.slice .foreign (x.2.1.map T_ident_change.av))), (17, .v (.i64 x.2.2.1)), (18, .v (.i64 x.2.2.2.1))], [(3, [.v (.i64 x.2.2.2.2.1.Kind), .v (.i64 x.2.2.2.2.1.Table), .v (.slice .foreign (x.2.2.2.2.1.Kids.map T_api_Tree.av)), .v (.slice .foreign (x.2.2.2.2.1.Conj.map T_api_Pred.av)), .v (.bool x.2.2.2.2.1.Hash)]), (4, [.v (.i64 x.2.2.2.2.2.Kind), .v (.i64 x.2.2.2.2.2.Table), .own 20000402 5 (x.2.2.2.2.2.Kids.map T_api_Tree.av), .own 20000403 14 (x.2.2.2.2.2.Conj.map T_api_Pred.av), .v (.bool x.2.2.2.2.2.Hash)])]⟩) x o) := by
  refine M_ident_Do.l0.partial_correctness _ ?_
  · intro M_M_ident_Do_l0 ih_M_ident_Do_l0 x o h
    intro lo c Q hb hr
    refine LLoop.step mix fn_36 (by kernel_rfl) ?_
    simp -implicitDefEqProofs (maxSteps := 5000000) only [go_sem, Try.f36]
    by_cases h3 : (decide (x.2.2.2.1 < x.2.2.1)) = true
    · replace h := ite_some h h3
      try simp -implicitDefEqProofs (maxSteps := 5000000) only [go_sem, h3]
      obtain ⟨e4, h5, h⟩ := bind_some' h; replace h5 := getI_some h5; obtain ⟨h5', h5⟩ := h5
      try simp -implicitDefEqProofs (maxSteps := 5000000) only [go_sem, h3, h5, h5']
      by_cases h6 : (e4.how != x.1) = true
      · replace h := ite_some h h6
        try simp -implicitDefEqProofs (maxSteps := 5000000) only [go_sem, h3, h5, h5', h6]
        exact LLoop.view [(20000402, some 20000402), (20000403, some 20000403)] (by (first | rfl | simp -implicitDefEqProofs (maxSteps := 5000000) only [go_sem, h3, h5, h5', h6] <;> rfl)) (ih_M_ident_Do_l0 _ _ h lo c Q hb hr)
      · replace h := ite_none h h6; replace h6 := bfalse h6
        try simp -implicitDefEqProofs (maxSteps := 5000000) only [go_sem, h3, h5, h5', h6]
        obtain ⟨r7, h8, h⟩ := bind_some' h
        refine .plain _ _ rfl (M_ident_parts.w (e4, x.2.2.2.2.1) _ h8) ?_
        try simp -implicitDefEqProofs (maxSteps := 5000000) only [go_sem, h3, h5, h5', h6]
        by_cases h9 : r7.2.2.2.2.2 = true
        · replace h := ite_some h h9
          try simp -implicitDefEqProofs (maxSteps := 5000000) only [go_sem, h3, h5, h5', h6, h9]
          obtain ⟨r10, h11, h⟩ := bind_some' h
          refine .plain _ _ rfl (M_ident_May.w (x.1, r7.1.Kind, r7.2.1.Kind) _ h11) ?_
          try simp -implicitDefEqProofs (maxSteps := 5000000) only [go_sem, h3, h5, h5', h6, h9]
          by_cases h12 : r10 = true
          · replace h := ite_some h h12
            try simp -implicitDefEqProofs (maxSteps := 5000000) only [go_sem, h3, h5, h5', h6, h9, h12]
            obtain ⟨r13, h14, h⟩ := bind_some' h
            refine .plain _ _ rfl (M_fid_116_118_121_122_123.w (e4.do_, r7.1, r7.2.1, r7.2.2.1, r7.2.2.2.1, r7.2.2.2.2.1) _ h14) ?_
            try simp -implicitDefEqProofs (maxSteps := 5000000) only [go_sem, h3, h5, h5', h6, h9, h12]
            by_cases h15 : r13.2 = true
            · replace h := ite_some h h15
              try simp -implicitDefEqProofs (maxSteps := 5000000) only [go_sem, h3, h5, h5', h6, h9, h12, h15]
              obtain ⟨r16, h17, h⟩ := bind_some' h
              refine .plain _ _ rfl (M_tree_Copy.w r13.1 _ h17) ?_
              try simp -implicitDefEqProofs (maxSteps := 5000000) only [go_sem, h3, h5, h5', h6, h9, h12, h15]
              injection h with h; subst h
              exact .inl (hr _ _ rfl (by (first | rfl | simp -implicitDefEqProofs (maxSteps := 5000000) only [go_sem, h3, h5, h5', h6, h9, h12, h15] <;> rfl)))
            · replace h := ite_none h h15; replace h15 := bfalse h15
              try simp -implicitDefEqProofs (maxSteps := 5000000) only [go_sem, h3, h5, h5', h6, h9, h12, h15]
              exact LLoop.view [(20000402, some 20000402), (20000403, some 20000403)] (by (first | rfl | simp -implicitDefEqProofs (maxSteps := 5000000) only [go_sem, h3, h5, h5', h6, h9, h12, h15] <;> rfl)) (ih_M_ident_Do_l0 _ _ h lo c Q hb hr)
          · replace h := ite_none h h12; replace h12 := bfalse h12
            try simp -implicitDefEqProofs (maxSteps := 5000000) only [go_sem, h3, h5, h5', h6, h9, h12]
            injection h with h; subst h
            exact .inr ⟨[(20000402, some 20000402), (20000403, some 20000403)], _, by (simp -implicitDefEqProofs (maxSteps := 5000000) only [go_sem, h3, h5, h5', h6, h9, h12] <;> first | done | rfl | trivial), hb _ rfl⟩
        · replace h := ite_none h h9; replace h9 := bfalse h9
          try simp -implicitDefEqProofs (maxSteps := 5000000) only [go_sem, h3, h5, h5', h6, h9]
          injection h with h; subst h
          exact .inr ⟨[(20000402, some 20000402), (20000403, some 20000403)], _, by (simp -implicitDefEqProofs (maxSteps := 5000000) only [go_sem, h3, h5, h5', h6, h9] <;> first | done | rfl | trivial), hb _ rfl⟩
    · replace h := ite_none h h3; replace h3 := bfalse h3
      try simp -implicitDefEqProofs (maxSteps := 5000000) only [go_sem, h3]
      injection h with h; subst h
      exact .inr ⟨[(20000402, some 20000402), (20000403, some 20000403)], _, by (simp -implicitDefEqProofs (maxSteps := 5000000) only [go_sem, h3] <;> first | done | rfl | trivial), hb _ rfl⟩
theorem M_ident_Do.l0.w : type_of% @M_ident_Do.l0.ws := @M_ident_Do.l0.ws
def M_ident_Do (x : Int × T_api_Tree) : Option (T_api_Tree × Bool) :=
  M_ident_changes () >>= fun r1 =>
  M_ident_Do.l0 (x.1, r1, (r1.length : Int), 0, x.2, (⟨0, 0, [], [], false⟩ : T_api_Tree)) >>= fun (o18 : Lp (T_api_Tree) (T_api_Tree × Bool)) => match o18 with
  | .brk s21 =>
    some ((⟨0, 0, [], [], false⟩ : T_api_Tree), false)
  | .ret r20 =>
    some r20
set_option maxHeartbeats 8000000 in
theorem M_ident_Do.w : ∀ (x : Int × T_api_Tree) (r : T_api_Tree × Bool), M_ident_Do x = some r → (fun (x : Int × T_api_Tree) (r : T_api_Tree × Bool) => Fn Try.prog 36 [.i64 x.1, .agg (T_api_Tree.C x.2)] (.tuple [.agg (T_api_Tree.C r.1), .bool r.2])) x r := by
  intro x r h
  rw [M_ident_Do] at h
  try dsimp only
  refine Fn.of_lc mix fn_36 lok_36 (by rfl) (flC (.atom _) (flC (T_api_Tree.flatC _) (flN))) (.tuple _ (flC (T_api_Tree.flatC _) (flC (.atom _) (flN)))) ?_
  simp -implicitDefEqProofs (maxSteps := 5000000) only [go_sem, Try.f36]
  obtain ⟨r1, h2, h⟩ := bind_some' h
  refine .plain _ _ rfl (M_ident_changes.w () _ h2) ?_
  try simp -implicitDefEqProofs (maxSteps := 5000000) only [go_sem]
  obtain ⟨o18, h19, h⟩ := bind_some' h
  refine LLoop.viewQ (LLoop.view [(20000402, none), (20000403, none)] (by (first | rfl | simp -implicitDefEqProofs (maxSteps := 5000000) only [go_sem] <;> rfl)) (M_ident_Do.l0.w (x.1, r1, (r1.length : Int), 0, x.2, (⟨0, 0, [], [], false⟩ : T_api_Tree)) _ h19 _ _ _ ?_ ?_))
  · intro s21 hs'; subst hs'
    try simp -implicitDefEqProofs (maxSteps := 5000000) only [go_sem]
    injection h with h; subst h
    first | rfl | simp -implicitDefEqProofs (maxSteps := 5000000) only [go_sem] <;> rfl
  · intro r20 L' hs' hL'; subst hs'
    injection h with h; subst h
    first | exact hL' | (simp -implicitDefEqProofs (maxSteps := 5000000) only [go_sem]; exact hL') | (simp -implicitDefEqProofs (maxSteps := 5000000) only [go_sem]; simp -implicitDefEqProofs (maxSteps := 5000000) only [go_sem] at hL'; exact hL')
end Go.Proofs.Ytcfekacmmfdggaa.G
set_option linter.unusedVariables false
set_option linter.unusedSimpArgs false
set_option maxRecDepth 100000
namespace Go.Proofs.Ytcfekacmmfdggaa.G
theorem lok_78 : (Try.f78.body.isSome && !(Try.f78.name == "runtime.NumGoroutine") && okL (bodyF Try.f78) Try.f78.ntmps (bodyF Try.f78)) = true := by kernel_rfl
section
attribute [local instance] mu_31
def M_ident_Ways.l0 (x : List T_api_Tree × Int × T_api_Tree) : Option (List T_api_Tree) :=
  if (decide (x.2.1 ≤ 5)) = true then
    M_ident_Do (x.2.1, x.2.2) >>= fun r2 =>
    if r2.2 = true then
      (room 72 x.1 ([r2.1])) >>= fun (z5 : List T_api_Tree) =>
      M_ident_Ways.l0 (z5, (w64 (x.2.1 + 1)), x.2.2)
    else
      M_ident_Ways.l0 (x.1, (w64 (x.2.1 + 1)), x.2.2)
  else
    some x.1
  partial_fixpoint
theorem M_ident_Ways.l0.ws : (∀ (x : List T_api_Tree × Int × T_api_Tree) (o : List T_api_Tree), M_ident_Ways.l0 x = some o → (fun (x : List T_api_Tree × Int × T_api_Tree) (o : List T_api_Tree) => ∀ (lo : Option Nat) (c : LCtx) (Q : Exit → LEnv → Prop) (hb : ∀ s : List T_api_Tree, o = s → Q (.exit 0) ⟨[(1, .lref 1 0), (3, .own 50100300 5 (s.map T_api_Tree.av))], [(1, [.v (.i64 x.2.2.Kind), .v (.i64 x.2.2.Table), .v (.slice .foreign (x.2.2.Kids.map T_api_Tree.av)), .v (.slice .foreign (x.2.2.Conj.map T_api_Pred.av)), .v (.bool x.2.2.Hash)])]⟩), LLoop Try.prog 78 lo c 0 (VQ Q) ⟨[(1, .lref 1 0), (3, .own 50100300 5 (x.1.map T_api_Tree.av)), (4, .v (.i64 x.2.1))], [(1, [.v (.i64 x.2.2.Kind), .v (.i64 x.2.2.Table), .v (.slice .foreign (x.2.2.Kids.map T_api_Tree.av)), .v (.slice .foreign (x.2.2.Conj.map T_api_Pred.av)), .v (.bool x.2.2.Hash)])]⟩) x o) := by
  refine M_ident_Ways.l0.partial_correctness _ ?_
  · intro M_M_ident_Ways_l0 ih_M_ident_Ways_l0 x o h
    intro lo c Q hb
    refine LLoop.step mix fn_78 (by kernel_rfl) ?_
    simp -implicitDefEqProofs only [go_sem, Try.f78]
    by_cases h1 : (decide (x.2.1 ≤ 5)) = true
    · replace h := ite_some h h1
      try simp -implicitDefEqProofs only [go_sem, h1]
      obtain ⟨r2, h3, h⟩ := bind_some' h
      refine .plain _ _ rfl (M_ident_Do.w (x.2.1, x.2.2) _ h3) ?_
      try simp -implicitDefEqProofs only [go_sem, h1]
      by_cases h4 : r2.2 = true
      · replace h := ite_some h h4
        try simp -implicitDefEqProofs only [go_sem, h1, h4]
        obtain ⟨z5, h6, h⟩ := bind_some' h; replace h6 := room_some h6; obtain ⟨h6', rfl⟩ := h6
        refine LApp.map (F := T_api_Tree.av) (xs := x.1) (ys := [r2.1]) t28_elem t31_size t31_bytes t31_zsize rfl T_api_Tree.len (by (first | rfl | simp -implicitDefEqProofs only [go_sem, h1, h4] <;> rfl)) (by (first | rfl | simp -implicitDefEqProofs only [go_sem, h1, h4] <;> rfl)) h6' ?_
        try simp -implicitDefEqProofs only [go_sem, h1, h4]
        exact LLoop.view [(50100300, some 50000025)] (by (first | rfl | simp -implicitDefEqProofs only [go_sem, h1, h4] <;> rfl)) (ih_M_ident_Ways_l0 _ _ h lo c Q hb)
      · replace h := ite_none h h4; replace h4 := bfalse h4
        try simp -implicitDefEqProofs only [go_sem, h1, h4]
        exact LLoop.view [(50100300, some 50100300)] (by (first | rfl | simp -implicitDefEqProofs only [go_sem, h1, h4] <;> rfl)) (ih_M_ident_Ways_l0 _ _ h lo c Q hb)
    · replace h := ite_none h h1; replace h1 := bfalse h1
      try simp -implicitDefEqProofs only [go_sem, h1]
      injection h with h; subst h
      exact .inr ⟨[(50100300, some 50100300)], _, by (simp -implicitDefEqProofs only [go_sem, h1] <;> first | done | rfl | trivial), hb _ rfl⟩
theorem M_ident_Ways.l0.w : type_of% @M_ident_Ways.l0.ws := @M_ident_Ways.l0.ws
end
section
attribute [local instance] mu_31
def M_ident_Ways.l2 (x : List T_api_Tree × Int × List T_api_Tree × Int × Int × T_api_Tree) : Option (List T_api_Tree) :=
  if (decide (x.2.2.2.2.1 < x.2.2.2.1)) = true then
    (getI x.2.2.1 x.2.2.2.2.1) >>= fun (e16 : T_api_Tree) =>
    none
  else
    some x.1
set_option maxHeartbeats 8000000 in
theorem M_ident_Ways.l2.w : ∀ (x : List T_api_Tree × Int × List T_api_Tree × Int × Int × T_api_Tree) (o : List T_api_Tree), M_ident_Ways.l2 x = some o → (fun (x : List T_api_Tree × Int × List T_api_Tree × Int × Int × T_api_Tree) (o : List T_api_Tree) => ∀ (lo : Option Nat) (c : LCtx) (Q : Exit → LEnv → Prop) (hb : ∀ s : List T_api_Tree, o = s → Q (.exit 4) ⟨[(1, .lref 1 0), (3, .own 50100300 5 (s.map T_api_Tree.av)), (7, .v (.i64 x.2.1))], [(1, [.v (.i64 x.2.2.2.2.2.Kind), .v (.i64 x.2.2.2.2.2.Table), .v (.slice .foreign (x.2.2.2.2.2.Kids.map T_api_Tree.av)), .v (.slice .foreign (x.2.2.2.2.2.Conj.map T_api_Pred.av)), .v (.bool x.2.2.2.2.2.Hash)])]⟩), LLoop Try.prog 78 lo c 2 (VQ Q) ⟨[(1, .lref 1 0), (3, .own 50100300 5 (x.1.map T_api_Tree.av)), (7, .v (.i64 x.2.1)), (41, .v (.slice .foreign (x.2.2.1.map T_api_Tree.av))), (42, .v (.i64 x.2.2.2.1)), (43, .v (.i64 x.2.2.2.2.1))], [(1, [.v (.i64 x.2.2.2.2.2.Kind), .v (.i64 x.2.2.2.2.2.Table), .v (.slice .foreign (x.2.2.2.2.2.Kids.map T_api_Tree.av)), .v (.slice .foreign (x.2.2.2.2.2.Conj.map T_api_Pred.av)), .v (.bool x.2.2.2.2.2.Hash)])]⟩) x o := by
  intro x o h
  rw [M_ident_Ways.l2] at h
  try dsimp only
  intro lo c Q hb
  refine LLoop.step mix fn_78 (by kernel_rfl) ?_
  simp -implicitDefEqProofs only [go_sem, Try.f78]
  by_cases h15 : (decide (x.2.2.2.2.1 < x.2.2.2.1)) = true
  · replace h := ite_some h h15
    try simp -implicitDefEqProofs only [go_sem, h15]
    obtain ⟨e16, h17, h⟩ := bind_some' h; replace h17 := getI_some h17; obtain ⟨h17', h17⟩ := h17
    try simp -implicitDefEqProofs only [go_sem, h15, h17, h17']
    cases h
  · replace h := ite_none h h15; replace h15 := bfalse h15
    try simp -implicitDefEqProofs only [go_sem, h15]
    injection h with h; subst h
    exact .inr ⟨[(50100300, some 50100300)], _, by (simp -implicitDefEqProofs only [go_sem, h15] <;> first | done | rfl | trivial), hb _ rfl⟩
end
section
attribute [local instance] mu_31
mutual
def M_ident_Ways.l1 (x : List T_api_Tree × Int × T_api_Tree) : Option (List T_api_Tree) :=
  if (decide (x.2.1 < 2)) = true then
    if ((x.2.2.Kids.length : Int) == 2) = true then
      (getI x.2.2.Kids x.2.1) >>= fun (e11 : T_api_Tree) =>
      M_ident_Ways e11 >>= fun r13 =>
      M_ident_Ways.l2 (x.1, x.2.1, r13, (r13.length : Int), 0, x.2.2) >>= fun (o18 : List T_api_Tree) =>
      M_ident_Ways.l1 (o18, (w64 (x.2.1 + 1)), x.2.2)
    else
      some x.1
  else
    some x.1
  partial_fixpoint
def M_ident_Ways (x : T_api_Tree) : Option (List T_api_Tree) :=
  M_ident_Ways.l0 (([] : List T_api_Tree), 1, x) >>= fun (o7 : List T_api_Tree) =>
  M_ident_Ways.l1 (o7, 0, x) >>= fun (o20 : List T_api_Tree) =>
  some o20
  partial_fixpoint
end
theorem M_ident_Ways.l1.ws : (∀ (x : List T_api_Tree × Int × T_api_Tree) (o : List T_api_Tree), M_ident_Ways.l1 x = some o → (fun (x : List T_api_Tree × Int × T_api_Tree) (o : List T_api_Tree) => ∀ (lo : Option Nat) (c : LCtx) (Q : Exit → LEnv → Prop) (hb : ∀ s : List T_api_Tree, o = s → Q (.exit 2) ⟨[(3, .own 50100300 5 (s.map T_api_Tree.av))], []⟩), LLoop Try.prog 78 lo c 1 (VQ Q) ⟨[(1, .lref 1 0), (3, .own 50100300 5 (x.1.map T_api_Tree.av)), (7, .v (.i64 x.2.1))], [(1, [.v (.i64 x.2.2.Kind), .v (.i64 x.2.2.Table), .v (.slice .foreign (x.2.2.Kids.map T_api_Tree.av)), .v (.slice .foreign (x.2.2.Conj.map T_api_Pred.av)), .v (.bool x.2.2.Hash)])]⟩) x o) ∧ (∀ (x : T_api_Tree) (o : List T_api_Tree), M_ident_Ways x = some o → (fun (x : T_api_Tree) (r : List T_api_Tree) => Fn Try.prog 78 [.agg (T_api_Tree.C x)] (.slice .foreign (r.map T_api_Tree.av))) x o) := by
  refine M_ident_Ways.l1.mutual_partial_correctness _ _ ?_ ?_
  · intro M_M_ident_Ways_l1 M_M_ident_Ways ih_M_ident_Ways_l1 ih_M_ident_Ways x o h
    intro lo c Q hb
    refine LLoop.step mix fn_78 (by kernel_rfl) ?_
    simp -implicitDefEqProofs only [go_sem, Try.f78]
    by_cases h9 : (decide (x.2.1 < 2)) = true
    · replace h := ite_some h h9
      try simp -implicitDefEqProofs only [go_sem, h9]
      by_cases h10 : ((x.2.2.Kids.length : Int) == 2) = true
      · replace h := ite_some h h10
        try simp -implicitDefEqProofs only [go_sem, h9, h10]
        obtain ⟨e11, h12, h⟩ := bind_some' h; replace h12 := getI_some h12; obtain ⟨h12', h12⟩ := h12
        try simp -implicitDefEqProofs only [go_sem, h9, h10, h12, h12']
        obtain ⟨r13, h14, h⟩ := bind_some' h
        refine .plain _ _ rfl (ih_M_ident_Ways e11 _ h14) ?_
        try simp -implicitDefEqProofs only [go_sem, h9, h10, h12, h12']
        obtain ⟨o18, h19, h⟩ := bind_some' h
        refine LLoop.viewQ (LLoop.view [(50100300, some 50100300)] (by (first | rfl | simp -implicitDefEqProofs only [go_sem, h9, h10, h12, h12'] <;> rfl)) (M_ident_Ways.l2.w (x.1, x.2.1, r13, (r13.length : Int), 0, x.2.2) _ h19 _ _ _ ?_))
        intro s' hs'; subst hs'
        try simp -implicitDefEqProofs only [go_sem, h9, h10, h12, h12']
        exact LLoop.view [(50100300, some 50100300)] (by (first | rfl | simp -implicitDefEqProofs only [go_sem, h9, h10, h12, h12'] <;> rfl)) (ih_M_ident_Ways_l1 _ _ h lo c Q hb)
      · replace h := ite_none h h10; replace h10 := bfalse h10
        try simp -implicitDefEqProofs only [go_sem, h9, h10]
        injection h with h; subst h
        exact .inr ⟨[(50100300, some 50100300)], _, by (simp -implicitDefEqProofs only [go_sem, h9, h10] <;> first | done | rfl | trivial), hb _ rfl⟩
    · replace h := ite_none h h9; replace h9 := bfalse h9
      try simp -implicitDefEqProofs only [go_sem, h9]
      injection h with h; subst h
      exact .inr ⟨[(50100300, some 50100300)], _, by (simp -implicitDefEqProofs only [go_sem, h9] <;> first | done | rfl | trivial), hb _ rfl⟩
  · intro M_M_ident_Ways_l1 ih_M_ident_Ways_l1 x r h
    refine Fn.of_lc mix fn_78 lok_78 (by rfl) (flC (T_api_Tree.flatC _) (flN)) (flat_slice _ T_api_Tree.flat _) ?_
    simp -implicitDefEqProofs only [go_sem, Try.f78]
    obtain ⟨o7, h8, h⟩ := bind_some' h
    refine LLoop.viewQ (LLoop.view [(50100300, none)] (by (first | rfl | simp -implicitDefEqProofs only [go_sem] <;> rfl)) (M_ident_Ways.l0.w (([] : List T_api_Tree), 1, x) _ h8 _ _ _ ?_))
    intro s' hs'; subst hs'
    try simp -implicitDefEqProofs only [go_sem]
    obtain ⟨o20, h21, h⟩ := bind_some' h
    refine LLoop.viewQ (LLoop.view [(50100300, some 50100300)] (by (first | rfl | simp -implicitDefEqProofs only [go_sem] <;> rfl)) (ih_M_ident_Ways_l1 (o7, 0, x) _ h21 _ _ _ ?_))
    intro s' hs'; subst hs'
    try simp -implicitDefEqProofs only [go_sem]
    injection h with h; subst h
    first | rfl | simp -implicitDefEqProofs only [go_sem] <;> rfl
theorem M_ident_Ways.w : type_of% (M_ident_Ways.l1.ws.2) := (M_ident_Ways.l1.ws.2)
end
end Go.Proofs.Ytcfekacmmfdggaa.G
set_option linter.unusedVariables false
set_option linter.unusedSimpArgs false
set_option maxRecDepth 100000
namespace Go.Proofs.Ytcfekacmmfdggaa.G
theorem lok_61 : (Try.f61.body.isSome && !(Try.f61.name == "runtime.NumGoroutine") && okL (bodyF Try.f61) Try.f61.ntmps (bodyF Try.f61)) = true := by kernel_rfl
def M_law06_Equal (x : Int × Int) : Option (T_api_Pred) :=
  some (⟨2, 0, 1, (⟨1, x.1, 0, (⟨false, 0⟩ : T_api_Value)⟩ : T_api_Term), (⟨1, x.2, 0, (⟨false, 0⟩ : T_api_Value)⟩ : T_api_Term), []⟩ : T_api_Pred)
set_option maxHeartbeats 8000000 in
theorem M_law06_Equal.w : ∀ (x : Int × Int) (r : T_api_Pred), M_law06_Equal x = some r → (fun (x : Int × Int) (r : T_api_Pred) => Fn Try.prog 61 [.i64 x.1, .i64 x.2] (.agg (T_api_Pred.C r))) x r := by
  intro x r h
  rw [M_law06_Equal] at h
  try dsimp only
  refine Fn.of_lc mix fn_61 lok_61 (by rfl) (flC (.atom _) (flC (.atom _) (flN))) (T_api_Pred.flatC _) ?_
  simp -implicitDefEqProofs only [go_sem, Try.f61]
  injection h with h; subst h
  first | rfl | simp -implicitDefEqProofs only [go_sem] <;> rfl
end Go.Proofs.Ytcfekacmmfdggaa.G
set_option linter.unusedVariables false
set_option linter.unusedSimpArgs false
set_option maxRecDepth 100000
namespace Go.Proofs.Ytcfekacmmfdggaa.G
theorem lok_60 : (Try.f60.body.isSome && !(Try.f60.name == "runtime.NumGoroutine") && okL (bodyF Try.f60) Try.f60.ntmps (bodyF Try.f60)) = true := by kernel_rfl
def M_ref10_LeafOf (x : Int) : Option (T_api_Tree) :=
  some (⟨0, x, [], [], false⟩ : T_api_Tree)
set_option maxHeartbeats 8000000 in
theorem M_ref10_LeafOf.w : ∀ (x : Int) (r : T_api_Tree), M_ref10_LeafOf x = some r → (fun (x : Int) (r : T_api_Tree) => Fn Try.prog 60 [.i64 x] (.agg (T_api_Tree.C r))) x r := by
  intro x r h
  rw [M_ref10_LeafOf] at h
  try dsimp only
  refine Fn.of_lc mix fn_60 lok_60 (by rfl) (flC (.atom _) (flN)) (T_api_Tree.flatC _) ?_
  simp -implicitDefEqProofs only [go_sem, Try.f60]
  injection h with h; subst h
  first | rfl | simp -implicitDefEqProofs only [go_sem] <;> rfl
end Go.Proofs.Ytcfekacmmfdggaa.G
set_option linter.unusedVariables false
set_option linter.unusedSimpArgs false
set_option maxRecDepth 100000
namespace Go.Proofs.Ytcfekacmmfdggaa.G
theorem lok_59 : (Try.f59.body.isSome && !(Try.f59.name == "runtime.NumGoroutine") && okL (bodyF Try.f59) Try.f59.ntmps (bodyF Try.f59)) = true := by kernel_rfl
def M_ref10_On (x : Int × T_api_Tree × T_api_Tree × List T_api_Pred) : Option (T_api_Tree) :=
  some (⟨x.1, 0, [x.2.1, x.2.2.1], x.2.2.2, false⟩ : T_api_Tree)
set_option maxHeartbeats 8000000 in
theorem M_ref10_On.w : ∀ (x : Int × T_api_Tree × T_api_Tree × List T_api_Pred) (r : T_api_Tree), M_ref10_On x = some r → (fun (x : Int × T_api_Tree × T_api_Tree × List T_api_Pred) (r : T_api_Tree) => Fn Try.prog 59 [.i64 x.1, .agg (T_api_Tree.C x.2.1), .agg (T_api_Tree.C x.2.2.1), .slice .foreign (x.2.2.2.map T_api_Pred.av)] (.agg (T_api_Tree.C r))) x r := by
  intro x r h
  rw [M_ref10_On] at h
  try dsimp only
  refine Fn.of_lc mix fn_59 lok_59 (by rfl) (flC (.atom _) (flC (T_api_Tree.flatC _) (flC (T_api_Tree.flatC _) (flC (flat_slice _ T_api_Pred.flat _) (flN))))) (T_api_Tree.flatC _) ?_
  simp -implicitDefEqProofs only [go_sem, Try.f59]
  injection h with h; subst h
  first | rfl | simp -implicitDefEqProofs only [go_sem] <;> rfl
end Go.Proofs.Ytcfekacmmfdggaa.G
set_option linter.unusedVariables false
set_option linter.unusedSimpArgs false
set_option maxRecDepth 100000
namespace Go.Proofs.Ytcfekacmmfdggaa.G
theorem lok_39 : (Try.f39.body.isSome && !(Try.f39.name == "runtime.NumGoroutine") && okL (bodyF Try.f39) Try.f39.ntmps (bodyF Try.f39)) = true := by kernel_rfl
def M_law10_Two (x : Int) : Option (T_api_Tree) :=
  M_ref10_LeafOf 0 >>= fun r1 =>
  M_ref10_LeafOf 1 >>= fun r3 =>
  M_law06_Equal (0, 1) >>= fun r5 =>
  M_ref10_On (x, r1, r3, [r5]) >>= fun r7 =>
  some r7
set_option maxHeartbeats 8000000 in
theorem M_law10_Two.w : ∀ (x : Int) (r : T_api_Tree), M_law10_Two x = some r → (fun (x : Int) (r : T_api_Tree) => Fn Try.prog 39 [.i64 x] (.agg (T_api_Tree.C r))) x r := by
  intro x r h
  rw [M_law10_Two] at h
  try dsimp only
  refine Fn.of_lc mix fn_39 lok_39 (by rfl) (flC (.atom _) (flN)) (T_api_Tree.flatC _) ?_
  simp -implicitDefEqProofs only [go_sem, Try.f39]
  obtain ⟨r1, h2, h⟩ := bind_some' h
  refine .plain _ _ rfl (M_ref10_LeafOf.w 0 _ h2) ?_
  try simp -implicitDefEqProofs only [go_sem]
  obtain ⟨r3, h4, h⟩ := bind_some' h
  refine .plain _ _ rfl (M_ref10_LeafOf.w 1 _ h4) ?_
  try simp -implicitDefEqProofs only [go_sem]
  obtain ⟨r5, h6, h⟩ := bind_some' h
  refine .plain _ _ rfl (M_law06_Equal.w (0, 1) _ h6) ?_
  try simp -implicitDefEqProofs only [go_sem]
  obtain ⟨r7, h8, h⟩ := bind_some' h
  have hw := M_ref10_On.w (x, r1, r3, [r5]) _ h8
  simp -implicitDefEqProofs only [go_sem] at hw
  refine .plain _ _ rfl hw ?_
  clear hw
  try simp -implicitDefEqProofs only [go_sem]
  injection h with h; subst h
  first | rfl | simp -implicitDefEqProofs only [go_sem] <;> rfl
end Go.Proofs.Ytcfekacmmfdggaa.G
set_option linter.unusedVariables false
set_option linter.unusedSimpArgs false
set_option maxRecDepth 100000
namespace Go.Proofs.Ytcfekacmmfdggaa.G
theorem lok_35 : (Try.f35.body.isSome && !(Try.f35.name == "runtime.NumGoroutine") && okL (bodyF Try.f35) Try.f35.ntmps (bodyF Try.f35)) = true := by kernel_rfl
def M_law17_awake (x : Unit) : Option (Bool) :=
  M_law10_Two 1 >>= fun r1 =>
  M_ident_Do (1, r1) >>= fun r3 =>
  M_law10_Two 2 >>= fun r5 =>
  M_ident_Do (1, r5) >>= fun r7 =>
  M_law10_Two 2 >>= fun r9 =>
  M_ref10_LeafOf 2 >>= fun r11 =>
  M_law06_Equal (1, 2) >>= fun r13 =>
  M_ref10_On (2, r9, r11, [r13]) >>= fun r15 =>
  M_ident_Do (2, r15) >>= fun r17 =>
  if r3.2 = true then
    (r3.1.Kids[0]?) >>= fun (e20 : T_api_Tree) =>
    if (e20.Table == 1) = true then
      if r7.2 = true then
        some false
      else
        if r17.2 = true then
          (r17.1.Kids[0]?) >>= fun (e25 : T_api_Tree) =>
          if (e25.Table == 0) = true then
            (r17.1.Kids[1]?) >>= fun (e28 : T_api_Tree) =>
            (e28.Kids[0]?) >>= fun (e30 : T_api_Tree) =>
            if (e30.Table == 1) = true then
              M_ident_May (4, 4, 2) >>= fun r33 =>
              if r33 = true then
                M_ident_May (2, 3, 1) >>= fun r36 =>
                if r36 = true then
                  some false
                else
                  M_ident_Ways r15 >>= fun r39 =>
                  some ((r39.length : Int) == 1)
              else
                some false
            else
              some false
          else
            some false
        else
          some false
    else
      some false
  else
    some false
set_option maxHeartbeats 8000000 in
theorem M_law17_awake.w : ∀ (x : Unit) (r : Bool), M_law17_awake x = some r → (fun (x : Unit) (r : Bool) => Fn Try.prog 35 [] (.bool r)) x r := by
  intro x r h
  rw [M_law17_awake] at h
  try dsimp only
  refine Fn.of_lc mix fn_35 lok_35 (by rfl) (flN) (.atom _) ?_
  simp -implicitDefEqProofs only [go_sem, Try.f35]
  obtain ⟨r1, h2, h⟩ := bind_some' h
  refine .plain _ _ rfl (M_law10_Two.w 1 _ h2) ?_
  try simp -implicitDefEqProofs only [go_sem]
  obtain ⟨r3, h4, h⟩ := bind_some' h
  refine .plain _ _ rfl (M_ident_Do.w (1, r1) _ h4) ?_
  try simp -implicitDefEqProofs only [go_sem]
  obtain ⟨r5, h6, h⟩ := bind_some' h
  refine .plain _ _ rfl (M_law10_Two.w 2 _ h6) ?_
  try simp -implicitDefEqProofs only [go_sem]
  obtain ⟨r7, h8, h⟩ := bind_some' h
  refine .plain _ _ rfl (M_ident_Do.w (1, r5) _ h8) ?_
  try simp -implicitDefEqProofs only [go_sem]
  obtain ⟨r9, h10, h⟩ := bind_some' h
  refine .plain _ _ rfl (M_law10_Two.w 2 _ h10) ?_
  try simp -implicitDefEqProofs only [go_sem]
  obtain ⟨r11, h12, h⟩ := bind_some' h
  refine .plain _ _ rfl (M_ref10_LeafOf.w 2 _ h12) ?_
  try simp -implicitDefEqProofs only [go_sem]
  obtain ⟨r13, h14, h⟩ := bind_some' h
  refine .plain _ _ rfl (M_law06_Equal.w (1, 2) _ h14) ?_
  try simp -implicitDefEqProofs only [go_sem]
  obtain ⟨r15, h16, h⟩ := bind_some' h
  have hw := M_ref10_On.w (2, r9, r11, [r13]) _ h16
  simp -implicitDefEqProofs only [go_sem] at hw
  refine .plain _ _ rfl hw ?_
  clear hw
  try simp -implicitDefEqProofs only [go_sem]
  obtain ⟨r17, h18, h⟩ := bind_some' h
  refine .plain _ _ rfl (M_ident_Do.w (2, r15) _ h18) ?_
  try simp -implicitDefEqProofs only [go_sem]
  by_cases h19 : r3.2 = true
  · replace h := ite_some h h19
    try simp -implicitDefEqProofs only [go_sem, h19]
    obtain ⟨e20, h21, h⟩ := bind_some' h
    try simp -implicitDefEqProofs only [go_sem, h19, h21]
    by_cases h22 : (e20.Table == 1) = true
    · replace h := ite_some h h22
      try simp -implicitDefEqProofs only [go_sem, h19, h21, h22]
      by_cases h23 : r7.2 = true
      · replace h := ite_some h h23
        try simp -implicitDefEqProofs only [go_sem, h19, h21, h22, h23]
        injection h with h; subst h
        first | rfl | simp -implicitDefEqProofs only [go_sem, h19, h21, h22, h23] <;> rfl
      · replace h := ite_none h h23; replace h23 := bfalse h23
        try simp -implicitDefEqProofs only [go_sem, h19, h21, h22, h23]
        by_cases h24 : r17.2 = true
        · replace h := ite_some h h24
          try simp -implicitDefEqProofs only [go_sem, h19, h21, h22, h23, h24]
          obtain ⟨e25, h26, h⟩ := bind_some' h
          try simp -implicitDefEqProofs only [go_sem, h19, h21, h22, h23, h24, h26]
          by_cases h27 : (e25.Table == 0) = true
          · replace h := ite_some h h27
            try simp -implicitDefEqProofs only [go_sem, h19, h21, h22, h23, h24, h26, h27]
            obtain ⟨e28, h29, h⟩ := bind_some' h
            try simp -implicitDefEqProofs only [go_sem, h19, h21, h22, h23, h24, h26, h27, h29]
            obtain ⟨e30, h31, h⟩ := bind_some' h
            try simp -implicitDefEqProofs only [go_sem, h19, h21, h22, h23, h24, h26, h27, h29, h31]
            by_cases h32 : (e30.Table == 1) = true
            · replace h := ite_some h h32
              try simp -implicitDefEqProofs only [go_sem, h19, h21, h22, h23, h24, h26, h27, h29, h31, h32]
              obtain ⟨r33, h34, h⟩ := bind_some' h
              refine .plain _ _ rfl (M_ident_May.w (4, 4, 2) _ h34) ?_
              try simp -implicitDefEqProofs only [go_sem, h19, h21, h22, h23, h24, h26, h27, h29, h31, h32]
              by_cases h35 : r33 = true
              · replace h := ite_some h h35
                try simp -implicitDefEqProofs only [go_sem, h19, h21, h22, h23, h24, h26, h27, h29, h31, h32, h35]
                obtain ⟨r36, h37, h⟩ := bind_some' h
                refine .plain _ _ rfl (M_ident_May.w (2, 3, 1) _ h37) ?_
                try simp -implicitDefEqProofs only [go_sem, h19, h21, h22, h23, h24, h26, h27, h29, h31, h32, h35]
                by_cases h38 : r36 = true
                · replace h := ite_some h h38
                  try simp -implicitDefEqProofs only [go_sem, h19, h21, h22, h23, h24, h26, h27, h29, h31, h32, h35, h38]
                  injection h with h; subst h
                  first | rfl | simp -implicitDefEqProofs only [go_sem, h19, h21, h22, h23, h24, h26, h27, h29, h31, h32, h35, h38] <;> rfl
                · replace h := ite_none h h38; replace h38 := bfalse h38
                  try simp -implicitDefEqProofs only [go_sem, h19, h21, h22, h23, h24, h26, h27, h29, h31, h32, h35, h38]
                  obtain ⟨r39, h40, h⟩ := bind_some' h
                  refine .plain _ _ rfl (M_ident_Ways.w r15 _ h40) ?_
                  try simp -implicitDefEqProofs only [go_sem, h19, h21, h22, h23, h24, h26, h27, h29, h31, h32, h35, h38]
                  injection h with h; subst h
                  first | rfl | simp -implicitDefEqProofs only [go_sem, h19, h21, h22, h23, h24, h26, h27, h29, h31, h32, h35, h38] <;> rfl
              · replace h := ite_none h h35; replace h35 := bfalse h35
                try simp -implicitDefEqProofs only [go_sem, h19, h21, h22, h23, h24, h26, h27, h29, h31, h32, h35]
                injection h with h; subst h
                first | rfl | simp -implicitDefEqProofs only [go_sem, h19, h21, h22, h23, h24, h26, h27, h29, h31, h32, h35] <;> rfl
            · replace h := ite_none h h32; replace h32 := bfalse h32
              try simp -implicitDefEqProofs only [go_sem, h19, h21, h22, h23, h24, h26, h27, h29, h31, h32]
              injection h with h; subst h
              first | rfl | simp -implicitDefEqProofs only [go_sem, h19, h21, h22, h23, h24, h26, h27, h29, h31, h32] <;> rfl
          · replace h := ite_none h h27; replace h27 := bfalse h27
            try simp -implicitDefEqProofs only [go_sem, h19, h21, h22, h23, h24, h26, h27]
            injection h with h; subst h
            first | rfl | simp -implicitDefEqProofs only [go_sem, h19, h21, h22, h23, h24, h26, h27] <;> rfl
        · replace h := ite_none h h24; replace h24 := bfalse h24
          try simp -implicitDefEqProofs only [go_sem, h19, h21, h22, h23, h24]
          injection h with h; subst h
          first | rfl | simp -implicitDefEqProofs only [go_sem, h19, h21, h22, h23, h24] <;> rfl
    · replace h := ite_none h h22; replace h22 := bfalse h22
      try simp -implicitDefEqProofs only [go_sem, h19, h21, h22]
      injection h with h; subst h
      first | rfl | simp -implicitDefEqProofs only [go_sem, h19, h21, h22] <;> rfl
  · replace h := ite_none h h19; replace h19 := bfalse h19
    try simp -implicitDefEqProofs only [go_sem, h19]
    injection h with h; subst h
    first | rfl | simp -implicitDefEqProofs only [go_sem, h19] <;> rfl
end Go.Proofs.Ytcfekacmmfdggaa.G
