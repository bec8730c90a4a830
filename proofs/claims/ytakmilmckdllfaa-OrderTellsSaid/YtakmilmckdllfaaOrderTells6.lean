/-
OrderTells: the law returns true whatever the input.
-/
import Derived.Test.YtakmilmckdllfaaOrderTells5
import Derived.KernelRfl
import Derived.WalkKit
import Derived.ProofKit
import Derived.OpenShut
import Derived.ChangeOld
import Derived.Below
import Derived.Carry
import Derived.SizedLaws
import Derived.Test.YtakmilmckdllfaaRows
set_option linter.unusedVariables false
set_option linter.unusedSimpArgs false
set_option maxRecDepth 100000
namespace Go.Proofs.Ytakmilmckdllfaa.G
@[go_sem] theorem lrp_118_1 : lrp Try.prog 118 1 = (7, []) := by kernel_rfl
@[go_sem] theorem lrp_118_2 : lrp Try.prog 118 2 = (8, []) := by kernel_rfl
@[go_sem] theorem lrp_118_6 : lrp Try.prog 118 6 = (6, []) := by kernel_rfl
@[go_sem] theorem lrp_118_7 : lrp Try.prog 118 7 = (12, []) := by kernel_rfl
@[go_sem] theorem lrp_118_10 : lrp Try.prog 118 10 = (10, []) := by kernel_rfl
@[go_sem] theorem lrp_118_12 : lrp Try.prog 118 12 = (24, []) := by kernel_rfl
theorem lok_118 : (Try.f118.body.isSome && !(Try.f118.name == "runtime.NumGoroutine") && okL (bodyF Try.f118) Try.f118.ntmps (bodyF Try.f118)) = true := by kernel_rfl
def M_ref29_Ahead (x : T_ref28_Model × T_api_Tree × T_api_Tree) : Option (Bool) :=
  M_ref28_Model_Tree (x.1, x.2.1) >>= fun r1 =>
  M_ref28_Model_Tree (x.1, x.2.2) >>= fun r3 =>
  if (r1 != r3) = true then
    M_ref28_Model_Tree (x.1, x.2.1) >>= fun r6 =>
    M_ref28_Model_Tree (x.1, x.2.2) >>= fun r8 =>
    some (decide (r6 < r8))
  else
    if ((x.2.1.Kids.length : Int) != 2) = true then
      if ((x.2.2.Kids.length : Int) == 2) = true then
        some ((x.2.2.Kids.length : Int) == 2)
      else
        M_ref10_Tables x.2.1 >>= fun r13 =>
        M_ref10_Tables x.2.2 >>= fun r15 =>
        some (decide (r13 < r15))
    else
      if ((x.2.2.Kids.length : Int) != 2) = true then
        some ((x.2.2.Kids.length : Int) == 2)
      else
        (x.2.1.Kids[0]?) >>= fun (e19 : T_api_Tree) =>
        M_ref10_Tables e19 >>= fun r21 =>
        (x.2.2.Kids[0]?) >>= fun (e23 : T_api_Tree) =>
        M_ref10_Tables e23 >>= fun r25 =>
        if (r21 != r25) = true then
          some (decide (r21 < r25))
        else
          M_ref29_Ahead (x.1, e19, e23) >>= fun r28 =>
          if r28 = true then
            some true
          else
            M_ref29_Ahead (x.1, e23, e19) >>= fun r31 =>
            if r31 = true then
              some false
            else
              (x.2.1.Kids[1]?) >>= fun (e34 : T_api_Tree) =>
              (x.2.2.Kids[1]?) >>= fun (e36 : T_api_Tree) =>
              M_ref29_Ahead (x.1, e34, e36) >>= fun r38 =>
              some r38
  partial_fixpoint
theorem M_ref29_Ahead.ws : (∀ (x : T_ref28_Model × T_api_Tree × T_api_Tree) (o : Bool), M_ref29_Ahead x = some o → (fun (x : T_ref28_Model × T_api_Tree × T_api_Tree) (r : Bool) => Fn Try.prog 118 [.agg (T_ref28_Model.C x.1), .agg (T_api_Tree.C x.2.1), .agg (T_api_Tree.C x.2.2)] (.bool r)) x o) := by
  refine M_ref29_Ahead.partial_correctness _ ?_
  · intro M_M_ref29_Ahead ih_M_ref29_Ahead x r h
    refine Fn.of_lc mix fn_118 lok_118 (by rfl) (flC (T_ref28_Model.flatC _) (flC (T_api_Tree.flatC _) (flC (T_api_Tree.flatC _) (flN)))) (.atom _) ?_
    simp -implicitDefEqProofs only [go_sem, Try.f118]
    obtain ⟨r1, h2, h⟩ := bind_some' h
    refine .plain _ _ rfl (M_ref28_Model_Tree.w (x.1, x.2.1) _ h2) ?_
    try simp -implicitDefEqProofs only [go_sem]
    obtain ⟨r3, h4, h⟩ := bind_some' h
    refine .plain _ _ rfl (M_ref28_Model_Tree.w (x.1, x.2.2) _ h4) ?_
    try simp -implicitDefEqProofs only [go_sem]
    by_cases h5 : (r1 != r3) = true
    · replace h := ite_some h h5
      try simp -implicitDefEqProofs only [go_sem, h5]
      obtain ⟨r6, h7, h⟩ := bind_some' h
      refine .plain _ _ rfl (M_ref28_Model_Tree.w (x.1, x.2.1) _ h7) ?_
      try simp -implicitDefEqProofs only [go_sem, h5]
      obtain ⟨r8, h9, h⟩ := bind_some' h
      refine .plain _ _ rfl (M_ref28_Model_Tree.w (x.1, x.2.2) _ h9) ?_
      try simp -implicitDefEqProofs only [go_sem, h5]
      injection h with h; subst h
      first | rfl | simp -implicitDefEqProofs only [go_sem, h5] <;> rfl
    · replace h := ite_none h h5; replace h5 := bfalse h5
      try simp -implicitDefEqProofs only [go_sem, h5]
      by_cases h10 : ((x.2.1.Kids.length : Int) != 2) = true
      · replace h := ite_some h h10
        try simp -implicitDefEqProofs only [go_sem, h5, h10]
        have h11 : ((x.2.1.Kids.length : Int) == 2) = false := neb_t h10
        try simp -implicitDefEqProofs only [go_sem, h5, h10, h11]
        by_cases h12 : ((x.2.2.Kids.length : Int) == 2) = true
        · replace h := ite_some h h12
          try simp -implicitDefEqProofs only [go_sem, h5, h10, h11, h12]
          injection h with h; subst h
          first | rfl | simp -implicitDefEqProofs only [go_sem, h5, h10, h11, h12] <;> rfl
        · replace h := ite_none h h12; replace h12 := bfalse h12
          try simp -implicitDefEqProofs only [go_sem, h5, h10, h11, h12]
          obtain ⟨r13, h14, h⟩ := bind_some' h
          refine .plain _ _ rfl (M_ref10_Tables.w x.2.1 _ h14) ?_
          try simp -implicitDefEqProofs only [go_sem, h5, h10, h11, h12]
          obtain ⟨r15, h16, h⟩ := bind_some' h
          refine .plain _ _ rfl (M_ref10_Tables.w x.2.2 _ h16) ?_
          try simp -implicitDefEqProofs only [go_sem, h5, h10, h11, h12]
          injection h with h; subst h
          first | rfl | simp -implicitDefEqProofs only [go_sem, h5, h10, h11, h12] <;> rfl
      · replace h := ite_none h h10; replace h10 := bfalse h10
        try simp -implicitDefEqProofs only [go_sem, h5, h10]
        by_cases h17 : ((x.2.2.Kids.length : Int) != 2) = true
        · replace h := ite_some h h17
          try simp -implicitDefEqProofs only [go_sem, h5, h10, h17]
          have h18 : ((x.2.1.Kids.length : Int) == 2) = true := neb_f h10
          try simp -implicitDefEqProofs only [go_sem, h5, h10, h17, h18]
          injection h with h; subst h
          first | rfl | simp -implicitDefEqProofs only [go_sem, h5, h10, h17, h18] <;> rfl
        · replace h := ite_none h h17; replace h17 := bfalse h17
          try simp -implicitDefEqProofs only [go_sem, h5, h10, h17]
          obtain ⟨e19, h20, h⟩ := bind_some' h
          try simp -implicitDefEqProofs only [go_sem, h5, h10, h17, h20]
          obtain ⟨r21, h22, h⟩ := bind_some' h
          refine .plain _ _ rfl (M_ref10_Tables.w e19 _ h22) ?_
          try simp -implicitDefEqProofs only [go_sem, h5, h10, h17, h20]
          obtain ⟨e23, h24, h⟩ := bind_some' h
          try simp -implicitDefEqProofs only [go_sem, h5, h10, h17, h20, h24]
          obtain ⟨r25, h26, h⟩ := bind_some' h
          refine .plain _ _ rfl (M_ref10_Tables.w e23 _ h26) ?_
          try simp -implicitDefEqProofs only [go_sem, h5, h10, h17, h20, h24]
          by_cases h27 : (r21 != r25) = true
          · replace h := ite_some h h27
            try simp -implicitDefEqProofs only [go_sem, h5, h10, h17, h20, h24, h27]
            injection h with h; subst h
            first | rfl | simp -implicitDefEqProofs only [go_sem, h5, h10, h17, h20, h24, h27] <;> rfl
          · replace h := ite_none h h27; replace h27 := bfalse h27
            try simp -implicitDefEqProofs only [go_sem, h5, h10, h17, h20, h24, h27]
            obtain ⟨r28, h29, h⟩ := bind_some' h
            refine .plain _ _ rfl (ih_M_ref29_Ahead (x.1, e19, e23) _ h29) ?_
            try simp -implicitDefEqProofs only [go_sem, h5, h10, h17, h20, h24, h27]
            by_cases h30 : r28 = true
            · replace h := ite_some h h30
              try simp -implicitDefEqProofs only [go_sem, h5, h10, h17, h20, h24, h27, h30]
              injection h with h; subst h
              first | rfl | simp -implicitDefEqProofs only [go_sem, h5, h10, h17, h20, h24, h27, h30] <;> rfl
            · replace h := ite_none h h30; replace h30 := bfalse h30
              try simp -implicitDefEqProofs only [go_sem, h5, h10, h17, h20, h24, h27, h30]
              obtain ⟨r31, h32, h⟩ := bind_some' h
              refine .plain _ _ rfl (ih_M_ref29_Ahead (x.1, e23, e19) _ h32) ?_
              try simp -implicitDefEqProofs only [go_sem, h5, h10, h17, h20, h24, h27, h30]
              by_cases h33 : r31 = true
              · replace h := ite_some h h33
                try simp -implicitDefEqProofs only [go_sem, h5, h10, h17, h20, h24, h27, h30, h33]
                injection h with h; subst h
                first | rfl | simp -implicitDefEqProofs only [go_sem, h5, h10, h17, h20, h24, h27, h30, h33] <;> rfl
              · replace h := ite_none h h33; replace h33 := bfalse h33
                try simp -implicitDefEqProofs only [go_sem, h5, h10, h17, h20, h24, h27, h30, h33]
                obtain ⟨e34, h35, h⟩ := bind_some' h
                try simp -implicitDefEqProofs only [go_sem, h5, h10, h17, h20, h24, h27, h30, h33, h35]
                obtain ⟨e36, h37, h⟩ := bind_some' h
                try simp -implicitDefEqProofs only [go_sem, h5, h10, h17, h20, h24, h27, h30, h33, h35, h37]
                obtain ⟨r38, h39, h⟩ := bind_some' h
                refine .plain _ _ rfl (ih_M_ref29_Ahead (x.1, e34, e36) _ h39) ?_
                try simp -implicitDefEqProofs only [go_sem, h5, h10, h17, h20, h24, h27, h30, h33, h35, h37]
                injection h with h; subst h
                first | rfl | simp -implicitDefEqProofs only [go_sem, h5, h10, h17, h20, h24, h27, h30, h33, h35, h37] <;> rfl
theorem M_ref29_Ahead.w : type_of% (@M_ref29_Ahead.ws) := @M_ref29_Ahead.ws
end Go.Proofs.Ytakmilmckdllfaa.G
set_option linter.unusedVariables false
set_option linter.unusedSimpArgs false
set_option maxRecDepth 100000
namespace Go.Proofs.Ytakmilmckdllfaa.G
theorem lok_58 : (Try.f58.body.isSome && !(Try.f58.name == "runtime.NumGoroutine") && okL (bodyF Try.f58) Try.f58.ntmps (bodyF Try.f58)) = true := by kernel_rfl
def M_ref29_Compare (x : T_ref28_Model × T_api_Tree × T_api_Tree) : Option (Int) :=
  M_ref29_Ahead (x.1, x.2.1, x.2.2) >>= fun r1 =>
  if r1 = true then
    some (-1)
  else
    M_ref29_Ahead (x.1, x.2.2, x.2.1) >>= fun r4 =>
    if r4 = true then
      some 1
    else
      some 0
theorem M_ref29_Compare.w : ∀ (x : T_ref28_Model × T_api_Tree × T_api_Tree) (r : Int), M_ref29_Compare x = some r → (fun (x : T_ref28_Model × T_api_Tree × T_api_Tree) (r : Int) => Fn Try.prog 58 [.agg (T_ref28_Model.C x.1), .agg (T_api_Tree.C x.2.1), .agg (T_api_Tree.C x.2.2)] (.i64 r)) x r := by
  intro x r h
  rw [M_ref29_Compare] at h
  try dsimp only
  refine Fn.of_lc mix fn_58 lok_58 (by rfl) (flC (T_ref28_Model.flatC _) (flC (T_api_Tree.flatC _) (flC (T_api_Tree.flatC _) (flN)))) (.atom _) ?_
  simp -implicitDefEqProofs only [go_sem, Try.f58]
  obtain ⟨r1, h2, h⟩ := bind_some' h
  refine .plain _ _ rfl (M_ref29_Ahead.w (x.1, x.2.1, x.2.2) _ h2) ?_
  try simp -implicitDefEqProofs only [go_sem]
  by_cases h3 : r1 = true
  · replace h := ite_some h h3
    try simp -implicitDefEqProofs only [go_sem, h3]
    injection h with h; subst h
    first | rfl | simp -implicitDefEqProofs only [go_sem, h3] <;> rfl
  · replace h := ite_none h h3; replace h3 := bfalse h3
    try simp -implicitDefEqProofs only [go_sem, h3]
    obtain ⟨r4, h5, h⟩ := bind_some' h
    refine .plain _ _ rfl (M_ref29_Ahead.w (x.1, x.2.2, x.2.1) _ h5) ?_
    try simp -implicitDefEqProofs only [go_sem, h3]
    by_cases h6 : r4 = true
    · replace h := ite_some h h6
      try simp -implicitDefEqProofs only [go_sem, h3, h6]
      injection h with h; subst h
      first | rfl | simp -implicitDefEqProofs only [go_sem, h3, h6] <;> rfl
    · replace h := ite_none h h6; replace h6 := bfalse h6
      try simp -implicitDefEqProofs only [go_sem, h3, h6]
      injection h with h; subst h
      first | rfl | simp -implicitDefEqProofs only [go_sem, h3, h6] <;> rfl
end Go.Proofs.Ytakmilmckdllfaa.G
set_option linter.unusedVariables false
set_option linter.unusedSimpArgs false
set_option maxRecDepth 100000
namespace Go.Proofs.Ytakmilmckdllfaa.G
@[go_sem] theorem lrp_60_8 : lrp Try.prog 60 8 = (10, []) := by kernel_rfl
theorem lok_60 : (Try.f60.body.isSome && !(Try.f60.name == "runtime.NumGoroutine") && okL (bodyF Try.f60) Try.f60.ntmps (bodyF Try.f60)) = true := by kernel_rfl
def M_ref29_First.l1 (x : List T_api_Tree × Int × Bool × Int × T_ref28_Model) : Option (Bool) :=
  if (decide (x.2.2.2.1 < (x.1.length : Int))) = true then
    (getI x.1 x.2.2.2.1) >>= fun (e3 : T_api_Tree) =>
    (getI x.1 x.2.1) >>= fun (e5 : T_api_Tree) =>
    M_ref29_Ahead (x.2.2.2.2, e3, e5) >>= fun r7 =>
    if r7 = true then
      M_ref29_First.l1 (x.1, x.2.1, false, (w64 (x.2.2.2.1 + 1)), x.2.2.2.2)
    else
      M_ref29_First.l1 (x.1, x.2.1, x.2.2.1, (w64 (x.2.2.2.1 + 1)), x.2.2.2.2)
  else
    some x.2.2.1
  partial_fixpoint
theorem M_ref29_First.l1.ws : (∀ (x : List T_api_Tree × Int × Bool × Int × T_ref28_Model) (o : Bool), M_ref29_First.l1 x = some o → (fun (x : List T_api_Tree × Int × Bool × Int × T_ref28_Model) (o : Bool) => ∀ (lo : Option Nat) (c : LCtx) (Q : Exit → LEnv → Prop) (hb : ∀ s : Bool, o = s → Q (.exit 2) ⟨[(1, .v (.slice .foreign (x.1.map T_api_Tree.av))), (2, .lref 2 0), (5, .v (.i64 x.2.1)), (6, .v (.bool s))], [(2, [.v (.i64 x.2.2.2.2.Kind), .v (.slice .foreign (x.2.2.2.2.Edges.map T_api_Edge.av)), .v (.slice .foreign (x.2.2.2.2.Stats.Rows.map AV.w)), .v (.slice .foreign (x.2.2.2.2.Stats.Sel.map AV.w))])]⟩), LLoop Try.prog 60 lo c 1 (VQ Q) ⟨[(1, .v (.slice .foreign (x.1.map T_api_Tree.av))), (2, .lref 2 0), (5, .v (.i64 x.2.1)), (6, .v (.bool x.2.2.1)), (7, .v (.i64 x.2.2.2.1))], [(2, [.v (.i64 x.2.2.2.2.Kind), .v (.slice .foreign (x.2.2.2.2.Edges.map T_api_Edge.av)), .v (.slice .foreign (x.2.2.2.2.Stats.Rows.map AV.w)), .v (.slice .foreign (x.2.2.2.2.Stats.Sel.map AV.w))])]⟩) x o) := by
  refine M_ref29_First.l1.partial_correctness _ ?_
  · intro M_M_ref29_First_l1 ih_M_ref29_First_l1 x o h
    intro lo c Q hb
    refine LLoop.step mix fn_60 (by kernel_rfl) ?_
    simp -implicitDefEqProofs only [go_sem, Try.f60]
    by_cases h2 : (decide (x.2.2.2.1 < (x.1.length : Int))) = true
    · replace h := ite_some h h2
      try simp -implicitDefEqProofs only [go_sem, h2]
      obtain ⟨e3, h4, h⟩ := bind_some' h; replace h4 := getI_some h4; obtain ⟨h4', h4⟩ := h4
      try simp -implicitDefEqProofs only [go_sem, h2, h4, h4']
      obtain ⟨e5, h6, h⟩ := bind_some' h; replace h6 := getI_some h6; obtain ⟨h6', h6⟩ := h6
      try simp -implicitDefEqProofs only [go_sem, h2, h4, h4', h6, h6']
      obtain ⟨r7, h8, h⟩ := bind_some' h
      refine .plain _ _ rfl (M_ref29_Ahead.w (x.2.2.2.2, e3, e5) _ h8) ?_
      try simp -implicitDefEqProofs only [go_sem, h2, h4, h4', h6, h6']
      by_cases h9 : r7 = true
      · replace h := ite_some h h9
        try simp -implicitDefEqProofs only [go_sem, h2, h4, h4', h6, h6', h9]
        exact LLoop.view [] (by (first | rfl | simp -implicitDefEqProofs only [go_sem, h2, h4, h4', h6, h6', h9] <;> rfl)) (ih_M_ref29_First_l1 _ _ h lo c Q hb)
      · replace h := ite_none h h9; replace h9 := bfalse h9
        try simp -implicitDefEqProofs only [go_sem, h2, h4, h4', h6, h6', h9]
        exact LLoop.view [] (by (first | rfl | simp -implicitDefEqProofs only [go_sem, h2, h4, h4', h6, h6', h9] <;> rfl)) (ih_M_ref29_First_l1 _ _ h lo c Q hb)
    · replace h := ite_none h h2; replace h2 := bfalse h2
      try simp -implicitDefEqProofs only [go_sem, h2]
      injection h with h; subst h
      exact .inr ⟨[], _, by (simp -implicitDefEqProofs only [go_sem, h2] <;> first | done | rfl | trivial), hb _ rfl⟩
theorem M_ref29_First.l1.w : type_of% (@M_ref29_First.l1.ws) := @M_ref29_First.l1.ws
def M_ref29_First.l0 (x : List T_api_Tree × Int × T_ref28_Model) : Option (Lp (Unit) (Int)) :=
  if (decide (x.2.1 < (x.1.length : Int))) = true then
    M_ref29_First.l1 (x.1, x.2.1, true, 0, x.2.2) >>= fun (o10 : Bool) =>
    if o10 = true then
      some (.ret x.2.1)
    else
      M_ref29_First.l0 (x.1, (w64 (x.2.1 + 1)), x.2.2)
  else
    some (.brk ())
  partial_fixpoint
theorem M_ref29_First.l0.ws : (∀ (x : List T_api_Tree × Int × T_ref28_Model) (o : Lp (Unit) (Int)), M_ref29_First.l0 x = some o → (fun (x : List T_api_Tree × Int × T_ref28_Model) (o : Lp (Unit) (Int)) => ∀ (lo : Option Nat) (c : LCtx) (Q : Exit → LEnv → Prop) (hb : ∀ s : Unit, o = Lp.brk s → Q (.exit 0) ⟨[], []⟩) (hr : ∀ (r : Int) (L : LEnv), o = .ret r → LPostF Try.prog [.tmp 4] (.i64 r) (fun _ => True) .ret L → Q .ret L), LLoop Try.prog 60 lo c 0 (VQ Q) ⟨[(1, .v (.slice .foreign (x.1.map T_api_Tree.av))), (2, .lref 2 0), (5, .v (.i64 x.2.1))], [(2, [.v (.i64 x.2.2.Kind), .v (.slice .foreign (x.2.2.Edges.map T_api_Edge.av)), .v (.slice .foreign (x.2.2.Stats.Rows.map AV.w)), .v (.slice .foreign (x.2.2.Stats.Sel.map AV.w))])]⟩) x o) := by
  refine M_ref29_First.l0.partial_correctness _ ?_
  · intro M_M_ref29_First_l0 ih_M_ref29_First_l0 x o h
    intro lo c Q hb hr
    refine LLoop.step mix fn_60 (by kernel_rfl) ?_
    simp -implicitDefEqProofs only [go_sem, Try.f60]
    by_cases h1 : (decide (x.2.1 < (x.1.length : Int))) = true
    · replace h := ite_some h h1
      try simp -implicitDefEqProofs only [go_sem, h1]
      obtain ⟨o10, h11, h⟩ := bind_some' h
      refine LLoop.viewQ (LLoop.view [] (by (first | rfl | simp -implicitDefEqProofs only [go_sem, h1] <;> rfl)) (M_ref29_First.l1.w (x.1, x.2.1, true, 0, x.2.2) _ h11 _ _ _ ?_))
      intro s' hs'; subst hs'
      try simp -implicitDefEqProofs only [go_sem, h1]
      by_cases h12 : o10 = true
      · replace h := ite_some h h12
        try simp -implicitDefEqProofs only [go_sem, h1, h12]
        injection h with h; subst h
        exact .inl (hr _ _ rfl (by (first | rfl | simp -implicitDefEqProofs only [go_sem, h1, h12] <;> rfl)))
      · replace h := ite_none h h12; replace h12 := bfalse h12
        try simp -implicitDefEqProofs only [go_sem, h1, h12]
        exact LLoop.view [] (by (first | rfl | simp -implicitDefEqProofs only [go_sem, h1, h12] <;> rfl)) (ih_M_ref29_First_l0 _ _ h lo c Q hb hr)
    · replace h := ite_none h h1; replace h1 := bfalse h1
      try simp -implicitDefEqProofs only [go_sem, h1]
      injection h with h; subst h
      exact .inr ⟨[], _, by (simp -implicitDefEqProofs only [go_sem, h1] <;> first | done | rfl | trivial), hb _ rfl⟩
theorem M_ref29_First.l0.w : type_of% (@M_ref29_First.l0.ws) := @M_ref29_First.l0.ws
def M_ref29_First (x : T_ref28_Model × List T_api_Tree) : Option (Int) :=
  M_ref29_First.l0 (x.2, 0, x.1) >>= fun (o13 : Lp (Unit) (Int)) => match o13 with
  | .brk s16 =>
    some (-1)
  | .ret r15 =>
    some r15
theorem M_ref29_First.w : ∀ (x : T_ref28_Model × List T_api_Tree) (r : Int), M_ref29_First x = some r → (fun (x : T_ref28_Model × List T_api_Tree) (r : Int) => Fn Try.prog 60 [.agg (T_ref28_Model.C x.1), .slice .foreign (x.2.map T_api_Tree.av)] (.i64 r)) x r := by
  intro x r h
  rw [M_ref29_First] at h
  try dsimp only
  refine Fn.of_lc mix fn_60 lok_60 (by rfl) (flC (T_ref28_Model.flatC _) (flC (flat_slice _ T_api_Tree.flat _) (flN))) (.atom _) ?_
  simp -implicitDefEqProofs only [go_sem, Try.f60]
  obtain ⟨o13, h14, h⟩ := bind_some' h
  refine LLoop.viewQ (LLoop.view [] (by (first | rfl | simp -implicitDefEqProofs only [go_sem] <;> rfl)) (M_ref29_First.l0.w (x.2, 0, x.1) _ h14 _ _ _ ?_ ?_))
  · intro s16 hs'; subst hs'
    try simp -implicitDefEqProofs only [go_sem]
    injection h with h; subst h
    first | rfl | simp -implicitDefEqProofs only [go_sem] <;> rfl
  · intro r15 L' hs' hL'; subst hs'
    injection h with h; subst h
    first | exact hL' | (simp -implicitDefEqProofs only [go_sem]; exact hL') | (simp -implicitDefEqProofs only [go_sem]; simp -implicitDefEqProofs only [go_sem] at hL'; exact hL')
end Go.Proofs.Ytakmilmckdllfaa.G
set_option linter.unusedVariables false
set_option linter.unusedSimpArgs false
set_option maxRecDepth 100000
namespace Go.Proofs.Ytakmilmckdllfaa.G
@[go_sem] theorem lrp_10_10 : lrp Try.prog 10 10 = (21, []) := by kernel_rfl
@[go_sem] theorem lrp_10_12 : lrp Try.prog 10 12 = (11, []) := by kernel_rfl
theorem lok_10 : (Try.f10.body.isSome && !(Try.f10.name == "runtime.NumGoroutine") && okL (bodyF Try.f10) Try.f10.ntmps (bodyF Try.f10)) = true := by kernel_rfl
def M_law29_OrderTells.l1 (x : List T_api_Tree × Int × Int × T_cost_Model × T_ref28_Model) : Option (Lp (Unit) (Bool)) :=
  if (decide (x.2.2.1 < (x.1.length : Int))) = true then
    (getI x.1 x.2.1) >>= fun (e6 : T_api_Tree) =>
    (getI x.1 x.2.2.1) >>= fun (e8 : T_api_Tree) =>
    M_order_Compare (x.2.2.2.1, e6, e8) >>= fun r10 =>
    M_ref29_Compare (x.2.2.2.2, e6, e8) >>= fun r12 =>
    if (r10 != r12) = true then
      some (.ret false)
    else
      M_law29_OrderTells.l1 (x.1, x.2.1, (w64 (x.2.2.1 + 1)), x.2.2.2.1, x.2.2.2.2)
  else
    some (.brk ())
  partial_fixpoint
theorem M_law29_OrderTells.l1.ws : (∀ (x : List T_api_Tree × Int × Int × T_cost_Model × T_ref28_Model) (o : Lp (Unit) (Bool)), M_law29_OrderTells.l1 x = some o → (fun (x : List T_api_Tree × Int × Int × T_cost_Model × T_ref28_Model) (o : Lp (Unit) (Bool)) => ∀ (lo : Option Nat) (c : LCtx) (Q : Exit → LEnv → Prop) (hb : ∀ s : Unit, o = Lp.brk s → Q (.exit 2) ⟨[(1, .v (.slice .foreign (x.1.map T_api_Tree.av))), (2, .lref 2 0), (5, .lref 5 0), (6, .v (.i64 x.2.1))], [(2, [.v (.i64 x.2.2.2.1.Kind), .v (.slice .foreign (x.2.2.2.1.Edges.map T_api_Edge.av)), .v (.slice .foreign (x.2.2.2.1.Stats.Rows.map AV.w)), .v (.slice .foreign (x.2.2.2.1.Stats.Sel.map AV.w))]), (5, [.v (.i64 x.2.2.2.2.Kind), .v (.slice .foreign (x.2.2.2.2.Edges.map T_api_Edge.av)), .v (.slice .foreign (x.2.2.2.2.Stats.Rows.map AV.w)), .v (.slice .foreign (x.2.2.2.2.Stats.Sel.map AV.w))])]⟩) (hr : ∀ (r : Bool) (L : LEnv), o = .ret r → LPostF Try.prog [.tmp 4] (.bool r) (fun _ => True) .ret L → Q .ret L), LLoop Try.prog 10 lo c 1 (VQ Q) ⟨[(1, .v (.slice .foreign (x.1.map T_api_Tree.av))), (2, .lref 2 0), (5, .lref 5 0), (6, .v (.i64 x.2.1)), (7, .v (.i64 x.2.2.1))], [(2, [.v (.i64 x.2.2.2.1.Kind), .v (.slice .foreign (x.2.2.2.1.Edges.map T_api_Edge.av)), .v (.slice .foreign (x.2.2.2.1.Stats.Rows.map AV.w)), .v (.slice .foreign (x.2.2.2.1.Stats.Sel.map AV.w))]), (5, [.v (.i64 x.2.2.2.2.Kind), .v (.slice .foreign (x.2.2.2.2.Edges.map T_api_Edge.av)), .v (.slice .foreign (x.2.2.2.2.Stats.Rows.map AV.w)), .v (.slice .foreign (x.2.2.2.2.Stats.Sel.map AV.w))])]⟩) x o) := by
  refine M_law29_OrderTells.l1.partial_correctness _ ?_
  · intro M_M_law29_OrderTells_l1 ih_M_law29_OrderTells_l1 x o h
    intro lo c Q hb hr
    refine LLoop.step mix fn_10 (by kernel_rfl) ?_
    simp -implicitDefEqProofs only [go_sem, Try.f10]
    by_cases h5 : (decide (x.2.2.1 < (x.1.length : Int))) = true
    · replace h := ite_some h h5
      try simp -implicitDefEqProofs only [go_sem, h5]
      obtain ⟨e6, h7, h⟩ := bind_some' h; replace h7 := getI_some h7; obtain ⟨h7', h7⟩ := h7
      try simp -implicitDefEqProofs only [go_sem, h5, h7, h7']
      obtain ⟨e8, h9, h⟩ := bind_some' h; replace h9 := getI_some h9; obtain ⟨h9', h9⟩ := h9
      try simp -implicitDefEqProofs only [go_sem, h5, h7, h7', h9, h9']
      obtain ⟨r10, h11, h⟩ := bind_some' h
      refine .plain _ _ rfl (M_order_Compare.w (x.2.2.2.1, e6, e8) _ h11) ?_
      try simp -implicitDefEqProofs only [go_sem, h5, h7, h7', h9, h9']
      obtain ⟨r12, h13, h⟩ := bind_some' h
      refine .plain _ _ rfl (M_ref29_Compare.w (x.2.2.2.2, e6, e8) _ h13) ?_
      try simp -implicitDefEqProofs only [go_sem, h5, h7, h7', h9, h9']
      by_cases h14 : (r10 != r12) = true
      · replace h := ite_some h h14
        try simp -implicitDefEqProofs only [go_sem, h5, h7, h7', h9, h9', h14]
        injection h with h; subst h
        exact .inl (hr _ _ rfl (by (first | rfl | simp -implicitDefEqProofs only [go_sem, h5, h7, h7', h9, h9', h14] <;> rfl)))
      · replace h := ite_none h h14; replace h14 := bfalse h14
        try simp -implicitDefEqProofs only [go_sem, h5, h7, h7', h9, h9', h14]
        exact LLoop.view [] (by (first | rfl | simp -implicitDefEqProofs only [go_sem, h5, h7, h7', h9, h9', h14] <;> rfl)) (ih_M_law29_OrderTells_l1 _ _ h lo c Q hb hr)
    · replace h := ite_none h h5; replace h5 := bfalse h5
      try simp -implicitDefEqProofs only [go_sem, h5]
      injection h with h; subst h
      exact .inr ⟨[], _, by (simp -implicitDefEqProofs only [go_sem, h5] <;> first | done | rfl | trivial), hb _ rfl⟩
theorem M_law29_OrderTells.l1.w : type_of% (@M_law29_OrderTells.l1.ws) := @M_law29_OrderTells.l1.ws
def M_law29_OrderTells.l0 (x : List T_api_Tree × Int × T_cost_Model × T_ref28_Model) : Option (Lp (Unit) (Bool)) :=
  if (decide (x.2.1 < (x.1.length : Int))) = true then
    M_law29_OrderTells.l1 (x.1, x.2.1, 0, x.2.2.1, x.2.2.2) >>= fun (o15 : Lp (Unit) (Bool)) => match o15 with
    | .brk s18 =>
      M_law29_OrderTells.l0 (x.1, (w64 (x.2.1 + 1)), x.2.2.1, x.2.2.2)
    | .ret r17 =>
      some (.ret r17)
  else
    some (.brk ())
  partial_fixpoint
theorem M_law29_OrderTells.l0.ws : (∀ (x : List T_api_Tree × Int × T_cost_Model × T_ref28_Model) (o : Lp (Unit) (Bool)), M_law29_OrderTells.l0 x = some o → (fun (x : List T_api_Tree × Int × T_cost_Model × T_ref28_Model) (o : Lp (Unit) (Bool)) => ∀ (lo : Option Nat) (c : LCtx) (Q : Exit → LEnv → Prop) (hb : ∀ s : Unit, o = Lp.brk s → Q (.exit 0) ⟨[(1, .v (.slice .foreign (x.1.map T_api_Tree.av))), (2, .lref 2 0), (5, .lref 5 0)], [(2, [.v (.i64 x.2.2.1.Kind), .v (.slice .foreign (x.2.2.1.Edges.map T_api_Edge.av)), .v (.slice .foreign (x.2.2.1.Stats.Rows.map AV.w)), .v (.slice .foreign (x.2.2.1.Stats.Sel.map AV.w))]), (5, [.v (.i64 x.2.2.2.Kind), .v (.slice .foreign (x.2.2.2.Edges.map T_api_Edge.av)), .v (.slice .foreign (x.2.2.2.Stats.Rows.map AV.w)), .v (.slice .foreign (x.2.2.2.Stats.Sel.map AV.w))])]⟩) (hr : ∀ (r : Bool) (L : LEnv), o = .ret r → LPostF Try.prog [.tmp 4] (.bool r) (fun _ => True) .ret L → Q .ret L), LLoop Try.prog 10 lo c 0 (VQ Q) ⟨[(1, .v (.slice .foreign (x.1.map T_api_Tree.av))), (2, .lref 2 0), (5, .lref 5 0), (6, .v (.i64 x.2.1))], [(2, [.v (.i64 x.2.2.1.Kind), .v (.slice .foreign (x.2.2.1.Edges.map T_api_Edge.av)), .v (.slice .foreign (x.2.2.1.Stats.Rows.map AV.w)), .v (.slice .foreign (x.2.2.1.Stats.Sel.map AV.w))]), (5, [.v (.i64 x.2.2.2.Kind), .v (.slice .foreign (x.2.2.2.Edges.map T_api_Edge.av)), .v (.slice .foreign (x.2.2.2.Stats.Rows.map AV.w)), .v (.slice .foreign (x.2.2.2.Stats.Sel.map AV.w))])]⟩) x o) := by
  refine M_law29_OrderTells.l0.partial_correctness _ ?_
  · intro M_M_law29_OrderTells_l0 ih_M_law29_OrderTells_l0 x o h
    intro lo c Q hb hr
    refine LLoop.step mix fn_10 (by kernel_rfl) ?_
    simp -implicitDefEqProofs only [go_sem, Try.f10]
    by_cases h4 : (decide (x.2.1 < (x.1.length : Int))) = true
    · replace h := ite_some h h4
      try simp -implicitDefEqProofs only [go_sem, h4]
      obtain ⟨o15, h16, h⟩ := bind_some' h
      refine LLoop.viewQ (LLoop.view [] (by (first | rfl | simp -implicitDefEqProofs only [go_sem, h4] <;> rfl)) (M_law29_OrderTells.l1.w (x.1, x.2.1, 0, x.2.2.1, x.2.2.2) _ h16 _ _ _ ?_ ?_))
      · intro s18 hs'; subst hs'
        try simp -implicitDefEqProofs only [go_sem, h4]
        exact LLoop.view [] (by (first | rfl | simp -implicitDefEqProofs only [go_sem, h4] <;> rfl)) (ih_M_law29_OrderTells_l0 _ _ h lo c Q hb hr)
      · intro r17 L' hs' hL'; subst hs'
        injection h with h; subst h
        simp -implicitDefEqProofs only [go_sem]
        exact .inl (hr _ _ rfl hL')
    · replace h := ite_none h h4; replace h4 := bfalse h4
      try simp -implicitDefEqProofs only [go_sem, h4]
      injection h with h; subst h
      exact .inr ⟨[], _, by (simp -implicitDefEqProofs only [go_sem, h4] <;> first | done | rfl | trivial), hb _ rfl⟩
theorem M_law29_OrderTells.l0.w : type_of% (@M_law29_OrderTells.l0.ws) := @M_law29_OrderTells.l0.ws
def M_law29_OrderTells (x : T_cost_Model × List T_api_Tree) : Option (Bool) :=
  M_law29_light (x.1, x.2) >>= fun r1 =>
  if r1 = true then
    M_law29_OrderTells.l0 (x.2, 0, x.1, (⟨x.1.Kind, x.1.Edges, x.1.Stats⟩ : T_ref28_Model)) >>= fun (o19 : Lp (Unit) (Bool)) => match o19 with
    | .brk s22 =>
      M_order_First (x.1, x.2) >>= fun r23 =>
      M_ref29_First ((⟨(⟨x.1.Kind, x.1.Edges, x.1.Stats⟩ : T_ref28_Model).Kind, (⟨x.1.Kind, x.1.Edges, x.1.Stats⟩ : T_ref28_Model).Edges, (⟨((⟨x.1.Kind, x.1.Edges, x.1.Stats⟩ : T_ref28_Model).Stats).Rows, ((⟨x.1.Kind, x.1.Edges, x.1.Stats⟩ : T_ref28_Model).Stats).Sel⟩ : T_api_Stats)⟩ : T_ref28_Model), x.2) >>= fun r25 =>
      if (r23 == r25) = true then
        M_law29_awake () >>= fun r28 =>
        some r28
      else
        some false
    | .ret r21 =>
      some r21
  else
    M_law29_awake () >>= fun r30 =>
    some r30
theorem M_law29_OrderTells.w : ∀ (x : T_cost_Model × List T_api_Tree) (r : Bool), M_law29_OrderTells x = some r → (fun (x : T_cost_Model × List T_api_Tree) (r : Bool) => Fn Try.prog 10 [.agg (T_cost_Model.C x.1), .slice .foreign (x.2.map T_api_Tree.av)] (.bool r)) x r := by
  intro x r h
  rw [M_law29_OrderTells] at h
  try dsimp only
  refine Fn.of_lc mix fn_10 lok_10 (by rfl) (flC (T_cost_Model.flatC _) (flC (flat_slice _ T_api_Tree.flat _) (flN))) (.atom _) ?_
  simp -implicitDefEqProofs only [go_sem, Try.f10]
  obtain ⟨r1, h2, h⟩ := bind_some' h
  refine .plain _ _ rfl (M_law29_light.w (x.1, x.2) _ h2) ?_
  try simp -implicitDefEqProofs only [go_sem]
  by_cases h3 : r1 = true
  · replace h := ite_some h h3
    try simp -implicitDefEqProofs only [go_sem, h3]
    obtain ⟨o19, h20, h⟩ := bind_some' h
    refine LLoop.viewQ (LLoop.view [] (by (first | rfl | simp -implicitDefEqProofs only [go_sem, h3] <;> rfl)) (M_law29_OrderTells.l0.w (x.2, 0, x.1, (⟨x.1.Kind, x.1.Edges, x.1.Stats⟩ : T_ref28_Model)) _ h20 _ _ _ ?_ ?_))
    · intro s22 hs'; subst hs'
      try simp -implicitDefEqProofs only [go_sem, h3]
      obtain ⟨r23, h24, h⟩ := bind_some' h
      refine .plain _ _ rfl (M_order_First.w (x.1, x.2) _ h24) ?_
      try simp -implicitDefEqProofs only [go_sem, h3]
      obtain ⟨r25, h26, h⟩ := bind_some' h
      refine .plain _ _ rfl (M_ref29_First.w ((⟨(⟨x.1.Kind, x.1.Edges, x.1.Stats⟩ : T_ref28_Model).Kind, (⟨x.1.Kind, x.1.Edges, x.1.Stats⟩ : T_ref28_Model).Edges, (⟨((⟨x.1.Kind, x.1.Edges, x.1.Stats⟩ : T_ref28_Model).Stats).Rows, ((⟨x.1.Kind, x.1.Edges, x.1.Stats⟩ : T_ref28_Model).Stats).Sel⟩ : T_api_Stats)⟩ : T_ref28_Model), x.2) _ h26) ?_
      try simp -implicitDefEqProofs only [go_sem, h3]
      by_cases h27 : (r23 == r25) = true
      · replace h := ite_some h h27
        try simp -implicitDefEqProofs only [go_sem, h3, h27]
        obtain ⟨r28, h29, h⟩ := bind_some' h
        refine .plain _ _ rfl (M_law29_awake.w () _ h29) ?_
        try simp -implicitDefEqProofs only [go_sem, h3, h27]
        injection h with h; subst h
        first | rfl | simp -implicitDefEqProofs only [go_sem, h3, h27] <;> rfl
      · replace h := ite_none h h27; replace h27 := bfalse h27
        try simp -implicitDefEqProofs only [go_sem, h3, h27]
        injection h with h; subst h
        first | rfl | simp -implicitDefEqProofs only [go_sem, h3, h27] <;> rfl
    · intro r21 L' hs' hL'; subst hs'
      injection h with h; subst h
      first | exact hL' | (simp -implicitDefEqProofs only [go_sem]; exact hL') | (simp -implicitDefEqProofs only [go_sem]; simp -implicitDefEqProofs only [go_sem] at hL'; exact hL')
  · replace h := ite_none h h3; replace h3 := bfalse h3
    try simp -implicitDefEqProofs only [go_sem, h3]
    obtain ⟨r30, h31, h⟩ := bind_some' h
    refine .plain _ _ rfl (M_law29_awake.w () _ h31) ?_
    try simp -implicitDefEqProofs only [go_sem, h3]
    injection h with h; subst h
    first | rfl | simp -implicitDefEqProofs only [go_sem, h3] <;> rfl
end Go.Proofs.Ytakmilmckdllfaa.G
set_option linter.unusedVariables false
set_option linter.unusedSimpArgs false
namespace Go.Proofs.Ytakmilmckdllfaa.G

def by64 (a b : Set64) : Int := if a.toNat < b.toNat then -1 else if b.toNat < a.toNat then 1 else 0
def lex (c d : Int) : Int := if c = 0 then d else c
theorem order_by_eq (a b : Set64) : M_order_by_uint64 (a, b) = some (by64 a b) := by
  unfold M_order_by_uint64 by64
  dsimp only
  by_cases h1 : a < b
  · have h2 : a.toNat < b.toNat := h1
    rw [if_pos (by simpa using h1), if_pos h2]
  · have h2 : ¬ a.toNat < b.toNat := h1
    rw [if_neg (by simpa using h1), if_neg h2]
    by_cases h3 : a > b
    · have h4 : b.toNat < a.toNat := h3
      rw [if_pos (by simpa using h3), if_pos h4]
    · have h4 : ¬ b.toNat < a.toNat := h3
      rw [if_neg (by simpa using h3), if_neg h4]
abbrev CostF := Set64 → Set64 → List T_api_Pred → Set64
/-- Which of two trees comes first. -/
def cmpS (f : CostF) : T_api_Tree → T_api_Tree → Int
  | ⟨k, t, [x, y], c, h⟩, b => lex (by64 (costS f ⟨k, t, [x, y], c, h⟩) (costS f b)) (match b.Kids with
    | [u, v] => lex (by64 (tabs x) (tabs u)) (lex (cmpS f x u) (cmpS f y v))
    | _ => 1)
  | a, b => lex (by64 (costS f a) (costS f b)) (if b.Kids.length = 2 then -1 else by64 (tabs a) (tabs b))
theorem cmpS_22 (f : CostF) {a b x y u v : T_api_Tree} (ha : a.Kids = [x, y]) (hb : b.Kids = [u, v]) : cmpS f a b = lex (by64 (costS f a) (costS f b)) (lex (by64 (tabs x) (tabs u)) (lex (cmpS f x u) (cmpS f y v))) := by
  obtain ⟨a1, a2, ks, a3, a4⟩ := a
  dsimp only at ha
  subst ha
  rw [cmpS, hb]
theorem cmpS_2n (f : CostF) {a b x y : T_api_Tree} (ha : a.Kids = [x, y]) (hb : b.Kids.length ≠ 2) : cmpS f a b = lex (by64 (costS f a) (costS f b)) 1 := by
  obtain ⟨a1, a2, ks, a3, a4⟩ := a
  dsimp only at ha
  subst ha
  rw [cmpS]
  congr 1
  split
  · rename_i h; rw [h] at hb; simp at hb
  · rfl
theorem cmpS_n (f : CostF) {a b : T_api_Tree} (ha : a.Kids.length ≠ 2) : cmpS f a b = lex (by64 (costS f a) (costS f b)) (if b.Kids.length = 2 then -1 else by64 (tabs a) (tabs b)) := by
  obtain ⟨a1, a2, ks, a3, a4⟩ := a
  dsimp only at ha
  rw [cmpS]
  rintro a' b' x y c' d' e
  injection e with _ _ e
  subst e
  simp at ha
/-- How three comparisons stand to each other. -/
def Tri (p q r : Int) : Prop := (p ≤ 0 → q ≤ 0 → r ≤ 0 ∧ (p < 0 ∨ q < 0 → r < 0)) ∧ (0 ≤ p → 0 ≤ q → 0 ≤ r ∧ (0 < p ∨ 0 < q → 0 < r))
theorem Tri.lex {p q r p' q' r' : Int} (h : Tri p q r) (k : Tri p' q' r') : Tri (lex p p') (lex q q') (lex r r') := by
  unfold Tri G.lex at *
  split <;> split <;> split <;> omega
theorem tri_by (a b c : Set64) : Tri (by64 a b) (by64 b c) (by64 a c) := by
  unfold Tri by64
  split <;> split <;> split <;> (try split) <;> (try split) <;> (try split) <;> omega
theorem by_anti (a b : Set64) : by64 b a = - by64 a b := by
  unfold by64
  split <;> split <;> (try split) <;> omega
theorem lex_anti {c d c' d' : Int} (h : c' = - c) (k : d' = - d) : lex c' d' = - lex c d := by
  unfold lex
  split <;> split <;> omega
theorem cmp_anti (f : CostF) : ∀ (n : Nat) (a b : T_api_Tree), a.size ≤ n → b.size ≤ n → cmpS f b a = - cmpS f a b := by
  intro n
  induction n with
  | zero => intro a b h; have := tsize_pos a; omega
  | succ n ih =>
    intro a b h1 h2
    by_cases ha : a.Kids.length = 2
    · obtain ⟨x, y, hx⟩ := two_kids ha
      by_cases hb : b.Kids.length = 2
      · obtain ⟨u, v, hu⟩ := two_kids hb
        have e1 := kid_size (t := a) (y := x) (by rw [hx]; simp)
        have e2 := kid_size (t := a) (y := y) (by rw [hx]; simp)
        have e3 := kid_size (t := b) (y := u) (by rw [hu]; simp)
        have e4 := kid_size (t := b) (y := v) (by rw [hu]; simp)
        rw [cmpS_22 f hx hu, cmpS_22 f hu hx]
        exact lex_anti (by_anti _ _) (lex_anti (by_anti _ _) (lex_anti (ih _ _ (by omega) (by omega)) (ih _ _ (by omega) (by omega))))
      · rw [cmpS_2n f hx hb, cmpS_n f hb, if_pos ha]
        exact lex_anti (by_anti _ _) rfl
    · by_cases hb : b.Kids.length = 2
      · obtain ⟨u, v, hu⟩ := two_kids hb
        rw [cmpS_2n f hu ha, cmpS_n f ha, if_pos hb]
        exact lex_anti (by_anti _ _) rfl
      · rw [cmpS_n f ha, cmpS_n f hb, if_neg ha, if_neg hb]
        exact lex_anti (by_anti _ _) (by_anti _ _)
theorem cmp_tri (f : CostF) : ∀ (n : Nat) (a b c : T_api_Tree), a.size ≤ n → b.size ≤ n → c.size ≤ n → Tri (cmpS f a b) (cmpS f b c) (cmpS f a c) := by
  intro n
  induction n with
  | zero => intro a b c h; have := tsize_pos a; omega
  | succ n ih =>
    intro a b c h1 h2 h3
    by_cases ha : a.Kids.length = 2
    · obtain ⟨x, y, hx⟩ := two_kids ha
      by_cases hb : b.Kids.length = 2
      · obtain ⟨u, v, hu⟩ := two_kids hb
        by_cases hc : c.Kids.length = 2
        · obtain ⟨w, z, hw⟩ := two_kids hc
          have e1 := kid_size (t := a) (y := x) (by rw [hx]; simp)
          have e2 := kid_size (t := a) (y := y) (by rw [hx]; simp)
          have e3 := kid_size (t := b) (y := u) (by rw [hu]; simp)
          have e4 := kid_size (t := b) (y := v) (by rw [hu]; simp)
          have e5 := kid_size (t := c) (y := w) (by rw [hw]; simp)
          have e6 := kid_size (t := c) (y := z) (by rw [hw]; simp)
          rw [cmpS_22 f hx hu, cmpS_22 f hu hw, cmpS_22 f hx hw]
          exact (tri_by _ _ _).lex ((tri_by _ _ _).lex ((ih _ _ _ (by omega) (by omega) (by omega)).lex (ih _ _ _ (by omega) (by omega) (by omega))))
        · rw [cmpS_22 f hx hu, cmpS_2n f hu hc, cmpS_2n f hx hc]
          refine (tri_by _ _ _).lex ?_
          unfold Tri; omega
      · by_cases hc : c.Kids.length = 2
        · obtain ⟨w, z, hw⟩ := two_kids hc
          rw [cmpS_2n f hx hb, cmpS_n f hb, if_pos hc, cmpS_22 f hx hw]
          refine (tri_by _ _ _).lex ?_
          unfold Tri; omega
        · rw [cmpS_2n f hx hb, cmpS_n f hb, if_neg hc, cmpS_2n f hx hc]
          refine (tri_by _ _ _).lex ?_
          unfold Tri; omega
    · by_cases hb : b.Kids.length = 2
      · obtain ⟨u, v, hu⟩ := two_kids hb
        by_cases hc : c.Kids.length = 2
        · obtain ⟨w, z, hw⟩ := two_kids hc
          rw [cmpS_n f ha, if_pos hb, cmpS_22 f hu hw, cmpS_n f ha, if_pos hc]
          refine (tri_by _ _ _).lex ?_
          unfold Tri; omega
        · rw [cmpS_n f ha, if_pos hb, cmpS_2n f hu hc, cmpS_n f ha, if_neg hc]
          refine (tri_by _ _ _).lex ?_
          unfold Tri; omega
      · by_cases hc : c.Kids.length = 2
        · rw [cmpS_n f ha, if_neg hb, cmpS_n f hb, if_pos hc, cmpS_n f ha, if_pos hc]
          refine (tri_by _ _ _).lex ?_
          unfold Tri; omega
        · rw [cmpS_n f ha, if_neg hb, cmpS_n f hb, if_neg hc, cmpS_n f ha, if_neg hc]
          exact (tri_by _ _ _).lex (tri_by _ _ _)

theorem order_compare_eq (m : T_cost_Model) (hE : m.Edges.length < 9223372036854775808) : ∀ (n : Nat), n ≤ 1000000000 → ∀ (a b : T_api_Tree), a.size ≤ n → b.size ≤ n → M_order_line_compare ((⟨m⟩ : T_order_line), a, b) = some (cmpS (nodeS m.Kind m.Edges m.Stats) a b) := by
  intro n
  induction n with
  | zero => intro _ a b h; have := tsize_pos a; omega
  | succ n ih =>
    intro hn a b h1 h2
    have ih := ih (by omega)
    rw [M_order_line_compare]
    dsimp only
    rw [cost_Tree_eq m hE a (by omega), cost_Tree_eq m hE b (by omega)]
    generalize hf : nodeS m.Kind m.Edges m.Stats = f at *
    simp -implicitDefEqProofs only [Option.bind_eq_bind, Option.bind_some, order_by_eq]
    by_cases hc : by64 (costS f a) (costS f b) = 0
    · rw [if_neg (by simp [hc])]
      by_cases ha : a.Kids.length = 2
      · obtain ⟨x, y, hx⟩ := two_kids ha
        rw [if_pos (by simp [ha])]
        by_cases hb : b.Kids.length = 2
        · obtain ⟨u, v, hu⟩ := two_kids hb
          rw [if_pos (by simp [hb]), cmpS_22 f hx hu]
          have e1 := kid_size (t := a) (y := x) (by rw [hx]; simp)
          have e2 := kid_size (t := a) (y := y) (by rw [hx]; simp)
          have e3 := kid_size (t := b) (y := u) (by rw [hu]; simp)
          have e4 := kid_size (t := b) (y := v) (by rw [hu]; simp)
          have x0 : a.Kids[0]? = some x := by rw [hx]; rfl
          have u0 : b.Kids[0]? = some u := by rw [hu]; rfl
          have gx : getI a.Kids 0 = some x := by rw [hx]; rfl
          have gu : getI b.Kids 0 = some u := by rw [hu]; rfl
          have gy : getI a.Kids 1 = some y := by rw [hx]; rfl
          have gv : getI b.Kids 1 = some v := by rw [hu]; rfl
          rw [x0, u0]
          simp -implicitDefEqProofs only [Option.bind_some]
          rw [tree_Tables_eq x (by omega), tree_Tables_eq u (by omega)]
          simp -implicitDefEqProofs only [Option.bind_some]
          have hl0 : lex (by64 (costS f a) (costS f b)) (lex (by64 (tabs x) (tabs u)) (lex (cmpS f x u) (cmpS f y v))) = lex (by64 (tabs x) (tabs u)) (lex (cmpS f x u) (cmpS f y v)) := by unfold lex; rw [if_pos hc]
          rw [hl0]
          by_cases ht : by64 (tabs x) (tabs u) = 0
          · have hl1 : lex (by64 (tabs x) (tabs u)) (lex (cmpS f x u) (cmpS f y v)) = lex (cmpS f x u) (cmpS f y v) := by unfold lex; rw [if_pos ht]
            rw [if_neg (by simp [ht]), hl1]
            have hal : (a.Kids.length : Int) = 2 := by omega
            rw [hal]
            have i1 := ih x u (by omega) (by omega)
            have i2 := ih y v (by omega) (by omega)
            have l2 : M_order_line_compare.l0 (2, 2, (⟨m⟩ : T_order_line), a, b) = some (.brk ()) := by
              rw [M_order_line_compare.l0, if_neg (by simp)]
            have l1 : M_order_line_compare.l0 (2, 1, (⟨m⟩ : T_order_line), a, b) = some (if cmpS f y v = 0 then .brk () else .ret (cmpS f y v)) := by
              rw [M_order_line_compare.l0, if_pos (by simp)]
              dsimp only
              rw [gy, gv]
              simp -implicitDefEqProofs only [Option.bind_eq_bind, Option.bind_some]
              rw [i2]
              simp -implicitDefEqProofs only [Option.bind_some]
              have : w64 (1 + 1) = 2 := by decide
              rw [this, l2]
              by_cases h0 : cmpS f y v = 0
              · rw [if_neg (by simp [h0]), if_pos h0]
              · rw [if_pos (by simp [h0]), if_neg h0]
            have l0 : M_order_line_compare.l0 (2, 0, (⟨m⟩ : T_order_line), a, b) = some (if lex (cmpS f x u) (cmpS f y v) = 0 then .brk () else .ret (lex (cmpS f x u) (cmpS f y v))) := by
              rw [M_order_line_compare.l0, if_pos (by simp)]
              dsimp only
              rw [gx, gu]
              simp -implicitDefEqProofs only [Option.bind_eq_bind, Option.bind_some]
              rw [i1]
              simp -implicitDefEqProofs only [Option.bind_some]
              have : w64 (0 + 1) = 1 := by decide
              rw [this, l1]
              unfold lex
              by_cases h0 : cmpS f x u = 0
              · rw [if_neg (by simp [h0]), if_pos h0]
              · rw [if_pos (by simp [h0]), if_neg h0, if_neg h0]
            rw [l0]
            simp -implicitDefEqProofs only [Option.bind_some]
            by_cases h0 : lex (cmpS f x u) (cmpS f y v) = 0
            · rw [if_pos h0, h0]
            · rw [if_neg h0]
          · rw [if_pos (by simp [ht])]
            unfold lex
            rw [if_neg ht]
        · rw [if_neg (by simp; omega), cmpS_2n f hx hb]
          unfold lex
          rw [if_pos hc]
      · rw [if_neg (by simp; omega), cmpS_n f ha]
        by_cases hb : b.Kids.length = 2
        · rw [if_pos (by simp [hb]), if_pos hb]
          unfold lex
          rw [if_pos hc]
        · rw [if_neg (by simp; omega), if_neg hb, tree_Tables_eq a (by omega), tree_Tables_eq b (by omega)]
          simp -implicitDefEqProofs only [Option.bind_some]
          unfold lex
          rw [if_pos hc]
    · rw [if_pos (by simp [hc])]
      have : cmpS f a b = by64 (costS f a) (costS f b) := by
        by_cases ha : a.Kids.length = 2
        · obtain ⟨x, y, hx⟩ := two_kids ha
          by_cases hb : b.Kids.length = 2
          · obtain ⟨u, v, hu⟩ := two_kids hb
            rw [cmpS_22 f hx hu]; unfold lex; rw [if_neg hc]
          · rw [cmpS_2n f hx hb]; unfold lex; rw [if_neg hc]
        · rw [cmpS_n f ha]; unfold lex; rw [if_neg hc]
      rw [this]

theorem by64_lt (a b : Set64) : by64 a b < 0 ↔ a < b := by
  unfold by64
  have : a < b ↔ a.toNat < b.toNat := Iff.rfl
  rw [this]
  split
  · simp; omega
  · split <;> simp <;> omega
theorem by64_zero (a b : Set64) : by64 a b = 0 ↔ a = b := by
  unfold by64
  rw [← BitVec.toNat_inj]
  split
  · simp; omega
  · split <;> simp <;> omega
theorem ref29_Ahead_eq (r : T_ref28_Model) (hE : r.Edges.length < 9223372036854775808) : ∀ (n : Nat), n ≤ 1000000000 → ∀ (a b : T_api_Tree), a.size ≤ n → b.size ≤ n → M_ref29_Ahead (r, a, b) = some (decide (cmpS (nodeS r.Kind r.Edges r.Stats) a b < 0)) := by
  intro n
  induction n with
  | zero => intro _ a b h; have := tsize_pos a; omega
  | succ n ih =>
    intro hn a b h1 h2
    have ih := ih (by omega)
    have han := fun x u hx hu => cmp_anti (nodeS r.Kind r.Edges r.Stats) n x u hx hu
    rw [M_ref29_Ahead]
    dsimp only
    rw [ref28_Tree_eq r hE a (by omega), ref28_Tree_eq r hE b (by omega)]
    generalize hf : nodeS r.Kind r.Edges r.Stats = f at *
    simp -implicitDefEqProofs only [Option.bind_eq_bind, Option.bind_some]
    by_cases hc : costS f a = costS f b
    · have hc0 : by64 (costS f a) (costS f b) = 0 := (by64_zero _ _).2 hc
      rw [if_neg (by simp [hc])]
      by_cases ha : a.Kids.length = 2
      · obtain ⟨x, y, hx⟩ := two_kids ha
        rw [if_neg (by simp [ha])]
        by_cases hb : b.Kids.length = 2
        · obtain ⟨u, v, hu⟩ := two_kids hb
          rw [if_neg (by simp [hb]), cmpS_22 f hx hu]
          have e1 := kid_size (t := a) (y := x) (by rw [hx]; simp)
          have e2 := kid_size (t := a) (y := y) (by rw [hx]; simp)
          have e3 := kid_size (t := b) (y := u) (by rw [hu]; simp)
          have e4 := kid_size (t := b) (y := v) (by rw [hu]; simp)
          have x0 : a.Kids[0]? = some x := by rw [hx]; rfl
          have u0 : b.Kids[0]? = some u := by rw [hu]; rfl
          have x1 : a.Kids[1]? = some y := by rw [hx]; rfl
          have u1 : b.Kids[1]? = some v := by rw [hu]; rfl
          rw [x0, u0, x1, u1]
          simp -implicitDefEqProofs only [Option.bind_some]
          rw [ref10_Tables_eq x (by omega), ref10_Tables_eq u (by omega)]
          simp -implicitDefEqProofs only [Option.bind_some]
          rw [ih x u (by omega) (by omega), ih u x (by omega) (by omega), ih y v (by omega) (by omega), han x u (by omega) (by omega)]
          simp -implicitDefEqProofs only [Option.bind_some]
          have hl0 : lex (by64 (costS f a) (costS f b)) (lex (by64 (tabs x) (tabs u)) (lex (cmpS f x u) (cmpS f y v))) = lex (by64 (tabs x) (tabs u)) (lex (cmpS f x u) (cmpS f y v)) := by unfold lex; rw [if_pos hc0]
          rw [hl0]
          by_cases ht : tabs x = tabs u
          · have ht0 : by64 (tabs x) (tabs u) = 0 := (by64_zero _ _).2 ht
            have hl1 : lex (by64 (tabs x) (tabs u)) (lex (cmpS f x u) (cmpS f y v)) = lex (cmpS f x u) (cmpS f y v) := by unfold lex; rw [if_pos ht0]
            rw [if_neg (by simp [ht]), hl1]
            unfold lex
            by_cases h0 : cmpS f x u < 0
            · rw [if_pos (by simpa using h0), if_neg (by omega)]
              simp [h0]
            · rw [if_neg (by simpa using h0)]
              by_cases h3 : - cmpS f x u < 0
              · rw [if_pos (by simpa using h3), if_neg (by omega)]
                simp; omega
              · rw [if_neg (by simpa using h3), if_pos (by omega)]
          · rw [if_pos (by simpa using ht)]
            have hl1 : lex (by64 (tabs x) (tabs u)) (lex (cmpS f x u) (cmpS f y v)) = by64 (tabs x) (tabs u) := by unfold lex; rw [if_neg (fun e => ht ((by64_zero _ _).1 e))]
            rw [hl1]
            congr 1
            exact decide_eq_decide.2 (by64_lt _ _).symm
        · rw [if_pos (by simp; omega), cmpS_2n f hx hb]
          unfold lex
          rw [if_pos hc0]
          simp; omega
      · rw [if_pos (by simp; omega), cmpS_n f ha]
        by_cases hb : b.Kids.length = 2
        · rw [if_pos (by simp [hb]), if_pos hb]
          unfold lex
          rw [if_pos hc0]
          simp [hb]
        · rw [if_neg (by simp; omega), if_neg hb, ref10_Tables_eq a (by omega), ref10_Tables_eq b (by omega)]
          simp -implicitDefEqProofs only [Option.bind_some]
          unfold lex
          rw [if_pos hc0]
          congr 1
          exact decide_eq_decide.2 (by64_lt _ _).symm
    · rw [if_pos (by simpa using hc)]
      have hc0 : ¬ by64 (costS f a) (costS f b) = 0 := fun e => hc ((by64_zero _ _).1 e)
      have : cmpS f a b = by64 (costS f a) (costS f b) := by
        by_cases ha : a.Kids.length = 2
        · obtain ⟨x, y, hx⟩ := two_kids ha
          by_cases hb : b.Kids.length = 2
          · obtain ⟨u, v, hu⟩ := two_kids hb
            rw [cmpS_22 f hx hu]; unfold lex; rw [if_neg hc0]
          · rw [cmpS_2n f hx hb]; unfold lex; rw [if_neg hc0]
        · rw [cmpS_n f ha]; unfold lex; rw [if_neg hc0]
      rw [this]
      congr 1
      exact decide_eq_decide.2 (by64_lt _ _).symm
end Go.Proofs.Ytakmilmckdllfaa.G
set_option linter.unusedVariables false
set_option linter.unusedSimpArgs false
namespace Go.Proofs.Ytakmilmckdllfaa.G

/-- The first of those that come first. -/
structure IsFirst (f : CostF) (l : List T_api_Tree) (k : Nat) : Prop where
  lt : k < l.length
  all : ∀ j (h : j < l.length), cmpS f l[k] l[j] ≤ 0
  prev : ∀ j (h : j < l.length), j < k → cmpS f l[k] l[j] < 0
theorem order_First_eq (m : T_cost_Model) (hE : m.Edges.length < 9223372036854775808) (l : List T_api_Tree) (hl : l.length < 9223372036854775808) (hs : ∀ t ∈ l, t.size ≤ 1000000) (hne : l ≠ []) : ∃ k : Nat, IsFirst (nodeS m.Kind m.Edges m.Stats) l k ∧ M_order_First (m, l) = some (k : Int) := by
  let f := nodeS m.Kind m.Edges m.Stats
  have cmp : ∀ i j (hi : i < l.length) (hj : j < l.length), M_order_line_compare ((⟨m⟩ : T_order_line), l[i], l[j]) = some (cmpS f l[i] l[j]) := fun i j hi hj => order_compare_eq m hE 1000000 (by omega) _ _ (hs _ (List.getElem_mem hi)) (hs _ (List.getElem_mem hj))
  have tri : ∀ i j k (hi : i < l.length) (hj : j < l.length) (hk : k < l.length), Tri (cmpS f l[i] l[j]) (cmpS f l[j] l[k]) (cmpS f l[i] l[k]) := fun i j k hi hj hk => cmp_tri f 1000000 _ _ _ (hs _ (List.getElem_mem hi)) (hs _ (List.getElem_mem hj)) (hs _ (List.getElem_mem hk))
  have anti : ∀ i j (hi : i < l.length) (hj : j < l.length), cmpS f l[j] l[i] = - cmpS f l[i] l[j] := fun i j hi hj => cmp_anti f 1000000 _ _ (hs _ (List.getElem_mem hi)) (hs _ (List.getElem_mem hj))
  have key : ∀ n i (a : Nat) (ha : a < l.length), l.length - i = n → i ≤ l.length → a < i → (∀ j (h : j < l.length), j < i → cmpS f l[a] l[j] ≤ 0) → (∀ j (h : j < l.length), j < a → cmpS f l[a] l[j] < 0) →
      ∃ k, IsFirst f l k ∧ M_order_First.l0 (l, (⟨m⟩ : T_order_line), (a : Int), (l.length : Int), (i : Int)) = some (k : Int) := by
    intro n
    induction n with
    | zero =>
      intro i a ha h1 h2 h3 h4 h5
      obtain rfl : i = l.length := by omega
      refine ⟨a, ⟨ha, fun j h => h4 j h h, fun j h hj => h5 j h hj⟩, ?_⟩
      rw [M_order_First.l0, if_neg (dge (by dsimp only; omega))]
    | succ n ih =>
      intro i a ha h1 h2 h3 h4 h5
      have hi : i < l.length := by omega
      rw [M_order_First.l0, if_pos (dlt (by dsimp only; omega))]
      dsimp only
      rw [if_neg (dge (by omega)), getI_nat hi, getI_nat ha]
      simp -implicitDefEqProofs only [Option.bind_eq_bind, Option.bind_some]
      rw [cmp i a hi ha]
      simp -implicitDefEqProofs only [Option.bind_some]
      rw [w64_succ (by omega)]
      by_cases hc : cmpS f l[i] l[a] < 0
      · rw [if_pos (dlt hc)]
        refine ih (i + 1) i hi (by omega) (by omega) (by omega) (fun j h hj => ?_) (fun j h hj => ?_)
        · by_cases e : j = i
          · subst e; have := anti j j hi hi; omega
          · have h6 := h4 j h (by omega)
            have := (tri i a j hi ha h).1 (by omega) h6
            omega
        · have h6 := h4 j h (by omega)
          have := ((tri i a j hi ha h).1 (by omega) h6).2 (.inl hc)
          omega
      · rw [if_neg (dge hc)]
        refine ih (i + 1) a ha (by omega) (by omega) (by omega) (fun j h hj => ?_) h5
        by_cases e : j = i
        · subst e; have := anti a j ha hi; omega
        · exact h4 j h (by omega)
  have hpos : 0 < l.length := List.length_pos_iff.2 hne
  obtain ⟨k, h1, h2⟩ := key (l.length - 1) 1 0 hpos (by omega) (by omega) (by omega) (fun j h hj => by
    obtain rfl : j = 0 := by omega
    have := anti 0 0 hpos hpos; omega) (fun j h hj => by omega)
  refine ⟨k, h1, ?_⟩
  unfold M_order_First
  dsimp only
  rw [M_order_First.l0, if_pos (dlt (by dsimp only; omega))]
  dsimp only
  rw [if_pos (by simp)]
  have : w64 (0 + 1) = ((1 : Nat) : Int) := by decide
  rw [this]
  have h2' : M_order_First.l0 (l, (⟨m⟩ : T_order_line), 0, (l.length : Int), ((1 : Nat) : Int)) = some (k : Int) := h2
  rw [h2']; rfl
theorem ref29_First_eq (r : T_ref28_Model) (hE : r.Edges.length < 9223372036854775808) (l : List T_api_Tree) (hl : l.length < 9223372036854775808) (hs : ∀ t ∈ l, t.size ≤ 1000000) {k : Nat} (hk : IsFirst (nodeS r.Kind r.Edges r.Stats) l k) : M_ref29_First (r, l) = some (k : Int) := by
  let f := nodeS r.Kind r.Edges r.Stats
  have cmp : ∀ i j (hi : i < l.length) (hj : j < l.length), M_ref29_Ahead (r, l[i], l[j]) = some (decide (cmpS f l[i] l[j] < 0)) := fun i j hi hj => ref29_Ahead_eq r hE 1000000 (by omega) _ _ (hs _ (List.getElem_mem hi)) (hs _ (List.getElem_mem hj))
  have anti : ∀ i j (hi : i < l.length) (hj : j < l.length), cmpS f l[j] l[i] = - cmpS f l[i] l[j] := fun i j hi hj => cmp_anti f 1000000 _ _ (hs _ (List.getElem_mem hi)) (hs _ (List.getElem_mem hj))
  have inner : ∀ i (hi : i < l.length) n j (b : Bool), l.length - j = n → j ≤ l.length → M_ref29_First.l1 (l, (i : Int), b, (j : Int), r) = some (b && decide (∀ k (h : k < l.length), j ≤ k → ¬ cmpS f l[k] l[i] < 0)) := by
    intro i hi n
    induction n with
    | zero =>
      intro j b h1 h2
      obtain rfl : j = l.length := by omega
      rw [M_ref29_First.l1, if_neg (dge (by dsimp only; omega))]
      have : ∀ k (h : k < l.length), l.length ≤ k → ¬ cmpS f l[k] l[i] < 0 := fun k h h' => by omega
      rw [decide_eq_true this, Bool.and_true]
    | succ n ih =>
      intro j b h1 h2
      have hj : j < l.length := by omega
      rw [M_ref29_First.l1, if_pos (dlt (by dsimp only; omega))]
      dsimp only
      rw [getI_nat hj, getI_nat hi]
      simp -implicitDefEqProofs only [Option.bind_eq_bind, Option.bind_some]
      rw [cmp j i hj hi]
      simp -implicitDefEqProofs only [Option.bind_some]
      rw [w64_succ (by omega), ih (j + 1) _ (by omega) (by omega), ih (j + 1) _ (by omega) (by omega)]
      have split : (∀ k (h : k < l.length), j ≤ k → ¬ cmpS f l[k] l[i] < 0) ↔ ¬ cmpS f l[j] l[i] < 0 ∧ ∀ k (h : k < l.length), j + 1 ≤ k → ¬ cmpS f l[k] l[i] < 0 := by
        constructor
        · intro h; exact ⟨h j hj (Nat.le_refl _), fun k h' h2 => h k h' (by omega)⟩
        · rintro ⟨h, h'⟩ k hk h2
          by_cases e : k = j
          · subst e; exact h
          · exact h' k hk (by omega)
      by_cases hc : cmpS f l[j] l[i] < 0
      · rw [if_pos (by simpa using hc)]
        have : ¬ (∀ k (h : k < l.length), j ≤ k → ¬ cmpS f l[k] l[i] < 0) := fun h => (split.1 h).1 hc
        rw [decide_eq_false this]; simp
      · rw [if_neg (by simpa using hc)]
        congr 2
        exact decide_eq_decide.2 ⟨fun h => split.2 ⟨hc, h⟩, fun h => (split.1 h).2⟩
  have outer : ∀ n i, k - i = n → i ≤ k → M_ref29_First.l0 (l, (i : Int), r) = some (.ret (k : Int)) := by
    intro n
    induction n with
    | zero =>
      intro i h1 h2
      obtain rfl : i = k := by omega
      have hi := hk.lt
      rw [M_ref29_First.l0, if_pos (dlt (by dsimp only; omega))]
      dsimp only
      have := inner i hi l.length 0 true (by omega) (by omega)
      rw [show ((0 : Nat) : Int) = 0 from rfl] at this
      rw [this]
      have h3 : ∀ j (h : j < l.length), 0 ≤ j → ¬ cmpS f l[j] l[i] < 0 := fun j h _ => by
        have h4 : cmpS f l[i] l[j] ≤ 0 := hk.all j h
        have := anti i j hi h
        omega
      rw [decide_eq_true h3]; rfl
    | succ n ih =>
      intro i h1 h2
      have hkl := hk.lt
      have hi : i < l.length := by omega
      rw [M_ref29_First.l0, if_pos (dlt (by dsimp only; omega))]
      dsimp only
      have := inner i hi l.length 0 true (by omega) (by omega)
      rw [show ((0 : Nat) : Int) = 0 from rfl] at this
      rw [this]
      have h3 : ¬ ∀ j (h : j < l.length), 0 ≤ j → ¬ cmpS f l[j] l[i] < 0 := fun h => h k hkl (Nat.zero_le _) (hk.prev i hi (by omega))
      rw [decide_eq_false h3]
      simp -implicitDefEqProofs only [Option.bind_eq_bind, Option.bind_some, Bool.and_false]
      rw [if_neg (by decide), w64_succ (by omega)]
      exact ih (i + 1) (by omega) (by omega)
  unfold M_ref29_First
  have := outer k 0 (by omega) (by omega)
  rw [show ((0 : Nat) : Int) = 0 from rfl] at this
  dsimp only
  rw [this]; rfl
theorem ref29_Compare_eq (r : T_ref28_Model) (hE : r.Edges.length < 9223372036854775808) (a b : T_api_Tree) (ha : a.size ≤ 1000000) (hb : b.size ≤ 1000000) : M_ref29_Compare (r, a, b) = some (cmpS (nodeS r.Kind r.Edges r.Stats) a b) ↔ (cmpS (nodeS r.Kind r.Edges r.Stats) a b = -1 ∨ cmpS (nodeS r.Kind r.Edges r.Stats) a b = 0 ∨ cmpS (nodeS r.Kind r.Edges r.Stats) a b = 1) := by
  have anti := cmp_anti (nodeS r.Kind r.Edges r.Stats) 1000000 a b ha hb
  unfold M_ref29_Compare
  dsimp only
  rw [ref29_Ahead_eq r hE 1000000 (by omega) a b ha hb, ref29_Ahead_eq r hE 1000000 (by omega) b a hb ha]
  simp -implicitDefEqProofs only [Option.bind_eq_bind, Option.bind_some]
  generalize cmpS (nodeS r.Kind r.Edges r.Stats) a b = c at *
  generalize cmpS (nodeS r.Kind r.Edges r.Stats) b a = d at *
  by_cases h1 : c < 0
  · rw [if_pos (dlt h1)]
    constructor
    · intro h; injection h with h; omega
    · intro h; congr 1; omega
  · rw [if_neg (dge h1)]
    by_cases h2 : d < 0
    · rw [if_pos (dlt h2)]
      constructor
      · intro h; injection h with h; omega
      · intro h; congr 1; omega
    · rw [if_neg (dge h2)]
      constructor
      · intro h; injection h with h; omega
      · intro h; congr 1; omega
theorem by64_three (a b : Set64) : by64 a b = -1 ∨ by64 a b = 0 ∨ by64 a b = 1 := by
  unfold by64
  split
  · simp
  · split <;> simp
theorem lex_three {c d : Int} (h : c = -1 ∨ c = 0 ∨ c = 1) (k : d = -1 ∨ d = 0 ∨ d = 1) : lex c d = -1 ∨ lex c d = 0 ∨ lex c d = 1 := by
  unfold lex
  split
  · exact k
  · exact h
theorem cmp_three (f : CostF) : ∀ (n : Nat) (a b : T_api_Tree), a.size ≤ n → cmpS f a b = -1 ∨ cmpS f a b = 0 ∨ cmpS f a b = 1 := by
  intro n
  induction n with
  | zero => intro a b h; have := tsize_pos a; omega
  | succ n ih =>
    intro a b h1
    by_cases ha : a.Kids.length = 2
    · obtain ⟨x, y, hx⟩ := two_kids ha
      by_cases hb : b.Kids.length = 2
      · obtain ⟨u, v, hu⟩ := two_kids hb
        have e1 := kid_size (t := a) (y := x) (by rw [hx]; simp)
        have e2 := kid_size (t := a) (y := y) (by rw [hx]; simp)
        rw [cmpS_22 f hx hu]
        exact lex_three (by64_three _ _) (lex_three (by64_three _ _) (lex_three (ih _ _ (by omega)) (ih _ _ (by omega))))
      · rw [cmpS_2n f hx hb]
        exact lex_three (by64_three _ _) (by simp)
    · rw [cmpS_n f ha]
      split
      · exact lex_three (by64_three _ _) (by simp)
      · exact lex_three (by64_three _ _) (by64_three _ _)
/-- Are there few. -/
theorem law28_Few_eq (m : T_cost_Model) : ∃ b, M_law28_Few m = some b ∧ (b = true → m.Edges.length ≤ 60 ∧ m.Stats.Rows.length ≤ 100 ∧ m.Stats.Sel.length ≤ 100) := by
  unfold M_law28_Few
  by_cases h1 : (m.Edges.length : Int) ≤ 60
  · rw [if_pos (by simpa using h1)]
    by_cases h2 : (m.Stats.Rows.length : Int) ≤ 100
    · rw [if_pos (by simpa using h2)]
      refine ⟨_, rfl, fun h => ⟨by omega, by omega, by have := of_decide_eq_true h; omega⟩⟩
    · rw [if_neg (by simpa using h2)]
      exact ⟨_, rfl, fun h => by cases h⟩
  · rw [if_neg (by simpa using h1)]
    exact ⟨_, rfl, fun h => by cases h⟩
theorem law29_light_eq (m : T_cost_Model) (l : List T_api_Tree) : ∃ b, M_law29_light (m, l) = some b ∧ (b = true → m.Edges.length ≤ 60 ∧ l.length ≤ 8 ∧ ∀ t ∈ l, t.size ≤ 100) := by
  have key : ∀ n i, 20 - i = n → i ≤ 20 → i ≤ l.length → ∃ o, M_law29_light.l0 (l, (i : Int), m) = some o ∧ (o = .ret false ∨ (o = .brk () ∧ ∀ j (h : j < l.length), i ≤ j → j < 20 → l[j].size ≤ 100)) := by
    intro n
    induction n with
    | zero =>
      intro i h1 h2 h3
      obtain rfl : i = 20 := by omega
      rw [M_law29_light.l0]
      dsimp only
      by_cases h : 20 < l.length
      · rw [if_pos (dlt (by omega)), if_neg (by simp)]
        exact ⟨_, rfl, .inr ⟨rfl, fun j h1 h2 h3 => by omega⟩⟩
      · rw [if_neg (dge (by omega))]
        exact ⟨_, rfl, .inr ⟨rfl, fun j h1 h2 h3 => by omega⟩⟩
    | succ n ih =>
      intro i h1 h2 h3
      rw [M_law29_light.l0]
      dsimp only
      by_cases h : i < l.length
      · rw [if_pos (dlt (by omega)), if_pos (dlt (by omega)), getI_nat h]
        simp -implicitDefEqProofs only [Option.bind_eq_bind, Option.bind_some]
        have e := ref10_Size_eq l[i] 101 (by omega) (by omega)
        rw [show ((101 : Nat) : Int) = 101 from rfl] at e
        rw [e]
        simp -implicitDefEqProofs only [Option.bind_some]
        by_cases hc : ((min l[i].size 101 : Nat) : Int) > 100
        · rw [if_pos (by simpa using hc)]
          exact ⟨_, rfl, .inl rfl⟩
        · rw [if_neg (by simpa using hc), w64_succ (by omega)]
          obtain ⟨o, k1, k2⟩ := ih (i + 1) (by omega) (by omega) (by omega)
          refine ⟨o, k1, k2.imp id fun ⟨k3, k4⟩ => ⟨k3, fun j g1 g2 g3 => ?_⟩⟩
          by_cases ej : j = i
          · subst ej; omega
          · exact k4 j g1 (by omega) g3
      · rw [if_neg (dge (by omega))]
        exact ⟨_, rfl, .inr ⟨rfl, fun j h1 h2 h3 => by omega⟩⟩
  obtain ⟨o, h1, h2⟩ := key 20 0 (by omega) (by omega) (by omega)
  unfold M_law29_light
  rw [show ((0 : Nat) : Int) = 0 from rfl] at h1
  dsimp only
  rw [h1]
  simp -implicitDefEqProofs only [Option.bind_eq_bind, Option.bind_some]
  rcases h2 with rfl | ⟨rfl, h2⟩
  · exact ⟨_, rfl, fun h => by cases h⟩
  · dsimp only
    obtain ⟨b, h3, h4⟩ := law28_Few_eq m
    rw [h3]
    simp -implicitDefEqProofs only [Option.bind_some]
    cases b with
    | false => exact ⟨_, rfl, fun h => by cases h⟩
    | true =>
      refine ⟨_, rfl, fun h => ?_⟩
      have hl : l.length ≤ 8 := by have := of_decide_eq_true h; omega
      refine ⟨(h4 rfl).1, hl, fun t ht => ?_⟩
      obtain ⟨j, hj, rfl⟩ := List.getElem_of_mem ht
      exact h2 j hj (Nat.zero_le _) (by omega)

/-- Which of two trees comes first, which of all: the program tells what the document tells. -/
theorem orderTells_plain (haw : M_law29_awake () = some true) (m : T_cost_Model) (l : List T_api_Tree) : M_law29_OrderTells (m, l) = some true := by
  unfold M_law29_OrderTells
  dsimp only
  obtain ⟨b, h1, h2⟩ := law29_light_eq m l
  rw [h1]
  simp -implicitDefEqProofs only [Option.bind_eq_bind, Option.bind_some]
  cases b with
  | false => rw [if_neg (by decide), haw]; rfl
  | true =>
    obtain ⟨hE, hl, hs⟩ := h2 rfl
    rw [if_pos rfl]
    let r : T_ref28_Model := ⟨m.Kind, m.Edges, m.Stats⟩
    let f := nodeS m.Kind m.Edges m.Stats
    have hs' : ∀ t ∈ l, t.size ≤ 1000000 := fun t ht => Nat.le_trans (hs t ht) (by omega)
    have cmp1 : ∀ i j (hi : i < l.length) (hj : j < l.length), M_order_Compare (m, l[i], l[j]) = some (cmpS f l[i] l[j]) := fun i j hi hj => by
      unfold M_order_Compare
      dsimp only
      rw [order_compare_eq m (by omega) 1000000 (by omega) _ _ (hs' _ (List.getElem_mem hi)) (hs' _ (List.getElem_mem hj))]; rfl
    have cmp2 : ∀ i j (hi : i < l.length) (hj : j < l.length), M_ref29_Compare (r, l[i], l[j]) = some (cmpS f l[i] l[j]) := fun i j hi hj =>
      (ref29_Compare_eq r (by show m.Edges.length < _; omega) _ _ (hs' _ (List.getElem_mem hi)) (hs' _ (List.getElem_mem hj))).2 (cmp_three _ 1000000 _ _ (hs' _ (List.getElem_mem hi)))
    have inner : ∀ i (hi : i < l.length) n j, l.length - j = n → j ≤ l.length → M_law29_OrderTells.l1 (l, (i : Int), (j : Int), m, r) = some (.brk ()) := by
      intro i hi n
      induction n with
      | zero =>
        intro j h1 h2
        obtain rfl : j = l.length := by omega
        rw [M_law29_OrderTells.l1, if_neg (dge (by dsimp only; omega))]
      | succ n ih =>
        intro j h1 h2
        have hj : j < l.length := by omega
        rw [M_law29_OrderTells.l1, if_pos (dlt (by dsimp only; omega))]
        dsimp only
        rw [getI_nat hi, getI_nat hj]
        simp -implicitDefEqProofs only [Option.bind_eq_bind, Option.bind_some]
        rw [cmp1 i j hi hj, cmp2 i j hi hj]
        simp -implicitDefEqProofs only [Option.bind_some]
        rw [if_neg (by simp), w64_succ (by omega)]
        exact ih (j + 1) (by omega) (by omega)
    have outer : ∀ n i, l.length - i = n → i ≤ l.length → M_law29_OrderTells.l0 (l, (i : Int), m, r) = some (.brk ()) := by
      intro n
      induction n with
      | zero =>
        intro i h1 h2
        obtain rfl : i = l.length := by omega
        rw [M_law29_OrderTells.l0, if_neg (dge (by dsimp only; omega))]
      | succ n ih =>
        intro i h1 h2
        have hi : i < l.length := by omega
        rw [M_law29_OrderTells.l0, if_pos (dlt (by dsimp only; omega))]
        dsimp only
        have := inner i hi l.length 0 (by omega) (by omega)
        rw [show ((0 : Nat) : Int) = 0 from rfl] at this
        rw [this]
        simp -implicitDefEqProofs only [Option.bind_eq_bind, Option.bind_some]
        rw [w64_succ (by omega)]
        exact ih (i + 1) (by omega) (by omega)
    have h0 := outer l.length 0 (by omega) (by omega)
    rw [show ((0 : Nat) : Int) = 0 from rfl] at h0
    rw [h0]
    simp -implicitDefEqProofs only [Option.bind_some]
    have hfirst : ∃ k : Int, M_order_First (m, l) = some k ∧ M_ref29_First (r, l) = some k := by
      by_cases hne : l = []
      · subst hne
        refine ⟨-1, ?_, ?_⟩
        · unfold M_order_First; dsimp only; rw [M_order_First.l0, if_neg (by simp)]; rfl
        · unfold M_ref29_First; dsimp only; rw [M_ref29_First.l0, if_neg (by simp)]; rfl
      · obtain ⟨k, k1, k2⟩ := order_First_eq m (by omega) l (by omega) hs' hne
        exact ⟨k, k2, ref29_First_eq r (by show m.Edges.length < _; omega) l (by omega) hs' k1⟩
    obtain ⟨k, k1, k2⟩ := hfirst
    rw [k1]
    simp -implicitDefEqProofs only [Option.bind_some]
    have k2' : M_ref29_First ((⟨m.Kind, m.Edges, ⟨m.Stats.Rows, m.Stats.Sel⟩⟩ : T_ref28_Model), l) = some k := k2
    rw [k2']
    simp -implicitDefEqProofs only [Option.bind_some]
    rw [if_pos (by simp), haw]; rfl
end Go.Proofs.Ytakmilmckdllfaa.G
set_option linter.unusedVariables false
set_option linter.unusedSimpArgs false
namespace Go.Proofs.Ytakmilmckdllfaa.G

def eq01 : T_api_Pred := ⟨2, 0, 1, ⟨1, 0, 0, ⟨false, 0⟩⟩, ⟨1, 1, 0, ⟨false, 0⟩⟩, []⟩
def lf (n : Int) : T_api_Tree := ⟨0, n, [], [], false⟩
def two (k : Int) (a b : Int) : T_api_Tree := ⟨k, 0, [lf a, lf b], [eq01], false⟩
theorem lf_tour (n : Int) : (lf n).tour = [lf n] := by rw [tour_eq]; rfl
theorem two_tour (k a b : Int) : (two k a b).tour = [lf a, lf b, two k a b] := by
  rw [tour_eq]
  show [lf a, lf b].flatMap T_api_Tree.tour ++ _ = _
  simp [lf_tour]
theorem eq01_size : eq01.size = 1 := by rw [psize_eq]; rfl
theorem lf_size (n : Int) : (lf n).size = 1 := by rw [tsize_eq]; rfl
theorem two_size (k a b : Int) : (two k a b).size = 4 := by
  rw [tsize_eq]
  show 1 + ([eq01].map T_api_Pred.size).sum + ([lf a, lf b].map T_api_Tree.size).sum = 4
  simp [eq01_size, lf_size]
theorem lf_tabs (n : Int) : tabs (lf n) = bitI n := by
  unfold tabs
  rw [lf_tour]
  simp [leafTabs, lf, ofL_cons, ofL_nil]
theorem law10_Two_eq (k : Int) : M_law10_Two k = some (two k 0 1) := rfl
theorem ref05_Tables_eq (t : T_api_Term) : M_ref05_Tables t = some (if t.Kind = 1 then bitI t.Table else 0#64) := by
  unfold M_ref05_Tables
  by_cases h : t.Kind = 1
  · rw [if_neg (by simpa using h), if_pos h, ref01_Of_eq _ (by simp)]
    simp -implicitDefEqProofs only [Option.bind_eq_bind, Option.bind_some]
    rw [ofL_cons, ofL_nil, BitVec.or_zero]
  · rw [if_pos (by simpa using h), if_neg h]
theorem eq01_tables : M_ref06_Tables eq01 = some (3#64) := by
  rw [M_ref06_Tables, ref05_Tables_eq, ref05_Tables_eq]
  simp -implicitDefEqProofs only [Option.bind_eq_bind, Option.bind_some]
  rw [M_ref06_Tables.l0, if_neg (by simp [eq01])]
  rfl
theorem levels_two : M_ref18_Of (two 1 0 1) = some ⟨[⟨eq01, 1#64, 2#64, -1⟩], []⟩ := by
  unfold M_ref18_Of
  rw [ref10_All_eq _ (by rw [two_size]; omega), two_tour]
  simp -implicitDefEqProofs only [Option.bind_eq_bind, Option.bind_some]
  have w1 : w64 (0 + 1) = 1 := by decide
  have w2 : w64 (1 + 1) = 2 := by decide
  have w3 : w64 (2 + 1) = 3 := by decide
  have g0 : getI [lf 0, lf 1, two 1 0 1] 0 = some (lf 0) := rfl
  have g1 : getI [lf 0, lf 1, two 1 0 1] 1 = some (lf 1) := rfl
  have g2 : getI [lf 0, lf 1, two 1 0 1] 2 = some (two 1 0 1) := rfl
  have e0 : M_ref18_Of.l0 ([lf 0, lf 1, two 1 0 1], ([] : List Set64), 0, (⟨[], []⟩ : T_ref18_Levels), (⟨[], []⟩ : T_ref18_Levels)) = some [] := by
    rw [M_ref18_Of.l0, if_pos (by simp)]
    dsimp only
    rw [g0]
    simp -implicitDefEqProofs only [Option.bind_eq_bind, Option.bind_some]
    rw [if_neg (by simp [lf]), w1]
    rw [M_ref18_Of.l0, if_pos (by simp)]
    dsimp only
    rw [g1]
    simp -implicitDefEqProofs only [Option.bind_eq_bind, Option.bind_some]
    rw [if_neg (by simp [lf]), w2]
    rw [M_ref18_Of.l0, if_pos (by simp)]
    dsimp only
    rw [g2]
    simp -implicitDefEqProofs only [Option.bind_eq_bind, Option.bind_some]
    rw [if_neg (by simp [two]), w3]
    rw [M_ref18_Of.l0, if_neg (by simp)]
  rw [e0]
  simp -implicitDefEqProofs only [Option.bind_some]
  rw [M_ref18_Of.l1, if_pos (by simp)]
  dsimp only
  rw [g0]
  simp -implicitDefEqProofs only [Option.bind_eq_bind, Option.bind_some]
  rw [if_pos (by simp [lf]), w1]
  rw [M_ref18_Of.l1, if_pos (by simp)]
  dsimp only
  rw [g1]
  simp -implicitDefEqProofs only [Option.bind_eq_bind, Option.bind_some]
  rw [if_pos (by simp [lf]), w2]
  rw [M_ref18_Of.l1, if_pos (by simp)]
  dsimp only
  rw [g2]
  simp -implicitDefEqProofs only [Option.bind_eq_bind, Option.bind_some]
  rw [if_neg (by simp [two])]
  have k0 : (two 1 0 1).Kids[0]? = some (lf 0) := rfl
  have k1 : (two 1 0 1).Kids[1]? = some (lf 1) := rfl
  rw [k0, k1]
  simp -implicitDefEqProofs only [Option.bind_some]
  rw [ref10_Tables_eq _ (by rw [lf_size]; omega), ref10_Tables_eq _ (by rw [lf_size]; omega), lf_tabs, lf_tabs]
  simp -implicitDefEqProofs only [Option.bind_some]
  rw [M_ref18_Of.l2, if_neg (by simp)]
  simp -implicitDefEqProofs only [Option.bind_some]
  rw [M_ref18_Of.l3, if_pos (by simp [two])]
  dsimp only
  have c0 : getI (two 1 0 1).Conj 0 = some eq01 := rfl
  rw [c0]
  simp -implicitDefEqProofs only [Option.bind_eq_bind, Option.bind_some]
  rw [eq01_tables]
  simp -implicitDefEqProofs only [Option.bind_some]
  rw [if_pos (by simp [two]), room_of (by simp)]
  simp -implicitDefEqProofs only [Option.bind_some]
  rw [w1, M_ref18_Of.l3, if_neg (by simp [two])]
  simp -implicitDefEqProofs only [Option.bind_some]
  rw [if_neg (by simp [two]), w3]
  rw [M_ref18_Of.l1, if_neg (by simp)]
  rfl
theorem sink_noOps (l : T_ref18_Levels) (h : l.Ops = []) (hj : l.Joins.length ≤ 1000000) : M_ref19_Sink l = some l := by
  obtain ⟨js, os⟩ := l
  dsimp only at h hj
  subst h
  unfold M_ref19_Sink M_ref19_Twin_R
  dsimp only
  rw [room_of (by simp; omega), room_of (by simp)]
  simp -implicitDefEqProofs only [Option.bind_eq_bind, Option.bind_some, List.nil_append]
  have w0 : (0 : Int) ≤ w64 ((([] : List T_ref18_Op).length : Int) * (([] : List T_ref18_Op).length : Int)) := by decide
  rw [M_ref19_Sink.l0, if_pos (decide_eq_true w0)]
  dsimp only
  have : M_ref19_sinks (⟨js, []⟩ : T_ref18_Levels) = some (-1, -1) := by
    unfold M_ref19_sinks
    rw [M_ref19_sinks.l0, if_neg (by simp)]
    rfl
  rw [this]
  rfl
theorem need_noOps (l : T_ref18_Levels) (h : l.Ops = []) (k : Int) (s : Set64) : M_ref19_Need (l, k, s) = some s := by
  unfold M_ref19_Need
  dsimp only
  rw [M_ref19_Need.l0]
  dsimp only
  rw [M_ref19_Need.l1, if_neg (by simp [h])]
  simp -implicitDefEqProofs only [Option.bind_eq_bind, Option.bind_some]
  rw [if_pos (by simp)]
  rfl
theorem edges_two : M_ref20_Of (two 1 0 1) = some [⟨1, [eq01], 3#64, 1#64, 2#64⟩] := by
  unfold M_ref20_Of
  rw [levels_two]
  simp -implicitDefEqProofs only [Option.bind_eq_bind, Option.bind_some]
  rw [sink_noOps _ rfl (by simp)]
  simp -implicitDefEqProofs only [Option.bind_some]
  rw [M_ref20_Of.l0, if_pos (by simp)]
  dsimp only
  have g : getI [(⟨eq01, 1#64, 2#64, -1⟩ : T_ref18_Join)] 0 = some ⟨eq01, 1#64, 2#64, -1⟩ := rfl
  rw [g]
  simp -implicitDefEqProofs only [Option.bind_eq_bind, Option.bind_some]
  rw [need_noOps _ rfl, need_noOps _ rfl]
  simp -implicitDefEqProofs only [Option.bind_some]
  rw [room_of (by simp)]
  simp -implicitDefEqProofs only [Option.bind_some]
  have w1 : w64 (0 + 1) = 1 := by decide
  rw [w1, M_ref20_Of.l0, if_neg (by simp)]
  simp -implicitDefEqProofs only [Option.bind_some]
  rw [M_ref20_Of.l1, if_neg (by simp)]
  rfl
theorem law28_Two_eq (k : Int) : M_law28_Two k = some ⟨k, [⟨1, [eq01], 3#64, 1#64, 2#64⟩], ⟨[10#64, 20#64], [32768#64]⟩⟩ := by
  unfold M_law28_Two
  rw [law10_Two_eq]
  simp -implicitDefEqProofs only [Option.bind_eq_bind, Option.bind_some]
  rw [edges_two]; rfl
def m29 : T_cost_Model := ⟨1, [⟨1, [eq01], 3#64, 1#64, 2#64⟩], ⟨[10#64, 20#64], [32768#64]⟩⟩
def f29 : CostF := nodeS m29.Kind m29.Edges m29.Stats
theorem c29_ab : cmpS f29 (two 1 0 1) (two 1 1 0) = -1 := by kernel_rfl
theorem c29_ba : cmpS f29 (two 1 1 0) (two 1 0 1) = 1 := by kernel_rfl
theorem c29_aa : cmpS f29 (two 1 0 1) (two 1 0 1) = 0 := by kernel_rfl
theorem c29_la : cmpS f29 (lf 0) (two 1 0 1) = -1 := by kernel_rfl
theorem compare29 (a b : T_api_Tree) (ha : a.size ≤ 1000) (hb : b.size ≤ 1000) : M_order_Compare (m29, a, b) = some (cmpS f29 a b) := by
  unfold M_order_Compare
  dsimp only
  rw [order_compare_eq m29 (by simp [m29]) 1000 (by omega) a b ha hb]; rfl
theorem law29_awake_plain : M_law29_awake () = some true := by
  unfold M_law29_awake
  have e1 : M_ref10_LeafOf 1 = some (lf 1) := rfl
  have e0 : M_ref10_LeafOf 0 = some (lf 0) := rfl
  have eq : M_law06_Equal (0, 1) = some eq01 := rfl
  have on : M_ref10_On (1, lf 1, lf 0, [eq01]) = some (two 1 1 0) := rfl
  have hm : M_law28_Two 1 = some m29 := law28_Two_eq 1
  have s1 := two_size 1 0 1
  have s2 := two_size 1 1 0
  have s3 := lf_size 0
  rw [law10_Two_eq, e1, e0, eq]
  simp -implicitDefEqProofs only [Option.bind_eq_bind, Option.bind_some]
  rw [on]
  simp -implicitDefEqProofs only [Option.bind_some]
  rw [hm]
  simp -implicitDefEqProofs only [Option.bind_some]
  rw [compare29 _ _ (by omega) (by omega), compare29 _ _ (by omega) (by omega), compare29 _ _ (by omega) (by omega), c29_ab, c29_ba, c29_aa]
  simp -implicitDefEqProofs only [Option.bind_some]
  rw [if_pos (by decide), if_pos (by decide), if_pos (by decide)]
  have hs : ∀ t ∈ [two 1 1 0, two 1 0 1, two 1 0 1], t.size ≤ 1000000 := by
    intro t ht
    simp at ht
    rcases ht with rfl | rfl <;> omega
  obtain ⟨k, hk, hf⟩ := order_First_eq m29 (by simp [m29]) [two 1 1 0, two 1 0 1, two 1 0 1] (by simp) hs (by simp)
  have hlt : k < 3 := hk.lt
  have hk1 : k = 1 := by
    rcases (show k = 0 ∨ k = 1 ∨ k = 2 by omega) with rfl | rfl | rfl
    · have := hk.all 1 (by simp)
      have h2 : cmpS f29 (two 1 1 0) (two 1 0 1) ≤ 0 := this
      rw [c29_ba] at h2; omega
    · rfl
    · have := hk.prev 1 (by simp) (by omega)
      have h2 : cmpS f29 (two 1 0 1) (two 1 0 1) < 0 := this
      rw [c29_aa] at h2; omega
  subst hk1
  rw [hf]
  simp -implicitDefEqProofs only [Option.bind_some]
  rw [if_pos (by decide)]
  have hn : M_order_First (m29, ([] : List T_api_Tree)) = some (-1) := by
    unfold M_order_First; dsimp only; rw [M_order_First.l0, if_neg (by simp)]; rfl
  rw [hn]
  simp -implicitDefEqProofs only [Option.bind_some]
  rw [if_pos (by decide)]
  have k0 : (two 1 0 1).Kids[0]? = some (lf 0) := rfl
  rw [k0]
  simp -implicitDefEqProofs only [Option.bind_some]
  rw [compare29 _ _ (by omega) (by omega), c29_la]
  rfl
end Go.Proofs.Ytakmilmckdllfaa.G
set_option linter.unusedVariables false
set_option linter.unusedSimpArgs false
namespace Go.Proofs.Ytakmilmckdllfaa.G
open Go.ChangeShapes Go.WideShapes Go.ChangeAt Go.RowKit

theorem memOk0 (μ : TypeId → Bool) (w : World) : MemOk gE (mE μ) w := by
  constructor <;> intros <;> simp_all [gE, mE]
theorem imm0 (b n : Nat) : Imm gE b n := ⟨fun l h => by simp [gE] at h, fun id h => by simp [gE] at h⟩

/-- **A law's function that tells true: a call's fact.** -/
theorem Fn.law {P : Program} {f : FuncId} {args : List AV} {vs : Array Value} {w : World} (h : Fn P f args (.bool true)) (hr : Reps gE w args vs) :
    Calls P f vs w fun e w' => e = .returned (.bool true) ∧ Below w.heap.size w w' := by
  have h0 := h (mE fun _ => false)
  refine (callsIn_wide.1 (h0.2.2 gE w vs ⟨fun _ _ _ => rfl, fun _ _ _ => rfl⟩ (memOk0 _ w) hr)).mono ?_
  rintro e w' ⟨v, g', rfl, hs, hm, hv⟩
  rw [hv.atom_inv]
  exact ⟨rfl, hs.os, hs.tape, hs.output, hs.size, fun b hb => hs.same b hb (fun l h => by simp [mE] at h) (fun l h => by simp [mE] at h)⟩

theorem Reps.nil {g : Gh} {w : World} : Reps g w [] #[] := ⟨rfl, fun j c v h => by cases h⟩
theorem Reps.cons {g : Gh} {w : World} {a : AV} {v : Value} {as_ : List AV} {vs : List Value} (h : Rep g w a v) (hs : Reps g w as_ vs.toArray) : Reps g w (a :: as_) (v :: vs).toArray := by
  refine ⟨by have := hs.1; simp at this ⊢; omega, fun j c x hc hx => ?_⟩
  cases j with
  | zero => simp at hc hx; subst hc hx; exact h
  | succ j => simp at hc hx; exact hs.2 j c x hc (by simpa using hx)

/-- A type's value out of its cells. -/
def ofCells (P : Program) (t : TypeId) (cs : List AV) : Option AV :=
  match aggT P t with
  | some true => some (.agg cs)
  | some false => match cs with
    | [c] => some c
    | _ => none
  | none => none
/-- Data of a type: numbers, truths, texts; rows and structs of these. -/
inductive Wt (P : Program) : TypeId → List AV → Prop
  | bool (t : TypeId) (b : Bool) (ht : P.underlying t = some .bool) : Wt P t [.atom (.bool b)]
  | int (t : TypeId) (k : IntKind) (n : Int) (ht : P.underlying t = some (.int k)) (h : k.min ≤ n ∧ n ≤ k.max) : Wt P t [.atom (.int k n)]
  | string (t : TypeId) (s : ByteArray) (ht : P.underlying t = some .string) (h : s.size ≤ maxLen) : Wt P t [.atom (.string s)]
  | slice (t e : TypeId) (es : List AV) (ht : P.underlying t = some (.slice e)) (hl : es.length ≤ maxLen) (h : ∀ x ∈ es, Wt P e x.cells) (hf : ∀ x ∈ es, ofCells P e x.cells = some x) : Wt P t [.slice .foreign es]
  | struct (t : TypeId) (fs : Array Field) (cs : List AV) (ht : P.underlying t = some (.struct fs)) (hl : cs.length = P.cellsOf t) (h : ∀ (i : Nat) (f : Field), fs[i]? = some f → Wt P f.type ((cs.drop f.offset).take (P.cellsOf f.type))) : Wt P t cs
  | array (t e : TypeId) (n : Nat) (cs : List AV) (ht : P.underlying t = some (.array n e)) (hl : cs.length = P.cellsOf t) (h : ∀ i, i < n → Wt P e ((cs.drop (i * P.cellsOf e)).take (P.cellsOf e))) : Wt P t cs

/-- Parts one behind the other. -/
def tiles : Nat → List (Nat × Nat) → Option Nat
  | k, [] => some k
  | k, (o, s) :: l => if o = k then tiles (k + s) l else none
/-- Types of data, and all that are within. -/
def plainT (P : Program) (S : List TypeId) : Bool := S.all fun t => match P.underlying t with
  | some .bool | some (.int _) | some .string => P.cellsOf t == 1
  | some (.slice e) => S.contains e && decide (0 < P.cellsOf e) && P.cellsOf t == 1
  | some (.struct fs) => (fs.all fun f => S.contains f.type) && tiles 0 (fs.toList.map fun f => (f.offset, P.cellsOf f.type)) == some (P.cellsOf t)
  | some (.array n e) => S.contains e && tiles 0 ((List.range n).map fun i => (i * P.cellsOf e, P.cellsOf e)) == some (P.cellsOf t)
  | _ => false

section
variable {H : Type} {enc : TypeId × Value → H} {P : Program} {W : World} {base b0 : Nat} {spare : Nat → Bool} {held : Bool} {r : Reach}

theorem cells?_get {w : World} {a : Addr} {n : Nat} {cs : List Value} (h : w.cells? base a n = some cs) : cs.length = n ∧ ∀ (j : Nat) (v : Value), cs[j]? = some v → w.cell? (a.add j) = some v := by
  unfold World.cells? at h
  split at h
  · have h1 := mapM_some_length h
    refine ⟨by simpa using h1, fun j v hj => ?_⟩
    have hlt : j < n := by rw [← List.length_range (n := n), ← h1]; exact (List.getElem?_eq_some_iff.1 hj).1
    rw [mapM_some_get h j j (by simp [hlt])]; exact hj
  · cases h

/-- Each part of cells that stand for values. -/
def CellsRep (w : World) (as_ : List AV) (cs : List Value) : Prop := as_.length = cs.length ∧ (∀ c ∈ as_, c.one = true) ∧ ∀ (j : Nat) (a : AV) (v : Value), as_[j]? = some a → cs[j]? = some v → Rep gE w a v

theorem tiles_le : ∀ {l : List (Nat × Nat)} {k n : Nat}, tiles k l = some n → k ≤ n := by
  intro l
  induction l with
  | nil => intro k n h; simp [tiles] at h; omega
  | cons x l ih =>
    intro k n h
    obtain ⟨o, s⟩ := x
    simp only [tiles] at h
    split at h
    · have := ih h; omega
    · cases h
theorem tile {w : World} {cs : List Value} {n : Nat} (hn : cs.length = n) : ∀ (l : List (Nat × Nat)) (k : Nat) (Q : Nat → List AV → Prop), tiles k l = some n → (∀ (i o s : Nat), l[i]? = some (o, s) → ∃ as_, CellsRep w as_ ((cs.drop o).take s) ∧ Q i as_) →
    ∃ as_, CellsRep w as_ (cs.drop k) ∧ ∀ (i o s : Nat), l[i]? = some (o, s) → k ≤ o ∧ Q i ((as_.drop (o - k)).take s) := by
  intro l
  induction l with
  | nil =>
    intro k Q h _
    simp [tiles] at h
    subst h
    exact ⟨[], ⟨by simp; omega, by simp, fun j a v h => by simp at h⟩, fun i o s h => by simp at h⟩
  | cons x l ih =>
    intro k Q h hp
    obtain ⟨o, s⟩ := x
    simp only [tiles] at h
    split at h
    · rename_i hok
      subst hok
      have hle := tiles_le h
      obtain ⟨as0, ⟨h1, h2, h3⟩, hq⟩ := hp 0 o s rfl
      obtain ⟨as1, ⟨h4, h5, h6⟩, hq1⟩ := ih (o + s) (fun i => Q (i + 1)) h (fun i o' s' hi => hp (i + 1) o' s' (by simpa using hi))
      have hl0 : as0.length = s := by rw [h1]; simp; omega
      refine ⟨as0 ++ as1, ⟨by simp [hl0, h4]; omega, fun c hc => (List.mem_append.1 hc).elim (h2 c) (h5 c), fun j a v ha hv => ?_⟩, fun i o' s' hi => ?_⟩
      · rw [List.getElem?_drop] at hv
        by_cases hj : j < s
        · rw [List.getElem?_append_left (by omega)] at ha
          exact h3 j a v ha (by rw [List.getElem?_take_of_lt hj, List.getElem?_drop]; exact hv)
        · rw [List.getElem?_append_right (by omega), hl0] at ha
          exact h6 (j - s) a v ha (by rw [List.getElem?_drop, ← hv]; congr 1; omega)
      · cases i with
        | zero =>
          simp at hi
          obtain ⟨rfl, rfl⟩ := hi
          refine ⟨Nat.le_refl _, ?_⟩
          rw [Nat.sub_self, List.drop_zero, List.take_append_of_le_length (by omega), List.take_of_length_le (by omega)]
          exact hq
        | succ i =>
          obtain ⟨h7, h8⟩ := hq1 i o' s' (by simpa using hi)
          refine ⟨by omega, ?_⟩
          have : o' - o = s + (o' - (o + s)) := by omega
          have hd : List.drop (s + (o' - (o + s))) as0 = [] := List.drop_eq_nil_of_le (by omega)
          rw [this, List.drop_append, hd, hl0, List.nil_append, show s + (o' - (o + s)) - s = o' - (o + s) from by omega]
          exact h8
    · cases h

theorem ofCells_cells {t : TypeId} {cs : List AV} {x : AV} (h : ofCells P t cs = some x) (ho : ∀ c ∈ cs, c.one = true) : x.cells = cs := by
  unfold ofCells at h
  split at h
  · injection h with h; subst h; rfl
  · split at h
    · injection h with h; subst h
      rename_i c
      have := ho c (by simp)
      cases c <;> first | rfl | (simp [AV.one] at this)
    · cases h
  · cases h

/-- **What the caller's data is.** -/
theorem reads {S : List TypeId} (hS : plainT P S = true) : ∀ (fuel : Nat) (t : TypeId) (cs : List Value) (x : DataW H × List MemPlace), t ∈ S → DataW.trod enc P W base spare held fuel t cs = some x → ∃ as_, CellsRep W as_ cs ∧ Wt P t as_ ∧ cs.length = P.cellsOf t := by
  intro fuel
  induction fuel with
  | zero => intro t cs x _ h; simp [DataW.trod] at h
  | succ fuel ih =>
    intro t cs x ht h
    have hp := List.all_eq_true.1 hS t ht
    have one1 : ∀ (a : AV) (v : Value), a.one = true → Rep gE W a v → CellsRep W [a] [v] := fun a v ho hr => ⟨rfl, by simpa using ho, fun j a' v' h1 h2 => by
      cases j with
      | zero => simp at h1 h2; subst h1 h2; exact hr
      | succ j => simp at h1⟩
    split at hp
    · rename_i hu
      obtain ⟨b, rfl, _⟩ := DataW.trod_bool hu h
      exact ⟨_, one1 _ _ rfl (.atom (.bool b) rfl), .bool t b hu, by simp at hp ⊢; exact hp.symm⟩
    · rename_i k hu
      obtain ⟨n, rfl, _, hw⟩ := DataW.trod_int hu h
      exact ⟨_, one1 _ _ rfl (.atom (.int k n) rfl), .int t k n hu (by simpa [Lit.wf] using hw), by simp at hp ⊢; exact hp.symm⟩
    · rename_i hu
      obtain ⟨s, rfl, _, hw⟩ := DataW.trod_string hu h
      exact ⟨_, one1 _ _ rfl (.atom (.string s) rfl), .string t s hu hw, by simp at hp ⊢; exact hp.symm⟩
    · rename_i e hu
      simp only [Bool.and_eq_true, decide_eq_true_eq, List.contains_iff_mem, beq_iff_eq] at hp
      obtain ⟨⟨he, hz⟩, hct⟩ := hp
      rcases DataW.trod_slice hu h with ⟨rfl, _⟩ | ⟨a, len, cap, elems, rest, n, hn, rfl, _, hb, hl, hm, hlen, hel, _, _⟩
      · exact ⟨_, one1 _ _ rfl (.nil .foreign none 0 (fun id h => by cases h) (fun h => by cases h)), .slice t e [] hu (by simp) (by simp) (by simp), by simp [hct]⟩
      · obtain rfl : fuel = n := by omega
        -- the elements
        have each : ∀ i, i < len → ∃ (cs : List Value) (as_ : List AV), W.cells? base (a.add (i * P.cellsOf e)) (P.cellsOf e) = some cs ∧ CellsRep W as_ cs ∧ Wt P e as_ ∧ cs.length = P.cellsOf e := by
          intro i hi
          have h1 := hel i hi
          obtain ⟨y, hy⟩ : ∃ y, elems[i]? = some y := ⟨_, List.getElem?_eq_getElem (by omega)⟩
          rw [hy, Option.bind_eq_some_iff] at h1
          obtain ⟨cs, h2, h3⟩ := h1
          obtain ⟨as_, h4, h5, h6⟩ := ih e cs y he h3
          exact ⟨cs, as_, h2, h4, h5, h6⟩
        have fm : ∀ cs, Wt P e cs → ∃ x, ofCells P e cs = some x := by
          intro cs hw
          unfold ofCells aggT
          cases hw with
          | bool t b ht => rw [ht]; exact ⟨_, rfl⟩
          | int t k n ht _ => rw [ht]; exact ⟨_, rfl⟩
          | string t s ht _ => rw [ht]; exact ⟨_, rfl⟩
          | slice t e es ht _ _ _ => rw [ht]; exact ⟨_, rfl⟩
          | struct t fs cs ht _ _ => rw [ht]; exact ⟨_, rfl⟩
          | array t e n cs ht _ _ => rw [ht]; exact ⟨_, rfl⟩
        have each2 : ∀ i, ∃ x : AV, i < len → ∃ cs, W.cells? base (a.add (i * P.cellsOf e)) (P.cellsOf e) = some cs ∧ CellsRep W x.cells cs ∧ Wt P e x.cells ∧ ofCells P e x.cells = some x ∧ x.cells.length = P.cellsOf e := by
          intro i
          by_cases hi : i < len
          · obtain ⟨cs, as_, h1, h2, h3, h4⟩ := each i hi
            obtain ⟨x, hx⟩ := fm as_ h3
            have hxc := ofCells_cells hx h2.2.1
            exact ⟨x, fun _ => ⟨cs, h1, by rw [hxc]; exact h2, by rw [hxc]; exact h3, by rw [hxc]; exact hx, by rw [hxc, h2.1, h4]⟩⟩
          · exact ⟨.undef, fun h => absurd h hi⟩
        obtain ⟨el, hel2⟩ := Classical.axiomOfChoice each2
        have hes : ∀ (i : Nat) (x : AV), ((List.range len).map el)[i]? = some x → i < len ∧ x = el i := by
          intro i x hx
          rw [List.getElem?_map] at hx
          cases hr : (List.range len)[i]? with
          | none => rw [hr] at hx; cases hx
          | some j =>
            rw [hr] at hx; injection hx with hx
            obtain ⟨h1, h2⟩ := List.getElem?_eq_some_iff.1 hr
            simp at h1 h2; subst h2; exact ⟨h1, hx.symm⟩
        have hmem : ∀ x ∈ (List.range len).map el, ∃ i, i < len ∧ x = el i := by
          intro x hx
          obtain ⟨i, hi, rfl⟩ := List.mem_map.1 hx
          exact ⟨i, by simpa using hi, rfl⟩
        refine ⟨[.slice .foreign ((List.range len).map el)], one1 _ _ rfl ?_, .slice t e _ hu (by simp; omega) (fun x hx => ?_) (fun x hx => ?_), by simp [hct]⟩
        · by_cases h0 : len = 0
          · subst h0; exact .nil .foreign _ _ (fun id h => by cases h) (fun h => by cases h)
          · have hspot : a.spot = none := by
              obtain ⟨cs, h1, h2, _, _, h3⟩ := hel2 0 (by omega)
              have hcl : 0 < cs.length := by rw [← h2.1, h3]; exact hz
              have h4 := (cells?_get h1).2 0 _ (List.getElem?_eq_getElem hcl)
              unfold World.cell? at h4
              split at h4
              · split at h4
                · cases h4
                · rename_i hs
                  obtain ⟨b, o, sp⟩ := a
                  cases sp with
                  | none => rfl
                  | some s => simp [Addr.add] at hs
              · cases h4
            obtain ⟨b, o, sp⟩ := a
            dsimp only at hspot
            subst hspot
            have hlm : ((List.range len).map el).length = len := by simp
            have key : Rep gE W (.slice .foreign ((List.range len).map el)) (.slice (some ⟨b, o, none⟩) ((List.range len).map el).length cap) := by
              refine Rep.slice_mk hz (fun x hx => ?_) (fun _ => imm0 _ _) (fun i x hx => ?_) (by rw [hlm]; exact hl) trivial
              · obtain ⟨i, hi, rfl⟩ := hmem x hx
                obtain ⟨cs, _, _, _, _, h3⟩ := hel2 i hi
                exact h3
              · obtain ⟨hi, rfl⟩ := hes i x hx
                obtain ⟨cs, h1, h2, _, _, h3⟩ := hel2 i hi
                refine ⟨h2.2.1, fun j c hj => ?_⟩
                have hlt : j < cs.length := by rw [← h2.1]; exact (List.getElem?_eq_some_iff.1 hj).1
                have h4 := (cells?_get h1).2 j _ (List.getElem?_eq_getElem hlt)
                rw [add_plain, add_plain] at h4
                exact ⟨_, h4, h2.2.2 j c _ hj (List.getElem?_eq_getElem hlt)⟩
            rw [hlm] at key
            exact key
        · obtain ⟨i, hi, rfl⟩ := hmem x hx
          obtain ⟨cs, _, _, h3, _, _⟩ := hel2 i hi
          exact h3
        · obtain ⟨i, hi, rfl⟩ := hmem x hx
          obtain ⟨cs, _, _, _, h3, _⟩ := hel2 i hi
          exact h3
    · rename_i fs hu
      simp only [Bool.and_eq_true, beq_iff_eq] at hp
      obtain ⟨hp1, hp2⟩ := hp
      obtain ⟨xs, n, hn, _, hl, hxl, hf⟩ := DataW.trod_struct hu h
      obtain rfl : fuel = n := by omega
      obtain ⟨as_, h1, h2⟩ := tile (w := W) hl _ 0 (fun i as_ => ∀ f, fs[i]? = some f → Wt P f.type as_) hp2 (fun i o s hi => by
        rw [List.getElem?_map] at hi
        cases hfi : fs.toList[i]? with
        | none => rw [hfi] at hi; cases hi
        | some f =>
          rw [hfi] at hi; injection hi with hi; injection hi with e1 e2; subst e1 e2
          have hfi' : fs[i]? = some f := by simpa using hfi
          have h3 := hf i f hfi'
          obtain ⟨y, hy⟩ : ∃ y, xs[i]? = some y := ⟨_, List.getElem?_eq_getElem (by rw [hxl]; exact (Array.getElem?_eq_some_iff.1 hfi').1)⟩
          rw [hy] at h3
          have hmem : f.type ∈ S := by
            rw [← Array.all_toList] at hp1
            simpa using List.all_eq_true.1 hp1 f (List.mem_of_getElem? hfi)
          obtain ⟨as_, h4, h5, h6⟩ := ih _ _ _ hmem h3
          exact ⟨as_, h4, fun f' hf' => by rw [hfi'] at hf'; injection hf' with hf'; subst hf'; exact h5⟩)
      refine ⟨as_, by simpa using h1, .struct t fs as_ hu (by rw [h1.1]; simpa using hl) (fun i f hfi => ?_), hl⟩
      have := (h2 i f.offset (P.cellsOf f.type) (by simp [hfi])).2 f hfi
      simpa using this
    · rename_i m e hu
      simp only [Bool.and_eq_true, beq_iff_eq, List.contains_iff_mem] at hp
      obtain ⟨hp1, hp2⟩ := hp
      obtain ⟨xs, n, hn, _, hl, hxl, hf⟩ := DataW.trod_array hu h
      obtain rfl : fuel = n := by omega
      obtain ⟨as_, h1, h2⟩ := tile (w := W) hl _ 0 (fun i as_ => Wt P e as_) hp2 (fun i o s hi => by
        rw [List.getElem?_map] at hi
        cases hfi : (List.range m)[i]? with
        | none => rw [hfi] at hi; cases hi
        | some j =>
          rw [hfi] at hi; injection hi with hi; injection hi with e1 e2; subst e1 e2
          obtain ⟨q1, q2⟩ := List.getElem?_eq_some_iff.1 hfi
          simp at q1 q2; subst q2
          have h3 := hf i q1
          obtain ⟨y, hy⟩ : ∃ y, xs[i]? = some y := ⟨_, List.getElem?_eq_getElem (by omega)⟩
          rw [hy] at h3
          obtain ⟨as_, h4, h5, h6⟩ := ih _ _ _ hp1 h3
          exact ⟨as_, h4, h5⟩)
      refine ⟨as_, by simpa using h1, .array t e m as_ hu (by rw [h1.1]; simpa using hl) (fun i hi => ?_), hl⟩
      have := (h2 i (i * P.cellsOf e) (P.cellsOf e) (by simp [hi])).2
      simpa using this
    · cases hp

/-- A parameter. -/
theorem reads_param {S : List TypeId} (hS : plainT P S = true) {t : TypeId} {v : Value} {d : DataW H} {ps : List MemPlace} (ht : t ∈ S) (hval : Value.okWide P W r b0 t v) (hd : DataW.Trod enc P W base spare held t v d ps) : ∃ a as_, Rep gE W a v ∧ Wt P t as_ ∧ ofCells P t as_ = some a := by
  obtain ⟨fuel, hf⟩ := hd
  obtain ⟨as_, ⟨h1, h2, h3⟩, h4, h5⟩ := reads hS fuel t _ _ ht hf
  have single : (∀ cs, v ≠ .agg cs) → (∀ cs, v ≠ .tuple cs) → v.cells = #[v] := by
    intro ha hb
    cases v <;> first | rfl | (exact absurd rfl (ha _)) | (exact absurd rfl (hb _))
  have hp := List.all_eq_true.1 hS t ht
  unfold Value.okWide at hval
  cases hu : P.underlying t with
  | none => rw [hu] at hp; cases hp
  | some dsc =>
    have agg : (∃ cs, v = .agg cs ∧ cs.size = P.cellsOf t ∧ Row.okWide P W r b0 t cs) → aggT P t = some true → ∃ a as_, Rep gE W a v ∧ Wt P t as_ ∧ ofCells P t as_ = some a := by
      rintro ⟨cs, rfl, hsz, _⟩ hag
      refine ⟨.agg as_, as_, .agg as_ cs (by rw [h1]; simp [Value.cells]) h2 (fun j c u hj hu => h3 j c u hj (by simpa [Value.cells] using hu)), h4, ?_⟩
      unfold ofCells
      rw [hag]
    have one1 : aggT P t = some false → P.cellsOf t = 1 → (∃ u, v.cells = #[u] ∧ u = v) → ∃ a as_, Rep gE W a v ∧ Wt P t as_ ∧ ofCells P t as_ = some a := by
      rintro hag hct ⟨u, hu, rfl⟩
      have hl : as_.length = 1 := by rw [h1, hu]; rfl
      obtain ⟨a, rfl⟩ : ∃ a, as_ = [a] := by
        match as_, hl with
        | [a], _ => exact ⟨a, rfl⟩
      refine ⟨a, [a], h3 0 a u rfl (by rw [hu]; rfl), h4, ?_⟩
      unfold ofCells
      rw [hag]
    have scal : aggT P t = some false → Cell.okWide P W r b0 t v → P.cellsOf t = 1 → ∃ a as_, Rep gE W a v ∧ Wt P t as_ ∧ ofCells P t as_ = some a := by
      intro hag hc hct
      have no : ∀ cs, v ≠ .agg cs ∧ v ≠ .tuple cs := by
        intro cs
        refine ⟨fun e => ?_, fun e => ?_⟩ <;>
        · subst e
          simp only [Cell.okWide, Cell.ok, hu] at hc
      exact one1 hag hct ⟨v, single (fun cs => (no cs).1) (fun cs => (no cs).2), rfl⟩
    rw [hu] at hval hp
    have hs : ∀ b, (match dsc with | .struct _ => true | .array _ _ => true | _ => false) = b → aggT P t = some b := by
      intro b hb
      unfold aggT
      simp only [hu]
      cases dsc <;> simp_all
    cases dsc <;> first | (cases hp; done) | (exact agg hval (hs _ rfl)) | skip
    · exact scal (hs _ rfl) hval (by simpa using hp)
    · exact scal (hs _ rfl) hval (by simpa using hp)
    · exact scal (hs _ rfl) hval (by simpa using hp)
    · simp only [Bool.and_eq_true, beq_iff_eq] at hp; exact scal (hs _ rfl) hval hp.2
end
end Go.Proofs.Ytakmilmckdllfaa.G
set_option linter.unusedVariables false
set_option linter.unusedSimpArgs false
namespace Go.Proofs.Ytakmilmckdllfaa.G

def structT (P : Program) (t : TypeId) : Option (List (TypeId × Nat × Nat)) := match P.underlying t with
  | some (.struct fs) => some (fs.toList.map fun f => (f.type, f.offset, P.cellsOf f.type))
  | _ => none
theorem Wt.int_inv {P : Program} {t : TypeId} {k : IntKind} {cs : List AV} (ht : P.underlying t = some (.int k)) (h : Wt P t cs) : ∃ n, cs = [.atom (.int k n)] ∧ k.min ≤ n ∧ n ≤ k.max := by
  cases h <;> rename_i h1 <;> simp_all
theorem Wt.bool_inv {P : Program} {t : TypeId} {cs : List AV} (ht : P.underlying t = some .bool) (h : Wt P t cs) : ∃ b, cs = [.bool b] := by
  cases h <;> rename_i h1 <;> simp_all
theorem Wt.slice_inv {P : Program} {t e : TypeId} {cs : List AV} (ht : P.underlying t = some (.slice e)) (h : Wt P t cs) : ∃ es, cs = [.slice .foreign es] ∧ es.length ≤ maxLen ∧ (∀ x ∈ es, Wt P e x.cells) ∧ ∀ x ∈ es, ofCells P e x.cells = some x := by
  cases h <;> rename_i h1 <;> simp_all
theorem Wt.struct_inv {P : Program} {t : TypeId} {cs : List AV} {l : List (TypeId × Nat × Nat)} (ht : structT P t = some l) (h : Wt P t cs) : cs.length = P.cellsOf t ∧ ∀ (i : Nat) (ty off sz : Nat), l[i]? = some (ty, off, sz) → Wt P ty ((cs.drop off).take sz) := by
  unfold structT at ht
  split at ht
  · rename_i fs hu
    injection ht with ht; subst ht
    cases h <;> rename_i h1 <;> simp_all
    rename_i h2
    intro i ty off sz x hx e1 e2 e3
    subst e1 e2 e3
    exact h2 i x hx
  · cases ht
theorem uncons {α : Type} {cs : List α} {n : Nat} (h : cs.length = n + 1) : ∃ c tl, cs = c :: tl ∧ tl.length = n := by
  cases cs with
  | nil => simp at h
  | cons c tl => exact ⟨c, tl, rfl, by simpa using h⟩
theorem Wt.i64 {P : Program} {t : TypeId} {c : AV} (ht : P.underlying t = some (.int .i64)) (h : Wt P t [c]) : ∃ n, c = .i64 n := by
  obtain ⟨n, hn, _⟩ := h.int_inv ht
  injection hn with hn; exact ⟨n, hn⟩
theorem Wt.b {P : Program} {t : TypeId} {c : AV} (ht : P.underlying t = some .bool) (h : Wt P t [c]) : ∃ n, c = .bool n := by
  obtain ⟨n, hn⟩ := h.bool_inv ht
  injection hn with hn; exact ⟨n, hn⟩
theorem rowsOf {P : Program} {e : TypeId} {α : Type} {f : α → AV} {G : α → Prop} (hagg : ∀ x, ofCells P e (f x).cells = some (f x)) {es : List AV} (h2 : ∀ x ∈ es, ∃ y, x.cells = (f y).cells ∧ G y) (h3 : ∀ x ∈ es, ofCells P e x.cells = some x) : ∃ l : List α, es = l.map f ∧ ∀ x ∈ l, G x := by
  induction es with
  | nil => exact ⟨[], rfl, by simp⟩
  | cons e es ih =>
    obtain ⟨l, rfl, hl⟩ := ih (fun x hx => h2 x (List.mem_cons_of_mem _ hx)) fun x hx => h3 x (List.mem_cons_of_mem _ hx)
    obtain ⟨x, hx, gx⟩ := h2 e (by simp)
    have := h3 e (by simp)
    rw [hx, hagg] at this
    injection this with this
    exact ⟨x :: l, by rw [← this]; rfl, fun y hy => (List.mem_cons.1 hy).elim (fun h => h ▸ gx) (hl y)⟩
theorem Wt.rows {P : Program} {t e : TypeId} {c : AV} {α : Type} {f : α → AV} {G : α → Prop} (ht : P.underlying t = some (.slice e)) (h : Wt P t [c]) (hr : ∀ cs, Wt P e cs → ∃ x, cs = (f x).cells ∧ G x) (hagg : ∀ x, ofCells P e (f x).cells = some (f x)) : ∃ l : List α, c = .slice .foreign (l.map f) ∧ l.length < 9223372036854775808 ∧ ∀ x ∈ l, G x := by
  obtain ⟨es, hn, h1, h2, h3⟩ := h.slice_inv ht
  injection hn with hn; subst hn
  obtain ⟨l, rfl, hl⟩ := rowsOf hagg (fun x hx => hr _ (h2 x hx)) h3
  refine ⟨l, rfl, ?_, hl⟩
  simp [maxLen] at h1
  omega
theorem structT_field {P : Program} {t : TypeId} {fs : Array Field} {l : List (TypeId × Nat × Nat)} {i ty off sz : Nat} (ht : structT P t = some l) (hu : P.underlying t = some (.struct fs)) (hi : l[i]? = some (ty, off, sz)) : ∃ f, fs[i]? = some f ∧ f.type = ty ∧ f.offset = off ∧ P.cellsOf f.type = sz := by
  unfold structT at ht
  rw [hu] at ht
  injection ht with ht; subst ht
  simp at hi
  obtain ⟨f, hf, h1, h2, h3⟩ := hi
  exact ⟨f, hf, h1, h2, h3⟩
theorem structT_u {P : Program} {t : TypeId} {l : List (TypeId × Nat × Nat)} (ht : structT P t = some l) : ∃ fs, P.underlying t = some (.struct fs) := by
  unfold structT at ht
  split at ht
  · exact ⟨_, by assumption⟩
  · cases ht
theorem u64_mk {n : Int} (h1 : IntKind.u64.min ≤ n) (h2 : n ≤ IntKind.u64.max) : AV.u64 n = .w (BitVec.ofNat 64 n.toNat) := by
  have e1 : IntKind.u64.min = 0 := by decide
  have e2 : IntKind.u64.max = 18446744073709551615 := by decide
  rw [e1] at h1; rw [e2] at h2
  simp only [AV.w, BitVec.toNat_ofNat]
  congr 2; omega
theorem Wt.w {P : Program} {t : TypeId} {c : AV} (ht : P.underlying t = some (.int .u64)) (h : Wt P t [c]) : ∃ s, c = .w s := by
  obtain ⟨n, hn, h1, h2⟩ := h.int_inv ht
  injection hn with hn; subst hn
  exact ⟨_, u64_mk h1 h2⟩
theorem Wt.ik {P : Program} {t : TypeId} {k : IntKind} {c : AV} (ht : P.underlying t = some (.int k)) (h : Wt P t [c]) : ∃ n : Int, c = .atom (.int k n) := by
  obtain ⟨n, hn, _⟩ := h.int_inv ht
  injection hn with hn; exact ⟨n, hn⟩
/-- A type with one cell. -/
theorem one_cell {P : Program} {t : TypeId} {cs : List AV} {a : AV} (h1 : aggT P t = some false) (h2 : ofCells P t cs = some a) : cs = [a] := by
  unfold ofCells at h2
  rw [h1] at h2
  simp only at h2
  split at h2
  · injection h2 with h2; rw [h2]
  · cases h2
theorem all_cells {P : Program} {t : TypeId} {cs : List AV} {a : AV} (h1 : aggT P t = some true) (h2 : ofCells P t cs = some a) : a = .agg cs := by
  unfold ofCells at h2
  rw [h1] at h2
  injection h2 with h2; exact h2.symm
theorem agg_of {P : Program} {t : TypeId} {cs : List AV} (h : aggT P t = some true) : ofCells P t (AV.agg cs).cells = some (.agg cs) := by
  unfold ofCells
  rw [h]; rfl
theorem one_of {P : Program} {t : TypeId} {a : AV} (h : aggT P t = some false) (hc : a.cells = [a]) : ofCells P t a.cells = some a := by
  unfold ofCells
  rw [h, hc]
def arrayT (P : Program) (t : TypeId) : Option (TypeId × Nat × Nat) := match P.underlying t with
  | some (.array n e) => some (e, n, P.cellsOf e)
  | _ => none
theorem Wt.array_inv {P : Program} {t e : TypeId} {cs : List AV} {n s : Nat} (ht : arrayT P t = some (e, n, s)) (h : Wt P t cs) : cs.length = P.cellsOf t ∧ ∀ i, i < n → Wt P e ((cs.drop (i * s)).take s) := by
  unfold arrayT at ht
  split at ht
  · rename_i n' e' hu
    injection ht with ht; injection ht with h1 h2; injection h2 with h2 h3; subst h1 h2 h3
    cases h <;> rename_i g1 <;> simp_all
  · cases ht
end Go.Proofs.Ytakmilmckdllfaa.G
set_option linter.unusedVariables false
set_option linter.unusedSimpArgs false
set_option maxRecDepth 100000
namespace Go.Proofs.Ytakmilmckdllfaa.G
theorem st_T_api_Value : structT Try.prog 38 = some [(4, 0, 1), (2, 1, 1)] := by kernel_rfl
theorem wt_T_api_Value {cs : List AV} (h : Wt Try.prog 38 cs) : ∃ x : T_api_Value, cs = x.C := by
  obtain ⟨hl, hf⟩ := h.struct_inv st_T_api_Value
  rw [show Try.prog.cellsOf 38 = 2 by kernel_rfl] at hl
  obtain ⟨c0, d0, rfl, hn0⟩ := uncons hl
  obtain ⟨c1, d1, rfl, hn1⟩ := uncons hn0
  obtain rfl := List.length_eq_zero_iff.1 hn1
  obtain ⟨v0, rfl⟩ := Wt.b (show Try.prog.underlying 4 = some (.bool) by kernel_rfl) (show Wt Try.prog 4 [c0] from hf 0 _ _ _ rfl)
  obtain ⟨v1, rfl⟩ := Wt.i64 (show Try.prog.underlying 2 = some (.int .i64) by kernel_rfl) (show Wt Try.prog 2 [c1] from hf 1 _ _ _ rfl)
  exact ⟨⟨v0, v1⟩, rfl⟩
theorem st_T_api_Term : structT Try.prog 40 = some [(3, 0, 1), (3, 1, 1), (3, 2, 1), (38, 3, 2)] := by kernel_rfl
theorem wt_T_api_Term {cs : List AV} (h : Wt Try.prog 40 cs) : ∃ x : T_api_Term, cs = x.C := by
  obtain ⟨hl, hf⟩ := h.struct_inv st_T_api_Term
  rw [show Try.prog.cellsOf 40 = 5 by kernel_rfl] at hl
  obtain ⟨c0, d0, rfl, hn0⟩ := uncons hl
  obtain ⟨c1, d1, rfl, hn1⟩ := uncons hn0
  obtain ⟨c2, d2, rfl, hn2⟩ := uncons hn1
  obtain ⟨c3, d3, rfl, hn3⟩ := uncons hn2
  obtain ⟨c4, d4, rfl, hn4⟩ := uncons hn3
  obtain rfl := List.length_eq_zero_iff.1 hn4
  obtain ⟨v0, rfl⟩ := Wt.i64 (show Try.prog.underlying 3 = some (.int .i64) by kernel_rfl) (show Wt Try.prog 3 [c0] from hf 0 _ _ _ rfl)
  obtain ⟨v1, rfl⟩ := Wt.i64 (show Try.prog.underlying 3 = some (.int .i64) by kernel_rfl) (show Wt Try.prog 3 [c1] from hf 1 _ _ _ rfl)
  obtain ⟨v2, rfl⟩ := Wt.i64 (show Try.prog.underlying 3 = some (.int .i64) by kernel_rfl) (show Wt Try.prog 3 [c2] from hf 2 _ _ _ rfl)
  obtain ⟨v3, hv3⟩ := wt_T_api_Value (show Wt Try.prog 38 [c3, c4] from hf 3 _ _ _ rfl); simp only [T_api_Value.C, List.cons.injEq, and_true] at hv3; obtain ⟨rfl, rfl⟩ := hv3
  exact ⟨⟨v0, v1, v2, v3⟩, rfl⟩
theorem st_T_api_Pred : structT Try.prog 42 = some [(3, 0, 1), (3, 1, 1), (3, 2, 1), (40, 3, 5), (40, 8, 5), (33, 13, 1)] := by kernel_rfl
theorem wt_T_api_Pred' {t : TypeId} {cs : List AV} (h : Wt Try.prog t cs) : (t = 42 → ∃ x : T_api_Pred, cs = x.C) ∧ (t = 33 → ∃ xs : List T_api_Pred, cs = [.slice .foreign (xs.map T_api_Pred.av)] ∧ xs.length < 9223372036854775808) := by
  obtain ⟨fs, hfs⟩ := structT_u st_T_api_Pred
  have hs33 : Try.prog.underlying 33 = some (.slice 42) := by kernel_rfl
  induction h with
  | bool t b ht => exact ⟨fun h => by (subst h; rw [hfs] at ht; cases ht), fun h => by (subst h; rw [hs33] at ht; cases ht)⟩
  | int t b n ht => exact ⟨fun h => by (subst h; rw [hfs] at ht; cases ht), fun h => by (subst h; rw [hs33] at ht; cases ht)⟩
  | string t b ht => exact ⟨fun h => by (subst h; rw [hfs] at ht; cases ht), fun h => by (subst h; rw [hs33] at ht; cases ht)⟩
  | array t b n cs ht => exact ⟨fun h => by (subst h; rw [hfs] at ht; cases ht), fun h => by (subst h; rw [hs33] at ht; cases ht)⟩
  | slice t e es ht hl h hf ih =>
    refine ⟨fun h => by (subst h; rw [hfs] at ht; cases ht), fun h => ?_⟩
    · subst h
      rw [hs33] at ht
      injection ht with ht; injection ht with ht; subst ht
      obtain ⟨l, rfl, _⟩ := rowsOf (P := Try.prog) (f := T_api_Pred.av) (G := fun _ => True) (fun x => by rw [T_api_Pred.av_eq]; exact agg_of (by kernel_rfl)) (fun x hx => let ⟨y, hy⟩ := (ih x hx).1 rfl; ⟨y, by rw [hy, T_api_Pred.av_eq]; rfl, trivial⟩) hf
      exact ⟨l, rfl, by simp [maxLen] at hl; omega⟩
  | struct t fs' cs ht hl h ih =>
    refine ⟨fun e => ?_, fun h => by (subst h; rw [hs33] at ht; cases ht)⟩
    subst e
    obtain ⟨_, hf⟩ := (Wt.struct _ _ _ ht hl h).struct_inv st_T_api_Pred
    obtain ⟨f5, g1, g2, g3, g4⟩ := structT_field (i := 5) st_T_api_Pred ht rfl
    have hr5 := (ih 5 f5 g1).2 g2
    rw [g3, g4] at hr5
    clear g1 g2 g3 g4
    clear ih h
    rw [show Try.prog.cellsOf 42 = 14 by kernel_rfl] at hl
    obtain ⟨c0, d0, rfl, hn0⟩ := uncons hl
    obtain ⟨c1, d1, rfl, hn1⟩ := uncons hn0
    obtain ⟨c2, d2, rfl, hn2⟩ := uncons hn1
    obtain ⟨c3, d3, rfl, hn3⟩ := uncons hn2
    obtain ⟨c4, d4, rfl, hn4⟩ := uncons hn3
    obtain ⟨c5, d5, rfl, hn5⟩ := uncons hn4
    obtain ⟨c6, d6, rfl, hn6⟩ := uncons hn5
    obtain ⟨c7, d7, rfl, hn7⟩ := uncons hn6
    obtain ⟨c8, d8, rfl, hn8⟩ := uncons hn7
    obtain ⟨c9, d9, rfl, hn9⟩ := uncons hn8
    obtain ⟨c10, d10, rfl, hn10⟩ := uncons hn9
    obtain ⟨c11, d11, rfl, hn11⟩ := uncons hn10
    obtain ⟨c12, d12, rfl, hn12⟩ := uncons hn11
    obtain ⟨c13, d13, rfl, hn13⟩ := uncons hn12
    obtain rfl := List.length_eq_zero_iff.1 hn13
    obtain ⟨v0, rfl⟩ := Wt.i64 (show Try.prog.underlying 3 = some (.int .i64) by kernel_rfl) (show Wt Try.prog 3 [c0] from hf 0 _ _ _ rfl)
    obtain ⟨v1, rfl⟩ := Wt.i64 (show Try.prog.underlying 3 = some (.int .i64) by kernel_rfl) (show Wt Try.prog 3 [c1] from hf 1 _ _ _ rfl)
    obtain ⟨v2, rfl⟩ := Wt.i64 (show Try.prog.underlying 3 = some (.int .i64) by kernel_rfl) (show Wt Try.prog 3 [c2] from hf 2 _ _ _ rfl)
    obtain ⟨v3, hv3⟩ := wt_T_api_Term (show Wt Try.prog 40 [c3, c4, c5, c6, c7] from hf 3 _ _ _ rfl); simp only [T_api_Term.C, List.cons.injEq, and_true] at hv3; obtain ⟨rfl, rfl, rfl, rfl, rfl⟩ := hv3
    obtain ⟨v4, hv4⟩ := wt_T_api_Term (show Wt Try.prog 40 [c8, c9, c10, c11, c12] from hf 4 _ _ _ rfl); simp only [T_api_Term.C, List.cons.injEq, and_true] at hv4; obtain ⟨rfl, rfl, rfl, rfl, rfl⟩ := hv4
    obtain ⟨v5, ev5, _⟩ := hr5
    have ev5 : [c13] = _ := ev5
    injection ev5 with ev5; subst ev5
    exact ⟨⟨v0, v1, v2, v3, v4, v5⟩, rfl⟩
theorem wt_T_api_Pred {cs : List AV} (h : Wt Try.prog 42 cs) : ∃ x : T_api_Pred, cs = x.C := (wt_T_api_Pred' h).1 rfl
theorem wt_s33 {cs : List AV} (h : Wt Try.prog 33 cs) : ∃ l : List T_api_Pred, cs = [.slice .foreign (l.map T_api_Pred.av)] ∧ l.length < 9223372036854775808 := (wt_T_api_Pred' h).2 rfl
theorem st_T_api_Edge : structT Try.prog 35 = some [(3, 0, 1), (33, 1, 1), (32, 2, 1), (32, 3, 1), (32, 4, 1)] := by kernel_rfl
theorem wt_T_api_Edge {cs : List AV} (h : Wt Try.prog 35 cs) : ∃ x : T_api_Edge, cs = x.C := by
  obtain ⟨hl, hf⟩ := h.struct_inv st_T_api_Edge
  rw [show Try.prog.cellsOf 35 = 5 by kernel_rfl] at hl
  obtain ⟨c0, d0, rfl, hn0⟩ := uncons hl
  obtain ⟨c1, d1, rfl, hn1⟩ := uncons hn0
  obtain ⟨c2, d2, rfl, hn2⟩ := uncons hn1
  obtain ⟨c3, d3, rfl, hn3⟩ := uncons hn2
  obtain ⟨c4, d4, rfl, hn4⟩ := uncons hn3
  obtain rfl := List.length_eq_zero_iff.1 hn4
  obtain ⟨v0, rfl⟩ := Wt.i64 (show Try.prog.underlying 3 = some (.int .i64) by kernel_rfl) (show Wt Try.prog 3 [c0] from hf 0 _ _ _ rfl)
  obtain ⟨v1, e, _⟩ := wt_s33 (show Wt Try.prog 33 [c1] from hf 1 _ _ _ rfl); injection e with e; subst e
  obtain ⟨v2, rfl⟩ := Wt.w (show Try.prog.underlying 32 = some (.int .u64) by kernel_rfl) (show Wt Try.prog 32 [c2] from hf 2 _ _ _ rfl)
  obtain ⟨v3, rfl⟩ := Wt.w (show Try.prog.underlying 32 = some (.int .u64) by kernel_rfl) (show Wt Try.prog 32 [c3] from hf 3 _ _ _ rfl)
  obtain ⟨v4, rfl⟩ := Wt.w (show Try.prog.underlying 32 = some (.int .u64) by kernel_rfl) (show Wt Try.prog 32 [c4] from hf 4 _ _ _ rfl)
  exact ⟨⟨v0, v1, v2, v3, v4⟩, rfl⟩
theorem wt_s31 {cs : List AV} (h : Wt Try.prog 31 cs) : ∃ l : List T_api_Edge, cs = [.slice .foreign (l.map T_api_Edge.av)] ∧ l.length < 9223372036854775808 := by
  obtain ⟨es, hn, h1, h2, h3⟩ := h.slice_inv (show Try.prog.underlying 31 = some (.slice 35) by kernel_rfl)
  subst hn
  have hd : ∀ cs, Wt Try.prog 35 cs → ∃ y, cs = (T_api_Edge.av y).cells ∧ True := fun cs hc => let ⟨x, hx⟩ := wt_T_api_Edge hc; ⟨x, by first | (rw [hx, T_api_Edge.av_eq]; rfl) | (rw [hx]; rfl), trivial⟩
  obtain ⟨l, rfl, _⟩ := rowsOf (P := Try.prog) (f := T_api_Edge.av) (G := fun _ => True) (fun x => by first | (rw [T_api_Edge.av_eq]; exact agg_of (by kernel_rfl)) | exact agg_of (cs := T_api_Edge.C x) (by kernel_rfl)) (fun x hx => hd _ (h2 x hx)) h3
  exact ⟨l, rfl, by simp [maxLen] at h1; omega⟩
theorem wt_s77 {cs : List AV} (h : Wt Try.prog 77 cs) : ∃ l : List Set64, cs = [.slice .foreign (l.map AV.w)] ∧ l.length < 9223372036854775808 := by
  obtain ⟨es, hn, h1, h2, h3⟩ := h.slice_inv (show Try.prog.underlying 77 = some (.slice 32) by kernel_rfl)
  subst hn
  have hd : ∀ cs, Wt Try.prog 32 cs → ∃ y, cs = (AV.w y).cells ∧ True := fun cs hc => let ⟨n, hx, h1, h2⟩ := hc.int_inv (show Try.prog.underlying 32 = some (.int .u64) by kernel_rfl); ⟨BitVec.ofNat 64 n.toNat, by rw [hx, ← u64_mk h1 h2]; rfl, trivial⟩
  obtain ⟨l, rfl, _⟩ := rowsOf (P := Try.prog) (f := AV.w) (G := fun _ => True) (fun x => one_of (by kernel_rfl) rfl) (fun x hx => hd _ (h2 x hx)) h3
  exact ⟨l, rfl, by simp [maxLen] at h1; omega⟩
theorem st_T_api_Stats : structT Try.prog 79 = some [(77, 0, 1), (77, 1, 1)] := by kernel_rfl
theorem wt_T_api_Stats {cs : List AV} (h : Wt Try.prog 79 cs) : ∃ x : T_api_Stats, cs = x.C := by
  obtain ⟨hl, hf⟩ := h.struct_inv st_T_api_Stats
  rw [show Try.prog.cellsOf 79 = 2 by kernel_rfl] at hl
  obtain ⟨c0, d0, rfl, hn0⟩ := uncons hl
  obtain ⟨c1, d1, rfl, hn1⟩ := uncons hn0
  obtain rfl := List.length_eq_zero_iff.1 hn1
  obtain ⟨v0, e, _⟩ := wt_s77 (show Wt Try.prog 77 [c0] from hf 0 _ _ _ rfl); injection e with e; subst e
  obtain ⟨v1, e, _⟩ := wt_s77 (show Wt Try.prog 77 [c1] from hf 1 _ _ _ rfl); injection e with e; subst e
  exact ⟨⟨v0, v1⟩, rfl⟩
theorem st_T_cost_Model : structT Try.prog 81 = some [(3, 0, 1), (31, 1, 1), (79, 2, 2)] := by kernel_rfl
theorem wt_T_cost_Model {cs : List AV} (h : Wt Try.prog 81 cs) : ∃ x : T_cost_Model, cs = x.C := by
  obtain ⟨hl, hf⟩ := h.struct_inv st_T_cost_Model
  rw [show Try.prog.cellsOf 81 = 4 by kernel_rfl] at hl
  obtain ⟨c0, d0, rfl, hn0⟩ := uncons hl
  obtain ⟨c1, d1, rfl, hn1⟩ := uncons hn0
  obtain ⟨c2, d2, rfl, hn2⟩ := uncons hn1
  obtain ⟨c3, d3, rfl, hn3⟩ := uncons hn2
  obtain rfl := List.length_eq_zero_iff.1 hn3
  obtain ⟨v0, rfl⟩ := Wt.i64 (show Try.prog.underlying 3 = some (.int .i64) by kernel_rfl) (show Wt Try.prog 3 [c0] from hf 0 _ _ _ rfl)
  obtain ⟨v1, e, _⟩ := wt_s31 (show Wt Try.prog 31 [c1] from hf 1 _ _ _ rfl); injection e with e; subst e
  obtain ⟨v2, hv2⟩ := wt_T_api_Stats (show Wt Try.prog 79 [c2, c3] from hf 2 _ _ _ rfl); simp only [T_api_Stats.C, List.cons.injEq, and_true] at hv2; obtain ⟨rfl, rfl⟩ := hv2
  exact ⟨⟨v0, v1, v2⟩, rfl⟩
theorem st_T_api_Tree : structT Try.prog 55 = some [(3, 0, 1), (3, 1, 1), (53, 2, 1), (33, 3, 1), (4, 4, 1)] := by kernel_rfl
theorem wt_T_api_Tree' {t : TypeId} {cs : List AV} (h : Wt Try.prog t cs) : (t = 55 → ∃ x : T_api_Tree, cs = x.C) ∧ (t = 53 → ∃ xs : List T_api_Tree, cs = [.slice .foreign (xs.map T_api_Tree.av)] ∧ xs.length < 9223372036854775808) := by
  obtain ⟨fs, hfs⟩ := structT_u st_T_api_Tree
  have hs53 : Try.prog.underlying 53 = some (.slice 55) := by kernel_rfl
  induction h with
  | bool t b ht => exact ⟨fun h => by (subst h; rw [hfs] at ht; cases ht), fun h => by (subst h; rw [hs53] at ht; cases ht)⟩
  | int t b n ht => exact ⟨fun h => by (subst h; rw [hfs] at ht; cases ht), fun h => by (subst h; rw [hs53] at ht; cases ht)⟩
  | string t b ht => exact ⟨fun h => by (subst h; rw [hfs] at ht; cases ht), fun h => by (subst h; rw [hs53] at ht; cases ht)⟩
  | array t b n cs ht => exact ⟨fun h => by (subst h; rw [hfs] at ht; cases ht), fun h => by (subst h; rw [hs53] at ht; cases ht)⟩
  | slice t e es ht hl h hf ih =>
    refine ⟨fun h => by (subst h; rw [hfs] at ht; cases ht), fun h => ?_⟩
    · subst h
      rw [hs53] at ht
      injection ht with ht; injection ht with ht; subst ht
      obtain ⟨l, rfl, _⟩ := rowsOf (P := Try.prog) (f := T_api_Tree.av) (G := fun _ => True) (fun x => by rw [T_api_Tree.av_eq]; exact agg_of (by kernel_rfl)) (fun x hx => let ⟨y, hy⟩ := (ih x hx).1 rfl; ⟨y, by rw [hy, T_api_Tree.av_eq]; rfl, trivial⟩) hf
      exact ⟨l, rfl, by simp [maxLen] at hl; omega⟩
  | struct t fs' cs ht hl h ih =>
    refine ⟨fun e => ?_, fun h => by (subst h; rw [hs53] at ht; cases ht)⟩
    subst e
    obtain ⟨_, hf⟩ := (Wt.struct _ _ _ ht hl h).struct_inv st_T_api_Tree
    obtain ⟨f2, g1, g2, g3, g4⟩ := structT_field (i := 2) st_T_api_Tree ht rfl
    have hr2 := (ih 2 f2 g1).2 g2
    rw [g3, g4] at hr2
    clear g1 g2 g3 g4
    clear ih h
    rw [show Try.prog.cellsOf 55 = 5 by kernel_rfl] at hl
    obtain ⟨c0, d0, rfl, hn0⟩ := uncons hl
    obtain ⟨c1, d1, rfl, hn1⟩ := uncons hn0
    obtain ⟨c2, d2, rfl, hn2⟩ := uncons hn1
    obtain ⟨c3, d3, rfl, hn3⟩ := uncons hn2
    obtain ⟨c4, d4, rfl, hn4⟩ := uncons hn3
    obtain rfl := List.length_eq_zero_iff.1 hn4
    obtain ⟨v0, rfl⟩ := Wt.i64 (show Try.prog.underlying 3 = some (.int .i64) by kernel_rfl) (show Wt Try.prog 3 [c0] from hf 0 _ _ _ rfl)
    obtain ⟨v1, rfl⟩ := Wt.i64 (show Try.prog.underlying 3 = some (.int .i64) by kernel_rfl) (show Wt Try.prog 3 [c1] from hf 1 _ _ _ rfl)
    obtain ⟨v2, ev2, _⟩ := hr2
    have ev2 : [c2] = _ := ev2
    injection ev2 with ev2; subst ev2
    obtain ⟨v3, e, _⟩ := wt_s33 (show Wt Try.prog 33 [c3] from hf 3 _ _ _ rfl); injection e with e; subst e
    obtain ⟨v4, rfl⟩ := Wt.b (show Try.prog.underlying 4 = some (.bool) by kernel_rfl) (show Wt Try.prog 4 [c4] from hf 4 _ _ _ rfl)
    exact ⟨⟨v0, v1, v2, v3, v4⟩, rfl⟩
theorem wt_T_api_Tree {cs : List AV} (h : Wt Try.prog 55 cs) : ∃ x : T_api_Tree, cs = x.C := (wt_T_api_Tree' h).1 rfl
theorem wt_s53 {cs : List AV} (h : Wt Try.prog 53 cs) : ∃ l : List T_api_Tree, cs = [.slice .foreign (l.map T_api_Tree.av)] ∧ l.length < 9223372036854775808 := (wt_T_api_Tree' h).2 rfl
end Go.Proofs.Ytakmilmckdllfaa.G
namespace Go.Proofs.Ytakmilmckdllfaa.OrderTells
open Go.ChangeShapes Go.WideShapes Go.ChangeAt Go.RowKit Go.Proofs.Ytakmilmckdllfaa.G
set_option linter.unusedVariables false
theorem own : ownKnob Try.prog.godebug = none := by kernel_rfl
theorem laidOut : laidOutB Try.prog = true := by kernel_rfl
set_option maxRecDepth 100000 in
theorem lifted (os : Os) (started : os.Started) (H : Type) (enc : TypeId × Value → H) :
    ReturnsInHanded {} Try.checked os 10 .any (Rows.orderTellsSpec.pre6 enc Try.prog Try.f10 Rows.orderTellsRow.domain false) (Rows.orderTellsSpec.post enc Try.prog Try.f10 false true false false) := by
  refine returnsInHanded_of_change_sized (C := Try.checked) own started (by kernel_rfl) Try.func10
    (ChangeSpec.witness6 (enc := enc) (C := Try.checked) false ⟨#[], #[.agg #[.int .i64 0, .slice none 0 0, .slice none 0 0, .slice none 0 0], .slice none 0 0], []⟩ 30 (by kernel_rfl) (by kernel_rfl) (by kernel_rfl) (by kernel_rfl)) ?_
  intro W base args ds gs before hval0 hW hcnd hsz0 _
  have hval : ∀ (j : Nat) t v, Try.f10.params[j]? = some t → args[j]? = some v → Value.okWide Try.prog W .any base t v := hval0
  have hW' := hW
  obtain ⟨p, q, hA0, hV, rfl, hfz, hnd⟩ := hW
  have hA : DataW.TrodAll enc Try.prog W 0 (fun _ => true) true Try.f10.params.toList args.toList ds p := hA0
  rw [Try.params10] at hA hval
  obtain ⟨u0, vs0, d0, ds0, p0, q0, hargs, rfl, rfl, h0, r0⟩ := trodAll_cons hA
  obtain ⟨u1, vs1, d1, ds1, p1, q1, rfl, rfl, rfl, h1, r1⟩ := trodAll_cons r0
  obtain ⟨rfl, rfl, rfl⟩ := trodAll_nil r1
  obtain rfl : args = #[u0, u1] := by cases args; simp_all
  obtain ⟨rfl, rfl⟩ := trodVars_none hV
  have lt0 : ∀ x ∈ p0, x.block < W.heap.size := by obtain ⟨m, hm⟩ := h0; exact DataW.trod_lt m _ _ _ hm
  have lt1 : ∀ x ∈ p1, x.block < W.heap.size := by obtain ⟨m, hm⟩ := h1; exact DataW.trod_lt m _ _ _ hm
  have hS : plainT Try.prog [81, 3, 31, 35, 33, 42, 40, 38, 4, 2, 32, 79, 77, 53, 55] = true := by kernel_rfl
  obtain ⟨a0, as0, rep0, wt0, of0⟩ := reads_param hS (by simp) (hval 0 81 u0 rfl rfl) h0
  obtain ⟨a1, as1, rep1, wt1, of1⟩ := reads_param hS (by simp) (hval 1 53 u1 rfl rfl) h1
  obtain rfl := all_cells (by kernel_rfl) of0
  obtain ⟨x0, rfl⟩ := wt_T_cost_Model wt0
  obtain rfl := one_cell (by kernel_rfl) of1
  obtain ⟨x1, e1, _⟩ := wt_s53 wt1; injection e1 with e1; subst e1
  refine ((M_law29_OrderTells.w (x0, x1) true (orderTells_plain law29_awake_plain x0 x1)).law (.cons rep0 (.cons rep1 .nil))).mono fun e W' ⟨he, bel⟩ => ?_
  subst he
  exact ⟨_, rfl, _, _, _, [], _, [], hW', trodAll_mk1 (shut_bool Try.underlying4 _), (trodAll_cons_mk (Below.trod laidOut (by kernel_rfl) (of_decide_eq_true (by kernel_rfl)) h0 bel lt0) (trodAll_cons_mk (Below.trod laidOut (by kernel_rfl) (of_decide_eq_true (by kernel_rfl)) h1 bel lt1) trodAll_mk0)), rfl, bel.frame _, fun h => by cases h⟩
theorem over : Rows.orderTellsRow.holds Try.pinned (OpenSpec.ofChange Rows.orderTellsSpec) :=
  OpenClaim.holds_of_wide 10 Try.f10 rfl rfl rfl rfl rfl rfl rfl ⟨rfl, rfl, rfl, rfl, rfl⟩ rfl rfl rfl rfl rfl (by kernel_rfl) Try.func10 (by kernel_rfl)
    (of_decide_eq_true (by kernel_rfl)) (by unfold Func.isWrapper; first | (rw [if_pos (by decide +kernel)]; kernel_rfl) | (rw [if_neg (by decide +kernel)]; exact ⟨rfl, rfl⟩))
    (fun os started H enc _ => lifted os started H enc)
end Go.Proofs.Ytakmilmckdllfaa.OrderTells
namespace Go.Proofs.Ytakmilmckdllfaa
/-- The row, under a short name, for the claim. -/
theorem orderTells_holds : Rows.OrderTellsSaid := OrderTells.over
end Go.Proofs.Ytakmilmckdllfaa
