/-
OrderInner: the law returns true whatever the input.
-/
import Derived.Test.YtcfekacmmfdggaaOrderInner4
import Derived.KernelRfl
import Derived.WalkKit
import Derived.ProofKit
import Derived.OpenShut
import Derived.ChangeOld
import Derived.Below
import Derived.Carry
import Derived.SizedLaws
import Derived.Test.YtcfekacmmfdggaaRows
set_option linter.unusedVariables false
set_option linter.unusedSimpArgs false
set_option maxRecDepth 100000
namespace Go.Proofs.Ytcfekacmmfdggaa.G
theorem lok_176 : (Try.f176.body.isSome && !(Try.f176.name == "runtime.NumGoroutine") && okL (bodyF Try.f176) Try.f176.ntmps (bodyF Try.f176)) = true := by kernel_rfl
def M_ref07_sure (x : T_api_Term × Set64) : Option (Bool) :=
  if (x.1.Kind == 1) = true then
    M_ref01_Has (x.2, x.1.Table) >>= fun r2 =>
    if r2 = true then
      some true
    else
      some false
  else
    some x.1.Value.Null
set_option maxHeartbeats 8000000 in
theorem M_ref07_sure.w : ∀ (x : T_api_Term × Set64) (r : Bool), M_ref07_sure x = some r → (fun (x : T_api_Term × Set64) (r : Bool) => Fn Try.prog 176 [.agg (T_api_Term.C x.1), .w x.2] (.bool r)) x r := by
  intro x r h
  rw [M_ref07_sure] at h
  try dsimp only
  refine Fn.of_lc mix fn_176 lok_176 (by rfl) (flC (T_api_Term.flatC _) (flC (.atom _) (flN))) (.atom _) ?_
  simp -implicitDefEqProofs only [go_sem, Try.f176]
  by_cases h1 : (x.1.Kind == 1) = true
  · replace h := ite_some h h1
    try simp -implicitDefEqProofs only [go_sem, h1]
    obtain ⟨r2, h3, h⟩ := bind_some' h
    refine .plain _ _ rfl (M_ref01_Has.w (x.2, x.1.Table) _ h3) ?_
    try simp -implicitDefEqProofs only [go_sem, h1]
    by_cases h4 : r2 = true
    · replace h := ite_some h h4
      try simp -implicitDefEqProofs only [go_sem, h1, h4]
      injection h with h; subst h
      first | rfl | simp -implicitDefEqProofs only [go_sem, h1, h4] <;> rfl
    · replace h := ite_none h h4; replace h4 := bfalse h4
      try simp -implicitDefEqProofs only [go_sem, h1, h4]
      have h5 : (x.1.Kind != 1) = false := eqb_t h1
      try simp -implicitDefEqProofs only [go_sem, h1, h4, h5]
      injection h with h; subst h
      first | rfl | simp -implicitDefEqProofs only [go_sem, h1, h4, h5] <;> rfl
  · replace h := ite_none h h1; replace h1 := bfalse h1
    try simp -implicitDefEqProofs only [go_sem, h1]
    have h6 : (x.1.Kind != 1) = true := eqb_f h1
    try simp -implicitDefEqProofs only [go_sem, h1, h6]
    injection h with h; subst h
    first | rfl | simp -implicitDefEqProofs only [go_sem, h1, h6] <;> rfl
end Go.Proofs.Ytcfekacmmfdggaa.G
set_option linter.unusedVariables false
set_option linter.unusedSimpArgs false
set_option maxRecDepth 100000
namespace Go.Proofs.Ytcfekacmmfdggaa.G
theorem lok_160 : (Try.f160.body.isSome && !(Try.f160.name == "runtime.NumGoroutine") && okL (bodyF Try.f160) Try.f160.ntmps (bodyF Try.f160)) = true := by kernel_rfl
theorem lok_161 : (Try.f161.body.isSome && !(Try.f161.name == "runtime.NumGoroutine") && okL (bodyF Try.f161) Try.f161.ntmps (bodyF Try.f161)) = true := by kernel_rfl
theorem lok_162 : (Try.f162.body.isSome && !(Try.f162.name == "runtime.NumGoroutine") && okL (bodyF Try.f162) Try.f162.ntmps (bodyF Try.f162)) = true := by kernel_rfl
theorem lok_149 : (Try.f149.body.isSome && !(Try.f149.name == "runtime.NumGoroutine") && okL (bodyF Try.f149) Try.f149.ntmps (bodyF Try.f149)) = true := by kernel_rfl
theorem lok_169 : (Try.f169.body.isSome && !(Try.f169.name == "runtime.NumGoroutine") && okL (bodyF Try.f169) Try.f169.ntmps (bodyF Try.f169)) = true := by kernel_rfl
mutual
def M_ref07_all.l0 (x : List T_api_Pred × Set64 × Int) : Option (Lp (Unit) (Bool)) :=
  if (decide (x.2.2 < (x.1.length : Int))) = true then
    (getI x.1 x.2.2) >>= fun (e2 : T_api_Pred) =>
    M_ref07_Is (e2, x.2.1, 0) >>= fun r4 =>
    if r4 = true then
      M_ref07_all.l0 (x.1, x.2.1, (w64 (x.2.2 + 1)))
    else
      M_ref07_Is (e2, x.2.1, 1) >>= fun r7 =>
      if r7 = true then
        M_ref07_all.l0 (x.1, x.2.1, (w64 (x.2.2 + 1)))
      else
        M_ref07_Is (e2, x.2.1, 2) >>= fun r10 =>
        if r10 = true then
          M_ref07_all.l0 (x.1, x.2.1, (w64 (x.2.2 + 1)))
        else
          some (.ret false)
  else
    some (.brk ())
  partial_fixpoint
def M_ref07_Is (x : T_api_Pred × Set64 × Int) : Option (Bool) :=
  if (x.1.Kind == 1) = true then
    if (x.2.2 == x.1.Truth) = true then
      some true
    else
      if (x.2.2 == 1) = true then
        if (decide (x.1.Truth < 0)) = true then
          some true
        else
          some (decide (x.1.Truth > 2))
      else
        some false
  else
    if (x.1.Kind == 2) = true then
      if (decide (x.1.Op < 1)) = true then
        some (x.2.2 == 1)
      else
        if (decide (x.1.Op > 6)) = true then
          some (x.2.2 == 1)
        else
          M_ref07_sure (x.1.A, x.2.1) >>= fun r8 =>
          if r8 = true then
            some (x.2.2 == 1)
          else
            M_ref07_sure (x.1.B, x.2.1) >>= fun r11 =>
            if r11 = true then
              some (x.2.2 == 1)
            else
              if (x.1.A.Kind == 1) = true then
                some true
              else
                if (x.1.B.Kind == 1) = true then
                  some true
                else
                  M_ref03_Compare (x.1.Op, x.1.A.Value, x.1.B.Value) >>= fun r16 =>
                  some (x.2.2 == r16)
    else
      if (x.1.Kind == 3) = true then
        M_ref07_sure (x.1.A, x.2.1) >>= fun r19 =>
        if r19 = true then
          some (x.2.2 == 2)
        else
          if (x.2.2 == 0) = true then
            some true
          else
            if (x.2.2 == 2) = true then
              some (x.1.A.Kind == 1)
            else
              some false
      else
        if (x.1.Kind == 4) = true then
          M_ref07_many (x.1.Parts, x.2.1, x.2.2, 2) >>= fun r25 =>
          some r25
        else
          if (x.1.Kind == 5) = true then
            M_ref07_many (x.1.Parts, x.2.1, x.2.2, 0) >>= fun r28 =>
            some r28
          else
            if (x.1.Kind == 6) = true then
              if (decide ((x.1.Parts.length : Int) > 0)) = true then
                (x.1.Parts[0]?) >>= fun (e32 : T_api_Pred) =>
                M_ref07_Is (e32, x.2.1, (w64 (2 - x.2.2))) >>= fun r34 =>
                some r34
              else
                some (x.2.2 == 1)
            else
              some (x.2.2 == 1)
  partial_fixpoint
def M_ref07_many (x : List T_api_Pred × Set64 × Int × Int) : Option (Bool) :=
  M_ref07_all (x.1, x.2.1) >>= fun r1 =>
  if r1 = true then
    if (x.2.2.1 == x.2.2.2) = true then
      M_ref07_every (x.1, x.2.1, x.2.2.2, x.2.2.2) >>= fun r5 =>
      some r5
    else
      if (x.2.2.1 == 1) = true then
        M_ref07_some (x.1, x.2.1, 1) >>= fun r8 =>
        if r8 = true then
          M_ref07_every (x.1, x.2.1, 1, x.2.2.2) >>= fun r11 =>
          some r11
        else
          some false
      else
        M_ref07_some (x.1, x.2.1, (w64 (2 - x.2.2.2))) >>= fun r13 =>
        some r13
  else
    some false
  partial_fixpoint
def M_ref07_some (x : List T_api_Pred × Set64 × Int) : Option (Bool) :=
  M_ref07_some.l0 (x.1, x.2.1, x.2.2, 0) >>= fun (o7 : Lp (Unit) (Bool)) => match o7 with
  | .brk s10 =>
    some false
  | .ret r9 =>
    some r9
  partial_fixpoint
def M_ref07_some.l0 (x : List T_api_Pred × Set64 × Int × Int) : Option (Lp (Unit) (Bool)) :=
  if (decide (x.2.2.2 < (x.1.length : Int))) = true then
    (getI x.1 x.2.2.2) >>= fun (e2 : T_api_Pred) =>
    M_ref07_Is (e2, x.2.1, x.2.2.1) >>= fun r4 =>
    if r4 = true then
      some (.ret true)
    else
      M_ref07_some.l0 (x.1, x.2.1, x.2.2.1, (w64 (x.2.2.2 + 1)))
  else
    some (.brk ())
  partial_fixpoint
def M_ref07_every (x : List T_api_Pred × Set64 × Int × Int) : Option (Bool) :=
  M_ref07_every.l0 (x.1, x.2.1, x.2.2.1, x.2.2.2, 0) >>= fun (o10 : Lp (Unit) (Bool)) => match o10 with
  | .brk s13 =>
    some true
  | .ret r12 =>
    some r12
  partial_fixpoint
def M_ref07_every.l0 (x : List T_api_Pred × Set64 × Int × Int × Int) : Option (Lp (Unit) (Bool)) :=
  if (decide (x.2.2.2.2 < (x.1.length : Int))) = true then
    (getI x.1 x.2.2.2.2) >>= fun (e2 : T_api_Pred) =>
    M_ref07_Is (e2, x.2.1, x.2.2.1) >>= fun r4 =>
    if r4 = true then
      M_ref07_every.l0 (x.1, x.2.1, x.2.2.1, x.2.2.2.1, (w64 (x.2.2.2.2 + 1)))
    else
      M_ref07_Is (e2, x.2.1, x.2.2.2.1) >>= fun r7 =>
      if r7 = true then
        M_ref07_every.l0 (x.1, x.2.1, x.2.2.1, x.2.2.2.1, (w64 (x.2.2.2.2 + 1)))
      else
        some (.ret false)
  else
    some (.brk ())
  partial_fixpoint
def M_ref07_all (x : List T_api_Pred × Set64) : Option (Bool) :=
  M_ref07_all.l0 (x.1, x.2, 0) >>= fun (o13 : Lp (Unit) (Bool)) => match o13 with
  | .brk s16 =>
    some true
  | .ret r15 =>
    some r15
  partial_fixpoint
end
set_option maxHeartbeats 8000000 in
theorem M_ref07_all.l0.ws : (∀ (x : List T_api_Pred × Set64 × Int) (o : Lp (Unit) (Bool)), M_ref07_all.l0 x = some o → (fun (x : List T_api_Pred × Set64 × Int) (o : Lp (Unit) (Bool)) => ∀ (lo : Option Nat) (c : LCtx) (Q : Exit → LEnv → Prop) (hb : ∀ s : Unit, o = Lp.brk s → Q (.exit 0) ⟨[], []⟩) (hr : ∀ (r : Bool) (L : LEnv), o = .ret r → LPostF Try.prog [.tmp 4] (.bool r) (fun _ => True) .ret L → Q .ret L), LLoop Try.prog 160 lo c 0 (VQ Q) ⟨[(0, .v (.slice .foreign (x.1.map T_api_Pred.av))), (1, .v (.w x.2.1)), (5, .v (.i64 x.2.2))], []⟩) x o) ∧ (∀ (x : T_api_Pred × Set64 × Int) (o : Bool), M_ref07_Is x = some o → (fun (x : T_api_Pred × Set64 × Int) (r : Bool) => Fn Try.prog 169 [.agg (T_api_Pred.C x.1), .w x.2.1, .i64 x.2.2] (.bool r)) x o) ∧ (∀ (x : List T_api_Pred × Set64 × Int × Int) (o : Bool), M_ref07_many x = some o → (fun (x : List T_api_Pred × Set64 × Int × Int) (r : Bool) => Fn Try.prog 149 [.slice .foreign (x.1.map T_api_Pred.av), .w x.2.1, .i64 x.2.2.1, .i64 x.2.2.2] (.bool r)) x o) ∧ (∀ (x : List T_api_Pred × Set64 × Int) (o : Bool), M_ref07_some x = some o → (fun (x : List T_api_Pred × Set64 × Int) (r : Bool) => Fn Try.prog 162 [.slice .foreign (x.1.map T_api_Pred.av), .w x.2.1, .i64 x.2.2] (.bool r)) x o) ∧ (∀ (x : List T_api_Pred × Set64 × Int × Int) (o : Lp (Unit) (Bool)), M_ref07_some.l0 x = some o → (fun (x : List T_api_Pred × Set64 × Int × Int) (o : Lp (Unit) (Bool)) => ∀ (lo : Option Nat) (c : LCtx) (Q : Exit → LEnv → Prop) (hb : ∀ s : Unit, o = Lp.brk s → Q (.exit 0) ⟨[], []⟩) (hr : ∀ (r : Bool) (L : LEnv), o = .ret r → LPostF Try.prog [.tmp 6] (.bool r) (fun _ => True) .ret L → Q .ret L), LLoop Try.prog 162 lo c 0 (VQ Q) ⟨[(0, .v (.slice .foreign (x.1.map T_api_Pred.av))), (1, .v (.w x.2.1)), (2, .v (.i64 x.2.2.1)), (7, .v (.i64 x.2.2.2))], []⟩) x o) ∧ (∀ (x : List T_api_Pred × Set64 × Int × Int) (o : Bool), M_ref07_every x = some o → (fun (x : List T_api_Pred × Set64 × Int × Int) (r : Bool) => Fn Try.prog 161 [.slice .foreign (x.1.map T_api_Pred.av), .w x.2.1, .i64 x.2.2.1, .i64 x.2.2.2] (.bool r)) x o) ∧ (∀ (x : List T_api_Pred × Set64 × Int × Int × Int) (o : Lp (Unit) (Bool)), M_ref07_every.l0 x = some o → (fun (x : List T_api_Pred × Set64 × Int × Int × Int) (o : Lp (Unit) (Bool)) => ∀ (lo : Option Nat) (c : LCtx) (Q : Exit → LEnv → Prop) (hb : ∀ s : Unit, o = Lp.brk s → Q (.exit 0) ⟨[], []⟩) (hr : ∀ (r : Bool) (L : LEnv), o = .ret r → LPostF Try.prog [.tmp 8] (.bool r) (fun _ => True) .ret L → Q .ret L), LLoop Try.prog 161 lo c 0 (VQ Q) ⟨[(0, .v (.slice .foreign (x.1.map T_api_Pred.av))), (1, .v (.w x.2.1)), (2, .v (.i64 x.2.2.1)), (3, .v (.i64 x.2.2.2.1)), (9, .v (.i64 x.2.2.2.2))], []⟩) x o) ∧ (∀ (x : List T_api_Pred × Set64) (o : Bool), M_ref07_all x = some o → (fun (x : List T_api_Pred × Set64) (r : Bool) => Fn Try.prog 160 [.slice .foreign (x.1.map T_api_Pred.av), .w x.2] (.bool r)) x o) := by
  refine M_ref07_all.l0.mutual_partial_correctness _ _ _ _ _ _ _ _ ?_ ?_ ?_ ?_ ?_ ?_ ?_ ?_
  · intro M_M_ref07_all_l0 M_M_ref07_Is ih_M_ref07_all_l0 ih_M_ref07_Is x o h
    intro lo c Q hb hr
    refine LLoop.step mix fn_160 (by kernel_rfl) ?_
    simp -implicitDefEqProofs only [go_sem, Try.f160]
    by_cases h1 : (decide (x.2.2 < (x.1.length : Int))) = true
    · replace h := ite_some h h1
      try simp -implicitDefEqProofs only [go_sem, h1]
      obtain ⟨e2, h3, h⟩ := bind_some' h; replace h3 := getI_some h3; obtain ⟨h3', h3⟩ := h3
      try simp -implicitDefEqProofs only [go_sem, h1, h3, h3']
      obtain ⟨r4, h5, h⟩ := bind_some' h
      refine .plain _ _ rfl (ih_M_ref07_Is (e2, x.2.1, 0) _ h5) ?_
      try simp -implicitDefEqProofs only [go_sem, h1, h3, h3']
      by_cases h6 : r4 = true
      · replace h := ite_some h h6
        try simp -implicitDefEqProofs only [go_sem, h1, h3, h3', h6]
        exact LLoop.view [] (by (first | rfl | simp -implicitDefEqProofs only [go_sem, h1, h3, h3', h6] <;> rfl)) (ih_M_ref07_all_l0 _ _ h lo c Q hb hr)
      · replace h := ite_none h h6; replace h6 := bfalse h6
        try simp -implicitDefEqProofs only [go_sem, h1, h3, h3', h6]
        obtain ⟨r7, h8, h⟩ := bind_some' h
        refine .plain _ _ rfl (ih_M_ref07_Is (e2, x.2.1, 1) _ h8) ?_
        try simp -implicitDefEqProofs only [go_sem, h1, h3, h3', h6]
        by_cases h9 : r7 = true
        · replace h := ite_some h h9
          try simp -implicitDefEqProofs only [go_sem, h1, h3, h3', h6, h9]
          exact LLoop.view [] (by (first | rfl | simp -implicitDefEqProofs only [go_sem, h1, h3, h3', h6, h9] <;> rfl)) (ih_M_ref07_all_l0 _ _ h lo c Q hb hr)
        · replace h := ite_none h h9; replace h9 := bfalse h9
          try simp -implicitDefEqProofs only [go_sem, h1, h3, h3', h6, h9]
          obtain ⟨r10, h11, h⟩ := bind_some' h
          refine .plain _ _ rfl (ih_M_ref07_Is (e2, x.2.1, 2) _ h11) ?_
          try simp -implicitDefEqProofs only [go_sem, h1, h3, h3', h6, h9]
          by_cases h12 : r10 = true
          · replace h := ite_some h h12
            try simp -implicitDefEqProofs only [go_sem, h1, h3, h3', h6, h9, h12]
            exact LLoop.view [] (by (first | rfl | simp -implicitDefEqProofs only [go_sem, h1, h3, h3', h6, h9, h12] <;> rfl)) (ih_M_ref07_all_l0 _ _ h lo c Q hb hr)
          · replace h := ite_none h h12; replace h12 := bfalse h12
            try simp -implicitDefEqProofs only [go_sem, h1, h3, h3', h6, h9, h12]
            injection h with h; subst h
            exact .inl (hr _ _ rfl (by (first | rfl | simp -implicitDefEqProofs only [go_sem, h1, h3, h3', h6, h9, h12] <;> rfl)))
    · replace h := ite_none h h1; replace h1 := bfalse h1
      try simp -implicitDefEqProofs only [go_sem, h1]
      injection h with h; subst h
      exact .inr ⟨[], _, by (simp -implicitDefEqProofs only [go_sem, h1] <;> first | done | rfl | trivial), hb _ rfl⟩
  · intro M_M_ref07_Is M_M_ref07_many ih_M_ref07_Is ih_M_ref07_many x r h
    refine Fn.of_lc mix fn_169 lok_169 (by rfl) (flC (T_api_Pred.flatC _) (flC (.atom _) (flC (.atom _) (flN)))) (.atom _) ?_
    simp -implicitDefEqProofs only [go_sem, Try.f169]
    by_cases h1 : (x.1.Kind == 1) = true
    · replace h := ite_some h h1
      try simp -implicitDefEqProofs only [go_sem, h1]
      by_cases h2 : (x.2.2 == x.1.Truth) = true
      · replace h := ite_some h h2
        try simp -implicitDefEqProofs only [go_sem, h1, h2]
        injection h with h; subst h
        first | rfl | simp -implicitDefEqProofs only [go_sem, h1, h2] <;> rfl
      · replace h := ite_none h h2; replace h2 := bfalse h2
        try simp -implicitDefEqProofs only [go_sem, h1, h2]
        by_cases h3 : (x.2.2 == 1) = true
        · replace h := ite_some h h3
          try simp -implicitDefEqProofs only [go_sem, h1, h2, h3]
          by_cases h4 : (decide (x.1.Truth < 0)) = true
          · replace h := ite_some h h4
            try simp -implicitDefEqProofs only [go_sem, h1, h2, h3, h4]
            injection h with h; subst h
            first | rfl | simp -implicitDefEqProofs only [go_sem, h1, h2, h3, h4] <;> rfl
          · replace h := ite_none h h4; replace h4 := bfalse h4
            try simp -implicitDefEqProofs only [go_sem, h1, h2, h3, h4]
            injection h with h; subst h
            first | rfl | simp -implicitDefEqProofs only [go_sem, h1, h2, h3, h4] <;> rfl
        · replace h := ite_none h h3; replace h3 := bfalse h3
          try simp -implicitDefEqProofs only [go_sem, h1, h2, h3]
          injection h with h; subst h
          first | rfl | simp -implicitDefEqProofs only [go_sem, h1, h2, h3] <;> rfl
    · replace h := ite_none h h1; replace h1 := bfalse h1
      try simp -implicitDefEqProofs only [go_sem, h1]
      by_cases h5 : (x.1.Kind == 2) = true
      · replace h := ite_some h h5
        try simp -implicitDefEqProofs only [go_sem, h1, h5]
        by_cases h6 : (decide (x.1.Op < 1)) = true
        · replace h := ite_some h h6
          try simp -implicitDefEqProofs only [go_sem, h1, h5, h6]
          injection h with h; subst h
          first | rfl | simp -implicitDefEqProofs only [go_sem, h1, h5, h6] <;> rfl
        · replace h := ite_none h h6; replace h6 := bfalse h6
          try simp -implicitDefEqProofs only [go_sem, h1, h5, h6]
          by_cases h7 : (decide (x.1.Op > 6)) = true
          · replace h := ite_some h h7
            try simp -implicitDefEqProofs only [go_sem, h1, h5, h6, h7]
            injection h with h; subst h
            first | rfl | simp -implicitDefEqProofs only [go_sem, h1, h5, h6, h7] <;> rfl
          · replace h := ite_none h h7; replace h7 := bfalse h7
            try simp -implicitDefEqProofs only [go_sem, h1, h5, h6, h7]
            obtain ⟨r8, h9, h⟩ := bind_some' h
            refine .plain _ _ rfl (M_ref07_sure.w (x.1.A, x.2.1) _ h9) ?_
            try simp -implicitDefEqProofs only [go_sem, h1, h5, h6, h7]
            by_cases h10 : r8 = true
            · replace h := ite_some h h10
              try simp -implicitDefEqProofs only [go_sem, h1, h5, h6, h7, h10]
              injection h with h; subst h
              first | rfl | simp -implicitDefEqProofs only [go_sem, h1, h5, h6, h7, h10] <;> rfl
            · replace h := ite_none h h10; replace h10 := bfalse h10
              try simp -implicitDefEqProofs only [go_sem, h1, h5, h6, h7, h10]
              obtain ⟨r11, h12, h⟩ := bind_some' h
              refine .plain _ _ rfl (M_ref07_sure.w (x.1.B, x.2.1) _ h12) ?_
              try simp -implicitDefEqProofs only [go_sem, h1, h5, h6, h7, h10]
              by_cases h13 : r11 = true
              · replace h := ite_some h h13
                try simp -implicitDefEqProofs only [go_sem, h1, h5, h6, h7, h10, h13]
                injection h with h; subst h
                first | rfl | simp -implicitDefEqProofs only [go_sem, h1, h5, h6, h7, h10, h13] <;> rfl
              · replace h := ite_none h h13; replace h13 := bfalse h13
                try simp -implicitDefEqProofs only [go_sem, h1, h5, h6, h7, h10, h13]
                by_cases h14 : (x.1.A.Kind == 1) = true
                · replace h := ite_some h h14
                  try simp -implicitDefEqProofs only [go_sem, h1, h5, h6, h7, h10, h13, h14]
                  injection h with h; subst h
                  first | rfl | simp -implicitDefEqProofs only [go_sem, h1, h5, h6, h7, h10, h13, h14] <;> rfl
                · replace h := ite_none h h14; replace h14 := bfalse h14
                  try simp -implicitDefEqProofs only [go_sem, h1, h5, h6, h7, h10, h13, h14]
                  by_cases h15 : (x.1.B.Kind == 1) = true
                  · replace h := ite_some h h15
                    try simp -implicitDefEqProofs only [go_sem, h1, h5, h6, h7, h10, h13, h14, h15]
                    injection h with h; subst h
                    first | rfl | simp -implicitDefEqProofs only [go_sem, h1, h5, h6, h7, h10, h13, h14, h15] <;> rfl
                  · replace h := ite_none h h15; replace h15 := bfalse h15
                    try simp -implicitDefEqProofs only [go_sem, h1, h5, h6, h7, h10, h13, h14, h15]
                    obtain ⟨r16, h17, h⟩ := bind_some' h
                    refine .plain _ _ rfl (M_ref03_Compare.w (x.1.Op, x.1.A.Value, x.1.B.Value) _ h17) ?_
                    try simp -implicitDefEqProofs only [go_sem, h1, h5, h6, h7, h10, h13, h14, h15]
                    injection h with h; subst h
                    first | rfl | simp -implicitDefEqProofs only [go_sem, h1, h5, h6, h7, h10, h13, h14, h15] <;> rfl
      · replace h := ite_none h h5; replace h5 := bfalse h5
        try simp -implicitDefEqProofs only [go_sem, h1, h5]
        by_cases h18 : (x.1.Kind == 3) = true
        · replace h := ite_some h h18
          try simp -implicitDefEqProofs only [go_sem, h1, h5, h18]
          obtain ⟨r19, h20, h⟩ := bind_some' h
          refine .plain _ _ rfl (M_ref07_sure.w (x.1.A, x.2.1) _ h20) ?_
          try simp -implicitDefEqProofs only [go_sem, h1, h5, h18]
          by_cases h21 : r19 = true
          · replace h := ite_some h h21
            try simp -implicitDefEqProofs only [go_sem, h1, h5, h18, h21]
            injection h with h; subst h
            first | rfl | simp -implicitDefEqProofs only [go_sem, h1, h5, h18, h21] <;> rfl
          · replace h := ite_none h h21; replace h21 := bfalse h21
            try simp -implicitDefEqProofs only [go_sem, h1, h5, h18, h21]
            by_cases h22 : (x.2.2 == 0) = true
            · replace h := ite_some h h22
              try simp -implicitDefEqProofs only [go_sem, h1, h5, h18, h21, h22]
              injection h with h; subst h
              first | rfl | simp -implicitDefEqProofs only [go_sem, h1, h5, h18, h21, h22] <;> rfl
            · replace h := ite_none h h22; replace h22 := bfalse h22
              try simp -implicitDefEqProofs only [go_sem, h1, h5, h18, h21, h22]
              by_cases h23 : (x.2.2 == 2) = true
              · replace h := ite_some h h23
                try simp -implicitDefEqProofs only [go_sem, h1, h5, h18, h21, h22, h23]
                injection h with h; subst h
                first | rfl | simp -implicitDefEqProofs only [go_sem, h1, h5, h18, h21, h22, h23] <;> rfl
              · replace h := ite_none h h23; replace h23 := bfalse h23
                try simp -implicitDefEqProofs only [go_sem, h1, h5, h18, h21, h22, h23]
                injection h with h; subst h
                first | rfl | simp -implicitDefEqProofs only [go_sem, h1, h5, h18, h21, h22, h23] <;> rfl
        · replace h := ite_none h h18; replace h18 := bfalse h18
          try simp -implicitDefEqProofs only [go_sem, h1, h5, h18]
          by_cases h24 : (x.1.Kind == 4) = true
          · replace h := ite_some h h24
            try simp -implicitDefEqProofs only [go_sem, h1, h5, h18, h24]
            obtain ⟨r25, h26, h⟩ := bind_some' h
            refine .plain _ _ rfl (ih_M_ref07_many (x.1.Parts, x.2.1, x.2.2, 2) _ h26) ?_
            try simp -implicitDefEqProofs only [go_sem, h1, h5, h18, h24]
            injection h with h; subst h
            first | rfl | simp -implicitDefEqProofs only [go_sem, h1, h5, h18, h24] <;> rfl
          · replace h := ite_none h h24; replace h24 := bfalse h24
            try simp -implicitDefEqProofs only [go_sem, h1, h5, h18, h24]
            by_cases h27 : (x.1.Kind == 5) = true
            · replace h := ite_some h h27
              try simp -implicitDefEqProofs only [go_sem, h1, h5, h18, h24, h27]
              obtain ⟨r28, h29, h⟩ := bind_some' h
              refine .plain _ _ rfl (ih_M_ref07_many (x.1.Parts, x.2.1, x.2.2, 0) _ h29) ?_
              try simp -implicitDefEqProofs only [go_sem, h1, h5, h18, h24, h27]
              injection h with h; subst h
              first | rfl | simp -implicitDefEqProofs only [go_sem, h1, h5, h18, h24, h27] <;> rfl
            · replace h := ite_none h h27; replace h27 := bfalse h27
              try simp -implicitDefEqProofs only [go_sem, h1, h5, h18, h24, h27]
              by_cases h30 : (x.1.Kind == 6) = true
              · replace h := ite_some h h30
                try simp -implicitDefEqProofs only [go_sem, h1, h5, h18, h24, h27, h30]
                by_cases h31 : (decide ((x.1.Parts.length : Int) > 0)) = true
                · replace h := ite_some h h31
                  try simp -implicitDefEqProofs only [go_sem, h1, h5, h18, h24, h27, h30, h31]
                  obtain ⟨e32, h33, h⟩ := bind_some' h
                  try simp -implicitDefEqProofs only [go_sem, h1, h5, h18, h24, h27, h30, h31, h33]
                  obtain ⟨r34, h35, h⟩ := bind_some' h
                  refine .plain _ _ rfl (ih_M_ref07_Is (e32, x.2.1, (w64 (2 - x.2.2))) _ h35) ?_
                  try simp -implicitDefEqProofs only [go_sem, h1, h5, h18, h24, h27, h30, h31, h33]
                  injection h with h; subst h
                  first | rfl | simp -implicitDefEqProofs only [go_sem, h1, h5, h18, h24, h27, h30, h31, h33] <;> rfl
                · replace h := ite_none h h31; replace h31 := bfalse h31
                  try simp -implicitDefEqProofs only [go_sem, h1, h5, h18, h24, h27, h30, h31]
                  injection h with h; subst h
                  first | rfl | simp -implicitDefEqProofs only [go_sem, h1, h5, h18, h24, h27, h30, h31] <;> rfl
              · replace h := ite_none h h30; replace h30 := bfalse h30
                try simp -implicitDefEqProofs only [go_sem, h1, h5, h18, h24, h27, h30]
                injection h with h; subst h
                first | rfl | simp -implicitDefEqProofs only [go_sem, h1, h5, h18, h24, h27, h30] <;> rfl
  · intro M_M_ref07_some M_M_ref07_every M_M_ref07_all ih_M_ref07_some ih_M_ref07_every ih_M_ref07_all x r h
    refine Fn.of_lc mix fn_149 lok_149 (by rfl) (flC (flat_slice _ T_api_Pred.flat _) (flC (.atom _) (flC (.atom _) (flC (.atom _) (flN))))) (.atom _) ?_
    simp -implicitDefEqProofs only [go_sem, Try.f149]
    obtain ⟨r1, h2, h⟩ := bind_some' h
    refine .plain _ _ rfl (ih_M_ref07_all (x.1, x.2.1) _ h2) ?_
    try simp -implicitDefEqProofs only [go_sem]
    by_cases h3 : r1 = true
    · replace h := ite_some h h3
      try simp -implicitDefEqProofs only [go_sem, h3]
      by_cases h4 : (x.2.2.1 == x.2.2.2) = true
      · replace h := ite_some h h4
        try simp -implicitDefEqProofs only [go_sem, h3, h4]
        obtain ⟨r5, h6, h⟩ := bind_some' h
        refine .plain _ _ rfl (ih_M_ref07_every (x.1, x.2.1, x.2.2.2, x.2.2.2) _ h6) ?_
        try simp -implicitDefEqProofs only [go_sem, h3, h4]
        injection h with h; subst h
        first | rfl | simp -implicitDefEqProofs only [go_sem, h3, h4] <;> rfl
      · replace h := ite_none h h4; replace h4 := bfalse h4
        try simp -implicitDefEqProofs only [go_sem, h3, h4]
        by_cases h7 : (x.2.2.1 == 1) = true
        · replace h := ite_some h h7
          try simp -implicitDefEqProofs only [go_sem, h3, h4, h7]
          obtain ⟨r8, h9, h⟩ := bind_some' h
          refine .plain _ _ rfl (ih_M_ref07_some (x.1, x.2.1, 1) _ h9) ?_
          try simp -implicitDefEqProofs only [go_sem, h3, h4, h7]
          by_cases h10 : r8 = true
          · replace h := ite_some h h10
            try simp -implicitDefEqProofs only [go_sem, h3, h4, h7, h10]
            obtain ⟨r11, h12, h⟩ := bind_some' h
            refine .plain _ _ rfl (ih_M_ref07_every (x.1, x.2.1, 1, x.2.2.2) _ h12) ?_
            try simp -implicitDefEqProofs only [go_sem, h3, h4, h7, h10]
            injection h with h; subst h
            first | rfl | simp -implicitDefEqProofs only [go_sem, h3, h4, h7, h10] <;> rfl
          · replace h := ite_none h h10; replace h10 := bfalse h10
            try simp -implicitDefEqProofs only [go_sem, h3, h4, h7, h10]
            injection h with h; subst h
            first | rfl | simp -implicitDefEqProofs only [go_sem, h3, h4, h7, h10] <;> rfl
        · replace h := ite_none h h7; replace h7 := bfalse h7
          try simp -implicitDefEqProofs only [go_sem, h3, h4, h7]
          obtain ⟨r13, h14, h⟩ := bind_some' h
          refine .plain _ _ rfl (ih_M_ref07_some (x.1, x.2.1, (w64 (2 - x.2.2.2))) _ h14) ?_
          try simp -implicitDefEqProofs only [go_sem, h3, h4, h7]
          injection h with h; subst h
          first | rfl | simp -implicitDefEqProofs only [go_sem, h3, h4, h7] <;> rfl
    · replace h := ite_none h h3; replace h3 := bfalse h3
      try simp -implicitDefEqProofs only [go_sem, h3]
      injection h with h; subst h
      first | rfl | simp -implicitDefEqProofs only [go_sem, h3] <;> rfl
  · intro M_M_ref07_some_l0 ih_M_ref07_some_l0 x r h
    refine Fn.of_lc mix fn_162 lok_162 (by rfl) (flC (flat_slice _ T_api_Pred.flat _) (flC (.atom _) (flC (.atom _) (flN)))) (.atom _) ?_
    simp -implicitDefEqProofs only [go_sem, Try.f162]
    obtain ⟨o7, h8, h⟩ := bind_some' h
    refine LLoop.viewQ (LLoop.view [] (by (first | rfl | simp -implicitDefEqProofs only [go_sem] <;> rfl)) (ih_M_ref07_some_l0 (x.1, x.2.1, x.2.2, 0) _ h8 _ _ _ ?_ ?_))
    · intro s10 hs'; subst hs'
      try simp -implicitDefEqProofs only [go_sem]
      injection h with h; subst h
      first | rfl | simp -implicitDefEqProofs only [go_sem] <;> rfl
    · intro r9 L' hs' hL'; subst hs'
      injection h with h; subst h
      first | exact hL' | (simp -implicitDefEqProofs only [go_sem]; exact hL') | (simp -implicitDefEqProofs only [go_sem]; simp -implicitDefEqProofs only [go_sem] at hL'; exact hL')
  · intro M_M_ref07_Is M_M_ref07_some_l0 ih_M_ref07_Is ih_M_ref07_some_l0 x o h
    intro lo c Q hb hr
    refine LLoop.step mix fn_162 (by kernel_rfl) ?_
    simp -implicitDefEqProofs only [go_sem, Try.f162]
    by_cases h1 : (decide (x.2.2.2 < (x.1.length : Int))) = true
    · replace h := ite_some h h1
      try simp -implicitDefEqProofs only [go_sem, h1]
      obtain ⟨e2, h3, h⟩ := bind_some' h; replace h3 := getI_some h3; obtain ⟨h3', h3⟩ := h3
      try simp -implicitDefEqProofs only [go_sem, h1, h3, h3']
      obtain ⟨r4, h5, h⟩ := bind_some' h
      refine .plain _ _ rfl (ih_M_ref07_Is (e2, x.2.1, x.2.2.1) _ h5) ?_
      try simp -implicitDefEqProofs only [go_sem, h1, h3, h3']
      by_cases h6 : r4 = true
      · replace h := ite_some h h6
        try simp -implicitDefEqProofs only [go_sem, h1, h3, h3', h6]
        injection h with h; subst h
        exact .inl (hr _ _ rfl (by (first | rfl | simp -implicitDefEqProofs only [go_sem, h1, h3, h3', h6] <;> rfl)))
      · replace h := ite_none h h6; replace h6 := bfalse h6
        try simp -implicitDefEqProofs only [go_sem, h1, h3, h3', h6]
        exact LLoop.view [] (by (first | rfl | simp -implicitDefEqProofs only [go_sem, h1, h3, h3', h6] <;> rfl)) (ih_M_ref07_some_l0 _ _ h lo c Q hb hr)
    · replace h := ite_none h h1; replace h1 := bfalse h1
      try simp -implicitDefEqProofs only [go_sem, h1]
      injection h with h; subst h
      exact .inr ⟨[], _, by (simp -implicitDefEqProofs only [go_sem, h1] <;> first | done | rfl | trivial), hb _ rfl⟩
  · intro M_M_ref07_every_l0 ih_M_ref07_every_l0 x r h
    refine Fn.of_lc mix fn_161 lok_161 (by rfl) (flC (flat_slice _ T_api_Pred.flat _) (flC (.atom _) (flC (.atom _) (flC (.atom _) (flN))))) (.atom _) ?_
    simp -implicitDefEqProofs only [go_sem, Try.f161]
    obtain ⟨o10, h11, h⟩ := bind_some' h
    refine LLoop.viewQ (LLoop.view [] (by (first | rfl | simp -implicitDefEqProofs only [go_sem] <;> rfl)) (ih_M_ref07_every_l0 (x.1, x.2.1, x.2.2.1, x.2.2.2, 0) _ h11 _ _ _ ?_ ?_))
    · intro s13 hs'; subst hs'
      try simp -implicitDefEqProofs only [go_sem]
      injection h with h; subst h
      first | rfl | simp -implicitDefEqProofs only [go_sem] <;> rfl
    · intro r12 L' hs' hL'; subst hs'
      injection h with h; subst h
      first | exact hL' | (simp -implicitDefEqProofs only [go_sem]; exact hL') | (simp -implicitDefEqProofs only [go_sem]; simp -implicitDefEqProofs only [go_sem] at hL'; exact hL')
  · intro M_M_ref07_Is M_M_ref07_every_l0 ih_M_ref07_Is ih_M_ref07_every_l0 x o h
    intro lo c Q hb hr
    refine LLoop.step mix fn_161 (by kernel_rfl) ?_
    simp -implicitDefEqProofs only [go_sem, Try.f161]
    by_cases h1 : (decide (x.2.2.2.2 < (x.1.length : Int))) = true
    · replace h := ite_some h h1
      try simp -implicitDefEqProofs only [go_sem, h1]
      obtain ⟨e2, h3, h⟩ := bind_some' h; replace h3 := getI_some h3; obtain ⟨h3', h3⟩ := h3
      try simp -implicitDefEqProofs only [go_sem, h1, h3, h3']
      obtain ⟨r4, h5, h⟩ := bind_some' h
      refine .plain _ _ rfl (ih_M_ref07_Is (e2, x.2.1, x.2.2.1) _ h5) ?_
      try simp -implicitDefEqProofs only [go_sem, h1, h3, h3']
      by_cases h6 : r4 = true
      · replace h := ite_some h h6
        try simp -implicitDefEqProofs only [go_sem, h1, h3, h3', h6]
        exact LLoop.view [] (by (first | rfl | simp -implicitDefEqProofs only [go_sem, h1, h3, h3', h6] <;> rfl)) (ih_M_ref07_every_l0 _ _ h lo c Q hb hr)
      · replace h := ite_none h h6; replace h6 := bfalse h6
        try simp -implicitDefEqProofs only [go_sem, h1, h3, h3', h6]
        obtain ⟨r7, h8, h⟩ := bind_some' h
        refine .plain _ _ rfl (ih_M_ref07_Is (e2, x.2.1, x.2.2.2.1) _ h8) ?_
        try simp -implicitDefEqProofs only [go_sem, h1, h3, h3', h6]
        by_cases h9 : r7 = true
        · replace h := ite_some h h9
          try simp -implicitDefEqProofs only [go_sem, h1, h3, h3', h6, h9]
          exact LLoop.view [] (by (first | rfl | simp -implicitDefEqProofs only [go_sem, h1, h3, h3', h6, h9] <;> rfl)) (ih_M_ref07_every_l0 _ _ h lo c Q hb hr)
        · replace h := ite_none h h9; replace h9 := bfalse h9
          try simp -implicitDefEqProofs only [go_sem, h1, h3, h3', h6, h9]
          injection h with h; subst h
          exact .inl (hr _ _ rfl (by (first | rfl | simp -implicitDefEqProofs only [go_sem, h1, h3, h3', h6, h9] <;> rfl)))
    · replace h := ite_none h h1; replace h1 := bfalse h1
      try simp -implicitDefEqProofs only [go_sem, h1]
      injection h with h; subst h
      exact .inr ⟨[], _, by (simp -implicitDefEqProofs only [go_sem, h1] <;> first | done | rfl | trivial), hb _ rfl⟩
  · intro M_M_ref07_all_l0 ih_M_ref07_all_l0 x r h
    refine Fn.of_lc mix fn_160 lok_160 (by rfl) (flC (flat_slice _ T_api_Pred.flat _) (flC (.atom _) (flN))) (.atom _) ?_
    simp -implicitDefEqProofs only [go_sem, Try.f160]
    obtain ⟨o13, h14, h⟩ := bind_some' h
    refine LLoop.viewQ (LLoop.view [] (by (first | rfl | simp -implicitDefEqProofs only [go_sem] <;> rfl)) (ih_M_ref07_all_l0 (x.1, x.2, 0) _ h14 _ _ _ ?_ ?_))
    · intro s16 hs'; subst hs'
      try simp -implicitDefEqProofs only [go_sem]
      injection h with h; subst h
      first | rfl | simp -implicitDefEqProofs only [go_sem] <;> rfl
    · intro r15 L' hs' hL'; subst hs'
      injection h with h; subst h
      first | exact hL' | (simp -implicitDefEqProofs only [go_sem]; exact hL') | (simp -implicitDefEqProofs only [go_sem]; simp -implicitDefEqProofs only [go_sem] at hL'; exact hL')
theorem M_ref07_many.w : type_of% (M_ref07_all.l0.ws.2.2.1) := (M_ref07_all.l0.ws.2.2.1)
end Go.Proofs.Ytcfekacmmfdggaa.G
set_option linter.unusedVariables false
set_option linter.unusedSimpArgs false
set_option maxRecDepth 100000
namespace Go.Proofs.Ytcfekacmmfdggaa.G
theorem lok_143 : (Try.f143.body.isSome && !(Try.f143.name == "runtime.NumGoroutine") && okL (bodyF Try.f143) Try.f143.ntmps (bodyF Try.f143)) = true := by kernel_rfl
def M_ref07_Rejects (x : List T_api_Pred × Set64) : Option (Bool) :=
  M_ref07_many (x.1, x.2, 2, 2) >>= fun r1 =>
  some (!r1)
set_option maxHeartbeats 8000000 in
theorem M_ref07_Rejects.w : ∀ (x : List T_api_Pred × Set64) (r : Bool), M_ref07_Rejects x = some r → (fun (x : List T_api_Pred × Set64) (r : Bool) => Fn Try.prog 143 [.slice .foreign (x.1.map T_api_Pred.av), .w x.2] (.bool r)) x r := by
  intro x r h
  rw [M_ref07_Rejects] at h
  try dsimp only
  refine Fn.of_lc mix fn_143 lok_143 (by rfl) (flC (flat_slice _ T_api_Pred.flat _) (flC (.atom _) (flN))) (.atom _) ?_
  simp -implicitDefEqProofs only [go_sem, Try.f143]
  obtain ⟨r1, h2, h⟩ := bind_some' h
  refine .plain _ _ rfl (M_ref07_many.w (x.1, x.2, 2, 2) _ h2) ?_
  try simp -implicitDefEqProofs only [go_sem]
  injection h with h; subst h
  first | rfl | simp -implicitDefEqProofs only [go_sem] <;> rfl
end Go.Proofs.Ytcfekacmmfdggaa.G
set_option linter.unusedVariables false
set_option linter.unusedSimpArgs false
set_option maxRecDepth 100000
namespace Go.Proofs.Ytcfekacmmfdggaa.G
theorem lok_133 : (Try.f133.body.isSome && !(Try.f133.name == "runtime.NumGoroutine") && okL (bodyF Try.f133) Try.f133.ntmps (bodyF Try.f133)) = true := by kernel_rfl
def M_ref19_Loose (x : T_ref18_Op) : Option (Bool) :=
  if (x.Kind == 2) = true then
    M_ref07_Rejects (x.Conj, x.Left) >>= fun r2 =>
    some r2
  else
    some false
set_option maxHeartbeats 8000000 in
theorem M_ref19_Loose.w : ∀ (x : T_ref18_Op) (r : Bool), M_ref19_Loose x = some r → (fun (x : T_ref18_Op) (r : Bool) => Fn Try.prog 133 [.agg (T_ref18_Op.C x)] (.bool r)) x r := by
  intro x r h
  rw [M_ref19_Loose] at h
  try dsimp only
  refine Fn.of_lc mix fn_133 lok_133 (by rfl) (flC (T_ref18_Op.flatC _) (flN)) (.atom _) ?_
  simp -implicitDefEqProofs only [go_sem, Try.f133]
  by_cases h1 : (x.Kind == 2) = true
  · replace h := ite_some h h1
    try simp -implicitDefEqProofs only [go_sem, h1]
    obtain ⟨r2, h3, h⟩ := bind_some' h
    refine .plain _ _ rfl (M_ref07_Rejects.w (x.Conj, x.Left) _ h3) ?_
    try simp -implicitDefEqProofs only [go_sem, h1]
    injection h with h; subst h
    first | rfl | simp -implicitDefEqProofs only [go_sem, h1] <;> rfl
  · replace h := ite_none h h1; replace h1 := bfalse h1
    try simp -implicitDefEqProofs only [go_sem, h1]
    injection h with h; subst h
    first | rfl | simp -implicitDefEqProofs only [go_sem, h1] <;> rfl
end Go.Proofs.Ytcfekacmmfdggaa.G
set_option linter.unusedVariables false
set_option linter.unusedSimpArgs false
set_option maxRecDepth 100000
namespace Go.Proofs.Ytcfekacmmfdggaa.G
theorem lok_135 : (Try.f135.body.isSome && !(Try.f135.name == "runtime.NumGoroutine") && okL (bodyF Try.f135) Try.f135.ntmps (bodyF Try.f135)) = true := by kernel_rfl
def M_ref19_has.l0 (x : List Int × Int × Int) : Option (Lp (Unit) (Bool)) :=
  if (decide (x.2.2 < (x.1.length : Int))) = true then
    (getI x.1 x.2.2) >>= fun (e2 : Int) =>
    if (e2 == x.2.1) = true then
      some (.ret true)
    else
      M_ref19_has.l0 (x.1, x.2.1, (w64 (x.2.2 + 1)))
  else
    some (.brk ())
  partial_fixpoint
theorem M_ref19_has.l0.ws : (∀ (x : List Int × Int × Int) (o : Lp (Unit) (Bool)), M_ref19_has.l0 x = some o → (fun (x : List Int × Int × Int) (o : Lp (Unit) (Bool)) => ∀ (lo : Option Nat) (c : LCtx) (Q : Exit → LEnv → Prop) (hb : ∀ s : Unit, o = Lp.brk s → Q (.exit 0) ⟨[], []⟩) (hr : ∀ (r : Bool) (L : LEnv), o = .ret r → LPostF Try.prog [.tmp 4] (.bool r) (fun _ => True) .ret L → Q .ret L), LLoop Try.prog 135 lo c 0 (VQ Q) ⟨[(0, .v (.slice .foreign (x.1.map AV.i64))), (1, .v (.i64 x.2.1)), (5, .v (.i64 x.2.2))], []⟩) x o) := by
  refine M_ref19_has.l0.partial_correctness _ ?_
  · intro M_M_ref19_has_l0 ih_M_ref19_has_l0 x o h
    intro lo c Q hb hr
    refine LLoop.step mix fn_135 (by kernel_rfl) ?_
    simp -implicitDefEqProofs only [go_sem, Try.f135]
    by_cases h1 : (decide (x.2.2 < (x.1.length : Int))) = true
    · replace h := ite_some h h1
      try simp -implicitDefEqProofs only [go_sem, h1]
      obtain ⟨e2, h3, h⟩ := bind_some' h; replace h3 := getI_some h3; obtain ⟨h3', h3⟩ := h3
      try simp -implicitDefEqProofs only [go_sem, h1, h3, h3']
      by_cases h4 : (e2 == x.2.1) = true
      · replace h := ite_some h h4
        try simp -implicitDefEqProofs only [go_sem, h1, h3, h3', h4]
        injection h with h; subst h
        exact .inl (hr _ _ rfl (by (first | rfl | simp -implicitDefEqProofs only [go_sem, h1, h3, h3', h4] <;> rfl)))
      · replace h := ite_none h h4; replace h4 := bfalse h4
        try simp -implicitDefEqProofs only [go_sem, h1, h3, h3', h4]
        exact LLoop.view [] (by (first | rfl | simp -implicitDefEqProofs only [go_sem, h1, h3, h3', h4] <;> rfl)) (ih_M_ref19_has_l0 _ _ h lo c Q hb hr)
    · replace h := ite_none h h1; replace h1 := bfalse h1
      try simp -implicitDefEqProofs only [go_sem, h1]
      injection h with h; subst h
      exact .inr ⟨[], _, by (simp -implicitDefEqProofs only [go_sem, h1] <;> first | done | rfl | trivial), hb _ rfl⟩
theorem M_ref19_has.l0.w : type_of% @M_ref19_has.l0.ws := @M_ref19_has.l0.ws
def M_ref19_has (x : List Int × Int) : Option (Bool) :=
  M_ref19_has.l0 (x.1, x.2, 0) >>= fun (o5 : Lp (Unit) (Bool)) => match o5 with
  | .brk s8 =>
    some false
  | .ret r7 =>
    some r7
set_option maxHeartbeats 8000000 in
theorem M_ref19_has.w : ∀ (x : List Int × Int) (r : Bool), M_ref19_has x = some r → (fun (x : List Int × Int) (r : Bool) => Fn Try.prog 135 [.slice .foreign (x.1.map AV.i64), .i64 x.2] (.bool r)) x r := by
  intro x r h
  rw [M_ref19_has] at h
  try dsimp only
  refine Fn.of_lc mix fn_135 lok_135 (by rfl) (flC (flat_slice _ (fun _ => .atom _) _) (flC (.atom _) (flN))) (.atom _) ?_
  simp -implicitDefEqProofs only [go_sem, Try.f135]
  obtain ⟨o5, h6, h⟩ := bind_some' h
  refine LLoop.viewQ (LLoop.view [] (by (first | rfl | simp -implicitDefEqProofs only [go_sem] <;> rfl)) (M_ref19_has.l0.w (x.1, x.2, 0) _ h6 _ _ _ ?_ ?_))
  · intro s8 hs'; subst hs'
    try simp -implicitDefEqProofs only [go_sem]
    injection h with h; subst h
    first | rfl | simp -implicitDefEqProofs only [go_sem] <;> rfl
  · intro r7 L' hs' hL'; subst hs'
    injection h with h; subst h
    first | exact hL' | (simp -implicitDefEqProofs only [go_sem]; exact hL') | (simp -implicitDefEqProofs only [go_sem]; simp -implicitDefEqProofs only [go_sem] at hL'; exact hL')
end Go.Proofs.Ytcfekacmmfdggaa.G
set_option linter.unusedVariables false
set_option linter.unusedSimpArgs false
set_option maxRecDepth 100000
namespace Go.Proofs.Ytcfekacmmfdggaa.G
@[go_sem] theorem lrp_136_12 : lrp Try.prog 136 12 = (29, []) := by kernel_rfl
theorem lok_136 : (Try.f136.body.isSome && !(Try.f136.name == "runtime.NumGoroutine") && okL (bodyF Try.f136) Try.f136.ntmps (bodyF Try.f136)) = true := by kernel_rfl
def M_ref19_free.l0 (x : Int × Int × List Int × List Int × Set64 × Int × T_ref18_Levels) : Option (Lp (Unit) (Bool)) :=
  if (decide (x.2.2.2.2.2.1 < (x.2.2.2.2.2.2.Joins.length : Int))) = true then
    (getI x.2.2.2.2.2.2.Joins x.2.2.2.2.2.1) >>= fun (e8 : T_ref18_Join) =>
    if (e8.Home == x.1) = true then
      if ((x.2.2.2.2.1 &&& e8.Left) != 0#64) = true then
        some (.ret false)
      else
        if ((x.2.2.2.2.1 &&& e8.Right) != 0#64) = true then
          some (.ret false)
        else
          M_ref19_free.l0 (x.1, x.2.1, x.2.2.1, x.2.2.2.1, x.2.2.2.2.1, (w64 (x.2.2.2.2.2.1 + 1)), x.2.2.2.2.2.2)
    else
      M_ref19_free.l0 (x.1, x.2.1, x.2.2.1, x.2.2.2.1, x.2.2.2.2.1, (w64 (x.2.2.2.2.2.1 + 1)), x.2.2.2.2.2.2)
  else
    some (.brk ())
  partial_fixpoint
theorem M_ref19_free.l0.ws : (∀ (x : Int × Int × List Int × List Int × Set64 × Int × T_ref18_Levels) (o : Lp (Unit) (Bool)), M_ref19_free.l0 x = some o → (fun (x : Int × Int × List Int × List Int × Set64 × Int × T_ref18_Levels) (o : Lp (Unit) (Bool)) => ∀ (lo : Option Nat) (c : LCtx) (Q : Exit → LEnv → Prop) (hb : ∀ s : Unit, o = Lp.brk s → Q (.exit 0) ⟨[(2, .v (.i64 x.2.1)), (3, .v (.slice .foreign (x.2.2.1.map AV.i64))), (4, .v (.slice .foreign (x.2.2.2.1.map AV.i64))), (5, .lref 5 0), (11, .v (.w x.2.2.2.2.1))], [(5, [.v (.slice .foreign (x.2.2.2.2.2.2.Joins.map T_ref18_Join.av)), .v (.slice .foreign (x.2.2.2.2.2.2.Ops.map T_ref18_Op.av))])]⟩) (hr : ∀ (r : Bool) (L : LEnv), o = .ret r → LPostF Try.prog [.tmp 10] (.bool r) (fun _ => True) .ret L → Q .ret L), LLoop Try.prog 136 lo c 0 (VQ Q) ⟨[(1, .v (.i64 x.1)), (2, .v (.i64 x.2.1)), (3, .v (.slice .foreign (x.2.2.1.map AV.i64))), (4, .v (.slice .foreign (x.2.2.2.1.map AV.i64))), (5, .lref 5 0), (11, .v (.w x.2.2.2.2.1)), (12, .v (.i64 x.2.2.2.2.2.1))], [(5, [.v (.slice .foreign (x.2.2.2.2.2.2.Joins.map T_ref18_Join.av)), .v (.slice .foreign (x.2.2.2.2.2.2.Ops.map T_ref18_Op.av))])]⟩) x o) := by
  refine M_ref19_free.l0.partial_correctness _ ?_
  · intro M_M_ref19_free_l0 ih_M_ref19_free_l0 x o h
    intro lo c Q hb hr
    refine LLoop.step mix fn_136 (by kernel_rfl) ?_
    simp -implicitDefEqProofs only [go_sem, Try.f136]
    by_cases h7 : (decide (x.2.2.2.2.2.1 < (x.2.2.2.2.2.2.Joins.length : Int))) = true
    · replace h := ite_some h h7
      try simp -implicitDefEqProofs only [go_sem, h7]
      obtain ⟨e8, h9, h⟩ := bind_some' h; replace h9 := getI_some h9; obtain ⟨h9', h9⟩ := h9
      try simp -implicitDefEqProofs only [go_sem, h7, h9, h9']
      by_cases h10 : (e8.Home == x.1) = true
      · replace h := ite_some h h10
        try simp -implicitDefEqProofs only [go_sem, h7, h9, h9', h10]
        by_cases h11 : ((x.2.2.2.2.1 &&& e8.Left) != 0#64) = true
        · replace h := ite_some h h11
          try simp -implicitDefEqProofs only [go_sem, h7, h9, h9', h10, h11]
          injection h with h; subst h
          exact .inl (hr _ _ rfl (by (first | rfl | simp -implicitDefEqProofs only [go_sem, h7, h9, h9', h10, h11] <;> rfl)))
        · replace h := ite_none h h11; replace h11 := bfalse h11
          try simp -implicitDefEqProofs only [go_sem, h7, h9, h9', h10, h11]
          by_cases h12 : ((x.2.2.2.2.1 &&& e8.Right) != 0#64) = true
          · replace h := ite_some h h12
            try simp -implicitDefEqProofs only [go_sem, h7, h9, h9', h10, h11, h12]
            injection h with h; subst h
            exact .inl (hr _ _ rfl (by (first | rfl | simp -implicitDefEqProofs only [go_sem, h7, h9, h9', h10, h11, h12] <;> rfl)))
          · replace h := ite_none h h12; replace h12 := bfalse h12
            try simp -implicitDefEqProofs only [go_sem, h7, h9, h9', h10, h11, h12]
            exact LLoop.view [] (by (first | rfl | simp -implicitDefEqProofs only [go_sem, h7, h9, h9', h10, h11, h12] <;> rfl)) (ih_M_ref19_free_l0 _ _ h lo c Q hb hr)
      · replace h := ite_none h h10; replace h10 := bfalse h10
        try simp -implicitDefEqProofs only [go_sem, h7, h9, h9', h10]
        exact LLoop.view [] (by (first | rfl | simp -implicitDefEqProofs only [go_sem, h7, h9, h9', h10] <;> rfl)) (ih_M_ref19_free_l0 _ _ h lo c Q hb hr)
    · replace h := ite_none h h7; replace h7 := bfalse h7
      try simp -implicitDefEqProofs only [go_sem, h7]
      injection h with h; subst h
      exact .inr ⟨[], _, by (simp -implicitDefEqProofs only [go_sem, h7] <;> first | done | rfl | trivial), hb _ rfl⟩
theorem M_ref19_free.l0.w : type_of% @M_ref19_free.l0.ws := @M_ref19_free.l0.ws
def M_ref19_free.l1 (x : Int × List Int × List Int × Set64 × Int × T_ref18_Levels) : Option (Lp (Unit) (Bool)) :=
  if (decide (x.2.2.2.2.1 < (x.2.1.length : Int))) = true then
    (getI x.2.1 x.2.2.2.2.1) >>= fun (e18 : Int) =>
    if (e18 != x.1) = true then
      M_ref19_has (x.2.2.1, e18) >>= fun r21 =>
      if r21 = true then
        M_ref19_free.l1 (x.1, x.2.1, x.2.2.1, x.2.2.2.1, (w64 (x.2.2.2.2.1 + 1)), x.2.2.2.2.2)
      else
        (getI x.2.2.2.2.2.Ops e18) >>= fun (e24 : T_ref18_Op) =>
        if ((x.2.2.2.1 &&& e24.Left) != 0#64) = true then
          some (.ret false)
        else
          M_ref19_free.l1 (x.1, x.2.1, x.2.2.1, x.2.2.2.1, (w64 (x.2.2.2.2.1 + 1)), x.2.2.2.2.2)
    else
      M_ref19_free.l1 (x.1, x.2.1, x.2.2.1, x.2.2.2.1, (w64 (x.2.2.2.2.1 + 1)), x.2.2.2.2.2)
  else
    some (.brk ())
  partial_fixpoint
theorem M_ref19_free.l1.ws : (∀ (x : Int × List Int × List Int × Set64 × Int × T_ref18_Levels) (o : Lp (Unit) (Bool)), M_ref19_free.l1 x = some o → (fun (x : Int × List Int × List Int × Set64 × Int × T_ref18_Levels) (o : Lp (Unit) (Bool)) => ∀ (lo : Option Nat) (c : LCtx) (Q : Exit → LEnv → Prop) (hb : ∀ s : Unit, o = Lp.brk s → Q (.exit 2) ⟨[], []⟩) (hr : ∀ (r : Bool) (L : LEnv), o = .ret r → LPostF Try.prog [.tmp 10] (.bool r) (fun _ => True) .ret L → Q .ret L), LLoop Try.prog 136 lo c 1 (VQ Q) ⟨[(2, .v (.i64 x.1)), (3, .v (.slice .foreign (x.2.1.map AV.i64))), (4, .v (.slice .foreign (x.2.2.1.map AV.i64))), (5, .lref 5 0), (11, .v (.w x.2.2.2.1)), (13, .v (.i64 x.2.2.2.2.1))], [(5, [.v (.slice .foreign (x.2.2.2.2.2.Joins.map T_ref18_Join.av)), .v (.slice .foreign (x.2.2.2.2.2.Ops.map T_ref18_Op.av))])]⟩) x o) := by
  refine M_ref19_free.l1.partial_correctness _ ?_
  · intro M_M_ref19_free_l1 ih_M_ref19_free_l1 x o h
    intro lo c Q hb hr
    refine LLoop.step mix fn_136 (by kernel_rfl) ?_
    simp -implicitDefEqProofs only [go_sem, Try.f136]
    by_cases h17 : (decide (x.2.2.2.2.1 < (x.2.1.length : Int))) = true
    · replace h := ite_some h h17
      try simp -implicitDefEqProofs only [go_sem, h17]
      obtain ⟨e18, h19, h⟩ := bind_some' h; replace h19 := getI_some h19; obtain ⟨h19', h19⟩ := h19
      try simp -implicitDefEqProofs only [go_sem, h17, h19, h19']
      by_cases h20 : (e18 != x.1) = true
      · replace h := ite_some h h20
        try simp -implicitDefEqProofs only [go_sem, h17, h19, h19', h20]
        obtain ⟨r21, h22, h⟩ := bind_some' h
        refine .plain _ _ rfl (M_ref19_has.w (x.2.2.1, e18) _ h22) ?_
        try simp -implicitDefEqProofs only [go_sem, h17, h19, h19', h20]
        by_cases h23 : r21 = true
        · replace h := ite_some h h23
          try simp -implicitDefEqProofs only [go_sem, h17, h19, h19', h20, h23]
          exact LLoop.view [] (by (first | rfl | simp -implicitDefEqProofs only [go_sem, h17, h19, h19', h20, h23] <;> rfl)) (ih_M_ref19_free_l1 _ _ h lo c Q hb hr)
        · replace h := ite_none h h23; replace h23 := bfalse h23
          try simp -implicitDefEqProofs only [go_sem, h17, h19, h19', h20, h23]
          obtain ⟨e24, h25, h⟩ := bind_some' h; replace h25 := getI_some h25; obtain ⟨h25', h25⟩ := h25
          try simp -implicitDefEqProofs only [go_sem, h17, h19, h19', h20, h23, h25, h25']
          by_cases h26 : ((x.2.2.2.1 &&& e24.Left) != 0#64) = true
          · replace h := ite_some h h26
            try simp -implicitDefEqProofs only [go_sem, h17, h19, h19', h20, h23, h25, h25', h26]
            injection h with h; subst h
            exact .inl (hr _ _ rfl (by (first | rfl | simp -implicitDefEqProofs only [go_sem, h17, h19, h19', h20, h23, h25, h25', h26] <;> rfl)))
          · replace h := ite_none h h26; replace h26 := bfalse h26
            try simp -implicitDefEqProofs only [go_sem, h17, h19, h19', h20, h23, h25, h25', h26]
            exact LLoop.view [] (by (first | rfl | simp -implicitDefEqProofs only [go_sem, h17, h19, h19', h20, h23, h25, h25', h26] <;> rfl)) (ih_M_ref19_free_l1 _ _ h lo c Q hb hr)
      · replace h := ite_none h h20; replace h20 := bfalse h20
        try simp -implicitDefEqProofs only [go_sem, h17, h19, h19', h20]
        exact LLoop.view [] (by (first | rfl | simp -implicitDefEqProofs only [go_sem, h17, h19, h19', h20] <;> rfl)) (ih_M_ref19_free_l1 _ _ h lo c Q hb hr)
    · replace h := ite_none h h17; replace h17 := bfalse h17
      try simp -implicitDefEqProofs only [go_sem, h17]
      injection h with h; subst h
      exact .inr ⟨[], _, by (simp -implicitDefEqProofs only [go_sem, h17] <;> first | done | rfl | trivial), hb _ rfl⟩
theorem M_ref19_free.l1.w : type_of% @M_ref19_free.l1.ws := @M_ref19_free.l1.ws
def M_ref19_free (x : T_ref18_Levels × Int × Int × List Int × List Int) : Option (Bool) :=
  (getI x.1.Ops x.2.2.1) >>= fun (e1 : T_ref18_Op) =>
  (getI x.1.Ops x.2.1) >>= fun (e3 : T_ref18_Op) =>
  if ((e1.Own &&& e3.Left) != 0#64) = true then
    some false
  else
    if ((e1.Own &&& e3.Right) != 0#64) = true then
      some false
    else
      M_ref19_free.l0 (x.2.1, x.2.2.1, x.2.2.2.1, x.2.2.2.2, e1.Own, 0, x.1) >>= fun (o13 : Lp (Unit) (Bool)) => match o13 with
      | .brk s16 =>
        M_ref19_free.l1 (x.2.2.1, x.2.2.2.1, x.2.2.2.2, e1.Own, 0, x.1) >>= fun (o27 : Lp (Unit) (Bool)) => match o27 with
        | .brk s30 =>
          some true
        | .ret r29 =>
          some r29
      | .ret r15 =>
        some r15
set_option maxHeartbeats 8000000 in
theorem M_ref19_free.w : ∀ (x : T_ref18_Levels × Int × Int × List Int × List Int) (r : Bool), M_ref19_free x = some r → (fun (x : T_ref18_Levels × Int × Int × List Int × List Int) (r : Bool) => Fn Try.prog 136 [.agg (T_ref18_Levels.C x.1), .i64 x.2.1, .i64 x.2.2.1, .slice .foreign (x.2.2.2.1.map AV.i64), .slice .foreign (x.2.2.2.2.map AV.i64)] (.bool r)) x r := by
  intro x r h
  rw [M_ref19_free] at h
  try dsimp only
  refine Fn.of_lc mix fn_136 lok_136 (by rfl) (flC (T_ref18_Levels.flatC _) (flC (.atom _) (flC (.atom _) (flC (flat_slice _ (fun _ => .atom _) _) (flC (flat_slice _ (fun _ => .atom _) _) (flN)))))) (.atom _) ?_
  simp -implicitDefEqProofs only [go_sem, Try.f136]
  obtain ⟨e1, h2, h⟩ := bind_some' h; replace h2 := getI_some h2; obtain ⟨h2', h2⟩ := h2
  try simp -implicitDefEqProofs only [go_sem, h2, h2']
  obtain ⟨e3, h4, h⟩ := bind_some' h; replace h4 := getI_some h4; obtain ⟨h4', h4⟩ := h4
  try simp -implicitDefEqProofs only [go_sem, h2, h2', h4, h4']
  by_cases h5 : ((e1.Own &&& e3.Left) != 0#64) = true
  · replace h := ite_some h h5
    try simp -implicitDefEqProofs only [go_sem, h2, h2', h4, h4', h5]
    injection h with h; subst h
    first | rfl | simp -implicitDefEqProofs only [go_sem, h2, h2', h4, h4', h5] <;> rfl
  · replace h := ite_none h h5; replace h5 := bfalse h5
    try simp -implicitDefEqProofs only [go_sem, h2, h2', h4, h4', h5]
    by_cases h6 : ((e1.Own &&& e3.Right) != 0#64) = true
    · replace h := ite_some h h6
      try simp -implicitDefEqProofs only [go_sem, h2, h2', h4, h4', h5, h6]
      injection h with h; subst h
      first | rfl | simp -implicitDefEqProofs only [go_sem, h2, h2', h4, h4', h5, h6] <;> rfl
    · replace h := ite_none h h6; replace h6 := bfalse h6
      try simp -implicitDefEqProofs only [go_sem, h2, h2', h4, h4', h5, h6]
      obtain ⟨o13, h14, h⟩ := bind_some' h
      refine LLoop.viewQ (LLoop.view [] (by (first | rfl | simp -implicitDefEqProofs only [go_sem, h2, h2', h4, h4', h5, h6] <;> rfl)) (M_ref19_free.l0.w (x.2.1, x.2.2.1, x.2.2.2.1, x.2.2.2.2, e1.Own, 0, x.1) _ h14 _ _ _ ?_ ?_))
      · intro s16 hs'; subst hs'
        try simp -implicitDefEqProofs only [go_sem, h2, h2', h4, h4', h5, h6]
        obtain ⟨o27, h28, h⟩ := bind_some' h
        refine LLoop.viewQ (LLoop.view [] (by (first | rfl | simp -implicitDefEqProofs only [go_sem, h2, h2', h4, h4', h5, h6] <;> rfl)) (M_ref19_free.l1.w (x.2.2.1, x.2.2.2.1, x.2.2.2.2, e1.Own, 0, x.1) _ h28 _ _ _ ?_ ?_))
        · intro s30 hs'; subst hs'
          try simp -implicitDefEqProofs only [go_sem, h2, h2', h4, h4', h5, h6]
          injection h with h; subst h
          first | rfl | simp -implicitDefEqProofs only [go_sem, h2, h2', h4, h4', h5, h6] <;> rfl
        · intro r29 L' hs' hL'; subst hs'
          injection h with h; subst h
          first | exact hL' | (simp -implicitDefEqProofs only [go_sem]; exact hL') | (simp -implicitDefEqProofs only [go_sem]; simp -implicitDefEqProofs only [go_sem] at hL'; exact hL')
      · intro r15 L' hs' hL'; subst hs'
        injection h with h; subst h
        first | exact hL' | (simp -implicitDefEqProofs only [go_sem]; exact hL') | (simp -implicitDefEqProofs only [go_sem]; simp -implicitDefEqProofs only [go_sem] at hL'; exact hL')
end Go.Proofs.Ytcfekacmmfdggaa.G
set_option linter.unusedVariables false
set_option linter.unusedSimpArgs false
set_option maxRecDepth 100000
namespace Go.Proofs.Ytcfekacmmfdggaa.G
theorem lok_100 : (Try.f100.body.isSome && !(Try.f100.name == "runtime.NumGoroutine") && okL (bodyF Try.f100) Try.f100.ntmps (bodyF Try.f100)) = true := by kernel_rfl
def M_ref19_Lift.l2 (x : Int × List Int × List Int × List Int × Int × T_ref18_Levels) : Option (List Int) :=
  if (decide (x.2.2.2.2.1 < (x.2.2.2.2.2.Ops.length : Int))) = true then
    M_ref19_has (x.2.2.1, x.2.2.2.2.1) >>= fun r26 =>
    if r26 = true then
      M_ref19_free (x.2.2.2.2.2, x.1, x.2.2.2.2.1, x.2.1, x.2.2.1) >>= fun r29 =>
      if r29 = true then
        (room 8 x.2.2.2.1 ([x.2.2.2.2.1])) >>= fun (z32 : List Int) =>
        M_ref19_Lift.l2 (x.1, x.2.1, x.2.2.1, z32, (w64 (x.2.2.2.2.1 + 1)), x.2.2.2.2.2)
      else
        M_ref19_Lift.l2 (x.1, x.2.1, x.2.2.1, x.2.2.2.1, (w64 (x.2.2.2.2.1 + 1)), x.2.2.2.2.2)
    else
      M_ref19_Lift.l2 (x.1, x.2.1, x.2.2.1, x.2.2.2.1, (w64 (x.2.2.2.2.1 + 1)), x.2.2.2.2.2)
  else
    some x.2.2.2.1
  partial_fixpoint
theorem M_ref19_Lift.l2.ws : (∀ (x : Int × List Int × List Int × List Int × Int × T_ref18_Levels) (o : List Int), M_ref19_Lift.l2 x = some o → (fun (x : Int × List Int × List Int × List Int × Int × T_ref18_Levels) (o : List Int) => ∀ (lo : Option Nat) (c : LCtx) (Q : Exit → LEnv → Prop) (hb : ∀ s : List Int, o = s → Q (.exit 4) ⟨[(1, .v (.i64 x.1)), (2, .lref 2 0), (5, .own 100500 1 (x.2.1.map AV.i64)), (6, .own 100600 1 (x.2.2.1.map AV.i64)), (9, .own 100900 1 (s.map AV.i64))], [(2, [.v (.slice .foreign (x.2.2.2.2.2.Joins.map T_ref18_Join.av)), .v (.slice .foreign (x.2.2.2.2.2.Ops.map T_ref18_Op.av))])]⟩), LLoop Try.prog 100 lo c 2 (VQ Q) ⟨[(1, .v (.i64 x.1)), (2, .lref 2 0), (5, .own 100500 1 (x.2.1.map AV.i64)), (6, .own 100600 1 (x.2.2.1.map AV.i64)), (9, .own 100900 1 (x.2.2.2.1.map AV.i64)), (10, .v (.i64 x.2.2.2.2.1))], [(2, [.v (.slice .foreign (x.2.2.2.2.2.Joins.map T_ref18_Join.av)), .v (.slice .foreign (x.2.2.2.2.2.Ops.map T_ref18_Op.av))])]⟩) x o) := by
  refine M_ref19_Lift.l2.partial_correctness _ ?_
  · intro M_M_ref19_Lift_l2 ih_M_ref19_Lift_l2 x o h
    intro lo c Q hb
    refine LLoop.step mix fn_100 (by kernel_rfl) ?_
    simp -implicitDefEqProofs only [go_sem, Try.f100]
    by_cases h25 : (decide (x.2.2.2.2.1 < (x.2.2.2.2.2.Ops.length : Int))) = true
    · replace h := ite_some h h25
      try simp -implicitDefEqProofs only [go_sem, h25]
      obtain ⟨r26, h27, h⟩ := bind_some' h
      refine .plain _ _ rfl (M_ref19_has.w (x.2.2.1, x.2.2.2.2.1) _ h27) ?_
      try simp -implicitDefEqProofs only [go_sem, h25]
      by_cases h28 : r26 = true
      · replace h := ite_some h h28
        try simp -implicitDefEqProofs only [go_sem, h25, h28]
        obtain ⟨r29, h30, h⟩ := bind_some' h
        refine .plain _ _ rfl (M_ref19_free.w (x.2.2.2.2.2, x.1, x.2.2.2.2.1, x.2.1, x.2.2.1) _ h30) ?_
        try simp -implicitDefEqProofs only [go_sem, h25, h28]
        by_cases h31 : r29 = true
        · replace h := ite_some h h31
          try simp -implicitDefEqProofs only [go_sem, h25, h28, h31]
          obtain ⟨z32, h33, h⟩ := bind_some' h; replace h33 := room_some h33; obtain ⟨h33', rfl⟩ := h33
          refine LApp.map (F := AV.i64) (xs := x.2.2.2.1) (ys := [x.2.2.2.2.1]) t45_elem t3_size t3_bytes t3_zsize rfl (fun _ => rfl) (by (first | rfl | simp -implicitDefEqProofs only [go_sem, h25, h28, h31] <;> rfl)) (by (first | rfl | simp -implicitDefEqProofs only [go_sem, h25, h28, h31] <;> rfl)) h33' ?_
          try simp -implicitDefEqProofs only [go_sem, h25, h28, h31]
          exact LLoop.view [(100500, some 100500), (100600, some 100600), (100900, some 90)] (by (first | rfl | simp -implicitDefEqProofs only [go_sem, h25, h28, h31] <;> rfl)) (ih_M_ref19_Lift_l2 _ _ h lo c Q hb)
        · replace h := ite_none h h31; replace h31 := bfalse h31
          try simp -implicitDefEqProofs only [go_sem, h25, h28, h31]
          exact LLoop.view [(100500, some 100500), (100600, some 100600), (100900, some 100900)] (by (first | rfl | simp -implicitDefEqProofs only [go_sem, h25, h28, h31] <;> rfl)) (ih_M_ref19_Lift_l2 _ _ h lo c Q hb)
      · replace h := ite_none h h28; replace h28 := bfalse h28
        try simp -implicitDefEqProofs only [go_sem, h25, h28]
        exact LLoop.view [(100500, some 100500), (100600, some 100600), (100900, some 100900)] (by (first | rfl | simp -implicitDefEqProofs only [go_sem, h25, h28] <;> rfl)) (ih_M_ref19_Lift_l2 _ _ h lo c Q hb)
    · replace h := ite_none h h25; replace h25 := bfalse h25
      try simp -implicitDefEqProofs only [go_sem, h25]
      injection h with h; subst h
      exact .inr ⟨[(100500, some 100500), (100600, some 100600), (100900, some 100900)], _, by (simp -implicitDefEqProofs only [go_sem, h25] <;> first | done | rfl | trivial), hb _ rfl⟩
theorem M_ref19_Lift.l2.w : type_of% @M_ref19_Lift.l2.ws := @M_ref19_Lift.l2.ws
def M_ref19_Lift.l1 (x : Int × List Int × List Int × T_ref18_Levels) : Option (List Int) :=
  M_ref19_Lift.l2 (x.1, x.2.1, x.2.2.1, ([] : List Int), 0, x.2.2.2) >>= fun (o34 : List Int) =>
  if ((o34.length : Int) == (x.2.2.1.length : Int)) = true then
    some o34
  else
    M_ref19_Lift.l1 (x.1, x.2.1, o34, x.2.2.2)
  partial_fixpoint
theorem M_ref19_Lift.l1.ws : (∀ (x : Int × List Int × List Int × T_ref18_Levels) (o : List Int), M_ref19_Lift.l1 x = some o → (fun (x : Int × List Int × List Int × T_ref18_Levels) (o : List Int) => ∀ (lo : Option Nat) (c : LCtx) (Q : Exit → LEnv → Prop) (hr : ∀ (L : LEnv), LPostF Try.prog [.tmp 4] (.slice .foreign (o.map AV.i64)) (fun _ => True) .ret L → Q .ret L), LLoop Try.prog 100 lo c 1 (VQ Q) ⟨[(1, .v (.i64 x.1)), (2, .lref 2 0), (5, .own 100500 1 (x.2.1.map AV.i64)), (6, .own 100600 1 (x.2.2.1.map AV.i64))], [(2, [.v (.slice .foreign (x.2.2.2.Joins.map T_ref18_Join.av)), .v (.slice .foreign (x.2.2.2.Ops.map T_ref18_Op.av))])]⟩) x o) := by
  refine M_ref19_Lift.l1.partial_correctness _ ?_
  · intro M_M_ref19_Lift_l1 ih_M_ref19_Lift_l1 x o h
    intro lo c Q hr
    refine LLoop.step mix fn_100 (by kernel_rfl) ?_
    simp -implicitDefEqProofs only [go_sem, Try.f100]
    obtain ⟨o34, h35, h⟩ := bind_some' h
    refine LLoop.viewQ (LLoop.view [(100500, some 100500), (100600, some 100600), (100900, none)] (by (first | rfl | simp -implicitDefEqProofs only [go_sem] <;> rfl)) (M_ref19_Lift.l2.w (x.1, x.2.1, x.2.2.1, ([] : List Int), 0, x.2.2.2) _ h35 _ _ _ ?_))
    intro s' hs'; subst hs'
    try simp -implicitDefEqProofs only [go_sem]
    by_cases h36 : ((o34.length : Int) == (x.2.2.1.length : Int)) = true
    · replace h := ite_some h h36
      try simp -implicitDefEqProofs only [go_sem, h36]
      injection h with h; subst h
      exact .inl (hr _ (by (first | rfl | simp -implicitDefEqProofs only [go_sem, h36] <;> rfl)))
    · replace h := ite_none h h36; replace h36 := bfalse h36
      try simp -implicitDefEqProofs only [go_sem, h36]
      exact LLoop.view [(100500, some 100500), (100600, some 100900)] (by (first | rfl | simp -implicitDefEqProofs only [go_sem, h36] <;> rfl)) (ih_M_ref19_Lift_l1 _ _ h lo c Q hr)
theorem M_ref19_Lift.l1.w : type_of% @M_ref19_Lift.l1.ws := @M_ref19_Lift.l1.ws
mutual
def M_ref19_Lift.l0 (x : Int × List Int × List Int × Int × T_ref18_Levels) : Option (List Int × List Int) :=
  if (decide (x.2.2.2.1 < (x.2.2.2.2.Ops.length : Int))) = true then
    (getI x.2.2.2.2.Ops x.2.2.2.1) >>= fun (e7 : T_ref18_Op) =>
    if (e7.Home != x.1) = true then
      M_ref19_Lift.l0 (x.1, x.2.1, x.2.2.1, (w64 (x.2.2.2.1 + 1)), x.2.2.2.2)
    else
      M_ref19_Lift (x.2.2.2.2, x.2.2.2.1) >>= fun r10 =>
      (room 8 x.2.1 ([x.2.2.2.1])) >>= fun (z12 : List Int) =>
      (room 8 z12 r10) >>= fun (z14 : List Int) =>
      (room 8 x.2.2.1 r10) >>= fun (z16 : List Int) =>
      M_ref19_Loose e7 >>= fun r18 =>
      if r18 = true then
        (room 8 z16 ([x.2.2.2.1])) >>= fun (z21 : List Int) =>
        M_ref19_Lift.l0 (x.1, z14, z21, (w64 (x.2.2.2.1 + 1)), x.2.2.2.2)
      else
        M_ref19_Lift.l0 (x.1, z14, z16, (w64 (x.2.2.2.1 + 1)), x.2.2.2.2)
  else
    some (x.2.1, x.2.2.1)
  partial_fixpoint
def M_ref19_Lift (x : T_ref18_Levels × Int) : Option (List Int) :=
  if (decide (x.2 < 0)) = true then
    some ([] : List Int)
  else
    if (decide (x.2 ≥ (x.1.Ops.length : Int))) = true then
      some ([] : List Int)
    else
      (getI x.1.Ops x.2) >>= fun (e3 : T_ref18_Op) =>
      if (e3.Kind != 2) = true then
        some ([] : List Int)
      else
        M_ref19_Lift.l0 (x.2, ([] : List Int), ([] : List Int), 0, x.1) >>= fun (o23 : List Int × List Int) =>
        M_ref19_Lift.l1 (x.2, o23.1, o23.2, x.1) >>= fun (o37 : List Int) =>
        some o37
  partial_fixpoint
end
theorem M_ref19_Lift.l0.ws : (∀ (x : Int × List Int × List Int × Int × T_ref18_Levels) (o : List Int × List Int), M_ref19_Lift.l0 x = some o → (fun (x : Int × List Int × List Int × Int × T_ref18_Levels) (o : List Int × List Int) => ∀ (lo : Option Nat) (c : LCtx) (Q : Exit → LEnv → Prop) (hb : ∀ s : List Int × List Int, o = s → Q (.exit 0) ⟨[(1, .v (.i64 x.1)), (2, .lref 2 0), (5, .own 100500 1 (s.1.map AV.i64)), (6, .own 100600 1 (s.2.map AV.i64))], [(2, [.v (.slice .foreign (x.2.2.2.2.Joins.map T_ref18_Join.av)), .v (.slice .foreign (x.2.2.2.2.Ops.map T_ref18_Op.av))])]⟩), LLoop Try.prog 100 lo c 0 (VQ Q) ⟨[(1, .v (.i64 x.1)), (2, .lref 2 0), (5, .own 100500 1 (x.2.1.map AV.i64)), (6, .own 100600 1 (x.2.2.1.map AV.i64)), (7, .v (.i64 x.2.2.2.1))], [(2, [.v (.slice .foreign (x.2.2.2.2.Joins.map T_ref18_Join.av)), .v (.slice .foreign (x.2.2.2.2.Ops.map T_ref18_Op.av))])]⟩) x o) ∧ (∀ (x : T_ref18_Levels × Int) (o : List Int), M_ref19_Lift x = some o → (fun (x : T_ref18_Levels × Int) (r : List Int) => Fn Try.prog 100 [.agg (T_ref18_Levels.C x.1), .i64 x.2] (.slice .foreign (r.map AV.i64))) x o) := by
  refine M_ref19_Lift.l0.mutual_partial_correctness _ _ ?_ ?_
  · intro M_M_ref19_Lift_l0 M_M_ref19_Lift ih_M_ref19_Lift_l0 ih_M_ref19_Lift x o h
    intro lo c Q hb
    refine LLoop.step mix fn_100 (by kernel_rfl) ?_
    simp -implicitDefEqProofs only [go_sem, Try.f100]
    by_cases h6 : (decide (x.2.2.2.1 < (x.2.2.2.2.Ops.length : Int))) = true
    · replace h := ite_some h h6
      try simp -implicitDefEqProofs only [go_sem, h6]
      obtain ⟨e7, h8, h⟩ := bind_some' h; replace h8 := getI_some h8; obtain ⟨h8', h8⟩ := h8
      try simp -implicitDefEqProofs only [go_sem, h6, h8, h8']
      by_cases h9 : (e7.Home != x.1) = true
      · replace h := ite_some h h9
        try simp -implicitDefEqProofs only [go_sem, h6, h8, h8', h9]
        exact LLoop.view [(100500, some 100500), (100600, some 100600)] (by (first | rfl | simp -implicitDefEqProofs only [go_sem, h6, h8, h8', h9] <;> rfl)) (ih_M_ref19_Lift_l0 _ _ h lo c Q hb)
      · replace h := ite_none h h9; replace h9 := bfalse h9
        try simp -implicitDefEqProofs only [go_sem, h6, h8, h8', h9]
        obtain ⟨r10, h11, h⟩ := bind_some' h
        refine .plain _ _ rfl (ih_M_ref19_Lift (x.2.2.2.2, x.2.2.2.1) _ h11) ?_
        try simp -implicitDefEqProofs only [go_sem, h6, h8, h8', h9]
        obtain ⟨z12, h13, h⟩ := bind_some' h; replace h13 := room_some h13; obtain ⟨h13', rfl⟩ := h13
        refine LApp.map (F := AV.i64) (xs := x.2.1) (ys := [x.2.2.2.1]) t45_elem t3_size t3_bytes t3_zsize rfl (fun _ => rfl) (by (first | rfl | simp -implicitDefEqProofs only [go_sem, h6, h8, h8', h9] <;> rfl)) (by (first | rfl | simp -implicitDefEqProofs only [go_sem, h6, h8, h8', h9] <;> rfl)) h13' ?_
        try simp -implicitDefEqProofs only [go_sem, h6, h8, h8', h9]
        obtain ⟨z14, h15, h⟩ := bind_some' h; replace h15 := room_some h15; obtain ⟨h15', rfl⟩ := h15
        refine LApp.map (F := AV.i64) (xs := (x.2.1 ++ [x.2.2.2.1])) (ys := r10) t45_elem t3_size t3_bytes t3_zsize rfl (fun _ => rfl) (by (first | rfl | simp -implicitDefEqProofs only [go_sem, h6, h8, h8', h9] <;> rfl)) (by (first | rfl | simp -implicitDefEqProofs only [go_sem, h6, h8, h8', h9] <;> rfl)) h15' ?_
        try simp -implicitDefEqProofs only [go_sem, h6, h8, h8', h9]
        obtain ⟨z16, h17, h⟩ := bind_some' h; replace h17 := room_some h17; obtain ⟨h17', rfl⟩ := h17
        refine LApp.map (F := AV.i64) (xs := x.2.2.1) (ys := r10) t45_elem t3_size t3_bytes t3_zsize rfl (fun _ => rfl) (by (first | rfl | simp -implicitDefEqProofs only [go_sem, h6, h8, h8', h9] <;> rfl)) (by (first | rfl | simp -implicitDefEqProofs only [go_sem, h6, h8, h8', h9] <;> rfl)) h17' ?_
        try simp -implicitDefEqProofs only [go_sem, h6, h8, h8', h9]
        obtain ⟨r18, h19, h⟩ := bind_some' h
        refine .plain _ _ rfl (M_ref19_Loose.w e7 _ h19) ?_
        try simp -implicitDefEqProofs only [go_sem, h6, h8, h8', h9]
        by_cases h20 : r18 = true
        · replace h := ite_some h h20
          try simp -implicitDefEqProofs only [go_sem, h6, h8, h8', h9, h20]
          obtain ⟨z21, h22, h⟩ := bind_some' h; replace h22 := room_some h22; obtain ⟨h22', rfl⟩ := h22
          refine LApp.map (F := AV.i64) (xs := (x.2.2.1 ++ r10)) (ys := [x.2.2.2.1]) t45_elem t3_size t3_bytes t3_zsize rfl (fun _ => rfl) (by (first | rfl | simp -implicitDefEqProofs only [go_sem, h6, h8, h8', h9, h20] <;> rfl)) (by (first | rfl | simp -implicitDefEqProofs only [go_sem, h6, h8, h8', h9, h20] <;> rfl)) h22' ?_
          try simp -implicitDefEqProofs only [go_sem, h6, h8, h8', h9, h20]
          exact LLoop.view [(100500, some 54), (100600, some 67)] (by (first | rfl | simp -implicitDefEqProofs only [go_sem, h6, h8, h8', h9, h20] <;> rfl)) (ih_M_ref19_Lift_l0 _ _ h lo c Q hb)
        · replace h := ite_none h h20; replace h20 := bfalse h20
          try simp -implicitDefEqProofs only [go_sem, h6, h8, h8', h9, h20]
          exact LLoop.view [(100500, some 54), (100600, some 57)] (by (first | rfl | simp -implicitDefEqProofs only [go_sem, h6, h8, h8', h9, h20] <;> rfl)) (ih_M_ref19_Lift_l0 _ _ h lo c Q hb)
    · replace h := ite_none h h6; replace h6 := bfalse h6
      try simp -implicitDefEqProofs only [go_sem, h6]
      injection h with h; subst h
      exact .inr ⟨[(100500, some 100500), (100600, some 100600)], _, by (simp -implicitDefEqProofs only [go_sem, h6] <;> first | done | rfl | trivial), hb _ rfl⟩
  · intro M_M_ref19_Lift_l0 ih_M_ref19_Lift_l0 x r h
    refine Fn.of_lc mix fn_100 lok_100 (by rfl) (flC (T_ref18_Levels.flatC _) (flC (.atom _) (flN))) (flat_slice _ (fun _ => .atom _) _) ?_
    simp -implicitDefEqProofs only [go_sem, Try.f100]
    by_cases h1 : (decide (x.2 < 0)) = true
    · replace h := ite_some h h1
      try simp -implicitDefEqProofs only [go_sem, h1]
      injection h with h; subst h
      first | rfl | simp -implicitDefEqProofs only [go_sem, h1] <;> rfl
    · replace h := ite_none h h1; replace h1 := bfalse h1
      try simp -implicitDefEqProofs only [go_sem, h1]
      by_cases h2 : (decide (x.2 ≥ (x.1.Ops.length : Int))) = true
      · replace h := ite_some h h2
        try simp -implicitDefEqProofs only [go_sem, h1, h2]
        injection h with h; subst h
        first | rfl | simp -implicitDefEqProofs only [go_sem, h1, h2] <;> rfl
      · replace h := ite_none h h2; replace h2 := bfalse h2
        try simp -implicitDefEqProofs only [go_sem, h1, h2]
        obtain ⟨e3, h4, h⟩ := bind_some' h; replace h4 := getI_some h4; obtain ⟨h4', h4⟩ := h4
        try simp -implicitDefEqProofs only [go_sem, h1, h2, h4, h4']
        by_cases h5 : (e3.Kind != 2) = true
        · replace h := ite_some h h5
          try simp -implicitDefEqProofs only [go_sem, h1, h2, h4, h4', h5]
          injection h with h; subst h
          first | rfl | simp -implicitDefEqProofs only [go_sem, h1, h2, h4, h4', h5] <;> rfl
        · replace h := ite_none h h5; replace h5 := bfalse h5
          try simp -implicitDefEqProofs only [go_sem, h1, h2, h4, h4', h5]
          obtain ⟨o23, h24, h⟩ := bind_some' h
          refine LLoop.viewQ (LLoop.view [(100500, none), (100600, none)] (by (first | rfl | simp -implicitDefEqProofs only [go_sem, h1, h2, h4, h4', h5] <;> rfl)) (ih_M_ref19_Lift_l0 (x.2, ([] : List Int), ([] : List Int), 0, x.1) _ h24 _ _ _ ?_))
          intro s' hs'; subst hs'
          try simp -implicitDefEqProofs only [go_sem, h1, h2, h4, h4', h5]
          obtain ⟨o37, h38, h⟩ := bind_some' h
          refine LLoop.viewQ (LLoop.view [(100500, some 100500), (100600, some 100600)] (by (first | rfl | simp -implicitDefEqProofs only [go_sem, h1, h2, h4, h4', h5] <;> rfl)) (M_ref19_Lift.l1.w (x.2, o23.1, o23.2, x.1) _ h38 _ _ _ ?_))
          intro L' hL'
          injection h with h; subst h
          first | exact hL' | (simp -implicitDefEqProofs only [go_sem]; exact hL') | (simp -implicitDefEqProofs only [go_sem]; simp -implicitDefEqProofs only [go_sem] at hL'; exact hL')
theorem M_ref19_Lift.w : type_of% (M_ref19_Lift.l0.ws.2) := (M_ref19_Lift.l0.ws.2)
end Go.Proofs.Ytcfekacmmfdggaa.G
set_option linter.unusedVariables false
set_option linter.unusedSimpArgs false
set_option maxRecDepth 100000
namespace Go.Proofs.Ytcfekacmmfdggaa.G
@[go_sem] theorem lrp_66_8 : lrp Try.prog 66 8 = (12, []) := by kernel_rfl
theorem lok_66 : (Try.f66.body.isSome && !(Try.f66.name == "runtime.NumGoroutine") && okL (bodyF Try.f66) Try.f66.ntmps (bodyF Try.f66)) = true := by kernel_rfl
def M_ref19_Core.l0 (x : Set64 × List Int × Int × T_ref18_Levels) : Option (Set64) :=
  if (decide (x.2.2.1 < (x.2.1.length : Int))) = true then
    (getI x.2.1 x.2.2.1) >>= fun (e8 : Int) =>
    (getI x.2.2.2.Ops e8) >>= fun (e10 : T_ref18_Op) =>
    M_ref19_Core.l0 ((x.1 &&& ~~~e10.Own), x.2.1, (w64 (x.2.2.1 + 1)), x.2.2.2)
  else
    some x.1
  partial_fixpoint
theorem M_ref19_Core.l0.ws : (∀ (x : Set64 × List Int × Int × T_ref18_Levels) (o : Set64), M_ref19_Core.l0 x = some o → (fun (x : Set64 × List Int × Int × T_ref18_Levels) (o : Set64) => ∀ (lo : Option Nat) (c : LCtx) (Q : Exit → LEnv → Prop) (hb : ∀ s : Set64, o = s → Q (.exit 0) ⟨[(5, .v (.w s))], []⟩), LLoop Try.prog 66 lo c 0 (VQ Q) ⟨[(2, .lref 2 0), (5, .v (.w x.1)), (6, .v (.slice .foreign (x.2.1.map AV.i64))), (7, .v (.i64 x.2.2.1))], [(2, [.v (.slice .foreign (x.2.2.2.Joins.map T_ref18_Join.av)), .v (.slice .foreign (x.2.2.2.Ops.map T_ref18_Op.av))])]⟩) x o) := by
  refine M_ref19_Core.l0.partial_correctness _ ?_
  · intro M_M_ref19_Core_l0 ih_M_ref19_Core_l0 x o h
    intro lo c Q hb
    refine LLoop.step mix fn_66 (by kernel_rfl) ?_
    simp -implicitDefEqProofs only [go_sem, Try.f66]
    by_cases h7 : (decide (x.2.2.1 < (x.2.1.length : Int))) = true
    · replace h := ite_some h h7
      try simp -implicitDefEqProofs only [go_sem, h7]
      obtain ⟨e8, h9, h⟩ := bind_some' h; replace h9 := getI_some h9; obtain ⟨h9', h9⟩ := h9
      try simp -implicitDefEqProofs only [go_sem, h7, h9, h9']
      obtain ⟨e10, h11, h⟩ := bind_some' h; replace h11 := getI_some h11; obtain ⟨h11', h11⟩ := h11
      try simp -implicitDefEqProofs only [go_sem, h7, h9, h9', h11, h11']
      exact LLoop.view [] (by (first | rfl | simp -implicitDefEqProofs only [go_sem, h7, h9, h9', h11, h11'] <;> rfl)) (ih_M_ref19_Core_l0 _ _ h lo c Q hb)
    · replace h := ite_none h h7; replace h7 := bfalse h7
      try simp -implicitDefEqProofs only [go_sem, h7]
      injection h with h; subst h
      exact .inr ⟨[], _, by (simp -implicitDefEqProofs only [go_sem, h7] <;> first | done | rfl | trivial), hb _ rfl⟩
theorem M_ref19_Core.l0.w : type_of% @M_ref19_Core.l0.ws := @M_ref19_Core.l0.ws
def M_ref19_Core (x : T_ref18_Levels × Int) : Option (Set64) :=
  if (decide (x.2 < 0)) = true then
    some (0#64)
  else
    if (decide (x.2 ≥ (x.1.Ops.length : Int))) = true then
      some (0#64)
    else
      (getI x.1.Ops x.2) >>= fun (e3 : T_ref18_Op) =>
      M_ref19_Lift (x.1, x.2) >>= fun r5 =>
      M_ref19_Core.l0 (e3.Own, r5, 0, x.1) >>= fun (o12 : Set64) =>
      some o12
set_option maxHeartbeats 8000000 in
theorem M_ref19_Core.w : ∀ (x : T_ref18_Levels × Int) (r : Set64), M_ref19_Core x = some r → (fun (x : T_ref18_Levels × Int) (r : Set64) => Fn Try.prog 66 [.agg (T_ref18_Levels.C x.1), .i64 x.2] (.w r)) x r := by
  intro x r h
  rw [M_ref19_Core] at h
  try dsimp only
  refine Fn.of_lc mix fn_66 lok_66 (by rfl) (flC (T_ref18_Levels.flatC _) (flC (.atom _) (flN))) (.atom _) ?_
  simp -implicitDefEqProofs only [go_sem, Try.f66]
  by_cases h1 : (decide (x.2 < 0)) = true
  · replace h := ite_some h h1
    try simp -implicitDefEqProofs only [go_sem, h1]
    injection h with h; subst h
    first | rfl | simp -implicitDefEqProofs only [go_sem, h1] <;> rfl
  · replace h := ite_none h h1; replace h1 := bfalse h1
    try simp -implicitDefEqProofs only [go_sem, h1]
    by_cases h2 : (decide (x.2 ≥ (x.1.Ops.length : Int))) = true
    · replace h := ite_some h h2
      try simp -implicitDefEqProofs only [go_sem, h1, h2]
      injection h with h; subst h
      first | rfl | simp -implicitDefEqProofs only [go_sem, h1, h2] <;> rfl
    · replace h := ite_none h h2; replace h2 := bfalse h2
      try simp -implicitDefEqProofs only [go_sem, h1, h2]
      obtain ⟨e3, h4, h⟩ := bind_some' h; replace h4 := getI_some h4; obtain ⟨h4', h4⟩ := h4
      try simp -implicitDefEqProofs only [go_sem, h1, h2, h4, h4']
      obtain ⟨r5, h6, h⟩ := bind_some' h
      refine .plain _ _ rfl (M_ref19_Lift.w (x.1, x.2) _ h6) ?_
      try simp -implicitDefEqProofs only [go_sem, h1, h2, h4, h4']
      obtain ⟨o12, h13, h⟩ := bind_some' h
      refine LLoop.viewQ (LLoop.view [] (by (first | rfl | simp -implicitDefEqProofs only [go_sem, h1, h2, h4, h4'] <;> rfl)) (M_ref19_Core.l0.w (e3.Own, r5, 0, x.1) _ h13 _ _ _ ?_))
      intro s' hs'; subst hs'
      try simp -implicitDefEqProofs only [go_sem, h1, h2, h4, h4']
      injection h with h; subst h
      first | rfl | simp -implicitDefEqProofs only [go_sem, h1, h2, h4, h4'] <;> rfl
end Go.Proofs.Ytcfekacmmfdggaa.G
set_option linter.unusedVariables false
set_option linter.unusedSimpArgs false
set_option maxRecDepth 100000
namespace Go.Proofs.Ytcfekacmmfdggaa.G
theorem lok_99 : (Try.f99.body.isSome && !(Try.f99.name == "runtime.NumGoroutine") && okL (bodyF Try.f99) Try.f99.ntmps (bodyF Try.f99)) = true := by kernel_rfl
def M_ref18_Within (x : T_ref18_Levels × Int × Int) : Option (Bool) :=
  if (decide (x.2.1 < 0)) = true then
    some false
  else
    if (decide (x.2.1 ≥ (x.1.Ops.length : Int))) = true then
      some false
    else
      (getI x.1.Ops x.2.1) >>= fun (e3 : T_ref18_Op) =>
      if (e3.Home == x.2.2) = true then
        some true
      else
        M_ref18_Within (x.1, e3.Home, x.2.2) >>= fun r6 =>
        some r6
  partial_fixpoint
theorem M_ref18_Within.ws : (∀ (x : T_ref18_Levels × Int × Int) (o : Bool), M_ref18_Within x = some o → (fun (x : T_ref18_Levels × Int × Int) (r : Bool) => Fn Try.prog 99 [.agg (T_ref18_Levels.C x.1), .i64 x.2.1, .i64 x.2.2] (.bool r)) x o) := by
  refine M_ref18_Within.partial_correctness _ ?_
  · intro M_M_ref18_Within ih_M_ref18_Within x r h
    refine Fn.of_lc mix fn_99 lok_99 (by rfl) (flC (T_ref18_Levels.flatC _) (flC (.atom _) (flC (.atom _) (flN)))) (.atom _) ?_
    simp -implicitDefEqProofs only [go_sem, Try.f99]
    by_cases h1 : (decide (x.2.1 < 0)) = true
    · replace h := ite_some h h1
      try simp -implicitDefEqProofs only [go_sem, h1]
      injection h with h; subst h
      first | rfl | simp -implicitDefEqProofs only [go_sem, h1] <;> rfl
    · replace h := ite_none h h1; replace h1 := bfalse h1
      try simp -implicitDefEqProofs only [go_sem, h1]
      by_cases h2 : (decide (x.2.1 ≥ (x.1.Ops.length : Int))) = true
      · replace h := ite_some h h2
        try simp -implicitDefEqProofs only [go_sem, h1, h2]
        injection h with h; subst h
        first | rfl | simp -implicitDefEqProofs only [go_sem, h1, h2] <;> rfl
      · replace h := ite_none h h2; replace h2 := bfalse h2
        try simp -implicitDefEqProofs only [go_sem, h1, h2]
        obtain ⟨e3, h4, h⟩ := bind_some' h; replace h4 := getI_some h4; obtain ⟨h4', h4⟩ := h4
        try simp -implicitDefEqProofs only [go_sem, h1, h2, h4, h4']
        by_cases h5 : (e3.Home == x.2.2) = true
        · replace h := ite_some h h5
          try simp -implicitDefEqProofs only [go_sem, h1, h2, h4, h4', h5]
          injection h with h; subst h
          first | rfl | simp -implicitDefEqProofs only [go_sem, h1, h2, h4, h4', h5] <;> rfl
        · replace h := ite_none h h5; replace h5 := bfalse h5
          try simp -implicitDefEqProofs only [go_sem, h1, h2, h4, h4', h5]
          obtain ⟨r6, h7, h⟩ := bind_some' h
          refine .plain _ _ rfl (ih_M_ref18_Within (x.1, e3.Home, x.2.2) _ h7) ?_
          try simp -implicitDefEqProofs only [go_sem, h1, h2, h4, h4', h5]
          injection h with h; subst h
          first | rfl | simp -implicitDefEqProofs only [go_sem, h1, h2, h4, h4', h5] <;> rfl
theorem M_ref18_Within.w : type_of% @M_ref18_Within.ws := @M_ref18_Within.ws
end Go.Proofs.Ytcfekacmmfdggaa.G
set_option linter.unusedVariables false
set_option linter.unusedSimpArgs false
set_option maxRecDepth 100000
namespace Go.Proofs.Ytcfekacmmfdggaa.G
@[go_sem] theorem lrp_65_6 : lrp Try.prog 65 6 = (13, []) := by kernel_rfl
theorem lok_65 : (Try.f65.body.isSome && !(Try.f65.name == "runtime.NumGoroutine") && okL (bodyF Try.f65) Try.f65.ntmps (bodyF Try.f65)) = true := by kernel_rfl
def M_ref19_Need.l1 (x : Int × Set64 × Set64 × Int × T_ref18_Levels) : Option (Set64) :=
  if (decide (x.2.2.2.1 < (x.2.2.2.2.Ops.length : Int))) = true then
    M_ref18_Within (x.2.2.2.2, x.2.2.2.1, x.1) >>= fun r2 =>
    if r2 = true then
      (getI x.2.2.2.2.Ops x.2.2.2.1) >>= fun (e5 : T_ref18_Op) =>
      if ((e5.Own &&& x.2.1) != 0#64) = true then
        M_ref19_Core (x.2.2.2.2, x.2.2.2.1) >>= fun r8 =>
        M_ref19_Need.l1 (x.1, ((x.2.1 ||| r8) ||| e5.Left), x.2.2.1, (w64 (x.2.2.2.1 + 1)), x.2.2.2.2)
      else
        M_ref19_Need.l1 (x.1, x.2.1, x.2.2.1, (w64 (x.2.2.2.1 + 1)), x.2.2.2.2)
    else
      M_ref19_Need.l1 (x.1, x.2.1, x.2.2.1, (w64 (x.2.2.2.1 + 1)), x.2.2.2.2)
  else
    some x.2.1
  partial_fixpoint
theorem M_ref19_Need.l1.ws : (∀ (x : Int × Set64 × Set64 × Int × T_ref18_Levels) (o : Set64), M_ref19_Need.l1 x = some o → (fun (x : Int × Set64 × Set64 × Int × T_ref18_Levels) (o : Set64) => ∀ (lo : Option Nat) (c : LCtx) (Q : Exit → LEnv → Prop) (hb : ∀ s : Set64, o = s → Q (.exit 2) ⟨[(1, .v (.i64 x.1)), (2, .v (.w s)), (3, .lref 3 0), (7, .v (.w x.2.2.1))], [(3, [.v (.slice .foreign (x.2.2.2.2.Joins.map T_ref18_Join.av)), .v (.slice .foreign (x.2.2.2.2.Ops.map T_ref18_Op.av))])]⟩), LLoop Try.prog 65 lo c 1 (VQ Q) ⟨[(1, .v (.i64 x.1)), (2, .v (.w x.2.1)), (3, .lref 3 0), (7, .v (.w x.2.2.1)), (8, .v (.i64 x.2.2.2.1))], [(3, [.v (.slice .foreign (x.2.2.2.2.Joins.map T_ref18_Join.av)), .v (.slice .foreign (x.2.2.2.2.Ops.map T_ref18_Op.av))])]⟩) x o) := by
  refine M_ref19_Need.l1.partial_correctness _ ?_
  · intro M_M_ref19_Need_l1 ih_M_ref19_Need_l1 x o h
    intro lo c Q hb
    refine LLoop.step mix fn_65 (by kernel_rfl) ?_
    simp -implicitDefEqProofs only [go_sem, Try.f65]
    by_cases h1 : (decide (x.2.2.2.1 < (x.2.2.2.2.Ops.length : Int))) = true
    · replace h := ite_some h h1
      try simp -implicitDefEqProofs only [go_sem, h1]
      obtain ⟨r2, h3, h⟩ := bind_some' h
      refine .plain _ _ rfl (M_ref18_Within.w (x.2.2.2.2, x.2.2.2.1, x.1) _ h3) ?_
      try simp -implicitDefEqProofs only [go_sem, h1]
      by_cases h4 : r2 = true
      · replace h := ite_some h h4
        try simp -implicitDefEqProofs only [go_sem, h1, h4]
        obtain ⟨e5, h6, h⟩ := bind_some' h; replace h6 := getI_some h6; obtain ⟨h6', h6⟩ := h6
        try simp -implicitDefEqProofs only [go_sem, h1, h4, h6, h6']
        by_cases h7 : ((e5.Own &&& x.2.1) != 0#64) = true
        · replace h := ite_some h h7
          try simp -implicitDefEqProofs only [go_sem, h1, h4, h6, h6', h7]
          obtain ⟨r8, h9, h⟩ := bind_some' h
          refine .plain _ _ rfl (M_ref19_Core.w (x.2.2.2.2, x.2.2.2.1) _ h9) ?_
          try simp -implicitDefEqProofs only [go_sem, h1, h4, h6, h6', h7]
          exact LLoop.view [] (by (first | rfl | simp -implicitDefEqProofs only [go_sem, h1, h4, h6, h6', h7] <;> rfl)) (ih_M_ref19_Need_l1 _ _ h lo c Q hb)
        · replace h := ite_none h h7; replace h7 := bfalse h7
          try simp -implicitDefEqProofs only [go_sem, h1, h4, h6, h6', h7]
          exact LLoop.view [] (by (first | rfl | simp -implicitDefEqProofs only [go_sem, h1, h4, h6, h6', h7] <;> rfl)) (ih_M_ref19_Need_l1 _ _ h lo c Q hb)
      · replace h := ite_none h h4; replace h4 := bfalse h4
        try simp -implicitDefEqProofs only [go_sem, h1, h4]
        exact LLoop.view [] (by (first | rfl | simp -implicitDefEqProofs only [go_sem, h1, h4] <;> rfl)) (ih_M_ref19_Need_l1 _ _ h lo c Q hb)
    · replace h := ite_none h h1; replace h1 := bfalse h1
      try simp -implicitDefEqProofs only [go_sem, h1]
      injection h with h; subst h
      exact .inr ⟨[], _, by (simp -implicitDefEqProofs only [go_sem, h1] <;> first | done | rfl | trivial), hb _ rfl⟩
theorem M_ref19_Need.l1.w : type_of% @M_ref19_Need.l1.ws := @M_ref19_Need.l1.ws
def M_ref19_Need.l0 (x : Int × Set64 × T_ref18_Levels) : Option (Set64) :=
  M_ref19_Need.l1 (x.1, x.2.1, x.2.1, 0, x.2.2) >>= fun (o10 : Set64) =>
  if (o10 == x.2.1) = true then
    some o10
  else
    M_ref19_Need.l0 (x.1, o10, x.2.2)
  partial_fixpoint
theorem M_ref19_Need.l0.ws : (∀ (x : Int × Set64 × T_ref18_Levels) (o : Set64), M_ref19_Need.l0 x = some o → (fun (x : Int × Set64 × T_ref18_Levels) (o : Set64) => ∀ (lo : Option Nat) (c : LCtx) (Q : Exit → LEnv → Prop) (hr : ∀ (L : LEnv), LPostF Try.prog [.tmp 6] (.w o) (fun _ => True) .ret L → Q .ret L), LLoop Try.prog 65 lo c 0 (VQ Q) ⟨[(1, .v (.i64 x.1)), (2, .v (.w x.2.1)), (3, .lref 3 0)], [(3, [.v (.slice .foreign (x.2.2.Joins.map T_ref18_Join.av)), .v (.slice .foreign (x.2.2.Ops.map T_ref18_Op.av))])]⟩) x o) := by
  refine M_ref19_Need.l0.partial_correctness _ ?_
  · intro M_M_ref19_Need_l0 ih_M_ref19_Need_l0 x o h
    intro lo c Q hr
    refine LLoop.step mix fn_65 (by kernel_rfl) ?_
    simp -implicitDefEqProofs only [go_sem, Try.f65]
    obtain ⟨o10, h11, h⟩ := bind_some' h
    refine LLoop.viewQ (LLoop.view [] (by (first | rfl | simp -implicitDefEqProofs only [go_sem] <;> rfl)) (M_ref19_Need.l1.w (x.1, x.2.1, x.2.1, 0, x.2.2) _ h11 _ _ _ ?_))
    intro s' hs'; subst hs'
    try simp -implicitDefEqProofs only [go_sem]
    by_cases h12 : (o10 == x.2.1) = true
    · replace h := ite_some h h12
      try simp -implicitDefEqProofs only [go_sem, h12]
      injection h with h; subst h
      exact .inl (hr _ (by (first | rfl | simp -implicitDefEqProofs only [go_sem, h12] <;> rfl)))
    · replace h := ite_none h h12; replace h12 := bfalse h12
      try simp -implicitDefEqProofs only [go_sem, h12]
      exact LLoop.view [] (by (first | rfl | simp -implicitDefEqProofs only [go_sem, h12] <;> rfl)) (ih_M_ref19_Need_l0 _ _ h lo c Q hr)
theorem M_ref19_Need.l0.w : type_of% @M_ref19_Need.l0.ws := @M_ref19_Need.l0.ws
def M_ref19_Need (x : T_ref18_Levels × Int × Set64) : Option (Set64) :=
  M_ref19_Need.l0 (x.2.1, x.2.2, x.1) >>= fun (o13 : Set64) =>
  some o13
set_option maxHeartbeats 8000000 in
theorem M_ref19_Need.w : ∀ (x : T_ref18_Levels × Int × Set64) (r : Set64), M_ref19_Need x = some r → (fun (x : T_ref18_Levels × Int × Set64) (r : Set64) => Fn Try.prog 65 [.agg (T_ref18_Levels.C x.1), .i64 x.2.1, .w x.2.2] (.w r)) x r := by
  intro x r h
  rw [M_ref19_Need] at h
  try dsimp only
  refine Fn.of_lc mix fn_65 lok_65 (by rfl) (flC (T_ref18_Levels.flatC _) (flC (.atom _) (flC (.atom _) (flN)))) (.atom _) ?_
  simp -implicitDefEqProofs only [go_sem, Try.f65]
  obtain ⟨o13, h14, h⟩ := bind_some' h
  refine LLoop.viewQ (LLoop.view [] (by (first | rfl | simp -implicitDefEqProofs only [go_sem] <;> rfl)) (M_ref19_Need.l0.w (x.2.1, x.2.2, x.1) _ h14 _ _ _ ?_))
  intro L' hL'
  injection h with h; subst h
  first | exact hL' | (simp -implicitDefEqProofs only [go_sem]; exact hL') | (simp -implicitDefEqProofs only [go_sem]; simp -implicitDefEqProofs only [go_sem] at hL'; exact hL')
end Go.Proofs.Ytcfekacmmfdggaa.G
set_option linter.unusedVariables false
set_option linter.unusedSimpArgs false
set_option maxRecDepth 100000
namespace Go.Proofs.Ytcfekacmmfdggaa.G
@[go_sem] theorem lrp_95_1 : lrp Try.prog 95 1 = (9, []) := by kernel_rfl
theorem lok_95 : (Try.f95.body.isSome && !(Try.f95.name == "runtime.NumGoroutine") && okL (bodyF Try.f95) Try.f95.ntmps (bodyF Try.f95)) = true := by kernel_rfl
end Go.Proofs.Ytcfekacmmfdggaa.G
set_option linter.unusedVariables false
set_option linter.unusedSimpArgs false
set_option maxRecDepth 100000
namespace Go.Proofs.Ytcfekacmmfdggaa.G
@[go_sem] theorem lrp_96_7 : lrp Try.prog 96 7 = (50, []) := by kernel_rfl
theorem lok_96 : (Try.f96.body.isSome && !(Try.f96.name == "runtime.NumGoroutine") && okL (bodyF Try.f96) Try.f96.ntmps (bodyF Try.f96)) = true := by kernel_rfl
def M_ref19_sinks.l1 (x : Int × Int × T_ref18_Levels) : Option (Lp (Unit) (Int × Int)) :=
  if (decide (x.2.1 < (x.2.2.Ops.length : Int))) = true then
    if (x.1 != x.2.1) = true then
      (getI x.2.2.Ops x.1) >>= fun (e4 : T_ref18_Op) =>
      (getI x.2.2.Ops x.2.1) >>= fun (e6 : T_ref18_Op) =>
      if (e4.Home == e6.Home) = true then
        if (e6.Kind == 2) = true then
          M_ref19_Loose e4 >>= fun r10 =>
          if r10 = true then
            M_ref01_In (e4.Left, e6.Own) >>= fun r13 =>
            if r13 = true then
              some (.ret (x.1, x.2.1))
            else
              M_ref19_sinks.l1 (x.1, (w64 (x.2.1 + 1)), x.2.2)
          else
            M_ref19_sinks.l1 (x.1, (w64 (x.2.1 + 1)), x.2.2)
        else
          M_ref19_sinks.l1 (x.1, (w64 (x.2.1 + 1)), x.2.2)
      else
        M_ref19_sinks.l1 (x.1, (w64 (x.2.1 + 1)), x.2.2)
    else
      M_ref19_sinks.l1 (x.1, (w64 (x.2.1 + 1)), x.2.2)
  else
    some (.brk ())
  partial_fixpoint
theorem M_ref19_sinks.l1.ws : (∀ (x : Int × Int × T_ref18_Levels) (o : Lp (Unit) (Int × Int)), M_ref19_sinks.l1 x = some o → (fun (x : Int × Int × T_ref18_Levels) (o : Lp (Unit) (Int × Int)) => ∀ (lo : Option Nat) (c : LCtx) (Q : Exit → LEnv → Prop) (hb : ∀ s : Unit, o = Lp.brk s → Q (.exit 2) ⟨[(1, .lref 1 0), (4, .v (.i64 x.1))], [(1, [.v (.slice .foreign (x.2.2.Joins.map T_ref18_Join.av)), .v (.slice .foreign (x.2.2.Ops.map T_ref18_Op.av))])]⟩) (hr : ∀ (r : Int × Int) (L : LEnv), o = .ret r → LPostF Try.prog [.tmp 2, .tmp 3] (.tuple [.i64 r.1, .i64 r.2]) (fun _ => True) .ret L → Q .ret L), LLoop Try.prog 96 lo c 1 (VQ Q) ⟨[(1, .lref 1 0), (4, .v (.i64 x.1)), (5, .v (.i64 x.2.1))], [(1, [.v (.slice .foreign (x.2.2.Joins.map T_ref18_Join.av)), .v (.slice .foreign (x.2.2.Ops.map T_ref18_Op.av))])]⟩) x o) := by
  refine M_ref19_sinks.l1.partial_correctness _ ?_
  · intro M_M_ref19_sinks_l1 ih_M_ref19_sinks_l1 x o h
    intro lo c Q hb hr
    refine LLoop.step mix fn_96 (by kernel_rfl) ?_
    simp -implicitDefEqProofs only [go_sem, Try.f96]
    by_cases h2 : (decide (x.2.1 < (x.2.2.Ops.length : Int))) = true
    · replace h := ite_some h h2
      try simp -implicitDefEqProofs only [go_sem, h2]
      by_cases h3 : (x.1 != x.2.1) = true
      · replace h := ite_some h h3
        try simp -implicitDefEqProofs only [go_sem, h2, h3]
        obtain ⟨e4, h5, h⟩ := bind_some' h; replace h5 := getI_some h5; obtain ⟨h5', h5⟩ := h5
        try simp -implicitDefEqProofs only [go_sem, h2, h3, h5, h5']
        obtain ⟨e6, h7, h⟩ := bind_some' h; replace h7 := getI_some h7; obtain ⟨h7', h7⟩ := h7
        try simp -implicitDefEqProofs only [go_sem, h2, h3, h5, h5', h7, h7']
        by_cases h8 : (e4.Home == e6.Home) = true
        · replace h := ite_some h h8
          try simp -implicitDefEqProofs only [go_sem, h2, h3, h5, h5', h7, h7', h8]
          by_cases h9 : (e6.Kind == 2) = true
          · replace h := ite_some h h9
            try simp -implicitDefEqProofs only [go_sem, h2, h3, h5, h5', h7, h7', h8, h9]
            obtain ⟨r10, h11, h⟩ := bind_some' h
            refine .plain _ _ rfl (M_ref19_Loose.w e4 _ h11) ?_
            try simp -implicitDefEqProofs only [go_sem, h2, h3, h5, h5', h7, h7', h8, h9]
            by_cases h12 : r10 = true
            · replace h := ite_some h h12
              try simp -implicitDefEqProofs only [go_sem, h2, h3, h5, h5', h7, h7', h8, h9, h12]
              obtain ⟨r13, h14, h⟩ := bind_some' h
              refine .plain _ _ rfl (M_ref01_In.w (e4.Left, e6.Own) _ h14) ?_
              try simp -implicitDefEqProofs only [go_sem, h2, h3, h5, h5', h7, h7', h8, h9, h12]
              by_cases h15 : r13 = true
              · replace h := ite_some h h15
                try simp -implicitDefEqProofs only [go_sem, h2, h3, h5, h5', h7, h7', h8, h9, h12, h15]
                injection h with h; subst h
                exact .inl (hr _ _ rfl (by (first | rfl | simp -implicitDefEqProofs only [go_sem, h2, h3, h5, h5', h7, h7', h8, h9, h12, h15] <;> rfl)))
              · replace h := ite_none h h15; replace h15 := bfalse h15
                try simp -implicitDefEqProofs only [go_sem, h2, h3, h5, h5', h7, h7', h8, h9, h12, h15]
                exact LLoop.view [] (by (first | rfl | simp -implicitDefEqProofs only [go_sem, h2, h3, h5, h5', h7, h7', h8, h9, h12, h15] <;> rfl)) (ih_M_ref19_sinks_l1 _ _ h lo c Q hb hr)
            · replace h := ite_none h h12; replace h12 := bfalse h12
              try simp -implicitDefEqProofs only [go_sem, h2, h3, h5, h5', h7, h7', h8, h9, h12]
              exact LLoop.view [] (by (first | rfl | simp -implicitDefEqProofs only [go_sem, h2, h3, h5, h5', h7, h7', h8, h9, h12] <;> rfl)) (ih_M_ref19_sinks_l1 _ _ h lo c Q hb hr)
          · replace h := ite_none h h9; replace h9 := bfalse h9
            try simp -implicitDefEqProofs only [go_sem, h2, h3, h5, h5', h7, h7', h8, h9]
            exact LLoop.view [] (by (first | rfl | simp -implicitDefEqProofs only [go_sem, h2, h3, h5, h5', h7, h7', h8, h9] <;> rfl)) (ih_M_ref19_sinks_l1 _ _ h lo c Q hb hr)
        · replace h := ite_none h h8; replace h8 := bfalse h8
          try simp -implicitDefEqProofs only [go_sem, h2, h3, h5, h5', h7, h7', h8]
          exact LLoop.view [] (by (first | rfl | simp -implicitDefEqProofs only [go_sem, h2, h3, h5, h5', h7, h7', h8] <;> rfl)) (ih_M_ref19_sinks_l1 _ _ h lo c Q hb hr)
      · replace h := ite_none h h3; replace h3 := bfalse h3
        try simp -implicitDefEqProofs only [go_sem, h2, h3]
        exact LLoop.view [] (by (first | rfl | simp -implicitDefEqProofs only [go_sem, h2, h3] <;> rfl)) (ih_M_ref19_sinks_l1 _ _ h lo c Q hb hr)
    · replace h := ite_none h h2; replace h2 := bfalse h2
      try simp -implicitDefEqProofs only [go_sem, h2]
      injection h with h; subst h
      exact .inr ⟨[], _, by (simp -implicitDefEqProofs only [go_sem, h2] <;> first | done | rfl | trivial), hb _ rfl⟩
theorem M_ref19_sinks.l1.w : type_of% @M_ref19_sinks.l1.ws := @M_ref19_sinks.l1.ws
def M_ref19_sinks.l0 (x : Int × T_ref18_Levels) : Option (Lp (Unit) (Int × Int)) :=
  if (decide (x.1 < (x.2.Ops.length : Int))) = true then
    M_ref19_sinks.l1 (x.1, 0, x.2) >>= fun (o16 : Lp (Unit) (Int × Int)) => match o16 with
    | .brk s19 =>
      M_ref19_sinks.l0 ((w64 (x.1 + 1)), x.2)
    | .ret r18 =>
      some (.ret r18)
  else
    some (.brk ())
  partial_fixpoint
theorem M_ref19_sinks.l0.ws : (∀ (x : Int × T_ref18_Levels) (o : Lp (Unit) (Int × Int)), M_ref19_sinks.l0 x = some o → (fun (x : Int × T_ref18_Levels) (o : Lp (Unit) (Int × Int)) => ∀ (lo : Option Nat) (c : LCtx) (Q : Exit → LEnv → Prop) (hb : ∀ s : Unit, o = Lp.brk s → Q (.exit 0) ⟨[], []⟩) (hr : ∀ (r : Int × Int) (L : LEnv), o = .ret r → LPostF Try.prog [.tmp 2, .tmp 3] (.tuple [.i64 r.1, .i64 r.2]) (fun _ => True) .ret L → Q .ret L), LLoop Try.prog 96 lo c 0 (VQ Q) ⟨[(1, .lref 1 0), (4, .v (.i64 x.1))], [(1, [.v (.slice .foreign (x.2.Joins.map T_ref18_Join.av)), .v (.slice .foreign (x.2.Ops.map T_ref18_Op.av))])]⟩) x o) := by
  refine M_ref19_sinks.l0.partial_correctness _ ?_
  · intro M_M_ref19_sinks_l0 ih_M_ref19_sinks_l0 x o h
    intro lo c Q hb hr
    refine LLoop.step mix fn_96 (by kernel_rfl) ?_
    simp -implicitDefEqProofs only [go_sem, Try.f96]
    by_cases h1 : (decide (x.1 < (x.2.Ops.length : Int))) = true
    · replace h := ite_some h h1
      try simp -implicitDefEqProofs only [go_sem, h1]
      obtain ⟨o16, h17, h⟩ := bind_some' h
      refine LLoop.viewQ (LLoop.view [] (by (first | rfl | simp -implicitDefEqProofs only [go_sem, h1] <;> rfl)) (M_ref19_sinks.l1.w (x.1, 0, x.2) _ h17 _ _ _ ?_ ?_))
      · intro s19 hs'; subst hs'
        try simp -implicitDefEqProofs only [go_sem, h1]
        exact LLoop.view [] (by (first | rfl | simp -implicitDefEqProofs only [go_sem, h1] <;> rfl)) (ih_M_ref19_sinks_l0 _ _ h lo c Q hb hr)
      · intro r18 L' hs' hL'; subst hs'
        injection h with h; subst h
        simp -implicitDefEqProofs only [go_sem]
        exact .inl (hr _ _ rfl hL')
    · replace h := ite_none h h1; replace h1 := bfalse h1
      try simp -implicitDefEqProofs only [go_sem, h1]
      injection h with h; subst h
      exact .inr ⟨[], _, by (simp -implicitDefEqProofs only [go_sem, h1] <;> first | done | rfl | trivial), hb _ rfl⟩
theorem M_ref19_sinks.l0.w : type_of% @M_ref19_sinks.l0.ws := @M_ref19_sinks.l0.ws
def M_ref19_sinks (x : T_ref18_Levels) : Option (Int × Int) :=
  M_ref19_sinks.l0 (0, x) >>= fun (o20 : Lp (Unit) (Int × Int)) => match o20 with
  | .brk s23 =>
    some (-1, -1)
  | .ret r22 =>
    some r22
set_option maxHeartbeats 8000000 in
theorem M_ref19_sinks.w : ∀ (x : T_ref18_Levels) (r : Int × Int), M_ref19_sinks x = some r → (fun (x : T_ref18_Levels) (r : Int × Int) => Fn Try.prog 96 [.agg (T_ref18_Levels.C x)] (.tuple [.i64 r.1, .i64 r.2])) x r := by
  intro x r h
  rw [M_ref19_sinks] at h
  try dsimp only
  refine Fn.of_lc mix fn_96 lok_96 (by rfl) (flC (T_ref18_Levels.flatC _) (flN)) (.tuple _ (flC (.atom _) (flC (.atom _) (flN)))) ?_
  simp -implicitDefEqProofs only [go_sem, Try.f96]
  obtain ⟨o20, h21, h⟩ := bind_some' h
  refine LLoop.viewQ (LLoop.view [] (by (first | rfl | simp -implicitDefEqProofs only [go_sem] <;> rfl)) (M_ref19_sinks.l0.w (0, x) _ h21 _ _ _ ?_ ?_))
  · intro s23 hs'; subst hs'
    try simp -implicitDefEqProofs only [go_sem]
    injection h with h; subst h
    first | rfl | simp -implicitDefEqProofs only [go_sem] <;> rfl
  · intro r22 L' hs' hL'; subst hs'
    injection h with h; subst h
    first | exact hL' | (simp -implicitDefEqProofs only [go_sem]; exact hL') | (simp -implicitDefEqProofs only [go_sem]; simp -implicitDefEqProofs only [go_sem] at hL'; exact hL')
end Go.Proofs.Ytcfekacmmfdggaa.G
set_option linter.unusedVariables false
set_option linter.unusedSimpArgs false
set_option maxRecDepth 100000
namespace Go.Proofs.Ytcfekacmmfdggaa.G
@[go_sem] theorem lrp_63_9 : lrp Try.prog 63 9 = (18, []) := by kernel_rfl
theorem lok_63 : (Try.f63.body.isSome && !(Try.f63.name == "runtime.NumGoroutine") && okL (bodyF Try.f63) Try.f63.ntmps (bodyF Try.f63)) = true := by kernel_rfl
section
attribute [local instance] mu_96
def M_ref19_Twin_R (x : T_ref18_Levels) : Option (T_ref18_Levels) :=
  (room 152 ([] : List T_ref18_Join) x.Joins) >>= fun (z1 : List T_ref18_Join) =>
  (room 64 ([] : List T_ref18_Op) x.Ops) >>= fun (z3 : List T_ref18_Op) =>
  some (⟨z1, z3⟩ : T_ref18_Levels)
set_option maxHeartbeats 8000000 in
theorem M_ref19_Twin_R.w : ∀ (x : T_ref18_Levels) (r : T_ref18_Levels), M_ref19_Twin_R x = some r → (fun (x : T_ref18_Levels) (r : T_ref18_Levels) => FnR Try.prog 95 [] [.a (.agg (T_ref18_Levels.C x))] (.ag [.v (.slice .foreign (r.Joins.map T_ref18_Join.av)), .own 98000001 6 (r.Ops.map T_ref18_Op.av)]) []) x r := by
  intro x r h
  rw [M_ref19_Twin_R] at h
  try dsimp only
  refine FnR.of_lcG mix fn_95 lok_95 (by rfl) (by rfl) (by rfl) (by rfl) fun c => ?_
  simp -implicitDefEqProofs only [go_sem, Try.f95]
  obtain ⟨z1, h2, h⟩ := bind_some' h; replace h2 := room_some h2; obtain ⟨h2', rfl⟩ := h2
  refine LApp.mapFull (F := T_ref18_Join.av) (xs := ([] : List T_ref18_Join)) (ys := x.Joins) t84_elem t91_size t91_bytes t91_zsize rfl T_ref18_Join.len (by (first | rfl | simp -implicitDefEqProofs only [go_sem] <;> rfl)) (by (first | rfl | simp -implicitDefEqProofs only [go_sem] <;> rfl)) h2' ?_
  try simp -implicitDefEqProofs only [go_sem]
  obtain ⟨z3, h4, h⟩ := bind_some' h; replace h4 := room_some h4; obtain ⟨h4', rfl⟩ := h4
  refine LApp.mapFull (F := T_ref18_Op.av) (xs := ([] : List T_ref18_Op)) (ys := x.Ops) t85_elem t96_size t96_bytes t96_zsize rfl T_ref18_Op.len (by (first | rfl | simp -implicitDefEqProofs only [go_sem] <;> rfl)) (by (first | rfl | simp -implicitDefEqProofs only [go_sem] <;> rfl)) h4' ?_
  try simp -implicitDefEqProofs only [go_sem]
  injection h with h; subst h
  first | exact ⟨_, rfl, [(98000001, some 90000010)], by rfl, by (first | rfl | simp -implicitDefEqProofs only [go_sem] <;> rfl), by (first | rfl | simp -implicitDefEqProofs only [go_sem] <;> rfl)⟩ | exact ⟨_, rfl, [(98000001, some 90000010)], by rfl, by (simp -implicitDefEqProofs only [go_sem] <;> first | done | rfl | trivial), by (simp -implicitDefEqProofs only [go_sem] <;> first | done | rfl | trivial)⟩
end
section
attribute [local instance] mu_96
def M_ref19_Sink.l0 (x : Int × T_ref18_Levels × T_ref18_Levels × T_ref18_Levels) : Option (Lp (T_ref18_Levels × T_ref18_Levels) (T_ref18_Levels)) :=
  if (decide (x.1 ≤ (w64 ((x.2.1.Ops.length : Int) * (x.2.1.Ops.length : Int))))) = true then
    M_ref19_sinks x.2.2.2 >>= fun r4 =>
    if (decide (r4.1 < 0)) = true then
      some (.ret x.2.2.2)
    else
      (getI x.2.2.2.Ops r4.1) >>= fun (e7 : T_ref18_Op) =>
      (getI (x.2.2.2.Ops.set (r4.1).toNat (⟨e7.Kind, e7.Conj, e7.Left, e7.Right, e7.Own, r4.2⟩ : T_ref18_Op)) r4.2) >>= fun (e9 : T_ref18_Op) =>
      (getI (x.2.2.2.Ops.set (r4.1).toNat (⟨e7.Kind, e7.Conj, e7.Left, e7.Right, e7.Own, r4.2⟩ : T_ref18_Op)) r4.1) >>= fun (e11 : T_ref18_Op) =>
      M_ref19_Sink.l0 ((w64 (x.1 + 1)), x.2.1, x.2.2.1, (⟨x.2.2.2.Joins, ((x.2.2.2.Ops.set (r4.1).toNat (⟨e7.Kind, e7.Conj, e7.Left, e7.Right, e7.Own, r4.2⟩ : T_ref18_Op)).set (r4.2).toNat (⟨e9.Kind, e9.Conj, e9.Left, e9.Right, (e9.Own ||| e11.Own), e9.Home⟩ : T_ref18_Op))⟩ : T_ref18_Levels))
  else
    some (.brk (x.2.2.1, x.2.2.2))
  partial_fixpoint
theorem M_ref19_Sink.l0.ws : (∀ (x : Int × T_ref18_Levels × T_ref18_Levels × T_ref18_Levels) (o : Lp (T_ref18_Levels × T_ref18_Levels) (T_ref18_Levels)), M_ref19_Sink.l0 x = some o → (fun (x : Int × T_ref18_Levels × T_ref18_Levels × T_ref18_Levels) (o : Lp (T_ref18_Levels × T_ref18_Levels) (T_ref18_Levels)) => ∀ (lo : Option Nat) (c : LCtx) (Q : Exit → LEnv → Prop) (hb : ∀ s : T_ref18_Levels × T_ref18_Levels, o = Lp.brk s → Q (.exit 0) ⟨[(2, .lref 2 0), (3, .lref 3 0)], [(2, [.own 20000200 17 (s.1.Joins.map T_ref18_Join.av), .own 70000201 6 (s.1.Ops.map T_ref18_Op.av)]), (3, [.v (.slice .foreign (s.2.Joins.map T_ref18_Join.av)), .own 110000301 6 (s.2.Ops.map T_ref18_Op.av)])]⟩) (hr : ∀ (r : T_ref18_Levels) (L : LEnv), o = .ret r → LPostF Try.prog [.cell 2 87] (.agg (T_ref18_Levels.C r)) (fun _ => True) .ret L → Q .ret L), LLoop Try.prog 63 lo c 0 (VQ Q) ⟨[(1, .lref 1 0), (2, .lref 2 0), (3, .lref 3 0), (4, .v (.i64 x.1))], [(1, [.v (.slice .foreign (x.2.1.Joins.map T_ref18_Join.av)), .v (.slice .foreign (x.2.1.Ops.map T_ref18_Op.av))]), (2, [.own 20000200 17 (x.2.2.1.Joins.map T_ref18_Join.av), .own 70000201 6 (x.2.2.1.Ops.map T_ref18_Op.av)]), (3, [.v (.slice .foreign (x.2.2.2.Joins.map T_ref18_Join.av)), .own 110000301 6 (x.2.2.2.Ops.map T_ref18_Op.av)])]⟩) x o) := by
  refine M_ref19_Sink.l0.partial_correctness _ ?_
  · intro M_M_ref19_Sink_l0 ih_M_ref19_Sink_l0 x o h
    intro lo c Q hb hr
    refine LLoop.step mix fn_63 (by kernel_rfl) ?_
    simp -implicitDefEqProofs only [go_sem, Try.f63]
    by_cases h3 : (decide (x.1 ≤ (w64 ((x.2.1.Ops.length : Int) * (x.2.1.Ops.length : Int))))) = true
    · replace h := ite_some h h3
      try simp -implicitDefEqProofs only [go_sem, h3]
      obtain ⟨r4, h5, h⟩ := bind_some' h
      have hw := M_ref19_sinks.w x.2.2.2 _ h5
      try simp -implicitDefEqProofs only [go_sem] at hw
      refine ⟨_, hw, by first | exact (flC (T_ref18_Levels.flatC _) (flN)) | (simp -implicitDefEqProofs only [go_sem]; exact (flC (T_ref18_Levels.flatC _) (flN))), (.tuple _ (scC (.atom _) (scC (.atom _) (scN)))), ?_⟩
      clear hw
      try simp -implicitDefEqProofs only [go_sem, h3]
      by_cases h6 : (decide (r4.1 < 0)) = true
      · replace h := ite_some h h6
        try simp -implicitDefEqProofs only [go_sem, h3, h6]
        injection h with h; subst h
        exact .inl (hr _ _ rfl (by (first | rfl | simp -implicitDefEqProofs only [go_sem, h3, h6] <;> rfl)))
      · replace h := ite_none h h6; replace h6 := bfalse h6
        try simp -implicitDefEqProofs only [go_sem, h3, h6]
        obtain ⟨e7, h8, h⟩ := bind_some' h; replace h8 := getI_some h8; obtain ⟨h8', h8⟩ := h8; have h8v : r4.1 < (x.2.2.2.Ops.length : Int) := by have := (List.getElem?_eq_some_iff.1 h8).1; omega
        try simp -implicitDefEqProofs only [go_sem, h3, h6, h8, h8', h8v]
        refine LStV.map (F := T_ref18_Op.av) (xs := x.2.2.2.Ops) (x := e7) (x' := (⟨e7.Kind, e7.Conj, e7.Left, e7.Right, e7.Own, r4.2⟩ : T_ref18_Op)) (by (first | rfl | simp -implicitDefEqProofs only [go_sem, h3, h6, h8, h8', h8v] <;> rfl)) (by (first | rfl | simp -implicitDefEqProofs only [go_sem, h3, h6, h8, h8', h8v] <;> rfl)) (by rfl) (by rfl) (by rfl) h8 (by first | rfl | (first | rfl | simp -implicitDefEqProofs only [go_sem, h3, h6, h8, h8', h8v] <;> rfl)) ?_
        try simp -implicitDefEqProofs only [go_sem, h3, h6, h8, h8', h8v]
        obtain ⟨e9, h10, h⟩ := bind_some' h; replace h10 := getI_some h10; obtain ⟨h10', h10⟩ := h10; have h10v : r4.2 < ((x.2.2.2.Ops.set (r4.1).toNat (⟨e7.Kind, e7.Conj, e7.Left, e7.Right, e7.Own, r4.2⟩ : T_ref18_Op)).length : Int) := by have := (List.getElem?_eq_some_iff.1 h10).1; omega
        try simp -implicitDefEqProofs only [go_sem, h3, h6, h8, h8', h8v, h10, h10', h10v]
        obtain ⟨e11, h12, h⟩ := bind_some' h; replace h12 := getI_some h12; obtain ⟨h12', h12⟩ := h12; have h12v : r4.1 < ((x.2.2.2.Ops.set (r4.1).toNat (⟨e7.Kind, e7.Conj, e7.Left, e7.Right, e7.Own, r4.2⟩ : T_ref18_Op)).length : Int) := by have := (List.getElem?_eq_some_iff.1 h12).1; omega
        try simp -implicitDefEqProofs only [go_sem, h3, h6, h8, h8', h8v, h10, h10', h10v, h12, h12', h12v]
        refine LStV.map (F := T_ref18_Op.av) (xs := (x.2.2.2.Ops.set (r4.1).toNat (⟨e7.Kind, e7.Conj, e7.Left, e7.Right, e7.Own, r4.2⟩ : T_ref18_Op))) (x := e9) (x' := (⟨e9.Kind, e9.Conj, e9.Left, e9.Right, (e9.Own ||| e11.Own), e9.Home⟩ : T_ref18_Op)) (by (first | rfl | simp -implicitDefEqProofs only [go_sem, h3, h6, h8, h8', h8v, h10, h10', h10v, h12, h12', h12v] <;> rfl)) (by (first | rfl | simp -implicitDefEqProofs only [go_sem, h3, h6, h8, h8', h8v, h10, h10', h10v, h12, h12', h12v] <;> rfl)) (by rfl) (by rfl) (by rfl) h10 (by first | rfl | (first | rfl | simp -implicitDefEqProofs only [go_sem, h3, h6, h8, h8', h8v, h10, h10', h10v, h12, h12', h12v] <;> rfl)) ?_
        try simp -implicitDefEqProofs only [go_sem, h3, h6, h8, h8', h8v, h10, h10', h10v, h12, h12', h12v]
        exact LLoop.view [(20000200, some 20000200), (70000201, some 70000201), (110000301, some 110000301)] (by (first | rfl | simp -implicitDefEqProofs only [go_sem, h3, h6, h8, h8', h8v, h10, h10', h10v, h12, h12', h12v] <;> rfl)) (ih_M_ref19_Sink_l0 _ _ h lo c Q hb hr)
    · replace h := ite_none h h3; replace h3 := bfalse h3
      try simp -implicitDefEqProofs only [go_sem, h3]
      injection h with h; subst h
      exact .inr ⟨[(20000200, some 20000200), (70000201, some 70000201), (110000301, some 110000301)], _, by (simp -implicitDefEqProofs only [go_sem, h3] <;> first | done | rfl | trivial), hb _ rfl⟩
theorem M_ref19_Sink.l0.w : type_of% @M_ref19_Sink.l0.ws := @M_ref19_Sink.l0.ws
end
section
attribute [local instance] mu_96
def M_ref19_Sink (x : T_ref18_Levels) : Option (T_ref18_Levels) :=
  M_ref19_Twin_R x >>= fun r1 =>
  M_ref19_Sink.l0 (0, x, (⟨[], []⟩ : T_ref18_Levels), r1) >>= fun (o13 : Lp (T_ref18_Levels × T_ref18_Levels) (T_ref18_Levels)) => match o13 with
  | .brk s16 =>
    some s16.2
  | .ret r15 =>
    some r15
set_option maxHeartbeats 8000000 in
theorem M_ref19_Sink.w : ∀ (x : T_ref18_Levels) (r : T_ref18_Levels), M_ref19_Sink x = some r → (fun (x : T_ref18_Levels) (r : T_ref18_Levels) => Fn Try.prog 63 [.agg (T_ref18_Levels.C x)] (.agg (T_ref18_Levels.C r))) x r := by
  intro x r h
  rw [M_ref19_Sink] at h
  try dsimp only
  refine Fn.of_lc mix fn_63 lok_63 (by rfl) (flC (T_ref18_Levels.flatC _) (flN)) (T_ref18_Levels.flatC _) ?_
  simp -implicitDefEqProofs only [go_sem, Try.f63]
  obtain ⟨r1, h2, h⟩ := bind_some' h
  have hw := M_ref19_Twin_R.w x _ h2
  try simp -implicitDefEqProofs only [go_sem] at hw
  refine .res [] [] [] [] _ _ hw (by (first | rfl | simp -implicitDefEqProofs only [go_sem] <;> rfl)) (by rfl) (by rfl) (by rfl) (by rfl) (by (first | rfl | simp -implicitDefEqProofs only [go_sem] <;> rfl)) (by rfl) (by (first | rfl | simp -implicitDefEqProofs only [go_sem] <;> rfl)) (by (first | rfl | simp -implicitDefEqProofs only [go_sem] <;> rfl)) ?_
  clear hw
  try simp -implicitDefEqProofs only [go_sem]
  obtain ⟨o13, h14, h⟩ := bind_some' h
  refine LLoop.viewQ (LLoop.view [(20000200, none), (70000201, none), (110000301, some 98000001)] (by (first | rfl | simp -implicitDefEqProofs only [go_sem] <;> rfl)) (M_ref19_Sink.l0.w (0, x, (⟨[], []⟩ : T_ref18_Levels), r1) _ h14 _ _ _ ?_ ?_))
  · intro s16 hs'; subst hs'
    try simp -implicitDefEqProofs only [go_sem]
    injection h with h; subst h
    first | rfl | simp -implicitDefEqProofs only [go_sem] <;> rfl
  · intro r15 L' hs' hL'; subst hs'
    injection h with h; subst h
    first | exact hL' | (simp -implicitDefEqProofs only [go_sem]; exact hL') | (simp -implicitDefEqProofs only [go_sem]; simp -implicitDefEqProofs only [go_sem] at hL'; exact hL')
end
end Go.Proofs.Ytcfekacmmfdggaa.G
set_option linter.unusedVariables false
set_option linter.unusedSimpArgs false
set_option maxRecDepth 100000
namespace Go.Proofs.Ytcfekacmmfdggaa.G
theorem lok_24 : (Try.f24.body.isSome && !(Try.f24.name == "runtime.NumGoroutine") && okL (bodyF Try.f24) Try.f24.ntmps (bodyF Try.f24)) = true := by kernel_rfl
def M_ref20_Of.l0 (x : List T_api_Edge × Int × T_ref18_Levels) : Option (List T_api_Edge) :=
  if (decide (x.2.1 < (x.2.2.Joins.length : Int))) = true then
    (getI x.2.2.Joins x.2.1) >>= fun (e6 : T_ref18_Join) =>
    M_ref19_Need (x.2.2, e6.Home, e6.Left) >>= fun r8 =>
    M_ref19_Need (x.2.2, e6.Home, e6.Right) >>= fun r10 =>
    (room 56 x.1 ([(⟨1, [e6.Pred], (e6.Left ||| e6.Right), r8, r10⟩ : T_api_Edge)])) >>= fun (z12 : List T_api_Edge) =>
    M_ref20_Of.l0 (z12, (w64 (x.2.1 + 1)), x.2.2)
  else
    some x.1
  partial_fixpoint
theorem M_ref20_Of.l0.ws : (∀ (x : List T_api_Edge × Int × T_ref18_Levels) (o : List T_api_Edge), M_ref20_Of.l0 x = some o → (fun (x : List T_api_Edge × Int × T_ref18_Levels) (o : List T_api_Edge) => ∀ (lo : Option Nat) (c : LCtx) (Q : Exit → LEnv → Prop) (hb : ∀ s : List T_api_Edge, o = s → Q (.exit 0) ⟨[(3, .lref 3 0), (4, .own 100400 5 (s.map T_api_Edge.av))], [(3, [.v (.slice .foreign (x.2.2.Joins.map T_ref18_Join.av)), .v (.slice .foreign (x.2.2.Ops.map T_ref18_Op.av))])]⟩), LLoop Try.prog 24 lo c 0 (VQ Q) ⟨[(3, .lref 3 0), (4, .own 100400 5 (x.1.map T_api_Edge.av)), (5, .v (.i64 x.2.1))], [(3, [.v (.slice .foreign (x.2.2.Joins.map T_ref18_Join.av)), .v (.slice .foreign (x.2.2.Ops.map T_ref18_Op.av))])]⟩) x o) := by
  refine M_ref20_Of.l0.partial_correctness _ ?_
  · intro M_M_ref20_Of_l0 ih_M_ref20_Of_l0 x o h
    intro lo c Q hb
    refine LLoop.step mix fn_24 (by kernel_rfl) ?_
    simp -implicitDefEqProofs only [go_sem, Try.f24]
    by_cases h5 : (decide (x.2.1 < (x.2.2.Joins.length : Int))) = true
    · replace h := ite_some h h5
      try simp -implicitDefEqProofs only [go_sem, h5]
      obtain ⟨e6, h7, h⟩ := bind_some' h; replace h7 := getI_some h7; obtain ⟨h7', h7⟩ := h7
      try simp -implicitDefEqProofs only [go_sem, h5, h7, h7']
      obtain ⟨r8, h9, h⟩ := bind_some' h
      refine .plain _ _ rfl (M_ref19_Need.w (x.2.2, e6.Home, e6.Left) _ h9) ?_
      try simp -implicitDefEqProofs only [go_sem, h5, h7, h7']
      obtain ⟨r10, h11, h⟩ := bind_some' h
      refine .plain _ _ rfl (M_ref19_Need.w (x.2.2, e6.Home, e6.Right) _ h11) ?_
      try simp -implicitDefEqProofs only [go_sem, h5, h7, h7']
      obtain ⟨z12, h13, h⟩ := bind_some' h; replace h13 := room_some h13; obtain ⟨h13', rfl⟩ := h13
      refine LApp.map (F := T_api_Edge.av) (xs := x.1) (ys := [(⟨1, [e6.Pred], (e6.Left ||| e6.Right), r8, r10⟩ : T_api_Edge)]) t22_elem t93_size t93_bytes t93_zsize rfl T_api_Edge.len (by (first | rfl | simp -implicitDefEqProofs only [go_sem, h5, h7, h7'] <;> rfl)) (by (first | rfl | simp -implicitDefEqProofs only [go_sem, h5, h7, h7'] <;> rfl)) h13' ?_
      try simp -implicitDefEqProofs only [go_sem, h5, h7, h7']
      exact LLoop.view [(100400, some 53)] (by (first | rfl | simp -implicitDefEqProofs only [go_sem, h5, h7, h7'] <;> rfl)) (ih_M_ref20_Of_l0 _ _ h lo c Q hb)
    · replace h := ite_none h h5; replace h5 := bfalse h5
      try simp -implicitDefEqProofs only [go_sem, h5]
      injection h with h; subst h
      exact .inr ⟨[(100400, some 100400)], _, by (simp -implicitDefEqProofs only [go_sem, h5] <;> first | done | rfl | trivial), hb _ rfl⟩
theorem M_ref20_Of.l0.w : type_of% @M_ref20_Of.l0.ws := @M_ref20_Of.l0.ws
def M_ref20_Of.l1 (x : List T_api_Edge × Int × T_ref18_Levels) : Option (List T_api_Edge) :=
  if (decide (x.2.1 < (x.2.2.Ops.length : Int))) = true then
    (getI x.2.2.Ops x.2.1) >>= fun (e17 : T_ref18_Op) =>
    M_ref19_Need (x.2.2, e17.Home, e17.Left) >>= fun r19 =>
    M_ref19_Core (x.2.2, x.2.1) >>= fun r21 =>
    (room 56 x.1 ([(⟨e17.Kind, e17.Conj, (e17.Left ||| e17.Right), r19, r21⟩ : T_api_Edge)])) >>= fun (z23 : List T_api_Edge) =>
    M_ref20_Of.l1 (z23, (w64 (x.2.1 + 1)), x.2.2)
  else
    some x.1
  partial_fixpoint
theorem M_ref20_Of.l1.ws : (∀ (x : List T_api_Edge × Int × T_ref18_Levels) (o : List T_api_Edge), M_ref20_Of.l1 x = some o → (fun (x : List T_api_Edge × Int × T_ref18_Levels) (o : List T_api_Edge) => ∀ (lo : Option Nat) (c : LCtx) (Q : Exit → LEnv → Prop) (hb : ∀ s : List T_api_Edge, o = s → Q (.exit 2) ⟨[(4, .own 100400 5 (s.map T_api_Edge.av))], []⟩), LLoop Try.prog 24 lo c 1 (VQ Q) ⟨[(3, .lref 3 0), (4, .own 100400 5 (x.1.map T_api_Edge.av)), (8, .v (.i64 x.2.1))], [(3, [.v (.slice .foreign (x.2.2.Joins.map T_ref18_Join.av)), .v (.slice .foreign (x.2.2.Ops.map T_ref18_Op.av))])]⟩) x o) := by
  refine M_ref20_Of.l1.partial_correctness _ ?_
  · intro M_M_ref20_Of_l1 ih_M_ref20_Of_l1 x o h
    intro lo c Q hb
    refine LLoop.step mix fn_24 (by kernel_rfl) ?_
    simp -implicitDefEqProofs only [go_sem, Try.f24]
    by_cases h16 : (decide (x.2.1 < (x.2.2.Ops.length : Int))) = true
    · replace h := ite_some h h16
      try simp -implicitDefEqProofs only [go_sem, h16]
      obtain ⟨e17, h18, h⟩ := bind_some' h; replace h18 := getI_some h18; obtain ⟨h18', h18⟩ := h18
      try simp -implicitDefEqProofs only [go_sem, h16, h18, h18']
      obtain ⟨r19, h20, h⟩ := bind_some' h
      refine .plain _ _ rfl (M_ref19_Need.w (x.2.2, e17.Home, e17.Left) _ h20) ?_
      try simp -implicitDefEqProofs only [go_sem, h16, h18, h18']
      obtain ⟨r21, h22, h⟩ := bind_some' h
      refine .plain _ _ rfl (M_ref19_Core.w (x.2.2, x.2.1) _ h22) ?_
      try simp -implicitDefEqProofs only [go_sem, h16, h18, h18']
      obtain ⟨z23, h24, h⟩ := bind_some' h; replace h24 := room_some h24; obtain ⟨h24', rfl⟩ := h24
      refine LApp.map (F := T_api_Edge.av) (xs := x.1) (ys := [(⟨e17.Kind, e17.Conj, (e17.Left ||| e17.Right), r19, r21⟩ : T_api_Edge)]) t22_elem t93_size t93_bytes t93_zsize rfl T_api_Edge.len (by (first | rfl | simp -implicitDefEqProofs only [go_sem, h16, h18, h18'] <;> rfl)) (by (first | rfl | simp -implicitDefEqProofs only [go_sem, h16, h18, h18'] <;> rfl)) h24' ?_
      try simp -implicitDefEqProofs only [go_sem, h16, h18, h18']
      exact LLoop.view [(100400, some 90)] (by (first | rfl | simp -implicitDefEqProofs only [go_sem, h16, h18, h18'] <;> rfl)) (ih_M_ref20_Of_l1 _ _ h lo c Q hb)
    · replace h := ite_none h h16; replace h16 := bfalse h16
      try simp -implicitDefEqProofs only [go_sem, h16]
      injection h with h; subst h
      exact .inr ⟨[(100400, some 100400)], _, by (simp -implicitDefEqProofs only [go_sem, h16] <;> first | done | rfl | trivial), hb _ rfl⟩
theorem M_ref20_Of.l1.w : type_of% @M_ref20_Of.l1.ws := @M_ref20_Of.l1.ws
def M_ref20_Of (x : T_api_Tree) : Option (List T_api_Edge) :=
  M_ref18_Of x >>= fun r1 =>
  M_ref19_Sink r1 >>= fun r3 =>
  M_ref20_Of.l0 (([] : List T_api_Edge), 0, r3) >>= fun (o14 : List T_api_Edge) =>
  M_ref20_Of.l1 (o14, 0, r3) >>= fun (o25 : List T_api_Edge) =>
  some o25
set_option maxHeartbeats 8000000 in
theorem M_ref20_Of.w : ∀ (x : T_api_Tree) (r : List T_api_Edge), M_ref20_Of x = some r → (fun (x : T_api_Tree) (r : List T_api_Edge) => Fn Try.prog 24 [.agg (T_api_Tree.C x)] (.slice .foreign (r.map T_api_Edge.av))) x r := by
  intro x r h
  rw [M_ref20_Of] at h
  try dsimp only
  refine Fn.of_lc mix fn_24 lok_24 (by rfl) (flC (T_api_Tree.flatC _) (flN)) (flat_slice _ T_api_Edge.flat _) ?_
  simp -implicitDefEqProofs only [go_sem, Try.f24]
  obtain ⟨r1, h2, h⟩ := bind_some' h
  refine .plain _ _ rfl (M_ref18_Of.w x _ h2) ?_
  try simp -implicitDefEqProofs only [go_sem]
  obtain ⟨r3, h4, h⟩ := bind_some' h
  refine .plain _ _ rfl (M_ref19_Sink.w r1 _ h4) ?_
  try simp -implicitDefEqProofs only [go_sem]
  obtain ⟨o14, h15, h⟩ := bind_some' h
  refine LLoop.viewQ (LLoop.view [(100400, none)] (by (first | rfl | simp -implicitDefEqProofs only [go_sem] <;> rfl)) (M_ref20_Of.l0.w (([] : List T_api_Edge), 0, r3) _ h15 _ _ _ ?_))
  intro s' hs'; subst hs'
  try simp -implicitDefEqProofs only [go_sem]
  obtain ⟨o25, h26, h⟩ := bind_some' h
  refine LLoop.viewQ (LLoop.view [(100400, some 100400)] (by (first | rfl | simp -implicitDefEqProofs only [go_sem] <;> rfl)) (M_ref20_Of.l1.w (o14, 0, r3) _ h26 _ _ _ ?_))
  intro s' hs'; subst hs'
  try simp -implicitDefEqProofs only [go_sem]
  injection h with h; subst h
  first | rfl | simp -implicitDefEqProofs only [go_sem] <;> rfl
end Go.Proofs.Ytcfekacmmfdggaa.G
set_option linter.unusedVariables false
set_option linter.unusedSimpArgs false
set_option maxRecDepth 100000
namespace Go.Proofs.Ytcfekacmmfdggaa.G
theorem lok_40 : (Try.f40.body.isSome && !(Try.f40.name == "runtime.NumGoroutine") && okL (bodyF Try.f40) Try.f40.ntmps (bodyF Try.f40)) = true := by kernel_rfl
def M_law28_Two (x : Int) : Option (T_cost_Model) :=
  M_law10_Two 1 >>= fun r1 =>
  M_ref20_Of r1 >>= fun r3 =>
  some (⟨x, r3, (⟨[10#64, 20#64], [32768#64]⟩ : T_api_Stats)⟩ : T_cost_Model)
set_option maxHeartbeats 8000000 in
theorem M_law28_Two.w : ∀ (x : Int) (r : T_cost_Model), M_law28_Two x = some r → (fun (x : Int) (r : T_cost_Model) => Fn Try.prog 40 [.i64 x] (.agg (T_cost_Model.C r))) x r := by
  intro x r h
  rw [M_law28_Two] at h
  try dsimp only
  refine Fn.of_lc mix fn_40 lok_40 (by rfl) (flC (.atom _) (flN)) (T_cost_Model.flatC _) ?_
  simp -implicitDefEqProofs only [go_sem, Try.f40]
  obtain ⟨r1, h2, h⟩ := bind_some' h
  refine .plain _ _ rfl (M_law10_Two.w 1 _ h2) ?_
  try simp -implicitDefEqProofs only [go_sem]
  obtain ⟨r3, h4, h⟩ := bind_some' h
  refine .plain _ _ rfl (M_ref20_Of.w r1 _ h4) ?_
  try simp -implicitDefEqProofs only [go_sem]
  injection h with h; subst h
  first | rfl | simp -implicitDefEqProofs only [go_sem] <;> rfl
end Go.Proofs.Ytcfekacmmfdggaa.G
set_option linter.unusedVariables false
set_option linter.unusedSimpArgs false
set_option maxRecDepth 100000
namespace Go.Proofs.Ytcfekacmmfdggaa.G
theorem lok_105 : (Try.f105.body.isSome && !(Try.f105.name == "runtime.NumGoroutine") && okL (bodyF Try.f105) Try.f105.ntmps (bodyF Try.f105)) = true := by kernel_rfl
def M_order_by_uint64 (x : Set64 × Set64) : Option (Int) :=
  if (decide (x.1 < x.2)) = true then
    some (-1)
  else
    if (decide (x.1 > x.2)) = true then
      some 1
    else
      some 0
set_option maxHeartbeats 8000000 in
theorem M_order_by_uint64.w : ∀ (x : Set64 × Set64) (r : Int), M_order_by_uint64 x = some r → (fun (x : Set64 × Set64) (r : Int) => Fn Try.prog 105 [.w x.1, .w x.2] (.i64 r)) x r := by
  intro x r h
  rw [M_order_by_uint64] at h
  try dsimp only
  refine Fn.of_lc mix fn_105 lok_105 (by rfl) (flC (.atom _) (flC (.atom _) (flN))) (.atom _) ?_
  simp -implicitDefEqProofs only [go_sem, Try.f105]
  by_cases h1 : (decide (x.1 < x.2)) = true
  · replace h := ite_some h h1
    try simp -implicitDefEqProofs only [go_sem, h1]
    injection h with h; subst h
    first | rfl | simp -implicitDefEqProofs only [go_sem, h1] <;> rfl
  · replace h := ite_none h h1; replace h1 := bfalse h1
    try simp -implicitDefEqProofs only [go_sem, h1]
    by_cases h2 : (decide (x.1 > x.2)) = true
    · replace h := ite_some h h2
      try simp -implicitDefEqProofs only [go_sem, h1, h2]
      injection h with h; subst h
      first | rfl | simp -implicitDefEqProofs only [go_sem, h1, h2] <;> rfl
    · replace h := ite_none h h2; replace h2 := bfalse h2
      try simp -implicitDefEqProofs only [go_sem, h1, h2]
      injection h with h; subst h
      first | rfl | simp -implicitDefEqProofs only [go_sem, h1, h2] <;> rfl
end Go.Proofs.Ytcfekacmmfdggaa.G
set_option linter.unusedVariables false
set_option linter.unusedSimpArgs false
set_option maxRecDepth 100000
namespace Go.Proofs.Ytcfekacmmfdggaa.G
@[go_sem] theorem lrp_68_1 : lrp Try.prog 68 1 = (10, []) := by kernel_rfl
@[go_sem] theorem lrp_68_4 : lrp Try.prog 68 4 = (10, []) := by kernel_rfl
@[go_sem] theorem lrp_68_10 : lrp Try.prog 68 10 = (6, []) := by kernel_rfl
@[go_sem] theorem lrp_68_11 : lrp Try.prog 68 11 = (12, []) := by kernel_rfl
@[go_sem] theorem lrp_68_17 : lrp Try.prog 68 17 = (13, []) := by kernel_rfl
theorem lok_68 : (Try.f68.body.isSome && !(Try.f68.name == "runtime.NumGoroutine") && okL (bodyF Try.f68) Try.f68.ntmps (bodyF Try.f68)) = true := by kernel_rfl
mutual
def M_order_line_compare.l0 (x : Int × Int × T_order_line × T_api_Tree × T_api_Tree) : Option (Lp (Unit) (Int)) :=
  if (decide (x.2.1 < x.1)) = true then
    (getI x.2.2.2.1.Kids x.2.1) >>= fun (e22 : T_api_Tree) =>
    (getI x.2.2.2.2.Kids x.2.1) >>= fun (e24 : T_api_Tree) =>
    M_order_line_compare (x.2.2.1, e22, e24) >>= fun r26 =>
    if (r26 != 0) = true then
      some (.ret r26)
    else
      M_order_line_compare.l0 (x.1, (w64 (x.2.1 + 1)), x.2.2.1, x.2.2.2.1, x.2.2.2.2)
  else
    some (.brk ())
  partial_fixpoint
def M_order_line_compare (x : T_order_line × T_api_Tree × T_api_Tree) : Option (Int) :=
  M_cost_Model_Tree (x.1.model, x.2.1) >>= fun r1 =>
  M_cost_Model_Tree (x.1.model, x.2.2) >>= fun r3 =>
  M_order_by_uint64 (r1, r3) >>= fun r5 =>
  if (r5 != 0) = true then
    some r5
  else
    if ((x.2.1.Kids.length : Int) == 2) = true then
      if ((x.2.2.Kids.length : Int) == 2) = true then
        (x.2.1.Kids[0]?) >>= fun (e10 : T_api_Tree) =>
        M_tree_Tables e10 >>= fun r12 =>
        (x.2.2.Kids[0]?) >>= fun (e14 : T_api_Tree) =>
        M_tree_Tables e14 >>= fun r16 =>
        M_order_by_uint64 (r12, r16) >>= fun r18 =>
        if (r18 != 0) = true then
          some r18
        else
          M_order_line_compare.l0 ((x.2.1.Kids.length : Int), 0, x.1, x.2.1, x.2.2) >>= fun (o29 : Lp (Unit) (Int)) => match o29 with
          | .brk s32 =>
            some 0
          | .ret r31 =>
            some r31
      else
        some 1
    else
      if ((x.2.2.Kids.length : Int) == 2) = true then
        some (-1)
      else
        M_tree_Tables x.2.1 >>= fun r34 =>
        M_tree_Tables x.2.2 >>= fun r36 =>
        M_order_by_uint64 (r34, r36) >>= fun r38 =>
        some r38
  partial_fixpoint
end
theorem M_order_line_compare.l0.ws : (∀ (x : Int × Int × T_order_line × T_api_Tree × T_api_Tree) (o : Lp (Unit) (Int)), M_order_line_compare.l0 x = some o → (fun (x : Int × Int × T_order_line × T_api_Tree × T_api_Tree) (o : Lp (Unit) (Int)) => ∀ (lo : Option Nat) (c : LCtx) (Q : Exit → LEnv → Prop) (hb : ∀ s : Unit, o = Lp.brk s → Q (.exit 1) ⟨[], []⟩) (hr : ∀ (r : Int) (L : LEnv), o = .ret r → LPostF Try.prog [.tmp 6] (.i64 r) (fun _ => True) .ret L → Q .ret L), LLoop Try.prog 68 lo c 0 (VQ Q) ⟨[(3, .lref 3 0), (4, .lref 4 0), (5, .lref 5 0), (68, .v (.i64 x.1)), (69, .v (.i64 x.2.1))], [(3, [.v (.i64 x.2.2.1.model.Kind), .v (.slice .foreign (x.2.2.1.model.Edges.map T_api_Edge.av)), .v (.slice .foreign (x.2.2.1.model.Stats.Rows.map AV.w)), .v (.slice .foreign (x.2.2.1.model.Stats.Sel.map AV.w))]), (4, [.v (.i64 x.2.2.2.1.Kind), .v (.i64 x.2.2.2.1.Table), .v (.slice .foreign (x.2.2.2.1.Kids.map T_api_Tree.av)), .v (.slice .foreign (x.2.2.2.1.Conj.map T_api_Pred.av)), .v (.bool x.2.2.2.1.Hash)]), (5, [.v (.i64 x.2.2.2.2.Kind), .v (.i64 x.2.2.2.2.Table), .v (.slice .foreign (x.2.2.2.2.Kids.map T_api_Tree.av)), .v (.slice .foreign (x.2.2.2.2.Conj.map T_api_Pred.av)), .v (.bool x.2.2.2.2.Hash)])]⟩) x o) ∧ (∀ (x : T_order_line × T_api_Tree × T_api_Tree) (o : Int), M_order_line_compare x = some o → (fun (x : T_order_line × T_api_Tree × T_api_Tree) (r : Int) => Fn Try.prog 68 [.agg (T_order_line.C x.1), .agg (T_api_Tree.C x.2.1), .agg (T_api_Tree.C x.2.2)] (.i64 r)) x o) := by
  refine M_order_line_compare.l0.mutual_partial_correctness _ _ ?_ ?_
  · intro M_M_order_line_compare_l0 M_M_order_line_compare ih_M_order_line_compare_l0 ih_M_order_line_compare x o h
    intro lo c Q hb hr
    refine LLoop.step mix fn_68 (by kernel_rfl) ?_
    simp -implicitDefEqProofs only [go_sem, Try.f68]
    by_cases h21 : (decide (x.2.1 < x.1)) = true
    · replace h := ite_some h h21
      try simp -implicitDefEqProofs only [go_sem, h21]
      obtain ⟨e22, h23, h⟩ := bind_some' h; replace h23 := getI_some h23; obtain ⟨h23', h23⟩ := h23
      try simp -implicitDefEqProofs only [go_sem, h21, h23, h23']
      obtain ⟨e24, h25, h⟩ := bind_some' h; replace h25 := getI_some h25; obtain ⟨h25', h25⟩ := h25
      try simp -implicitDefEqProofs only [go_sem, h21, h23, h23', h25, h25']
      obtain ⟨r26, h27, h⟩ := bind_some' h
      refine .plain _ _ rfl (ih_M_order_line_compare (x.2.2.1, e22, e24) _ h27) ?_
      try simp -implicitDefEqProofs only [go_sem, h21, h23, h23', h25, h25']
      by_cases h28 : (r26 != 0) = true
      · replace h := ite_some h h28
        try simp -implicitDefEqProofs only [go_sem, h21, h23, h23', h25, h25', h28]
        injection h with h; subst h
        exact .inl (hr _ _ rfl (by (first | rfl | simp -implicitDefEqProofs only [go_sem, h21, h23, h23', h25, h25', h28] <;> rfl)))
      · replace h := ite_none h h28; replace h28 := bfalse h28
        try simp -implicitDefEqProofs only [go_sem, h21, h23, h23', h25, h25', h28]
        exact LLoop.view [] (by (first | rfl | simp -implicitDefEqProofs only [go_sem, h21, h23, h23', h25, h25', h28] <;> rfl)) (ih_M_order_line_compare_l0 _ _ h lo c Q hb hr)
    · replace h := ite_none h h21; replace h21 := bfalse h21
      try simp -implicitDefEqProofs only [go_sem, h21]
      injection h with h; subst h
      exact .inr ⟨[], _, by (simp -implicitDefEqProofs only [go_sem, h21] <;> first | done | rfl | trivial), hb _ rfl⟩
  · intro M_M_order_line_compare_l0 ih_M_order_line_compare_l0 x r h
    refine Fn.of_lc mix fn_68 lok_68 (by rfl) (flC (T_order_line.flatC _) (flC (T_api_Tree.flatC _) (flC (T_api_Tree.flatC _) (flN)))) (.atom _) ?_
    simp -implicitDefEqProofs only [go_sem, Try.f68]
    obtain ⟨r1, h2, h⟩ := bind_some' h
    refine .plain _ _ rfl (M_cost_Model_Tree.w (x.1.model, x.2.1) _ h2) ?_
    try simp -implicitDefEqProofs only [go_sem]
    obtain ⟨r3, h4, h⟩ := bind_some' h
    refine .plain _ _ rfl (M_cost_Model_Tree.w (x.1.model, x.2.2) _ h4) ?_
    try simp -implicitDefEqProofs only [go_sem]
    obtain ⟨r5, h6, h⟩ := bind_some' h
    refine .plain _ _ rfl (M_order_by_uint64.w (r1, r3) _ h6) ?_
    try simp -implicitDefEqProofs only [go_sem]
    by_cases h7 : (r5 != 0) = true
    · replace h := ite_some h h7
      try simp -implicitDefEqProofs only [go_sem, h7]
      injection h with h; subst h
      first | rfl | simp -implicitDefEqProofs only [go_sem, h7] <;> rfl
    · replace h := ite_none h h7; replace h7 := bfalse h7
      try simp -implicitDefEqProofs only [go_sem, h7]
      by_cases h8 : ((x.2.1.Kids.length : Int) == 2) = true
      · replace h := ite_some h h8
        try simp -implicitDefEqProofs only [go_sem, h7, h8]
        by_cases h9 : ((x.2.2.Kids.length : Int) == 2) = true
        · replace h := ite_some h h9
          try simp -implicitDefEqProofs only [go_sem, h7, h8, h9]
          obtain ⟨e10, h11, h⟩ := bind_some' h
          try simp -implicitDefEqProofs only [go_sem, h7, h8, h9, h11]
          obtain ⟨r12, h13, h⟩ := bind_some' h
          refine .plain _ _ rfl (M_tree_Tables.w e10 _ h13) ?_
          try simp -implicitDefEqProofs only [go_sem, h7, h8, h9, h11]
          obtain ⟨e14, h15, h⟩ := bind_some' h
          try simp -implicitDefEqProofs only [go_sem, h7, h8, h9, h11, h15]
          obtain ⟨r16, h17, h⟩ := bind_some' h
          refine .plain _ _ rfl (M_tree_Tables.w e14 _ h17) ?_
          try simp -implicitDefEqProofs only [go_sem, h7, h8, h9, h11, h15]
          obtain ⟨r18, h19, h⟩ := bind_some' h
          refine .plain _ _ rfl (M_order_by_uint64.w (r12, r16) _ h19) ?_
          try simp -implicitDefEqProofs only [go_sem, h7, h8, h9, h11, h15]
          by_cases h20 : (r18 != 0) = true
          · replace h := ite_some h h20
            try simp -implicitDefEqProofs only [go_sem, h7, h8, h9, h11, h15, h20]
            injection h with h; subst h
            first | rfl | simp -implicitDefEqProofs only [go_sem, h7, h8, h9, h11, h15, h20] <;> rfl
          · replace h := ite_none h h20; replace h20 := bfalse h20
            try simp -implicitDefEqProofs only [go_sem, h7, h8, h9, h11, h15, h20]
            obtain ⟨o29, h30, h⟩ := bind_some' h
            refine LLoop.viewQ (LLoop.view [] (by (first | rfl | simp -implicitDefEqProofs only [go_sem, h7, h8, h9, h11, h15, h20] <;> rfl)) (ih_M_order_line_compare_l0 ((x.2.1.Kids.length : Int), 0, x.1, x.2.1, x.2.2) _ h30 _ _ _ ?_ ?_))
            · intro s32 hs'; subst hs'
              try simp -implicitDefEqProofs only [go_sem, h7, h8, h9, h11, h15, h20]
              injection h with h; subst h
              first | rfl | simp -implicitDefEqProofs only [go_sem, h7, h8, h9, h11, h15, h20] <;> rfl
            · intro r31 L' hs' hL'; subst hs'
              injection h with h; subst h
              first | exact hL' | (simp -implicitDefEqProofs only [go_sem]; exact hL') | (simp -implicitDefEqProofs only [go_sem]; simp -implicitDefEqProofs only [go_sem] at hL'; exact hL')
        · replace h := ite_none h h9; replace h9 := bfalse h9
          try simp -implicitDefEqProofs only [go_sem, h7, h8, h9]
          injection h with h; subst h
          first | rfl | simp -implicitDefEqProofs only [go_sem, h7, h8, h9] <;> rfl
      · replace h := ite_none h h8; replace h8 := bfalse h8
        try simp -implicitDefEqProofs only [go_sem, h7, h8]
        by_cases h33 : ((x.2.2.Kids.length : Int) == 2) = true
        · replace h := ite_some h h33
          try simp -implicitDefEqProofs only [go_sem, h7, h8, h33]
          injection h with h; subst h
          first | rfl | simp -implicitDefEqProofs only [go_sem, h7, h8, h33] <;> rfl
        · replace h := ite_none h h33; replace h33 := bfalse h33
          try simp -implicitDefEqProofs only [go_sem, h7, h8, h33]
          obtain ⟨r34, h35, h⟩ := bind_some' h
          refine .plain _ _ rfl (M_tree_Tables.w x.2.1 _ h35) ?_
          try simp -implicitDefEqProofs only [go_sem, h7, h8, h33]
          obtain ⟨r36, h37, h⟩ := bind_some' h
          refine .plain _ _ rfl (M_tree_Tables.w x.2.2 _ h37) ?_
          try simp -implicitDefEqProofs only [go_sem, h7, h8, h33]
          obtain ⟨r38, h39, h⟩ := bind_some' h
          refine .plain _ _ rfl (M_order_by_uint64.w (r34, r36) _ h39) ?_
          try simp -implicitDefEqProofs only [go_sem, h7, h8, h33]
          injection h with h; subst h
          first | rfl | simp -implicitDefEqProofs only [go_sem, h7, h8, h33] <;> rfl
theorem M_order_line_compare.w : type_of% (M_order_line_compare.l0.ws.2) := (M_order_line_compare.l0.ws.2)
end Go.Proofs.Ytcfekacmmfdggaa.G
set_option linter.unusedVariables false
set_option linter.unusedSimpArgs false
set_option maxRecDepth 100000
namespace Go.Proofs.Ytcfekacmmfdggaa.G
theorem lok_26 : (Try.f26.body.isSome && !(Try.f26.name == "runtime.NumGoroutine") && okL (bodyF Try.f26) Try.f26.ntmps (bodyF Try.f26)) = true := by kernel_rfl
def M_order_Compare (x : T_cost_Model × T_api_Tree × T_api_Tree) : Option (Int) :=
  M_order_line_compare ((⟨x.1⟩ : T_order_line), x.2.1, x.2.2) >>= fun r1 =>
  some r1
set_option maxHeartbeats 8000000 in
theorem M_order_Compare.w : ∀ (x : T_cost_Model × T_api_Tree × T_api_Tree) (r : Int), M_order_Compare x = some r → (fun (x : T_cost_Model × T_api_Tree × T_api_Tree) (r : Int) => Fn Try.prog 26 [.agg (T_cost_Model.C x.1), .agg (T_api_Tree.C x.2.1), .agg (T_api_Tree.C x.2.2)] (.i64 r)) x r := by
  intro x r h
  rw [M_order_Compare] at h
  try dsimp only
  refine Fn.of_lc mix fn_26 lok_26 (by rfl) (flC (T_cost_Model.flatC _) (flC (T_api_Tree.flatC _) (flC (T_api_Tree.flatC _) (flN)))) (.atom _) ?_
  simp -implicitDefEqProofs only [go_sem, Try.f26]
  obtain ⟨r1, h2, h⟩ := bind_some' h
  refine .plain _ _ rfl (M_order_line_compare.w ((⟨x.1⟩ : T_order_line), x.2.1, x.2.2) _ h2) ?_
  try simp -implicitDefEqProofs only [go_sem]
  injection h with h; subst h
  first | rfl | simp -implicitDefEqProofs only [go_sem] <;> rfl
end Go.Proofs.Ytcfekacmmfdggaa.G
set_option linter.unusedVariables false
set_option linter.unusedSimpArgs false
set_option maxRecDepth 100000
namespace Go.Proofs.Ytcfekacmmfdggaa.G
@[go_sem] theorem lrp_62_6 : lrp Try.prog 62 6 = (15, []) := by kernel_rfl
theorem lok_62 : (Try.f62.body.isSome && !(Try.f62.name == "runtime.NumGoroutine") && okL (bodyF Try.f62) Try.f62.ntmps (bodyF Try.f62)) = true := by kernel_rfl
def M_order_First.l0 (x : List T_api_Tree × T_order_line × Int × Int × Int) : Option (Int) :=
  if (decide (x.2.2.2.2 < x.2.2.2.1)) = true then
    if (decide (x.2.2.1 < 0)) = true then
      M_order_First.l0 (x.1, x.2.1, x.2.2.2.2, x.2.2.2.1, (w64 (x.2.2.2.2 + 1)))
    else
      (getI x.1 x.2.2.2.2) >>= fun (e3 : T_api_Tree) =>
      (getI x.1 x.2.2.1) >>= fun (e5 : T_api_Tree) =>
      M_order_line_compare (x.2.1, e3, e5) >>= fun r7 =>
      if (decide (r7 < 0)) = true then
        M_order_First.l0 (x.1, x.2.1, x.2.2.2.2, x.2.2.2.1, (w64 (x.2.2.2.2 + 1)))
      else
        M_order_First.l0 (x.1, x.2.1, x.2.2.1, x.2.2.2.1, (w64 (x.2.2.2.2 + 1)))
  else
    some x.2.2.1
  partial_fixpoint
theorem M_order_First.l0.ws : (∀ (x : List T_api_Tree × T_order_line × Int × Int × Int) (o : Int), M_order_First.l0 x = some o → (fun (x : List T_api_Tree × T_order_line × Int × Int × Int) (o : Int) => ∀ (lo : Option Nat) (c : LCtx) (Q : Exit → LEnv → Prop) (hb : ∀ s : Int, o = s → Q (.exit 0) ⟨[(6, .v (.i64 s))], []⟩), LLoop Try.prog 62 lo c 0 (VQ Q) ⟨[(1, .v (.slice .foreign (x.1.map T_api_Tree.av))), (5, .v (.func 68 [.agg [.i64 x.2.1.model.Kind, .slice .foreign (x.2.1.model.Edges.map T_api_Edge.av), .slice .foreign (x.2.1.model.Stats.Rows.map AV.w), .slice .foreign (x.2.1.model.Stats.Sel.map AV.w)]] [])), (6, .v (.i64 x.2.2.1)), (12, .v (.i64 x.2.2.2.1)), (13, .v (.i64 x.2.2.2.2))], []⟩) x o) := by
  refine M_order_First.l0.partial_correctness _ ?_
  · intro M_M_order_First_l0 ih_M_order_First_l0 x o h
    intro lo c Q hb
    refine LLoop.step mix fn_62 (by kernel_rfl) ?_
    simp -implicitDefEqProofs only [go_sem, Try.f62]
    by_cases h1 : (decide (x.2.2.2.2 < x.2.2.2.1)) = true
    · replace h := ite_some h h1
      try simp -implicitDefEqProofs only [go_sem, h1]
      by_cases h2 : (decide (x.2.2.1 < 0)) = true
      · replace h := ite_some h h2
        try simp -implicitDefEqProofs only [go_sem, h1, h2]
        exact LLoop.view [] (by (first | rfl | simp -implicitDefEqProofs only [go_sem, h1, h2] <;> rfl)) (ih_M_order_First_l0 _ _ h lo c Q hb)
      · replace h := ite_none h h2; replace h2 := bfalse h2
        try simp -implicitDefEqProofs only [go_sem, h1, h2]
        obtain ⟨e3, h4, h⟩ := bind_some' h; replace h4 := getI_some h4; obtain ⟨h4', h4⟩ := h4
        try simp -implicitDefEqProofs only [go_sem, h1, h2, h4, h4']
        obtain ⟨e5, h6, h⟩ := bind_some' h; replace h6 := getI_some h6; obtain ⟨h6', h6⟩ := h6
        try simp -implicitDefEqProofs only [go_sem, h1, h2, h4, h4', h6, h6']
        obtain ⟨r7, h8, h⟩ := bind_some' h
        refine .plain _ _ rfl (M_order_line_compare.w (x.2.1, e3, e5) _ h8) ?_
        try simp -implicitDefEqProofs only [go_sem, h1, h2, h4, h4', h6, h6']
        by_cases h9 : (decide (r7 < 0)) = true
        · replace h := ite_some h h9
          try simp -implicitDefEqProofs only [go_sem, h1, h2, h4, h4', h6, h6', h9]
          exact LLoop.view [] (by (first | rfl | simp -implicitDefEqProofs only [go_sem, h1, h2, h4, h4', h6, h6', h9] <;> rfl)) (ih_M_order_First_l0 _ _ h lo c Q hb)
        · replace h := ite_none h h9; replace h9 := bfalse h9
          try simp -implicitDefEqProofs only [go_sem, h1, h2, h4, h4', h6, h6', h9]
          exact LLoop.view [] (by (first | rfl | simp -implicitDefEqProofs only [go_sem, h1, h2, h4, h4', h6, h6', h9] <;> rfl)) (ih_M_order_First_l0 _ _ h lo c Q hb)
    · replace h := ite_none h h1; replace h1 := bfalse h1
      try simp -implicitDefEqProofs only [go_sem, h1]
      injection h with h; subst h
      exact .inr ⟨[], _, by (simp -implicitDefEqProofs only [go_sem, h1] <;> first | done | rfl | trivial), hb _ rfl⟩
theorem M_order_First.l0.w : type_of% @M_order_First.l0.ws := @M_order_First.l0.ws
def M_order_First (x : T_cost_Model × List T_api_Tree) : Option (Int) :=
  M_order_First.l0 (x.2, (⟨x.1⟩ : T_order_line), -1, (x.2.length : Int), 0) >>= fun (o10 : Int) =>
  some o10
set_option maxHeartbeats 8000000 in
theorem M_order_First.w : ∀ (x : T_cost_Model × List T_api_Tree) (r : Int), M_order_First x = some r → (fun (x : T_cost_Model × List T_api_Tree) (r : Int) => Fn Try.prog 62 [.agg (T_cost_Model.C x.1), .slice .foreign (x.2.map T_api_Tree.av)] (.i64 r)) x r := by
  intro x r h
  rw [M_order_First] at h
  try dsimp only
  refine Fn.of_lc mix fn_62 lok_62 (by rfl) (flC (T_cost_Model.flatC _) (flC (flat_slice _ T_api_Tree.flat _) (flN))) (.atom _) ?_
  simp -implicitDefEqProofs only [go_sem, Try.f62]
  obtain ⟨o10, h11, h⟩ := bind_some' h
  refine LLoop.viewQ (LLoop.view [] (by (first | rfl | simp -implicitDefEqProofs only [go_sem] <;> rfl)) (M_order_First.l0.w (x.2, (⟨x.1⟩ : T_order_line), -1, (x.2.length : Int), 0) _ h11 _ _ _ ?_))
  intro s' hs'; subst hs'
  try simp -implicitDefEqProofs only [go_sem]
  injection h with h; subst h
  first | rfl | simp -implicitDefEqProofs only [go_sem] <;> rfl
end Go.Proofs.Ytcfekacmmfdggaa.G
set_option linter.unusedVariables false
set_option linter.unusedSimpArgs false
set_option maxRecDepth 100000
namespace Go.Proofs.Ytcfekacmmfdggaa.G
@[go_sem] theorem lrp_23_4 : lrp Try.prog 23 4 = (44, []) := by kernel_rfl
theorem lok_23 : (Try.f23.body.isSome && !(Try.f23.name == "runtime.NumGoroutine") && okL (bodyF Try.f23) Try.f23.ntmps (bodyF Try.f23)) = true := by kernel_rfl
def M_law29_awake (x : Unit) : Option (Bool) :=
  M_law10_Two 1 >>= fun r1 =>
  M_ref10_LeafOf 1 >>= fun r3 =>
  M_ref10_LeafOf 0 >>= fun r5 =>
  M_law06_Equal (0, 1) >>= fun r7 =>
  M_ref10_On (1, r3, r5, [r7]) >>= fun r9 =>
  M_law28_Two 1 >>= fun r11 =>
  M_order_Compare (r11, r1, r9) >>= fun r13 =>
  if (r13 == (-1)) = true then
    M_order_Compare (r11, r9, r1) >>= fun r16 =>
    if (r16 == 1) = true then
      M_order_Compare (r11, r1, r1) >>= fun r19 =>
      if (r19 == 0) = true then
        M_order_First (r11, [r9, r1, r1]) >>= fun r22 =>
        if (r22 == 1) = true then
          M_order_First (r11, ([] : List T_api_Tree)) >>= fun r25 =>
          if (r25 == (-1)) = true then
            (r1.Kids[0]?) >>= fun (e28 : T_api_Tree) =>
            M_order_Compare (r11, e28, r1) >>= fun r30 =>
            some (r30 == (-1))
          else
            some false
        else
          some false
      else
        some false
    else
      some false
  else
    some false
set_option maxHeartbeats 8000000 in
theorem M_law29_awake.w : ∀ (x : Unit) (r : Bool), M_law29_awake x = some r → (fun (x : Unit) (r : Bool) => Fn Try.prog 23 [] (.bool r)) x r := by
  intro x r h
  rw [M_law29_awake] at h
  try dsimp only
  refine Fn.of_lc mix fn_23 lok_23 (by rfl) (flN) (.atom _) ?_
  simp -implicitDefEqProofs only [go_sem, Try.f23]
  obtain ⟨r1, h2, h⟩ := bind_some' h
  refine .plain _ _ rfl (M_law10_Two.w 1 _ h2) ?_
  try simp -implicitDefEqProofs only [go_sem]
  obtain ⟨r3, h4, h⟩ := bind_some' h
  refine .plain _ _ rfl (M_ref10_LeafOf.w 1 _ h4) ?_
  try simp -implicitDefEqProofs only [go_sem]
  obtain ⟨r5, h6, h⟩ := bind_some' h
  refine .plain _ _ rfl (M_ref10_LeafOf.w 0 _ h6) ?_
  try simp -implicitDefEqProofs only [go_sem]
  obtain ⟨r7, h8, h⟩ := bind_some' h
  refine .plain _ _ rfl (M_law06_Equal.w (0, 1) _ h8) ?_
  try simp -implicitDefEqProofs only [go_sem]
  obtain ⟨r9, h10, h⟩ := bind_some' h
  have hw := M_ref10_On.w (1, r3, r5, [r7]) _ h10
  simp -implicitDefEqProofs only [go_sem] at hw
  refine .plain _ _ rfl hw ?_
  clear hw
  try simp -implicitDefEqProofs only [go_sem]
  obtain ⟨r11, h12, h⟩ := bind_some' h
  refine .plain _ _ rfl (M_law28_Two.w 1 _ h12) ?_
  try simp -implicitDefEqProofs only [go_sem]
  obtain ⟨r13, h14, h⟩ := bind_some' h
  refine .plain _ _ rfl (M_order_Compare.w (r11, r1, r9) _ h14) ?_
  try simp -implicitDefEqProofs only [go_sem]
  by_cases h15 : (r13 == (-1)) = true
  · replace h := ite_some h h15
    try simp -implicitDefEqProofs only [go_sem, h15]
    obtain ⟨r16, h17, h⟩ := bind_some' h
    refine .plain _ _ rfl (M_order_Compare.w (r11, r9, r1) _ h17) ?_
    try simp -implicitDefEqProofs only [go_sem, h15]
    by_cases h18 : (r16 == 1) = true
    · replace h := ite_some h h18
      try simp -implicitDefEqProofs only [go_sem, h15, h18]
      obtain ⟨r19, h20, h⟩ := bind_some' h
      refine .plain _ _ rfl (M_order_Compare.w (r11, r1, r1) _ h20) ?_
      try simp -implicitDefEqProofs only [go_sem, h15, h18]
      by_cases h21 : (r19 == 0) = true
      · replace h := ite_some h h21
        try simp -implicitDefEqProofs only [go_sem, h15, h18, h21]
        obtain ⟨r22, h23, h⟩ := bind_some' h
        have hw := M_order_First.w (r11, [r9, r1, r1]) _ h23
        simp -implicitDefEqProofs only [go_sem] at hw
        refine .plain _ _ rfl hw ?_
        clear hw
        try simp -implicitDefEqProofs only [go_sem, h15, h18, h21]
        by_cases h24 : (r22 == 1) = true
        · replace h := ite_some h h24
          try simp -implicitDefEqProofs only [go_sem, h15, h18, h21, h24]
          obtain ⟨r25, h26, h⟩ := bind_some' h
          refine .plain _ _ rfl (M_order_First.w (r11, ([] : List T_api_Tree)) _ h26) ?_
          try simp -implicitDefEqProofs only [go_sem, h15, h18, h21, h24]
          by_cases h27 : (r25 == (-1)) = true
          · replace h := ite_some h h27
            try simp -implicitDefEqProofs only [go_sem, h15, h18, h21, h24, h27]
            obtain ⟨e28, h29, h⟩ := bind_some' h
            try simp -implicitDefEqProofs only [go_sem, h15, h18, h21, h24, h27, h29]
            obtain ⟨r30, h31, h⟩ := bind_some' h
            refine .plain _ _ rfl (M_order_Compare.w (r11, e28, r1) _ h31) ?_
            try simp -implicitDefEqProofs only [go_sem, h15, h18, h21, h24, h27, h29]
            injection h with h; subst h
            first | rfl | simp -implicitDefEqProofs only [go_sem, h15, h18, h21, h24, h27, h29] <;> rfl
          · replace h := ite_none h h27; replace h27 := bfalse h27
            try simp -implicitDefEqProofs only [go_sem, h15, h18, h21, h24, h27]
            injection h with h; subst h
            first | rfl | simp -implicitDefEqProofs only [go_sem, h15, h18, h21, h24, h27] <;> rfl
        · replace h := ite_none h h24; replace h24 := bfalse h24
          try simp -implicitDefEqProofs only [go_sem, h15, h18, h21, h24]
          injection h with h; subst h
          first | rfl | simp -implicitDefEqProofs only [go_sem, h15, h18, h21, h24] <;> rfl
      · replace h := ite_none h h21; replace h21 := bfalse h21
        try simp -implicitDefEqProofs only [go_sem, h15, h18, h21]
        injection h with h; subst h
        first | rfl | simp -implicitDefEqProofs only [go_sem, h15, h18, h21] <;> rfl
    · replace h := ite_none h h18; replace h18 := bfalse h18
      try simp -implicitDefEqProofs only [go_sem, h15, h18]
      injection h with h; subst h
      first | rfl | simp -implicitDefEqProofs only [go_sem, h15, h18] <;> rfl
  · replace h := ite_none h h15; replace h15 := bfalse h15
    try simp -implicitDefEqProofs only [go_sem, h15]
    injection h with h; subst h
    first | rfl | simp -implicitDefEqProofs only [go_sem, h15] <;> rfl
end Go.Proofs.Ytcfekacmmfdggaa.G
set_option linter.unusedVariables false
set_option linter.unusedSimpArgs false
set_option maxRecDepth 100000
namespace Go.Proofs.Ytcfekacmmfdggaa.G
theorem lok_9 : (Try.f9.body.isSome && !(Try.f9.name == "runtime.NumGoroutine") && okL (bodyF Try.f9) Try.f9.ntmps (bodyF Try.f9)) = true := by kernel_rfl
def M_law28_Few (x : T_cost_Model) : Option (Bool) :=
  if (decide ((x.Edges.length : Int) ≤ 60)) = true then
    if (decide ((x.Stats.Rows.length : Int) ≤ 100)) = true then
      some (decide ((x.Stats.Sel.length : Int) ≤ 100))
    else
      some false
  else
    some false
set_option maxHeartbeats 8000000 in
theorem M_law28_Few.w : ∀ (x : T_cost_Model) (r : Bool), M_law28_Few x = some r → (fun (x : T_cost_Model) (r : Bool) => Fn Try.prog 9 [.agg (T_cost_Model.C x)] (.bool r)) x r := by
  intro x r h
  rw [M_law28_Few] at h
  try dsimp only
  refine Fn.of_lc mix fn_9 lok_9 (by rfl) (flC (T_cost_Model.flatC _) (flN)) (.atom _) ?_
  simp -implicitDefEqProofs only [go_sem, Try.f9]
  by_cases h1 : (decide ((x.Edges.length : Int) ≤ 60)) = true
  · replace h := ite_some h h1
    try simp -implicitDefEqProofs only [go_sem, h1]
    by_cases h2 : (decide ((x.Stats.Rows.length : Int) ≤ 100)) = true
    · replace h := ite_some h h2
      try simp -implicitDefEqProofs only [go_sem, h1, h2]
      injection h with h; subst h
      first | rfl | simp -implicitDefEqProofs only [go_sem, h1, h2] <;> rfl
    · replace h := ite_none h h2; replace h2 := bfalse h2
      try simp -implicitDefEqProofs only [go_sem, h1, h2]
      injection h with h; subst h
      first | rfl | simp -implicitDefEqProofs only [go_sem, h1, h2] <;> rfl
  · replace h := ite_none h h1; replace h1 := bfalse h1
    try simp -implicitDefEqProofs only [go_sem, h1]
    injection h with h; subst h
    first | rfl | simp -implicitDefEqProofs only [go_sem, h1] <;> rfl
end Go.Proofs.Ytcfekacmmfdggaa.G
set_option linter.unusedVariables false
set_option linter.unusedSimpArgs false
set_option maxRecDepth 100000
namespace Go.Proofs.Ytcfekacmmfdggaa.G
theorem lok_27 : (Try.f27.body.isSome && !(Try.f27.name == "runtime.NumGoroutine") && okL (bodyF Try.f27) Try.f27.ntmps (bodyF Try.f27)) = true := by kernel_rfl
def M_law29_light.l0 (x : List T_api_Tree × Int × T_cost_Model) : Option (Lp (Unit) (Bool)) :=
  if (decide (x.2.1 < (x.1.length : Int))) = true then
    if (decide (x.2.1 < 20)) = true then
      (getI x.1 x.2.1) >>= fun (e3 : T_api_Tree) =>
      M_ref10_Size (e3, 101) >>= fun r5 =>
      if (decide (r5 > 100)) = true then
        some (.ret false)
      else
        M_law29_light.l0 (x.1, (w64 (x.2.1 + 1)), x.2.2)
    else
      some (.brk ())
  else
    some (.brk ())
  partial_fixpoint
theorem M_law29_light.l0.ws : (∀ (x : List T_api_Tree × Int × T_cost_Model) (o : Lp (Unit) (Bool)), M_law29_light.l0 x = some o → (fun (x : List T_api_Tree × Int × T_cost_Model) (o : Lp (Unit) (Bool)) => ∀ (lo : Option Nat) (c : LCtx) (Q : Exit → LEnv → Prop) (hb : ∀ s : Unit, o = Lp.brk s → Q (.exit 0) ⟨[(1, .v (.slice .foreign (x.1.map T_api_Tree.av))), (2, .lref 2 0)], [(2, [.v (.i64 x.2.2.Kind), .v (.slice .foreign (x.2.2.Edges.map T_api_Edge.av)), .v (.slice .foreign (x.2.2.Stats.Rows.map AV.w)), .v (.slice .foreign (x.2.2.Stats.Sel.map AV.w))])]⟩) (hr : ∀ (r : Bool) (L : LEnv), o = .ret r → LPostF Try.prog [.tmp 4] (.bool r) (fun _ => True) .ret L → Q .ret L), LLoop Try.prog 27 lo c 0 (VQ Q) ⟨[(1, .v (.slice .foreign (x.1.map T_api_Tree.av))), (2, .lref 2 0), (5, .v (.i64 x.2.1))], [(2, [.v (.i64 x.2.2.Kind), .v (.slice .foreign (x.2.2.Edges.map T_api_Edge.av)), .v (.slice .foreign (x.2.2.Stats.Rows.map AV.w)), .v (.slice .foreign (x.2.2.Stats.Sel.map AV.w))])]⟩) x o) := by
  refine M_law29_light.l0.partial_correctness _ ?_
  · intro M_M_law29_light_l0 ih_M_law29_light_l0 x o h
    intro lo c Q hb hr
    refine LLoop.step mix fn_27 (by kernel_rfl) ?_
    simp -implicitDefEqProofs only [go_sem, Try.f27]
    by_cases h1 : (decide (x.2.1 < (x.1.length : Int))) = true
    · replace h := ite_some h h1
      try simp -implicitDefEqProofs only [go_sem, h1]
      by_cases h2 : (decide (x.2.1 < 20)) = true
      · replace h := ite_some h h2
        try simp -implicitDefEqProofs only [go_sem, h1, h2]
        obtain ⟨e3, h4, h⟩ := bind_some' h; replace h4 := getI_some h4; obtain ⟨h4', h4⟩ := h4
        try simp -implicitDefEqProofs only [go_sem, h1, h2, h4, h4']
        obtain ⟨r5, h6, h⟩ := bind_some' h
        refine .plain _ _ rfl (M_ref10_Size.w (e3, 101) _ h6) ?_
        try simp -implicitDefEqProofs only [go_sem, h1, h2, h4, h4']
        by_cases h7 : (decide (r5 > 100)) = true
        · replace h := ite_some h h7
          try simp -implicitDefEqProofs only [go_sem, h1, h2, h4, h4', h7]
          injection h with h; subst h
          exact .inl (hr _ _ rfl (by (first | rfl | simp -implicitDefEqProofs only [go_sem, h1, h2, h4, h4', h7] <;> rfl)))
        · replace h := ite_none h h7; replace h7 := bfalse h7
          try simp -implicitDefEqProofs only [go_sem, h1, h2, h4, h4', h7]
          exact LLoop.view [] (by (first | rfl | simp -implicitDefEqProofs only [go_sem, h1, h2, h4, h4', h7] <;> rfl)) (ih_M_law29_light_l0 _ _ h lo c Q hb hr)
      · replace h := ite_none h h2; replace h2 := bfalse h2
        try simp -implicitDefEqProofs only [go_sem, h1, h2]
        injection h with h; subst h
        exact .inr ⟨[], _, by (simp -implicitDefEqProofs only [go_sem, h1, h2] <;> first | done | rfl | trivial), hb _ rfl⟩
    · replace h := ite_none h h1; replace h1 := bfalse h1
      try simp -implicitDefEqProofs only [go_sem, h1]
      injection h with h; subst h
      exact .inr ⟨[], _, by (simp -implicitDefEqProofs only [go_sem, h1] <;> first | done | rfl | trivial), hb _ rfl⟩
theorem M_law29_light.l0.w : type_of% @M_law29_light.l0.ws := @M_law29_light.l0.ws
def M_law29_light (x : T_cost_Model × List T_api_Tree) : Option (Bool) :=
  M_law29_light.l0 (x.2, 0, x.1) >>= fun (o8 : Lp (Unit) (Bool)) => match o8 with
  | .brk s11 =>
    M_law28_Few x.1 >>= fun r12 =>
    if r12 = true then
      some (decide ((x.2.length : Int) ≤ 8))
    else
      some false
  | .ret r10 =>
    some r10
set_option maxHeartbeats 8000000 in
theorem M_law29_light.w : ∀ (x : T_cost_Model × List T_api_Tree) (r : Bool), M_law29_light x = some r → (fun (x : T_cost_Model × List T_api_Tree) (r : Bool) => Fn Try.prog 27 [.agg (T_cost_Model.C x.1), .slice .foreign (x.2.map T_api_Tree.av)] (.bool r)) x r := by
  intro x r h
  rw [M_law29_light] at h
  try dsimp only
  refine Fn.of_lc mix fn_27 lok_27 (by rfl) (flC (T_cost_Model.flatC _) (flC (flat_slice _ T_api_Tree.flat _) (flN))) (.atom _) ?_
  simp -implicitDefEqProofs only [go_sem, Try.f27]
  obtain ⟨o8, h9, h⟩ := bind_some' h
  refine LLoop.viewQ (LLoop.view [] (by (first | rfl | simp -implicitDefEqProofs only [go_sem] <;> rfl)) (M_law29_light.l0.w (x.2, 0, x.1) _ h9 _ _ _ ?_ ?_))
  · intro s11 hs'; subst hs'
    try simp -implicitDefEqProofs only [go_sem]
    obtain ⟨r12, h13, h⟩ := bind_some' h
    refine .plain _ _ rfl (M_law28_Few.w x.1 _ h13) ?_
    try simp -implicitDefEqProofs only [go_sem]
    by_cases h14 : r12 = true
    · replace h := ite_some h h14
      try simp -implicitDefEqProofs only [go_sem, h14]
      injection h with h; subst h
      first | rfl | simp -implicitDefEqProofs only [go_sem, h14] <;> rfl
    · replace h := ite_none h h14; replace h14 := bfalse h14
      try simp -implicitDefEqProofs only [go_sem, h14]
      injection h with h; subst h
      first | rfl | simp -implicitDefEqProofs only [go_sem, h14] <;> rfl
  · intro r10 L' hs' hL'; subst hs'
    injection h with h; subst h
    first | exact hL' | (simp -implicitDefEqProofs only [go_sem]; exact hL') | (simp -implicitDefEqProofs only [go_sem]; simp -implicitDefEqProofs only [go_sem] at hL'; exact hL')
end Go.Proofs.Ytcfekacmmfdggaa.G
set_option linter.unusedVariables false
set_option linter.unusedSimpArgs false
namespace Go.Proofs.Ytcfekacmmfdggaa.G

def by64 (a b : Set64) : Int := if a.toNat < b.toNat then -1 else if b.toNat < a.toNat then 1 else 0
def lex (c d : Int) : Int := if c = 0 then d else c
theorem order_by_eq (a b : Set64) : M_order_by_uint64 (a, b) = some (by64 a b) := by
  unfold M_order_by_uint64 by64
  dsimp only
  by_cases h1 : a < b
  · have h2 : a.toNat < b.toNat := h1
    rw [if_pos (by simpa using h1), if_pos h2]
  · have h2 : ¬ a.toNat < b.toNat := h1
    rw [if_neg (by simpa using h1), if_neg h2]
    by_cases h3 : a > b
    · have h4 : b.toNat < a.toNat := h3
      rw [if_pos (by simpa using h3), if_pos h4]
    · have h4 : ¬ b.toNat < a.toNat := h3
      rw [if_neg (by simpa using h3), if_neg h4]
abbrev CostF := Set64 → Set64 → List T_api_Pred → Set64
/-- Which of two trees comes first. -/
def cmpS (f : CostF) : T_api_Tree → T_api_Tree → Int
  | ⟨k, t, [x, y], c, h⟩, b => lex (by64 (costS f ⟨k, t, [x, y], c, h⟩) (costS f b)) (match b.Kids with
    | [u, v] => lex (by64 (tabs x) (tabs u)) (lex (cmpS f x u) (cmpS f y v))
    | _ => 1)
  | a, b => lex (by64 (costS f a) (costS f b)) (if b.Kids.length = 2 then -1 else by64 (tabs a) (tabs b))
theorem cmpS_22 (f : CostF) {a b x y u v : T_api_Tree} (ha : a.Kids = [x, y]) (hb : b.Kids = [u, v]) : cmpS f a b = lex (by64 (costS f a) (costS f b)) (lex (by64 (tabs x) (tabs u)) (lex (cmpS f x u) (cmpS f y v))) := by
  obtain ⟨a1, a2, ks, a3, a4⟩ := a
  dsimp only at ha
  subst ha
  rw [cmpS, hb]
theorem cmpS_2n (f : CostF) {a b x y : T_api_Tree} (ha : a.Kids = [x, y]) (hb : b.Kids.length ≠ 2) : cmpS f a b = lex (by64 (costS f a) (costS f b)) 1 := by
  obtain ⟨a1, a2, ks, a3, a4⟩ := a
  dsimp only at ha
  subst ha
  rw [cmpS]
  congr 1
  split
  · rename_i h; rw [h] at hb; simp at hb
  · rfl
theorem cmpS_n (f : CostF) {a b : T_api_Tree} (ha : a.Kids.length ≠ 2) : cmpS f a b = lex (by64 (costS f a) (costS f b)) (if b.Kids.length = 2 then -1 else by64 (tabs a) (tabs b)) := by
  obtain ⟨a1, a2, ks, a3, a4⟩ := a
  dsimp only at ha
  rw [cmpS]
  rintro a' b' x y c' d' e
  injection e with _ _ e
  subst e
  simp at ha
/-- How three comparisons stand to each other. -/
def Tri (p q r : Int) : Prop := (p ≤ 0 → q ≤ 0 → r ≤ 0 ∧ (p < 0 ∨ q < 0 → r < 0)) ∧ (0 ≤ p → 0 ≤ q → 0 ≤ r ∧ (0 < p ∨ 0 < q → 0 < r))
theorem Tri.lex {p q r p' q' r' : Int} (h : Tri p q r) (k : Tri p' q' r') : Tri (lex p p') (lex q q') (lex r r') := by
  unfold Tri G.lex at *
  split <;> split <;> split <;> omega
theorem tri_by (a b c : Set64) : Tri (by64 a b) (by64 b c) (by64 a c) := by
  unfold Tri by64
  split <;> split <;> split <;> (try split) <;> (try split) <;> (try split) <;> omega
theorem by_anti (a b : Set64) : by64 b a = - by64 a b := by
  unfold by64
  split <;> split <;> (try split) <;> omega
theorem lex_anti {c d c' d' : Int} (h : c' = - c) (k : d' = - d) : lex c' d' = - lex c d := by
  unfold lex
  split <;> split <;> omega
theorem cmp_anti (f : CostF) : ∀ (n : Nat) (a b : T_api_Tree), a.size ≤ n → b.size ≤ n → cmpS f b a = - cmpS f a b := by
  intro n
  induction n with
  | zero => intro a b h; have := tsize_pos a; omega
  | succ n ih =>
    intro a b h1 h2
    by_cases ha : a.Kids.length = 2
    · obtain ⟨x, y, hx⟩ := two_kids ha
      by_cases hb : b.Kids.length = 2
      · obtain ⟨u, v, hu⟩ := two_kids hb
        have e1 := kid_size (t := a) (y := x) (by rw [hx]; simp)
        have e2 := kid_size (t := a) (y := y) (by rw [hx]; simp)
        have e3 := kid_size (t := b) (y := u) (by rw [hu]; simp)
        have e4 := kid_size (t := b) (y := v) (by rw [hu]; simp)
        rw [cmpS_22 f hx hu, cmpS_22 f hu hx]
        exact lex_anti (by_anti _ _) (lex_anti (by_anti _ _) (lex_anti (ih _ _ (by omega) (by omega)) (ih _ _ (by omega) (by omega))))
      · rw [cmpS_2n f hx hb, cmpS_n f hb, if_pos ha]
        exact lex_anti (by_anti _ _) rfl
    · by_cases hb : b.Kids.length = 2
      · obtain ⟨u, v, hu⟩ := two_kids hb
        rw [cmpS_2n f hu ha, cmpS_n f ha, if_pos hb]
        exact lex_anti (by_anti _ _) rfl
      · rw [cmpS_n f ha, cmpS_n f hb, if_neg ha, if_neg hb]
        exact lex_anti (by_anti _ _) (by_anti _ _)
theorem cmp_tri (f : CostF) : ∀ (n : Nat) (a b c : T_api_Tree), a.size ≤ n → b.size ≤ n → c.size ≤ n → Tri (cmpS f a b) (cmpS f b c) (cmpS f a c) := by
  intro n
  induction n with
  | zero => intro a b c h; have := tsize_pos a; omega
  | succ n ih =>
    intro a b c h1 h2 h3
    by_cases ha : a.Kids.length = 2
    · obtain ⟨x, y, hx⟩ := two_kids ha
      by_cases hb : b.Kids.length = 2
      · obtain ⟨u, v, hu⟩ := two_kids hb
        by_cases hc : c.Kids.length = 2
        · obtain ⟨w, z, hw⟩ := two_kids hc
          have e1 := kid_size (t := a) (y := x) (by rw [hx]; simp)
          have e2 := kid_size (t := a) (y := y) (by rw [hx]; simp)
          have e3 := kid_size (t := b) (y := u) (by rw [hu]; simp)
          have e4 := kid_size (t := b) (y := v) (by rw [hu]; simp)
          have e5 := kid_size (t := c) (y := w) (by rw [hw]; simp)
          have e6 := kid_size (t := c) (y := z) (by rw [hw]; simp)
          rw [cmpS_22 f hx hu, cmpS_22 f hu hw, cmpS_22 f hx hw]
          exact (tri_by _ _ _).lex ((tri_by _ _ _).lex ((ih _ _ _ (by omega) (by omega) (by omega)).lex (ih _ _ _ (by omega) (by omega) (by omega))))
        · rw [cmpS_22 f hx hu, cmpS_2n f hu hc, cmpS_2n f hx hc]
          refine (tri_by _ _ _).lex ?_
          unfold Tri; omega
      · by_cases hc : c.Kids.length = 2
        · obtain ⟨w, z, hw⟩ := two_kids hc
          rw [cmpS_2n f hx hb, cmpS_n f hb, if_pos hc, cmpS_22 f hx hw]
          refine (tri_by _ _ _).lex ?_
          unfold Tri; omega
        · rw [cmpS_2n f hx hb, cmpS_n f hb, if_neg hc, cmpS_2n f hx hc]
          refine (tri_by _ _ _).lex ?_
          unfold Tri; omega
    · by_cases hb : b.Kids.length = 2
      · obtain ⟨u, v, hu⟩ := two_kids hb
        by_cases hc : c.Kids.length = 2
        · obtain ⟨w, z, hw⟩ := two_kids hc
          rw [cmpS_n f ha, if_pos hb, cmpS_22 f hu hw, cmpS_n f ha, if_pos hc]
          refine (tri_by _ _ _).lex ?_
          unfold Tri; omega
        · rw [cmpS_n f ha, if_pos hb, cmpS_2n f hu hc, cmpS_n f ha, if_neg hc]
          refine (tri_by _ _ _).lex ?_
          unfold Tri; omega
      · by_cases hc : c.Kids.length = 2
        · rw [cmpS_n f ha, if_neg hb, cmpS_n f hb, if_pos hc, cmpS_n f ha, if_pos hc]
          refine (tri_by _ _ _).lex ?_
          unfold Tri; omega
        · rw [cmpS_n f ha, if_neg hb, cmpS_n f hb, if_neg hc, cmpS_n f ha, if_neg hc]
          exact (tri_by _ _ _).lex (tri_by _ _ _)

theorem order_compare_eq (m : T_cost_Model) (hE : m.Edges.length < 9223372036854775808) : ∀ (n : Nat), n ≤ 1000000000 → ∀ (a b : T_api_Tree), a.size ≤ n → b.size ≤ n → M_order_line_compare ((⟨m⟩ : T_order_line), a, b) = some (cmpS (nodeS m.Kind m.Edges m.Stats) a b) := by
  intro n
  induction n with
  | zero => intro _ a b h; have := tsize_pos a; omega
  | succ n ih =>
    intro hn a b h1 h2
    have ih := ih (by omega)
    rw [M_order_line_compare]
    dsimp only
    rw [cost_Tree_eq m hE a (by omega), cost_Tree_eq m hE b (by omega)]
    generalize hf : nodeS m.Kind m.Edges m.Stats = f at *
    simp -implicitDefEqProofs only [Option.bind_eq_bind, Option.bind_some, order_by_eq]
    by_cases hc : by64 (costS f a) (costS f b) = 0
    · rw [if_neg (by simp [hc])]
      by_cases ha : a.Kids.length = 2
      · obtain ⟨x, y, hx⟩ := two_kids ha
        rw [if_pos (by simp [ha])]
        by_cases hb : b.Kids.length = 2
        · obtain ⟨u, v, hu⟩ := two_kids hb
          rw [if_pos (by simp [hb]), cmpS_22 f hx hu]
          have e1 := kid_size (t := a) (y := x) (by rw [hx]; simp)
          have e2 := kid_size (t := a) (y := y) (by rw [hx]; simp)
          have e3 := kid_size (t := b) (y := u) (by rw [hu]; simp)
          have e4 := kid_size (t := b) (y := v) (by rw [hu]; simp)
          have x0 : a.Kids[0]? = some x := by rw [hx]; rfl
          have u0 : b.Kids[0]? = some u := by rw [hu]; rfl
          have gx : getI a.Kids 0 = some x := by rw [hx]; rfl
          have gu : getI b.Kids 0 = some u := by rw [hu]; rfl
          have gy : getI a.Kids 1 = some y := by rw [hx]; rfl
          have gv : getI b.Kids 1 = some v := by rw [hu]; rfl
          rw [x0, u0]
          simp -implicitDefEqProofs only [Option.bind_some]
          rw [tree_Tables_eq x (by omega), tree_Tables_eq u (by omega)]
          simp -implicitDefEqProofs only [Option.bind_some]
          have hl0 : lex (by64 (costS f a) (costS f b)) (lex (by64 (tabs x) (tabs u)) (lex (cmpS f x u) (cmpS f y v))) = lex (by64 (tabs x) (tabs u)) (lex (cmpS f x u) (cmpS f y v)) := by unfold lex; rw [if_pos hc]
          rw [hl0]
          by_cases ht : by64 (tabs x) (tabs u) = 0
          · have hl1 : lex (by64 (tabs x) (tabs u)) (lex (cmpS f x u) (cmpS f y v)) = lex (cmpS f x u) (cmpS f y v) := by unfold lex; rw [if_pos ht]
            rw [if_neg (by simp [ht]), hl1]
            have hal : (a.Kids.length : Int) = 2 := by omega
            rw [hal]
            have i1 := ih x u (by omega) (by omega)
            have i2 := ih y v (by omega) (by omega)
            have l2 : M_order_line_compare.l0 (2, 2, (⟨m⟩ : T_order_line), a, b) = some (.brk ()) := by
              rw [M_order_line_compare.l0, if_neg (by simp)]
            have l1 : M_order_line_compare.l0 (2, 1, (⟨m⟩ : T_order_line), a, b) = some (if cmpS f y v = 0 then .brk () else .ret (cmpS f y v)) := by
              rw [M_order_line_compare.l0, if_pos (by simp)]
              dsimp only
              rw [gy, gv]
              simp -implicitDefEqProofs only [Option.bind_eq_bind, Option.bind_some]
              rw [i2]
              simp -implicitDefEqProofs only [Option.bind_some]
              have : w64 (1 + 1) = 2 := by decide
              rw [this, l2]
              by_cases h0 : cmpS f y v = 0
              · rw [if_neg (by simp [h0]), if_pos h0]
              · rw [if_pos (by simp [h0]), if_neg h0]
            have l0 : M_order_line_compare.l0 (2, 0, (⟨m⟩ : T_order_line), a, b) = some (if lex (cmpS f x u) (cmpS f y v) = 0 then .brk () else .ret (lex (cmpS f x u) (cmpS f y v))) := by
              rw [M_order_line_compare.l0, if_pos (by simp)]
              dsimp only
              rw [gx, gu]
              simp -implicitDefEqProofs only [Option.bind_eq_bind, Option.bind_some]
              rw [i1]
              simp -implicitDefEqProofs only [Option.bind_some]
              have : w64 (0 + 1) = 1 := by decide
              rw [this, l1]
              unfold lex
              by_cases h0 : cmpS f x u = 0
              · rw [if_neg (by simp [h0]), if_pos h0]
              · rw [if_pos (by simp [h0]), if_neg h0, if_neg h0]
            rw [l0]
            simp -implicitDefEqProofs only [Option.bind_some]
            by_cases h0 : lex (cmpS f x u) (cmpS f y v) = 0
            · rw [if_pos h0, h0]
            · rw [if_neg h0]
          · rw [if_pos (by simp [ht])]
            unfold lex
            rw [if_neg ht]
        · rw [if_neg (by simp; omega), cmpS_2n f hx hb]
          unfold lex
          rw [if_pos hc]
      · rw [if_neg (by simp; omega), cmpS_n f ha]
        by_cases hb : b.Kids.length = 2
        · rw [if_pos (by simp [hb]), if_pos hb]
          unfold lex
          rw [if_pos hc]
        · rw [if_neg (by simp; omega), if_neg hb, tree_Tables_eq a (by omega), tree_Tables_eq b (by omega)]
          simp -implicitDefEqProofs only [Option.bind_some]
          unfold lex
          rw [if_pos hc]
    · rw [if_pos (by simp [hc])]
      have : cmpS f a b = by64 (costS f a) (costS f b) := by
        by_cases ha : a.Kids.length = 2
        · obtain ⟨x, y, hx⟩ := two_kids ha
          by_cases hb : b.Kids.length = 2
          · obtain ⟨u, v, hu⟩ := two_kids hb
            rw [cmpS_22 f hx hu]; unfold lex; rw [if_neg hc]
          · rw [cmpS_2n f hx hb]; unfold lex; rw [if_neg hc]
        · rw [cmpS_n f ha]; unfold lex; rw [if_neg hc]
      rw [this]

theorem by64_zero (a b : Set64) : by64 a b = 0 ↔ a = b := by
  unfold by64
  rw [← BitVec.toNat_inj]
  split
  · simp; omega
  · split <;> simp <;> omega
end Go.Proofs.Ytcfekacmmfdggaa.G
set_option linter.unusedVariables false
set_option linter.unusedSimpArgs false
namespace Go.Proofs.Ytcfekacmmfdggaa.G

/-- The first of those that come first. -/
structure IsFirst (f : CostF) (l : List T_api_Tree) (k : Nat) : Prop where
  lt : k < l.length
  all : ∀ j (h : j < l.length), cmpS f l[k] l[j] ≤ 0
  prev : ∀ j (h : j < l.length), j < k → cmpS f l[k] l[j] < 0
theorem order_First_eq (m : T_cost_Model) (hE : m.Edges.length < 9223372036854775808) (l : List T_api_Tree) (hl : l.length < 9223372036854775808) (hs : ∀ t ∈ l, t.size ≤ 1000000) (hne : l ≠ []) : ∃ k : Nat, IsFirst (nodeS m.Kind m.Edges m.Stats) l k ∧ M_order_First (m, l) = some (k : Int) := by
  let f := nodeS m.Kind m.Edges m.Stats
  have cmp : ∀ i j (hi : i < l.length) (hj : j < l.length), M_order_line_compare ((⟨m⟩ : T_order_line), l[i], l[j]) = some (cmpS f l[i] l[j]) := fun i j hi hj => order_compare_eq m hE 1000000 (by omega) _ _ (hs _ (List.getElem_mem hi)) (hs _ (List.getElem_mem hj))
  have tri : ∀ i j k (hi : i < l.length) (hj : j < l.length) (hk : k < l.length), Tri (cmpS f l[i] l[j]) (cmpS f l[j] l[k]) (cmpS f l[i] l[k]) := fun i j k hi hj hk => cmp_tri f 1000000 _ _ _ (hs _ (List.getElem_mem hi)) (hs _ (List.getElem_mem hj)) (hs _ (List.getElem_mem hk))
  have anti : ∀ i j (hi : i < l.length) (hj : j < l.length), cmpS f l[j] l[i] = - cmpS f l[i] l[j] := fun i j hi hj => cmp_anti f 1000000 _ _ (hs _ (List.getElem_mem hi)) (hs _ (List.getElem_mem hj))
  have key : ∀ n i (a : Nat) (ha : a < l.length), l.length - i = n → i ≤ l.length → a < i → (∀ j (h : j < l.length), j < i → cmpS f l[a] l[j] ≤ 0) → (∀ j (h : j < l.length), j < a → cmpS f l[a] l[j] < 0) →
      ∃ k, IsFirst f l k ∧ M_order_First.l0 (l, (⟨m⟩ : T_order_line), (a : Int), (l.length : Int), (i : Int)) = some (k : Int) := by
    intro n
    induction n with
    | zero =>
      intro i a ha h1 h2 h3 h4 h5
      obtain rfl : i = l.length := by omega
      refine ⟨a, ⟨ha, fun j h => h4 j h h, fun j h hj => h5 j h hj⟩, ?_⟩
      rw [M_order_First.l0, if_neg (dge (by dsimp only; omega))]
    | succ n ih =>
      intro i a ha h1 h2 h3 h4 h5
      have hi : i < l.length := by omega
      rw [M_order_First.l0, if_pos (dlt (by dsimp only; omega))]
      dsimp only
      rw [if_neg (dge (by omega)), getI_nat hi, getI_nat ha]
      simp -implicitDefEqProofs only [Option.bind_eq_bind, Option.bind_some]
      rw [cmp i a hi ha]
      simp -implicitDefEqProofs only [Option.bind_some]
      rw [w64_succ (by omega)]
      by_cases hc : cmpS f l[i] l[a] < 0
      · rw [if_pos (dlt hc)]
        refine ih (i + 1) i hi (by omega) (by omega) (by omega) (fun j h hj => ?_) (fun j h hj => ?_)
        · by_cases e : j = i
          · subst e; have := anti j j hi hi; omega
          · have h6 := h4 j h (by omega)
            have := (tri i a j hi ha h).1 (by omega) h6
            omega
        · have h6 := h4 j h (by omega)
          have := ((tri i a j hi ha h).1 (by omega) h6).2 (.inl hc)
          omega
      · rw [if_neg (dge hc)]
        refine ih (i + 1) a ha (by omega) (by omega) (by omega) (fun j h hj => ?_) h5
        by_cases e : j = i
        · subst e; have := anti a j ha hi; omega
        · exact h4 j h (by omega)
  have hpos : 0 < l.length := List.length_pos_iff.2 hne
  obtain ⟨k, h1, h2⟩ := key (l.length - 1) 1 0 hpos (by omega) (by omega) (by omega) (fun j h hj => by
    obtain rfl : j = 0 := by omega
    have := anti 0 0 hpos hpos; omega) (fun j h hj => by omega)
  refine ⟨k, h1, ?_⟩
  unfold M_order_First
  dsimp only
  rw [M_order_First.l0, if_pos (dlt (by dsimp only; omega))]
  dsimp only
  rw [if_pos (by simp)]
  have : w64 (0 + 1) = ((1 : Nat) : Int) := by decide
  rw [this]
  have h2' : M_order_First.l0 (l, (⟨m⟩ : T_order_line), 0, (l.length : Int), ((1 : Nat) : Int)) = some (k : Int) := h2
  rw [h2']; rfl
/-- Are there few. -/
theorem law28_Few_eq (m : T_cost_Model) : ∃ b, M_law28_Few m = some b ∧ (b = true → m.Edges.length ≤ 60 ∧ m.Stats.Rows.length ≤ 100 ∧ m.Stats.Sel.length ≤ 100) := by
  unfold M_law28_Few
  by_cases h1 : (m.Edges.length : Int) ≤ 60
  · rw [if_pos (by simpa using h1)]
    by_cases h2 : (m.Stats.Rows.length : Int) ≤ 100
    · rw [if_pos (by simpa using h2)]
      refine ⟨_, rfl, fun h => ⟨by omega, by omega, by have := of_decide_eq_true h; omega⟩⟩
    · rw [if_neg (by simpa using h2)]
      exact ⟨_, rfl, fun h => by cases h⟩
  · rw [if_neg (by simpa using h1)]
    exact ⟨_, rfl, fun h => by cases h⟩
theorem law29_light_eq (m : T_cost_Model) (l : List T_api_Tree) : ∃ b, M_law29_light (m, l) = some b ∧ (b = true → m.Edges.length ≤ 60 ∧ l.length ≤ 8 ∧ ∀ t ∈ l, t.size ≤ 100) := by
  have key : ∀ n i, 20 - i = n → i ≤ 20 → i ≤ l.length → ∃ o, M_law29_light.l0 (l, (i : Int), m) = some o ∧ (o = .ret false ∨ (o = .brk () ∧ ∀ j (h : j < l.length), i ≤ j → j < 20 → l[j].size ≤ 100)) := by
    intro n
    induction n with
    | zero =>
      intro i h1 h2 h3
      obtain rfl : i = 20 := by omega
      rw [M_law29_light.l0]
      dsimp only
      by_cases h : 20 < l.length
      · rw [if_pos (dlt (by omega)), if_neg (by simp)]
        exact ⟨_, rfl, .inr ⟨rfl, fun j h1 h2 h3 => by omega⟩⟩
      · rw [if_neg (dge (by omega))]
        exact ⟨_, rfl, .inr ⟨rfl, fun j h1 h2 h3 => by omega⟩⟩
    | succ n ih =>
      intro i h1 h2 h3
      rw [M_law29_light.l0]
      dsimp only
      by_cases h : i < l.length
      · rw [if_pos (dlt (by omega)), if_pos (dlt (by omega)), getI_nat h]
        simp -implicitDefEqProofs only [Option.bind_eq_bind, Option.bind_some]
        have e := ref10_Size_eq l[i] 101 (by omega) (by omega)
        rw [show ((101 : Nat) : Int) = 101 from rfl] at e
        rw [e]
        simp -implicitDefEqProofs only [Option.bind_some]
        by_cases hc : ((min l[i].size 101 : Nat) : Int) > 100
        · rw [if_pos (by simpa using hc)]
          exact ⟨_, rfl, .inl rfl⟩
        · rw [if_neg (by simpa using hc), w64_succ (by omega)]
          obtain ⟨o, k1, k2⟩ := ih (i + 1) (by omega) (by omega) (by omega)
          refine ⟨o, k1, k2.imp id fun ⟨k3, k4⟩ => ⟨k3, fun j g1 g2 g3 => ?_⟩⟩
          by_cases ej : j = i
          · subst ej; omega
          · exact k4 j g1 (by omega) g3
      · rw [if_neg (dge (by omega))]
        exact ⟨_, rfl, .inr ⟨rfl, fun j h1 h2 h3 => by omega⟩⟩
  obtain ⟨o, h1, h2⟩ := key 20 0 (by omega) (by omega) (by omega)
  unfold M_law29_light
  rw [show ((0 : Nat) : Int) = 0 from rfl] at h1
  dsimp only
  rw [h1]
  simp -implicitDefEqProofs only [Option.bind_eq_bind, Option.bind_some]
  rcases h2 with rfl | ⟨rfl, h2⟩
  · exact ⟨_, rfl, fun h => by cases h⟩
  · dsimp only
    obtain ⟨b, h3, h4⟩ := law28_Few_eq m
    rw [h3]
    simp -implicitDefEqProofs only [Option.bind_some]
    cases b with
    | false => exact ⟨_, rfl, fun h => by cases h⟩
    | true =>
      refine ⟨_, rfl, fun h => ?_⟩
      have hl : l.length ≤ 8 := by have := of_decide_eq_true h; omega
      refine ⟨(h4 rfl).1, hl, fun t ht => ?_⟩
      obtain ⟨j, hj, rfl⟩ := List.getElem_of_mem ht
      exact h2 j hj (Nat.zero_le _) (by omega)

end Go.Proofs.Ytcfekacmmfdggaa.G
set_option linter.unusedVariables false
set_option linter.unusedSimpArgs false
namespace Go.Proofs.Ytcfekacmmfdggaa.G

theorem satN_le {m n : Nat} (h : m ≤ n) : satN m ≤ satN n := by
  rw [BitVec.le_def, satN_toNat, satN_toNat]; unfold most; omega
theorem cost_swap (f : CostF) {t o x y u v : T_api_Tree} (h : t.Kids = [x, y]) (h' : o.Kids = [u, v]) (hc : o.Conj = t.Conj) (hu : tabs u = tabs x) (hv : tabs v = tabs y)
    (h1 : costS f u ≤ costS f x) (h2 : costS f v ≤ costS f y) : costS f o ≤ costS f t := by
  rw [costS_two f h, costS_two f h', hc, hu, hv]
  rw [BitVec.le_def] at h1 h2
  exact satN_le (by omega)
theorem set_le_refl (a : Set64) : a ≤ a := by rw [BitVec.le_def]; omega
theorem by64_le (a b : Set64) : by64 a b ≤ 0 ↔ a ≤ b := by
  rw [BitVec.le_def]; unfold by64
  split
  · omega
  · split <;> omega
theorem cmp_self (f : CostF) (a : T_api_Tree) : cmpS f a a = 0 := by
  have := cmp_anti f a.size a a (Nat.le_refl _) (Nat.le_refl _)
  omega
theorem cmp_head (f : CostF) (a b : T_api_Tree) : ∃ d, cmpS f a b = lex (by64 (costS f a) (costS f b)) d := by
  by_cases ha : a.Kids.length = 2
  · obtain ⟨x, y, hx⟩ := two_kids ha
    by_cases hb : b.Kids.length = 2
    · obtain ⟨u, v, hu⟩ := two_kids hb
      exact ⟨_, cmpS_22 f hx hu⟩
    · exact ⟨_, cmpS_2n f hx hb⟩
  · exact ⟨_, cmpS_n f ha⟩
theorem cmp_cost (f : CostF) {a b : T_api_Tree} (h : cmpS f a b ≤ 0) : costS f a ≤ costS f b := by
  obtain ⟨d, hd⟩ := cmp_head f a b
  rw [hd] at h
  rw [← by64_le]
  unfold lex at h
  split at h <;> omega
theorem cmp_swap (f : CostF) {t o x y u v : T_api_Tree} (h : t.Kids = [x, y]) (h' : o.Kids = [u, v]) (hc : o.Conj = t.Conj) (hu : tabs u = tabs x) (hv : tabs v = tabs y) (hs : (u = x ∧ cmpS f v y ≤ 0) ∨ (v = y ∧ cmpS f u x ≤ 0)) :
    cmpS f o t ≤ 0 ∧ (cmpS f u x < 0 ∨ cmpS f v y < 0 → cmpS f o t < 0) := by
  have hcost : costS f o ≤ costS f t := by
    rcases hs with ⟨rfl, h1⟩ | ⟨rfl, h1⟩
    · exact cost_swap f h h' hc hu hv (set_le_refl _) (cmp_cost f h1)
    · exact cost_swap f h h' hc hu hv (cmp_cost f h1) (set_le_refl _)
  have h0 := (by64_le _ _).2 hcost
  have hself : cmpS f o t = lex (by64 (costS f o) (costS f t)) (lex (by64 (tabs u) (tabs x)) (lex (cmpS f u x) (cmpS f v y))) := cmpS_22 f h' h
  have ht : by64 (tabs u) (tabs x) = 0 := by rw [by64_zero]; exact hu
  have l0 : ∀ d, lex 0 d = d := fun d => if_pos rfl
  have r0 : ∀ d, lex d 0 = d := by intro d; unfold lex; split <;> omega
  rw [hself, ht, l0]
  rcases hs with ⟨rfl, h1⟩ | ⟨rfl, h1⟩
  · rw [cmp_self, l0]
    unfold lex
    constructor
    · split <;> omega
    · intro h2; split <;> omega
  · rw [cmp_self f v, r0]
    unfold lex
    constructor
    · split <;> omega
    · intro h2; split <;> omega
end Go.Proofs.Ytcfekacmmfdggaa.G
set_option linter.unusedVariables false
set_option linter.unusedSimpArgs false
namespace Go.Proofs.Ytcfekacmmfdggaa.G

def eq01 : T_api_Pred := ⟨2, 0, 1, ⟨1, 0, 0, ⟨false, 0⟩⟩, ⟨1, 1, 0, ⟨false, 0⟩⟩, []⟩
def lf (n : Int) : T_api_Tree := ⟨0, n, [], [], false⟩
def two (k : Int) (a b : Int) : T_api_Tree := ⟨k, 0, [lf a, lf b], [eq01], false⟩
theorem lf_tour (n : Int) : (lf n).tour = [lf n] := by rw [tour_eq]; rfl
theorem two_tour (k a b : Int) : (two k a b).tour = [lf a, lf b, two k a b] := by
  rw [tour_eq]
  show [lf a, lf b].flatMap T_api_Tree.tour ++ _ = _
  simp [lf_tour]
theorem eq01_size : eq01.size = 1 := by rw [psize_eq]; rfl
theorem lf_size (n : Int) : (lf n).size = 1 := by rw [tsize_eq]; rfl
theorem two_size (k a b : Int) : (two k a b).size = 4 := by
  rw [tsize_eq]
  show 1 + ([eq01].map T_api_Pred.size).sum + ([lf a, lf b].map T_api_Tree.size).sum = 4
  simp [eq01_size, lf_size]
theorem lf_tabs (n : Int) : tabs (lf n) = bitI n := by
  unfold tabs
  rw [lf_tour]
  simp [leafTabs, lf, ofL_cons, ofL_nil]
theorem law10_Two_eq (k : Int) : M_law10_Two k = some (two k 0 1) := rfl
theorem ref05_Tables_eq (t : T_api_Term) : M_ref05_Tables t = some (if t.Kind = 1 then bitI t.Table else 0#64) := by
  unfold M_ref05_Tables
  by_cases h : t.Kind = 1
  · rw [if_neg (by simpa using h), if_pos h, ref01_Of_eq _ (by simp)]
    simp -implicitDefEqProofs only [Option.bind_eq_bind, Option.bind_some]
    rw [ofL_cons, ofL_nil, BitVec.or_zero]
  · rw [if_pos (by simpa using h), if_neg h]
theorem eq01_tables : M_ref06_Tables eq01 = some (3#64) := by
  rw [M_ref06_Tables, ref05_Tables_eq, ref05_Tables_eq]
  simp -implicitDefEqProofs only [Option.bind_eq_bind, Option.bind_some]
  rw [M_ref06_Tables.l0, if_neg (by simp [eq01])]
  rfl
theorem levels_two : M_ref18_Of (two 1 0 1) = some ⟨[⟨eq01, 1#64, 2#64, -1⟩], []⟩ := by
  unfold M_ref18_Of
  rw [ref10_All_eq _ (by rw [two_size]; omega), two_tour]
  simp -implicitDefEqProofs only [Option.bind_eq_bind, Option.bind_some]
  have w1 : w64 (0 + 1) = 1 := by decide
  have w2 : w64 (1 + 1) = 2 := by decide
  have w3 : w64 (2 + 1) = 3 := by decide
  have g0 : getI [lf 0, lf 1, two 1 0 1] 0 = some (lf 0) := rfl
  have g1 : getI [lf 0, lf 1, two 1 0 1] 1 = some (lf 1) := rfl
  have g2 : getI [lf 0, lf 1, two 1 0 1] 2 = some (two 1 0 1) := rfl
  have e0 : M_ref18_Of.l0 ([lf 0, lf 1, two 1 0 1], ([] : List Set64), 0, (⟨[], []⟩ : T_ref18_Levels), (⟨[], []⟩ : T_ref18_Levels)) = some [] := by
    rw [M_ref18_Of.l0, if_pos (by simp)]
    dsimp only
    rw [g0]
    simp -implicitDefEqProofs only [Option.bind_eq_bind, Option.bind_some]
    rw [if_neg (by simp [lf]), w1]
    rw [M_ref18_Of.l0, if_pos (by simp)]
    dsimp only
    rw [g1]
    simp -implicitDefEqProofs only [Option.bind_eq_bind, Option.bind_some]
    rw [if_neg (by simp [lf]), w2]
    rw [M_ref18_Of.l0, if_pos (by simp)]
    dsimp only
    rw [g2]
    simp -implicitDefEqProofs only [Option.bind_eq_bind, Option.bind_some]
    rw [if_neg (by simp [two]), w3]
    rw [M_ref18_Of.l0, if_neg (by simp)]
  rw [e0]
  simp -implicitDefEqProofs only [Option.bind_some]
  rw [M_ref18_Of.l1, if_pos (by simp)]
  dsimp only
  rw [g0]
  simp -implicitDefEqProofs only [Option.bind_eq_bind, Option.bind_some]
  rw [if_pos (by simp [lf]), w1]
  rw [M_ref18_Of.l1, if_pos (by simp)]
  dsimp only
  rw [g1]
  simp -implicitDefEqProofs only [Option.bind_eq_bind, Option.bind_some]
  rw [if_pos (by simp [lf]), w2]
  rw [M_ref18_Of.l1, if_pos (by simp)]
  dsimp only
  rw [g2]
  simp -implicitDefEqProofs only [Option.bind_eq_bind, Option.bind_some]
  rw [if_neg (by simp [two])]
  have k0 : (two 1 0 1).Kids[0]? = some (lf 0) := rfl
  have k1 : (two 1 0 1).Kids[1]? = some (lf 1) := rfl
  rw [k0, k1]
  simp -implicitDefEqProofs only [Option.bind_some]
  rw [ref10_Tables_eq _ (by rw [lf_size]; omega), ref10_Tables_eq _ (by rw [lf_size]; omega), lf_tabs, lf_tabs]
  simp -implicitDefEqProofs only [Option.bind_some]
  rw [M_ref18_Of.l2, if_neg (by simp)]
  simp -implicitDefEqProofs only [Option.bind_some]
  rw [M_ref18_Of.l3, if_pos (by simp [two])]
  dsimp only
  have c0 : getI (two 1 0 1).Conj 0 = some eq01 := rfl
  rw [c0]
  simp -implicitDefEqProofs only [Option.bind_eq_bind, Option.bind_some]
  rw [eq01_tables]
  simp -implicitDefEqProofs only [Option.bind_some]
  rw [if_pos (by simp [two]), room_of (by simp)]
  simp -implicitDefEqProofs only [Option.bind_some]
  rw [w1, M_ref18_Of.l3, if_neg (by simp [two])]
  simp -implicitDefEqProofs only [Option.bind_some]
  rw [if_neg (by simp [two]), w3]
  rw [M_ref18_Of.l1, if_neg (by simp)]
  rfl
theorem sink_noOps (l : T_ref18_Levels) (h : l.Ops = []) (hj : l.Joins.length ≤ 1000000) : M_ref19_Sink l = some l := by
  obtain ⟨js, os⟩ := l
  dsimp only at h hj
  subst h
  unfold M_ref19_Sink M_ref19_Twin_R
  dsimp only
  rw [room_of (by simp; omega), room_of (by simp)]
  simp -implicitDefEqProofs only [Option.bind_eq_bind, Option.bind_some, List.nil_append]
  have w0 : (0 : Int) ≤ w64 ((([] : List T_ref18_Op).length : Int) * (([] : List T_ref18_Op).length : Int)) := by decide
  rw [M_ref19_Sink.l0, if_pos (decide_eq_true w0)]
  dsimp only
  have : M_ref19_sinks (⟨js, []⟩ : T_ref18_Levels) = some (-1, -1) := by
    unfold M_ref19_sinks
    rw [M_ref19_sinks.l0, if_neg (by simp)]
    rfl
  rw [this]
  rfl
theorem need_noOps (l : T_ref18_Levels) (h : l.Ops = []) (k : Int) (s : Set64) : M_ref19_Need (l, k, s) = some s := by
  unfold M_ref19_Need
  dsimp only
  rw [M_ref19_Need.l0]
  dsimp only
  rw [M_ref19_Need.l1, if_neg (by simp [h])]
  simp -implicitDefEqProofs only [Option.bind_eq_bind, Option.bind_some]
  rw [if_pos (by simp)]
  rfl
theorem edges_two : M_ref20_Of (two 1 0 1) = some [⟨1, [eq01], 3#64, 1#64, 2#64⟩] := by
  unfold M_ref20_Of
  rw [levels_two]
  simp -implicitDefEqProofs only [Option.bind_eq_bind, Option.bind_some]
  rw [sink_noOps _ rfl (by simp)]
  simp -implicitDefEqProofs only [Option.bind_some]
  rw [M_ref20_Of.l0, if_pos (by simp)]
  dsimp only
  have g : getI [(⟨eq01, 1#64, 2#64, -1⟩ : T_ref18_Join)] 0 = some ⟨eq01, 1#64, 2#64, -1⟩ := rfl
  rw [g]
  simp -implicitDefEqProofs only [Option.bind_eq_bind, Option.bind_some]
  rw [need_noOps _ rfl, need_noOps _ rfl]
  simp -implicitDefEqProofs only [Option.bind_some]
  rw [room_of (by simp)]
  simp -implicitDefEqProofs only [Option.bind_some]
  have w1 : w64 (0 + 1) = 1 := by decide
  rw [w1, M_ref20_Of.l0, if_neg (by simp)]
  simp -implicitDefEqProofs only [Option.bind_some]
  rw [M_ref20_Of.l1, if_neg (by simp)]
  rfl
theorem law28_Two_eq (k : Int) : M_law28_Two k = some ⟨k, [⟨1, [eq01], 3#64, 1#64, 2#64⟩], ⟨[10#64, 20#64], [32768#64]⟩⟩ := by
  unfold M_law28_Two
  rw [law10_Two_eq]
  simp -implicitDefEqProofs only [Option.bind_eq_bind, Option.bind_some]
  rw [edges_two]; rfl
def m29 : T_cost_Model := ⟨1, [⟨1, [eq01], 3#64, 1#64, 2#64⟩], ⟨[10#64, 20#64], [32768#64]⟩⟩
def f29 : CostF := nodeS m29.Kind m29.Edges m29.Stats
theorem c29_ab : cmpS f29 (two 1 0 1) (two 1 1 0) = -1 := by kernel_rfl
theorem c29_ba : cmpS f29 (two 1 1 0) (two 1 0 1) = 1 := by kernel_rfl
theorem c29_aa : cmpS f29 (two 1 0 1) (two 1 0 1) = 0 := by kernel_rfl
theorem c29_la : cmpS f29 (lf 0) (two 1 0 1) = -1 := by kernel_rfl
theorem compare29 (a b : T_api_Tree) (ha : a.size ≤ 1000) (hb : b.size ≤ 1000) : M_order_Compare (m29, a, b) = some (cmpS f29 a b) := by
  unfold M_order_Compare
  dsimp only
  rw [order_compare_eq m29 (by simp [m29]) 1000 (by omega) a b ha hb]; rfl
theorem law29_awake_plain : M_law29_awake () = some true := by
  unfold M_law29_awake
  have e1 : M_ref10_LeafOf 1 = some (lf 1) := rfl
  have e0 : M_ref10_LeafOf 0 = some (lf 0) := rfl
  have eq : M_law06_Equal (0, 1) = some eq01 := rfl
  have on : M_ref10_On (1, lf 1, lf 0, [eq01]) = some (two 1 1 0) := rfl
  have hm : M_law28_Two 1 = some m29 := law28_Two_eq 1
  have s1 := two_size 1 0 1
  have s2 := two_size 1 1 0
  have s3 := lf_size 0
  rw [law10_Two_eq, e1, e0, eq]
  simp -implicitDefEqProofs only [Option.bind_eq_bind, Option.bind_some]
  rw [on]
  simp -implicitDefEqProofs only [Option.bind_some]
  rw [hm]
  simp -implicitDefEqProofs only [Option.bind_some]
  rw [compare29 _ _ (by omega) (by omega), compare29 _ _ (by omega) (by omega), compare29 _ _ (by omega) (by omega), c29_ab, c29_ba, c29_aa]
  simp -implicitDefEqProofs only [Option.bind_some]
  rw [if_pos (by decide), if_pos (by decide), if_pos (by decide)]
  have hs : ∀ t ∈ [two 1 1 0, two 1 0 1, two 1 0 1], t.size ≤ 1000000 := by
    intro t ht
    simp at ht
    rcases ht with rfl | rfl <;> omega
  obtain ⟨k, hk, hf⟩ := order_First_eq m29 (by simp [m29]) [two 1 1 0, two 1 0 1, two 1 0 1] (by simp) hs (by simp)
  have hlt : k < 3 := hk.lt
  have hk1 : k = 1 := by
    rcases (show k = 0 ∨ k = 1 ∨ k = 2 by omega) with rfl | rfl | rfl
    · have := hk.all 1 (by simp)
      have h2 : cmpS f29 (two 1 1 0) (two 1 0 1) ≤ 0 := this
      rw [c29_ba] at h2; omega
    · rfl
    · have := hk.prev 1 (by simp) (by omega)
      have h2 : cmpS f29 (two 1 0 1) (two 1 0 1) < 0 := this
      rw [c29_aa] at h2; omega
  subst hk1
  rw [hf]
  simp -implicitDefEqProofs only [Option.bind_some]
  rw [if_pos (by decide)]
  have hn : M_order_First (m29, ([] : List T_api_Tree)) = some (-1) := by
    unfold M_order_First; dsimp only; rw [M_order_First.l0, if_neg (by simp)]; rfl
  rw [hn]
  simp -implicitDefEqProofs only [Option.bind_some]
  rw [if_pos (by decide)]
  have k0 : (two 1 0 1).Kids[0]? = some (lf 0) := rfl
  rw [k0]
  simp -implicitDefEqProofs only [Option.bind_some]
  rw [compare29 _ _ (by omega) (by omega), c29_la]
  rfl
end Go.Proofs.Ytcfekacmmfdggaa.G
set_option linter.unusedVariables false
set_option linter.unusedSimpArgs false
set_option maxRecDepth 100000
namespace Go.Proofs.Ytcfekacmmfdggaa.G
@[go_sem] theorem lrp_6_6 : lrp Try.prog 6 6 = (9, []) := by kernel_rfl
@[go_sem] theorem lrp_6_7 : lrp Try.prog 6 7 = (17, []) := by kernel_rfl
@[go_sem] theorem lrp_6_9 : lrp Try.prog 6 9 = (9, []) := by kernel_rfl
theorem lok_6 : (Try.f6.body.isSome && !(Try.f6.name == "runtime.NumGoroutine") && okL (bodyF Try.f6) Try.f6.ntmps (bodyF Try.f6)) = true := by kernel_rfl
section
attribute [local instance] mu_31
def M_law29_OrderInner.l0 (x : Int × T_cost_Model × T_api_Tree × T_api_Tree) : Option (Lp (Unit) (Bool)) :=
  if (decide (x.1 < 2)) = true then
    M_ref10_Tables x.2.2.2 >>= fun r8 =>
    (getI x.2.2.1.Kids x.1) >>= fun (e10 : T_api_Tree) =>
    M_ref10_Tables e10 >>= fun r12 =>
    if (r8 != r12) = true then
      M_law29_OrderInner.l0 ((w64 (x.1 + 1)), x.2.1, x.2.2.1, x.2.2.2)
    else
      (x.2.2.1.Kids[0]?) >>= fun (e15 : T_api_Tree) =>
      (x.2.2.1.Kids[1]?) >>= fun (e17 : T_api_Tree) =>
      if (x.1 == 0) = true then
        M_order_Compare (x.2.1, x.2.2.2, e15) >>= fun r21 =>
        if (decide (r21 ≤ 0)) = true then
          M_order_Compare (x.2.1, (⟨x.2.2.1.Kind, x.2.2.1.Table, [x.2.2.2, e17], x.2.2.1.Conj, false⟩ : T_api_Tree), x.2.2.1) >>= fun r24 =>
          if (decide (r24 > 0)) = true then
            some (.ret false)
          else
            if (decide (r21 < 0)) = true then
              M_order_Compare (x.2.1, (⟨x.2.2.1.Kind, x.2.2.1.Table, [x.2.2.2, e17], x.2.2.1.Conj, false⟩ : T_api_Tree), x.2.2.1) >>= fun r28 =>
              if (decide (r28 ≥ 0)) = true then
                some (.ret false)
              else
                M_law29_OrderInner.l0 ((w64 1), x.2.1, x.2.2.1, x.2.2.2)
            else
              M_law29_OrderInner.l0 ((w64 1), x.2.1, x.2.2.1, x.2.2.2)
        else
          if (decide (r21 < 0)) = true then
            M_order_Compare (x.2.1, (⟨x.2.2.1.Kind, x.2.2.1.Table, [x.2.2.2, e17], x.2.2.1.Conj, false⟩ : T_api_Tree), x.2.2.1) >>= fun r32 =>
            if (decide (r32 ≥ 0)) = true then
              some (.ret false)
            else
              M_law29_OrderInner.l0 ((w64 1), x.2.1, x.2.2.1, x.2.2.2)
          else
            M_law29_OrderInner.l0 ((w64 1), x.2.1, x.2.2.1, x.2.2.2)
      else
        if (x.1 == 1) = true then
          M_order_Compare (x.2.1, x.2.2.2, e17) >>= fun r37 =>
          if (decide (r37 ≤ 0)) = true then
            M_order_Compare (x.2.1, (⟨x.2.2.1.Kind, x.2.2.1.Table, [e15, x.2.2.2], x.2.2.1.Conj, false⟩ : T_api_Tree), x.2.2.1) >>= fun r40 =>
            if (decide (r40 > 0)) = true then
              some (.ret false)
            else
              if (decide (r37 < 0)) = true then
                M_order_Compare (x.2.1, (⟨x.2.2.1.Kind, x.2.2.1.Table, [e15, x.2.2.2], x.2.2.1.Conj, false⟩ : T_api_Tree), x.2.2.1) >>= fun r44 =>
                if (decide (r44 ≥ 0)) = true then
                  some (.ret false)
                else
                  M_law29_OrderInner.l0 ((w64 2), x.2.1, x.2.2.1, x.2.2.2)
              else
                M_law29_OrderInner.l0 ((w64 2), x.2.1, x.2.2.1, x.2.2.2)
          else
            if (decide (r37 < 0)) = true then
              M_order_Compare (x.2.1, (⟨x.2.2.1.Kind, x.2.2.1.Table, [e15, x.2.2.2], x.2.2.1.Conj, false⟩ : T_api_Tree), x.2.2.1) >>= fun r48 =>
              if (decide (r48 ≥ 0)) = true then
                some (.ret false)
              else
                M_law29_OrderInner.l0 ((w64 2), x.2.1, x.2.2.1, x.2.2.2)
            else
              M_law29_OrderInner.l0 ((w64 2), x.2.1, x.2.2.1, x.2.2.2)
        else
          none
  else
    some (.brk ())
  partial_fixpoint
set_option maxHeartbeats 8000000 in
theorem M_law29_OrderInner.l0.ws : (∀ (x : Int × T_cost_Model × T_api_Tree × T_api_Tree) (o : Lp (Unit) (Bool)), M_law29_OrderInner.l0 x = some o → (fun (x : Int × T_cost_Model × T_api_Tree × T_api_Tree) (o : Lp (Unit) (Bool)) => ∀ (lo : Option Nat) (c : LCtx) (Q : Exit → LEnv → Prop) (hb : ∀ s : Unit, o = Lp.brk s → Q (.exit 0) ⟨[], []⟩) (hr : ∀ (r : Bool) (L : LEnv), o = .ret r → LPostF Try.prog [.tmp 6] (.bool r) (fun _ => True) .ret L → Q .ret L), LLoop Try.prog 6 lo c 0 (VQ Q) ⟨[(3, .lref 3 0), (4, .lref 4 0), (5, .lref 5 0), (7, .v (.i64 x.1))], [(3, [.v (.i64 x.2.1.Kind), .v (.slice .foreign (x.2.1.Edges.map T_api_Edge.av)), .v (.slice .foreign (x.2.1.Stats.Rows.map AV.w)), .v (.slice .foreign (x.2.1.Stats.Sel.map AV.w))]), (4, [.v (.i64 x.2.2.1.Kind), .v (.i64 x.2.2.1.Table), .v (.slice .foreign (x.2.2.1.Kids.map T_api_Tree.av)), .v (.slice .foreign (x.2.2.1.Conj.map T_api_Pred.av)), .v (.bool x.2.2.1.Hash)]), (5, [.v (.i64 x.2.2.2.Kind), .v (.i64 x.2.2.2.Table), .v (.slice .foreign (x.2.2.2.Kids.map T_api_Tree.av)), .v (.slice .foreign (x.2.2.2.Conj.map T_api_Pred.av)), .v (.bool x.2.2.2.Hash)])]⟩) x o) := by
  refine M_law29_OrderInner.l0.partial_correctness _ ?_
  · intro M_M_law29_OrderInner_l0 ih_M_law29_OrderInner_l0 x o h
    intro lo c Q hb hr
    refine LLoop.step mix fn_6 (by kernel_rfl) ?_
    simp -implicitDefEqProofs only [go_sem, Try.f6]
    by_cases h7 : (decide (x.1 < 2)) = true
    · replace h := ite_some h h7
      try simp -implicitDefEqProofs only [go_sem, h7]
      obtain ⟨r8, h9, h⟩ := bind_some' h
      refine .plain _ _ rfl (M_ref10_Tables.w x.2.2.2 _ h9) ?_
      try simp -implicitDefEqProofs only [go_sem, h7]
      obtain ⟨e10, h11, h⟩ := bind_some' h; replace h11 := getI_some h11; obtain ⟨h11', h11⟩ := h11
      try simp -implicitDefEqProofs only [go_sem, h7, h11, h11']
      obtain ⟨r12, h13, h⟩ := bind_some' h
      refine .plain _ _ rfl (M_ref10_Tables.w e10 _ h13) ?_
      try simp -implicitDefEqProofs only [go_sem, h7, h11, h11']
      by_cases h14 : (r8 != r12) = true
      · replace h := ite_some h h14
        try simp -implicitDefEqProofs only [go_sem, h7, h11, h11', h14]
        exact LLoop.view [] (by (first | rfl | simp -implicitDefEqProofs only [go_sem, h7, h11, h11', h14] <;> rfl)) (ih_M_law29_OrderInner_l0 _ _ h lo c Q hb hr)
      · replace h := ite_none h h14; replace h14 := bfalse h14
        try simp -implicitDefEqProofs only [go_sem, h7, h11, h11', h14]
        obtain ⟨e15, h16, h⟩ := bind_some' h
        try simp -implicitDefEqProofs only [go_sem, h7, h11, h11', h14, h16]
        obtain ⟨e17, h18, h⟩ := bind_some' h
        try simp -implicitDefEqProofs only [go_sem, h7, h11, h11', h14, h16, h18]
        by_cases h19 : (x.1 == 0) = true
        · replace h := ite_some h h19; have h20 : x.1 = 0 := by simpa using h19
          try simp -implicitDefEqProofs only [go_sem, h7, h11, h11', h14, h16, h18, h20]
          refine LStV.lit (by (first | rfl | simp -implicitDefEqProofs only [go_sem, h7, h11, h11', h14, h16, h18, h20] <;> rfl)) (by (first | rfl | simp -implicitDefEqProofs only [go_sem, h7, h11, h11', h14, h16, h18, h20] <;> rfl)) (by rfl) (by rfl) (by rfl) (by rfl) (by first | rfl | (first | rfl | simp -implicitDefEqProofs only [go_sem, h7, h11, h11', h14, h16, h18, h20] <;> rfl)) ?_
          try simp -implicitDefEqProofs only [go_sem, h7, h11, h11', h14, h16, h18, h20]
          obtain ⟨r21, h22, h⟩ := bind_some' h
          refine .plain _ _ rfl (M_order_Compare.w (x.2.1, x.2.2.2, e15) _ h22) ?_
          try simp -implicitDefEqProofs only [go_sem, h7, h11, h11', h14, h16, h18, h20]
          by_cases h23 : (decide (r21 ≤ 0)) = true
          · replace h := ite_some h h23
            try simp -implicitDefEqProofs only [go_sem, h7, h11, h11', h14, h16, h18, h20, h23]
            obtain ⟨r24, h25, h⟩ := bind_some' h
            have hw := M_order_Compare.w (x.2.1, (⟨x.2.2.1.Kind, x.2.2.1.Table, [x.2.2.2, e17], x.2.2.1.Conj, false⟩ : T_api_Tree), x.2.2.1) _ h25
            try simp -implicitDefEqProofs only [go_sem] at hw
            have hfl : ∀ a ∈ [(.agg (T_cost_Model.C x.2.1) : AV), (.agg (T_api_Tree.C (⟨x.2.2.1.Kind, x.2.2.1.Table, [x.2.2.2, e17], x.2.2.1.Conj, false⟩ : T_api_Tree)) : AV), (.agg (T_api_Tree.C x.2.2.1) : AV)], Flat a := (flC (T_cost_Model.flatC _) (flC (T_api_Tree.flatC _) (flC (T_api_Tree.flatC _) (flN))))
            try simp -implicitDefEqProofs only [go_sem] at hfl
            refine ⟨_, hw, by first | exact hfl | (simp -implicitDefEqProofs only [go_sem]; exact hfl), (.atom _), ?_⟩
            clear hw hfl
            try simp -implicitDefEqProofs only [go_sem, h7, h11, h11', h14, h16, h18, h20, h23]
            by_cases h26 : (decide (r24 > 0)) = true
            · replace h := ite_some h h26
              try simp -implicitDefEqProofs only [go_sem, h7, h11, h11', h14, h16, h18, h20, h23, h26]
              injection h with h; subst h
              exact .inl (hr _ _ rfl (by (first | rfl | simp -implicitDefEqProofs only [go_sem, h7, h11, h11', h14, h16, h18, h20, h23, h26] <;> rfl)))
            · replace h := ite_none h h26; replace h26 := bfalse h26
              try simp -implicitDefEqProofs only [go_sem, h7, h11, h11', h14, h16, h18, h20, h23, h26]
              by_cases h27 : (decide (r21 < 0)) = true
              · replace h := ite_some h h27
                try simp -implicitDefEqProofs only [go_sem, h7, h11, h11', h14, h16, h18, h20, h23, h26, h27]
                obtain ⟨r28, h29, h⟩ := bind_some' h
                have hw := M_order_Compare.w (x.2.1, (⟨x.2.2.1.Kind, x.2.2.1.Table, [x.2.2.2, e17], x.2.2.1.Conj, false⟩ : T_api_Tree), x.2.2.1) _ h29
                try simp -implicitDefEqProofs only [go_sem] at hw
                have hfl : ∀ a ∈ [(.agg (T_cost_Model.C x.2.1) : AV), (.agg (T_api_Tree.C (⟨x.2.2.1.Kind, x.2.2.1.Table, [x.2.2.2, e17], x.2.2.1.Conj, false⟩ : T_api_Tree)) : AV), (.agg (T_api_Tree.C x.2.2.1) : AV)], Flat a := (flC (T_cost_Model.flatC _) (flC (T_api_Tree.flatC _) (flC (T_api_Tree.flatC _) (flN))))
                try simp -implicitDefEqProofs only [go_sem] at hfl
                refine ⟨_, hw, by first | exact hfl | (simp -implicitDefEqProofs only [go_sem]; exact hfl), (.atom _), ?_⟩
                clear hw hfl
                try simp -implicitDefEqProofs only [go_sem, h7, h11, h11', h14, h16, h18, h20, h23, h26, h27]
                by_cases h30 : (decide (r28 ≥ 0)) = true
                · replace h := ite_some h h30
                  try simp -implicitDefEqProofs only [go_sem, h7, h11, h11', h14, h16, h18, h20, h23, h26, h27, h30]
                  injection h with h; subst h
                  exact .inl (hr _ _ rfl (by (first | rfl | simp -implicitDefEqProofs only [go_sem, h7, h11, h11', h14, h16, h18, h20, h23, h26, h27, h30] <;> rfl)))
                · replace h := ite_none h h30; replace h30 := bfalse h30
                  try simp -implicitDefEqProofs only [go_sem, h7, h11, h11', h14, h16, h18, h20, h23, h26, h27, h30]
                  exact LLoop.view [] (by (first | rfl | simp -implicitDefEqProofs only [go_sem, h7, h11, h11', h14, h16, h18, h20, h23, h26, h27, h30] <;> rfl)) (ih_M_law29_OrderInner_l0 _ _ h lo c Q hb hr)
              · replace h := ite_none h h27; replace h27 := bfalse h27
                try simp -implicitDefEqProofs only [go_sem, h7, h11, h11', h14, h16, h18, h20, h23, h26, h27]
                exact LLoop.view [] (by (first | rfl | simp -implicitDefEqProofs only [go_sem, h7, h11, h11', h14, h16, h18, h20, h23, h26, h27] <;> rfl)) (ih_M_law29_OrderInner_l0 _ _ h lo c Q hb hr)
          · replace h := ite_none h h23; replace h23 := bfalse h23
            try simp -implicitDefEqProofs only [go_sem, h7, h11, h11', h14, h16, h18, h20, h23]
            by_cases h31 : (decide (r21 < 0)) = true
            · replace h := ite_some h h31
              try simp -implicitDefEqProofs only [go_sem, h7, h11, h11', h14, h16, h18, h20, h23, h31]
              obtain ⟨r32, h33, h⟩ := bind_some' h
              have hw := M_order_Compare.w (x.2.1, (⟨x.2.2.1.Kind, x.2.2.1.Table, [x.2.2.2, e17], x.2.2.1.Conj, false⟩ : T_api_Tree), x.2.2.1) _ h33
              try simp -implicitDefEqProofs only [go_sem] at hw
              have hfl : ∀ a ∈ [(.agg (T_cost_Model.C x.2.1) : AV), (.agg (T_api_Tree.C (⟨x.2.2.1.Kind, x.2.2.1.Table, [x.2.2.2, e17], x.2.2.1.Conj, false⟩ : T_api_Tree)) : AV), (.agg (T_api_Tree.C x.2.2.1) : AV)], Flat a := (flC (T_cost_Model.flatC _) (flC (T_api_Tree.flatC _) (flC (T_api_Tree.flatC _) (flN))))
              try simp -implicitDefEqProofs only [go_sem] at hfl
              refine ⟨_, hw, by first | exact hfl | (simp -implicitDefEqProofs only [go_sem]; exact hfl), (.atom _), ?_⟩
              clear hw hfl
              try simp -implicitDefEqProofs only [go_sem, h7, h11, h11', h14, h16, h18, h20, h23, h31]
              by_cases h34 : (decide (r32 ≥ 0)) = true
              · replace h := ite_some h h34
                try simp -implicitDefEqProofs only [go_sem, h7, h11, h11', h14, h16, h18, h20, h23, h31, h34]
                injection h with h; subst h
                exact .inl (hr _ _ rfl (by (first | rfl | simp -implicitDefEqProofs only [go_sem, h7, h11, h11', h14, h16, h18, h20, h23, h31, h34] <;> rfl)))
              · replace h := ite_none h h34; replace h34 := bfalse h34
                try simp -implicitDefEqProofs only [go_sem, h7, h11, h11', h14, h16, h18, h20, h23, h31, h34]
                exact LLoop.view [] (by (first | rfl | simp -implicitDefEqProofs only [go_sem, h7, h11, h11', h14, h16, h18, h20, h23, h31, h34] <;> rfl)) (ih_M_law29_OrderInner_l0 _ _ h lo c Q hb hr)
            · replace h := ite_none h h31; replace h31 := bfalse h31
              try simp -implicitDefEqProofs only [go_sem, h7, h11, h11', h14, h16, h18, h20, h23, h31]
              exact LLoop.view [] (by (first | rfl | simp -implicitDefEqProofs only [go_sem, h7, h11, h11', h14, h16, h18, h20, h23, h31] <;> rfl)) (ih_M_law29_OrderInner_l0 _ _ h lo c Q hb hr)
        · replace h := ite_none h h19
          by_cases h35 : (x.1 == 1) = true
          · replace h := ite_some h h35; have h36 : x.1 = 1 := by simpa using h35
            try simp -implicitDefEqProofs only [go_sem, h7, h11, h11', h14, h16, h18, h36]
            refine LStV.lit (by (first | rfl | simp -implicitDefEqProofs only [go_sem, h7, h11, h11', h14, h16, h18, h36] <;> rfl)) (by (first | rfl | simp -implicitDefEqProofs only [go_sem, h7, h11, h11', h14, h16, h18, h36] <;> rfl)) (by rfl) (by rfl) (by rfl) (by rfl) (by first | rfl | (first | rfl | simp -implicitDefEqProofs only [go_sem, h7, h11, h11', h14, h16, h18, h36] <;> rfl)) ?_
            try simp -implicitDefEqProofs only [go_sem, h7, h11, h11', h14, h16, h18, h36]
            obtain ⟨r37, h38, h⟩ := bind_some' h
            refine .plain _ _ rfl (M_order_Compare.w (x.2.1, x.2.2.2, e17) _ h38) ?_
            try simp -implicitDefEqProofs only [go_sem, h7, h11, h11', h14, h16, h18, h36]
            by_cases h39 : (decide (r37 ≤ 0)) = true
            · replace h := ite_some h h39
              try simp -implicitDefEqProofs only [go_sem, h7, h11, h11', h14, h16, h18, h36, h39]
              obtain ⟨r40, h41, h⟩ := bind_some' h
              have hw := M_order_Compare.w (x.2.1, (⟨x.2.2.1.Kind, x.2.2.1.Table, [e15, x.2.2.2], x.2.2.1.Conj, false⟩ : T_api_Tree), x.2.2.1) _ h41
              try simp -implicitDefEqProofs only [go_sem] at hw
              have hfl : ∀ a ∈ [(.agg (T_cost_Model.C x.2.1) : AV), (.agg (T_api_Tree.C (⟨x.2.2.1.Kind, x.2.2.1.Table, [e15, x.2.2.2], x.2.2.1.Conj, false⟩ : T_api_Tree)) : AV), (.agg (T_api_Tree.C x.2.2.1) : AV)], Flat a := (flC (T_cost_Model.flatC _) (flC (T_api_Tree.flatC _) (flC (T_api_Tree.flatC _) (flN))))
              try simp -implicitDefEqProofs only [go_sem] at hfl
              refine ⟨_, hw, by first | exact hfl | (simp -implicitDefEqProofs only [go_sem]; exact hfl), (.atom _), ?_⟩
              clear hw hfl
              try simp -implicitDefEqProofs only [go_sem, h7, h11, h11', h14, h16, h18, h36, h39]
              by_cases h42 : (decide (r40 > 0)) = true
              · replace h := ite_some h h42
                try simp -implicitDefEqProofs only [go_sem, h7, h11, h11', h14, h16, h18, h36, h39, h42]
                injection h with h; subst h
                exact .inl (hr _ _ rfl (by (first | rfl | simp -implicitDefEqProofs only [go_sem, h7, h11, h11', h14, h16, h18, h36, h39, h42] <;> rfl)))
              · replace h := ite_none h h42; replace h42 := bfalse h42
                try simp -implicitDefEqProofs only [go_sem, h7, h11, h11', h14, h16, h18, h36, h39, h42]
                by_cases h43 : (decide (r37 < 0)) = true
                · replace h := ite_some h h43
                  try simp -implicitDefEqProofs only [go_sem, h7, h11, h11', h14, h16, h18, h36, h39, h42, h43]
                  obtain ⟨r44, h45, h⟩ := bind_some' h
                  have hw := M_order_Compare.w (x.2.1, (⟨x.2.2.1.Kind, x.2.2.1.Table, [e15, x.2.2.2], x.2.2.1.Conj, false⟩ : T_api_Tree), x.2.2.1) _ h45
                  try simp -implicitDefEqProofs only [go_sem] at hw
                  have hfl : ∀ a ∈ [(.agg (T_cost_Model.C x.2.1) : AV), (.agg (T_api_Tree.C (⟨x.2.2.1.Kind, x.2.2.1.Table, [e15, x.2.2.2], x.2.2.1.Conj, false⟩ : T_api_Tree)) : AV), (.agg (T_api_Tree.C x.2.2.1) : AV)], Flat a := (flC (T_cost_Model.flatC _) (flC (T_api_Tree.flatC _) (flC (T_api_Tree.flatC _) (flN))))
                  try simp -implicitDefEqProofs only [go_sem] at hfl
                  refine ⟨_, hw, by first | exact hfl | (simp -implicitDefEqProofs only [go_sem]; exact hfl), (.atom _), ?_⟩
                  clear hw hfl
                  try simp -implicitDefEqProofs only [go_sem, h7, h11, h11', h14, h16, h18, h36, h39, h42, h43]
                  by_cases h46 : (decide (r44 ≥ 0)) = true
                  · replace h := ite_some h h46
                    try simp -implicitDefEqProofs only [go_sem, h7, h11, h11', h14, h16, h18, h36, h39, h42, h43, h46]
                    injection h with h; subst h
                    exact .inl (hr _ _ rfl (by (first | rfl | simp -implicitDefEqProofs only [go_sem, h7, h11, h11', h14, h16, h18, h36, h39, h42, h43, h46] <;> rfl)))
                  · replace h := ite_none h h46; replace h46 := bfalse h46
                    try simp -implicitDefEqProofs only [go_sem, h7, h11, h11', h14, h16, h18, h36, h39, h42, h43, h46]
                    exact LLoop.view [] (by (first | rfl | simp -implicitDefEqProofs only [go_sem, h7, h11, h11', h14, h16, h18, h36, h39, h42, h43, h46] <;> rfl)) (ih_M_law29_OrderInner_l0 _ _ h lo c Q hb hr)
                · replace h := ite_none h h43; replace h43 := bfalse h43
                  try simp -implicitDefEqProofs only [go_sem, h7, h11, h11', h14, h16, h18, h36, h39, h42, h43]
                  exact LLoop.view [] (by (first | rfl | simp -implicitDefEqProofs only [go_sem, h7, h11, h11', h14, h16, h18, h36, h39, h42, h43] <;> rfl)) (ih_M_law29_OrderInner_l0 _ _ h lo c Q hb hr)
            · replace h := ite_none h h39; replace h39 := bfalse h39
              try simp -implicitDefEqProofs only [go_sem, h7, h11, h11', h14, h16, h18, h36, h39]
              by_cases h47 : (decide (r37 < 0)) = true
              · replace h := ite_some h h47
                try simp -implicitDefEqProofs only [go_sem, h7, h11, h11', h14, h16, h18, h36, h39, h47]
                obtain ⟨r48, h49, h⟩ := bind_some' h
                have hw := M_order_Compare.w (x.2.1, (⟨x.2.2.1.Kind, x.2.2.1.Table, [e15, x.2.2.2], x.2.2.1.Conj, false⟩ : T_api_Tree), x.2.2.1) _ h49
                try simp -implicitDefEqProofs only [go_sem] at hw
                have hfl : ∀ a ∈ [(.agg (T_cost_Model.C x.2.1) : AV), (.agg (T_api_Tree.C (⟨x.2.2.1.Kind, x.2.2.1.Table, [e15, x.2.2.2], x.2.2.1.Conj, false⟩ : T_api_Tree)) : AV), (.agg (T_api_Tree.C x.2.2.1) : AV)], Flat a := (flC (T_cost_Model.flatC _) (flC (T_api_Tree.flatC _) (flC (T_api_Tree.flatC _) (flN))))
                try simp -implicitDefEqProofs only [go_sem] at hfl
                refine ⟨_, hw, by first | exact hfl | (simp -implicitDefEqProofs only [go_sem]; exact hfl), (.atom _), ?_⟩
                clear hw hfl
                try simp -implicitDefEqProofs only [go_sem, h7, h11, h11', h14, h16, h18, h36, h39, h47]
                by_cases h50 : (decide (r48 ≥ 0)) = true
                · replace h := ite_some h h50
                  try simp -implicitDefEqProofs only [go_sem, h7, h11, h11', h14, h16, h18, h36, h39, h47, h50]
                  injection h with h; subst h
                  exact .inl (hr _ _ rfl (by (first | rfl | simp -implicitDefEqProofs only [go_sem, h7, h11, h11', h14, h16, h18, h36, h39, h47, h50] <;> rfl)))
                · replace h := ite_none h h50; replace h50 := bfalse h50
                  try simp -implicitDefEqProofs only [go_sem, h7, h11, h11', h14, h16, h18, h36, h39, h47, h50]
                  exact LLoop.view [] (by (first | rfl | simp -implicitDefEqProofs only [go_sem, h7, h11, h11', h14, h16, h18, h36, h39, h47, h50] <;> rfl)) (ih_M_law29_OrderInner_l0 _ _ h lo c Q hb hr)
              · replace h := ite_none h h47; replace h47 := bfalse h47
                try simp -implicitDefEqProofs only [go_sem, h7, h11, h11', h14, h16, h18, h36, h39, h47]
                exact LLoop.view [] (by (first | rfl | simp -implicitDefEqProofs only [go_sem, h7, h11, h11', h14, h16, h18, h36, h39, h47] <;> rfl)) (ih_M_law29_OrderInner_l0 _ _ h lo c Q hb hr)
          · replace h := ite_none h h35
            cases h
    · replace h := ite_none h h7; replace h7 := bfalse h7
      try simp -implicitDefEqProofs only [go_sem, h7]
      injection h with h; subst h
      exact .inr ⟨[], _, by (simp -implicitDefEqProofs only [go_sem, h7] <;> first | done | rfl | trivial), hb _ rfl⟩
theorem M_law29_OrderInner.l0.w : type_of% @M_law29_OrderInner.l0.ws := @M_law29_OrderInner.l0.ws
end
section
attribute [local instance] mu_31
def M_law29_OrderInner (x : T_cost_Model × T_api_Tree × T_api_Tree) : Option (Bool) :=
  M_law29_light (x.1, [x.2.1, x.2.2]) >>= fun r1 =>
  if r1 = true then
    if ((x.2.1.Kids.length : Int) != 2) = true then
      M_law29_awake () >>= fun r5 =>
      some r5
    else
      M_law29_OrderInner.l0 (0, x.1, (⟨x.2.1.Kind, x.2.1.Table, x.2.1.Kids, x.2.1.Conj, x.2.1.Hash⟩ : T_api_Tree), x.2.2) >>= fun (o51 : Lp (Unit) (Bool)) => match o51 with
      | .brk s54 =>
        M_law29_awake () >>= fun r55 =>
        some r55
      | .ret r53 =>
        some r53
  else
    M_law29_awake () >>= fun r57 =>
    some r57
set_option maxHeartbeats 8000000 in
theorem M_law29_OrderInner.w : ∀ (x : T_cost_Model × T_api_Tree × T_api_Tree) (r : Bool), M_law29_OrderInner x = some r → (fun (x : T_cost_Model × T_api_Tree × T_api_Tree) (r : Bool) => Fn Try.prog 6 [.agg (T_cost_Model.C x.1), .agg (T_api_Tree.C (⟨x.2.1.Kind, x.2.1.Table, x.2.1.Kids, x.2.1.Conj, x.2.1.Hash⟩ : T_api_Tree)), .agg (T_api_Tree.C x.2.2)] (.bool r)) x r := by
  intro x r h
  rw [M_law29_OrderInner] at h
  try dsimp only
  refine Fn.of_lc mix fn_6 lok_6 (by rfl) (flC (T_cost_Model.flatC _) (flC (T_api_Tree.flatC _) (flC (T_api_Tree.flatC _) (flN)))) (.atom _) ?_
  simp -implicitDefEqProofs only [go_sem, Try.f6]
  obtain ⟨r1, h2, h⟩ := bind_some' h
  have hw := M_law29_light.w (x.1, [x.2.1, x.2.2]) _ h2
  try simp -implicitDefEqProofs only [go_sem] at hw
  have hfl : ∀ a ∈ [(.agg (T_cost_Model.C x.1) : AV), (.slice .foreign (([x.2.1, x.2.2]).map T_api_Tree.av) : AV)], Flat a := (flC (T_cost_Model.flatC _) (flC (flat_slice _ T_api_Tree.flat _) (flN)))
  try simp -implicitDefEqProofs only [go_sem] at hfl
  refine ⟨_, hw, by first | exact hfl | (simp -implicitDefEqProofs only [go_sem]; exact hfl), (.atom _), ?_⟩
  clear hw hfl
  try simp -implicitDefEqProofs only [go_sem]
  by_cases h3 : r1 = true
  · replace h := ite_some h h3
    try simp -implicitDefEqProofs only [go_sem, h3]
    by_cases h4 : ((x.2.1.Kids.length : Int) != 2) = true
    · replace h := ite_some h h4
      try simp -implicitDefEqProofs only [go_sem, h3, h4]
      obtain ⟨r5, h6, h⟩ := bind_some' h
      refine .plain _ _ rfl (M_law29_awake.w () _ h6) ?_
      try simp -implicitDefEqProofs only [go_sem, h3, h4]
      injection h with h; subst h
      first | rfl | simp -implicitDefEqProofs only [go_sem, h3, h4] <;> rfl
    · replace h := ite_none h h4; replace h4 := bfalse h4
      try simp -implicitDefEqProofs only [go_sem, h3, h4]
      obtain ⟨o51, h52, h⟩ := bind_some' h
      refine LLoop.viewQ (LLoop.view [] (by (first | rfl | simp -implicitDefEqProofs only [go_sem, h3, h4] <;> rfl)) (M_law29_OrderInner.l0.w (0, x.1, (⟨x.2.1.Kind, x.2.1.Table, x.2.1.Kids, x.2.1.Conj, x.2.1.Hash⟩ : T_api_Tree), x.2.2) _ h52 _ _ _ ?_ ?_))
      · intro s54 hs'; subst hs'
        try simp -implicitDefEqProofs only [go_sem, h3, h4]
        obtain ⟨r55, h56, h⟩ := bind_some' h
        refine .plain _ _ rfl (M_law29_awake.w () _ h56) ?_
        try simp -implicitDefEqProofs only [go_sem, h3, h4]
        injection h with h; subst h
        first | rfl | simp -implicitDefEqProofs only [go_sem, h3, h4] <;> rfl
      · intro r53 L' hs' hL'; subst hs'
        injection h with h; subst h
        first | exact hL' | (simp -implicitDefEqProofs only [go_sem]; exact hL') | (simp -implicitDefEqProofs only [go_sem]; simp -implicitDefEqProofs only [go_sem] at hL'; exact hL')
  · replace h := ite_none h h3; replace h3 := bfalse h3
    try simp -implicitDefEqProofs only [go_sem, h3]
    obtain ⟨r57, h58, h⟩ := bind_some' h
    refine .plain _ _ rfl (M_law29_awake.w () _ h58) ?_
    try simp -implicitDefEqProofs only [go_sem, h3]
    injection h with h; subst h
    first | rfl | simp -implicitDefEqProofs only [go_sem, h3] <;> rfl
end
end Go.Proofs.Ytcfekacmmfdggaa.G
set_option linter.unusedVariables false
set_option linter.unusedSimpArgs false
namespace Go.Proofs.Ytcfekacmmfdggaa.G

theorem compare_plain (m : T_cost_Model) (hE : m.Edges.length < 9223372036854775808) (a b : T_api_Tree) (ha : a.size ≤ 1000000) (hb : b.size ≤ 1000000) : M_order_Compare (m, a, b) = some (cmpS (nodeS m.Kind m.Edges m.Stats) a b) := by
  unfold M_order_Compare
  dsimp only
  rw [order_compare_eq m hE 1000000 (by omega) a b ha hb]; rfl
theorem inner_num : w64 (0 + 1) = 1 ∧ w64 (1 + 1) = 2 ∧ w64 1 = 1 ∧ w64 2 = 2 := by decide
theorem orderInner_step0 (m : T_cost_Model) (hE : m.Edges.length < 9223372036854775808) (t k x y o : T_api_Tree) (hk : t.Kids = [x, y])
    (ho : (⟨t.Kind, t.Table, [k, y], t.Conj, false⟩ : T_api_Tree) = o) (st : t.size ≤ 1000) (sk : k.size ≤ 1000) (sz : x.size ≤ 1000) (so : o.size ≤ 3000)
    (hc : tabs k = tabs x → cmpS (nodeS m.Kind m.Edges m.Stats) k x ≤ 0 → cmpS (nodeS m.Kind m.Edges m.Stats) o t ≤ 0 ∧ (cmpS (nodeS m.Kind m.Edges m.Stats) k x < 0 → cmpS (nodeS m.Kind m.Edges m.Stats) o t < 0)) :
    M_law29_OrderInner.l0 (0, m, t, k) = M_law29_OrderInner.l0 (1, m, t, k) := by
  obtain ⟨w1, w2, v1, v2⟩ := inner_num
  have k0 : [x, y][0]? = some x := rfl
  have k1 : [x, y][1]? = some y := rfl
  have g : getI [x, y] 0 = some x := rfl
  rw [M_law29_OrderInner.l0, if_pos (by rfl)]
  dsimp only
  rw [hk, g, k0, k1, ref10_Tables_eq k (by omega)]
  simp -implicitDefEqProofs only [Option.bind_eq_bind, Option.bind_some]
  rw [ref10_Tables_eq x (by omega), w1, v1]
  simp -implicitDefEqProofs only [Option.bind_some]
  by_cases ht : tabs k = tabs x
  · rw [if_neg (by simp [ht]), if_pos (by rfl), ho, compare_plain m hE k x (by omega) (by omega), compare_plain m hE o t (by omega) (by omega)]
    simp -implicitDefEqProofs only [Option.bind_some]
    by_cases c1 : cmpS (nodeS m.Kind m.Edges m.Stats) k x ≤ 0
    · obtain ⟨d1, d2⟩ := hc ht c1
      rw [if_pos (decide_eq_true c1), if_neg (by simp only [decide_eq_true_eq]; omega)]
      by_cases c2 : cmpS (nodeS m.Kind m.Edges m.Stats) k x < 0
      · have d3 := d2 c2
        rw [if_pos (decide_eq_true c2), if_neg (by simp only [decide_eq_true_eq]; omega)]
      · rw [if_neg (by simp only [decide_eq_true_eq]; exact c2)]
    · rw [if_neg (by simp only [decide_eq_true_eq]; exact c1), if_neg (by simp only [decide_eq_true_eq]; omega)]
  · rw [if_pos (by simp [ht])]
theorem orderInner_step1 (m : T_cost_Model) (hE : m.Edges.length < 9223372036854775808) (t k x y o : T_api_Tree) (hk : t.Kids = [x, y])
    (ho : (⟨t.Kind, t.Table, [x, k], t.Conj, false⟩ : T_api_Tree) = o) (st : t.size ≤ 1000) (sk : k.size ≤ 1000) (sz : y.size ≤ 1000) (so : o.size ≤ 3000)
    (hc : tabs k = tabs y → cmpS (nodeS m.Kind m.Edges m.Stats) k y ≤ 0 → cmpS (nodeS m.Kind m.Edges m.Stats) o t ≤ 0 ∧ (cmpS (nodeS m.Kind m.Edges m.Stats) k y < 0 → cmpS (nodeS m.Kind m.Edges m.Stats) o t < 0)) :
    M_law29_OrderInner.l0 (1, m, t, k) = M_law29_OrderInner.l0 (2, m, t, k) := by
  obtain ⟨w1, w2, v1, v2⟩ := inner_num
  have k0 : [x, y][0]? = some x := rfl
  have k1 : [x, y][1]? = some y := rfl
  have g : getI [x, y] 1 = some y := rfl
  rw [M_law29_OrderInner.l0, if_pos (by rfl)]
  dsimp only
  rw [hk, g, k0, k1, ref10_Tables_eq k (by omega)]
  simp -implicitDefEqProofs only [Option.bind_eq_bind, Option.bind_some]
  rw [ref10_Tables_eq y (by omega), w2, v2]
  simp -implicitDefEqProofs only [Option.bind_some]
  by_cases ht : tabs k = tabs y
  · rw [if_neg (by simp [ht]), if_neg (by decide), if_pos (by rfl), ho, compare_plain m hE k y (by omega) (by omega), compare_plain m hE o t (by omega) (by omega)]
    simp -implicitDefEqProofs only [Option.bind_some]
    by_cases c1 : cmpS (nodeS m.Kind m.Edges m.Stats) k y ≤ 0
    · obtain ⟨d1, d2⟩ := hc ht c1
      rw [if_pos (decide_eq_true c1), if_neg (by simp only [decide_eq_true_eq]; omega)]
      by_cases c2 : cmpS (nodeS m.Kind m.Edges m.Stats) k y < 0
      · have d3 := d2 c2
        rw [if_pos (decide_eq_true c2), if_neg (by simp only [decide_eq_true_eq]; omega)]
      · rw [if_neg (by simp only [decide_eq_true_eq]; exact c2)]
    · rw [if_neg (by simp only [decide_eq_true_eq]; exact c1), if_neg (by simp only [decide_eq_true_eq]; omega)]
  · rw [if_pos (by simp [ht])]
/-- A tree comes first if one of its kids does, and else it is the same. -/
theorem orderInner_plain (m : T_cost_Model) (t k : T_api_Tree) : M_law29_OrderInner (m, t, k) = some true := by
  have haw := law29_awake_plain
  unfold M_law29_OrderInner
  dsimp only
  obtain ⟨b, h1, h2⟩ := law29_light_eq m [t, k]
  rw [h1]
  simp -implicitDefEqProofs only [Option.bind_eq_bind, Option.bind_some]
  by_cases hb : b = true
  · rw [if_pos hb]
    obtain ⟨g1, g2, g3⟩ := h2 hb
    have st := g3 t (by simp)
    have sk := g3 k (by simp)
    by_cases hl : t.Kids.length = 2
    · rw [if_neg (by simp [hl])]
      obtain ⟨x, y, hxy⟩ := two_kids hl
      have hE : m.Edges.length < 9223372036854775808 := by omega
      have hsum : t.size = 1 + (t.Conj.map T_api_Pred.size).sum + (x.size + y.size) := by rw [tsize_eq, hxy]; simp
      have so0 : (⟨t.Kind, t.Table, [k, y], t.Conj, false⟩ : T_api_Tree).size = 1 + (t.Conj.map T_api_Pred.size).sum + (k.size + y.size) := by rw [tsize_eq]; simp
      have so1 : (⟨t.Kind, t.Table, [x, k], t.Conj, false⟩ : T_api_Tree).size = 1 + (t.Conj.map T_api_Pred.size).sum + (x.size + k.size) := by rw [tsize_eq]; simp
      have e0 := orderInner_step0 m hE t k x y ⟨t.Kind, t.Table, [k, y], t.Conj, false⟩ hxy rfl (by omega) (by omega) (by omega) (by omega) (fun ht hc => by
        have := cmp_swap (nodeS m.Kind m.Edges m.Stats) (o := ⟨t.Kind, t.Table, [k, y], t.Conj, false⟩) (u := k) (v := y) hxy rfl rfl ht rfl (.inr ⟨rfl, hc⟩)
        exact ⟨this.1, fun h => this.2 (.inl h)⟩)
      have e1 := orderInner_step1 m hE t k x y ⟨t.Kind, t.Table, [x, k], t.Conj, false⟩ hxy rfl (by omega) (by omega) (by omega) (by omega) (fun ht hc => by
        have := cmp_swap (nodeS m.Kind m.Edges m.Stats) (o := ⟨t.Kind, t.Table, [x, k], t.Conj, false⟩) (u := x) (v := k) hxy rfl rfl rfl ht (.inl ⟨rfl, hc⟩)
        exact ⟨this.1, fun h => this.2 (.inr h)⟩)
      have e : M_law29_OrderInner.l0 (0, m, t, k) = some (.brk ()) := by
        rw [e0, e1, M_law29_OrderInner.l0, if_neg (by simp)]
      have et : (⟨t.Kind, t.Table, t.Kids, t.Conj, t.Hash⟩ : T_api_Tree) = t := by cases t; rfl
      rw [et, e]
      simp -implicitDefEqProofs only [Option.bind_some]
      rw [haw]; rfl
    · rw [if_pos (by simp; omega), haw]; rfl
  · rw [if_neg hb, haw]; rfl
end Go.Proofs.Ytcfekacmmfdggaa.G
set_option linter.unusedVariables false
set_option linter.unusedSimpArgs false
namespace Go.Proofs.Ytcfekacmmfdggaa.G
open Go.ChangeShapes Go.WideShapes Go.ChangeAt Go.RowKit

theorem memOk0 (μ : TypeId → Bool) (w : World) : MemOk gE (mE μ) w := by
  constructor <;> intros <;> simp_all [gE, mE]
theorem imm0 (b n : Nat) : Imm gE b n := ⟨fun l h => by simp [gE] at h, fun id h => by simp [gE] at h⟩

/-- **A law's function that tells true: a call's fact.** -/
theorem Fn.law {P : Program} {f : FuncId} {args : List AV} {vs : Array Value} {w : World} (h : Fn P f args (.bool true)) (hr : Reps gE w args vs) :
    Calls P f vs w fun e w' => e = .returned (.bool true) ∧ Below w.heap.size w w' := by
  have h0 := h (mE fun _ => false)
  refine (callsIn_wide.1 (h0.2.2 gE w vs ⟨fun _ _ _ => rfl, fun _ _ _ => rfl⟩ (memOk0 _ w) hr)).mono ?_
  rintro e w' ⟨v, g', rfl, hs, hm, hv⟩
  rw [hv.atom_inv]
  exact ⟨rfl, hs.os, hs.tape, hs.output, hs.size, fun b hb => hs.same b hb (fun l h => by simp [mE] at h) (fun l h => by simp [mE] at h)⟩

theorem Reps.nil {g : Gh} {w : World} : Reps g w [] #[] := ⟨rfl, fun j c v h => by cases h⟩
theorem Reps.cons {g : Gh} {w : World} {a : AV} {v : Value} {as_ : List AV} {vs : List Value} (h : Rep g w a v) (hs : Reps g w as_ vs.toArray) : Reps g w (a :: as_) (v :: vs).toArray := by
  refine ⟨by have := hs.1; simp at this ⊢; omega, fun j c x hc hx => ?_⟩
  cases j with
  | zero => simp at hc hx; subst hc hx; exact h
  | succ j => simp at hc hx; exact hs.2 j c x hc (by simpa using hx)

/-- A type's value out of its cells. -/
def ofCells (P : Program) (t : TypeId) (cs : List AV) : Option AV :=
  match aggT P t with
  | some true => some (.agg cs)
  | some false => match cs with
    | [c] => some c
    | _ => none
  | none => none
/-- Data of a type: numbers, truths, texts; rows and structs of these. -/
inductive Wt (P : Program) : TypeId → List AV → Prop
  | bool (t : TypeId) (b : Bool) (ht : P.underlying t = some .bool) : Wt P t [.atom (.bool b)]
  | int (t : TypeId) (k : IntKind) (n : Int) (ht : P.underlying t = some (.int k)) (h : k.min ≤ n ∧ n ≤ k.max) : Wt P t [.atom (.int k n)]
  | string (t : TypeId) (s : ByteArray) (ht : P.underlying t = some .string) (h : s.size ≤ maxLen) : Wt P t [.atom (.string s)]
  | slice (t e : TypeId) (es : List AV) (ht : P.underlying t = some (.slice e)) (hl : es.length ≤ maxLen) (h : ∀ x ∈ es, Wt P e x.cells) (hf : ∀ x ∈ es, ofCells P e x.cells = some x) : Wt P t [.slice .foreign es]
  | struct (t : TypeId) (fs : Array Field) (cs : List AV) (ht : P.underlying t = some (.struct fs)) (hl : cs.length = P.cellsOf t) (h : ∀ (i : Nat) (f : Field), fs[i]? = some f → Wt P f.type ((cs.drop f.offset).take (P.cellsOf f.type))) : Wt P t cs
  | array (t e : TypeId) (n : Nat) (cs : List AV) (ht : P.underlying t = some (.array n e)) (hl : cs.length = P.cellsOf t) (h : ∀ i, i < n → Wt P e ((cs.drop (i * P.cellsOf e)).take (P.cellsOf e))) : Wt P t cs

/-- Parts one behind the other. -/
def tiles : Nat → List (Nat × Nat) → Option Nat
  | k, [] => some k
  | k, (o, s) :: l => if o = k then tiles (k + s) l else none
/-- Types of data, and all that are within. -/
def plainT (P : Program) (S : List TypeId) : Bool := S.all fun t => match P.underlying t with
  | some .bool | some (.int _) | some .string => P.cellsOf t == 1
  | some (.slice e) => S.contains e && decide (0 < P.cellsOf e) && P.cellsOf t == 1
  | some (.struct fs) => (fs.all fun f => S.contains f.type) && tiles 0 (fs.toList.map fun f => (f.offset, P.cellsOf f.type)) == some (P.cellsOf t)
  | some (.array n e) => S.contains e && tiles 0 ((List.range n).map fun i => (i * P.cellsOf e, P.cellsOf e)) == some (P.cellsOf t)
  | _ => false

section
variable {H : Type} {enc : TypeId × Value → H} {P : Program} {W : World} {base b0 : Nat} {spare : Nat → Bool} {held : Bool} {r : Reach}

theorem cells?_get {w : World} {a : Addr} {n : Nat} {cs : List Value} (h : w.cells? base a n = some cs) : cs.length = n ∧ ∀ (j : Nat) (v : Value), cs[j]? = some v → w.cell? (a.add j) = some v := by
  unfold World.cells? at h
  split at h
  · have h1 := mapM_some_length h
    refine ⟨by simpa using h1, fun j v hj => ?_⟩
    have hlt : j < n := by rw [← List.length_range (n := n), ← h1]; exact (List.getElem?_eq_some_iff.1 hj).1
    rw [mapM_some_get h j j (by simp [hlt])]; exact hj
  · cases h

/-- Each part of cells that stand for values. -/
def CellsRep (w : World) (as_ : List AV) (cs : List Value) : Prop := as_.length = cs.length ∧ (∀ c ∈ as_, c.one = true) ∧ ∀ (j : Nat) (a : AV) (v : Value), as_[j]? = some a → cs[j]? = some v → Rep gE w a v

theorem tiles_le : ∀ {l : List (Nat × Nat)} {k n : Nat}, tiles k l = some n → k ≤ n := by
  intro l
  induction l with
  | nil => intro k n h; simp [tiles] at h; omega
  | cons x l ih =>
    intro k n h
    obtain ⟨o, s⟩ := x
    simp only [tiles] at h
    split at h
    · have := ih h; omega
    · cases h
theorem tile {w : World} {cs : List Value} {n : Nat} (hn : cs.length = n) : ∀ (l : List (Nat × Nat)) (k : Nat) (Q : Nat → List AV → Prop), tiles k l = some n → (∀ (i o s : Nat), l[i]? = some (o, s) → ∃ as_, CellsRep w as_ ((cs.drop o).take s) ∧ Q i as_) →
    ∃ as_, CellsRep w as_ (cs.drop k) ∧ ∀ (i o s : Nat), l[i]? = some (o, s) → k ≤ o ∧ Q i ((as_.drop (o - k)).take s) := by
  intro l
  induction l with
  | nil =>
    intro k Q h _
    simp [tiles] at h
    subst h
    exact ⟨[], ⟨by simp; omega, by simp, fun j a v h => by simp at h⟩, fun i o s h => by simp at h⟩
  | cons x l ih =>
    intro k Q h hp
    obtain ⟨o, s⟩ := x
    simp only [tiles] at h
    split at h
    · rename_i hok
      subst hok
      have hle := tiles_le h
      obtain ⟨as0, ⟨h1, h2, h3⟩, hq⟩ := hp 0 o s rfl
      obtain ⟨as1, ⟨h4, h5, h6⟩, hq1⟩ := ih (o + s) (fun i => Q (i + 1)) h (fun i o' s' hi => hp (i + 1) o' s' (by simpa using hi))
      have hl0 : as0.length = s := by rw [h1]; simp; omega
      refine ⟨as0 ++ as1, ⟨by simp [hl0, h4]; omega, fun c hc => (List.mem_append.1 hc).elim (h2 c) (h5 c), fun j a v ha hv => ?_⟩, fun i o' s' hi => ?_⟩
      · rw [List.getElem?_drop] at hv
        by_cases hj : j < s
        · rw [List.getElem?_append_left (by omega)] at ha
          exact h3 j a v ha (by rw [List.getElem?_take_of_lt hj, List.getElem?_drop]; exact hv)
        · rw [List.getElem?_append_right (by omega), hl0] at ha
          exact h6 (j - s) a v ha (by rw [List.getElem?_drop, ← hv]; congr 1; omega)
      · cases i with
        | zero =>
          simp at hi
          obtain ⟨rfl, rfl⟩ := hi
          refine ⟨Nat.le_refl _, ?_⟩
          rw [Nat.sub_self, List.drop_zero, List.take_append_of_le_length (by omega), List.take_of_length_le (by omega)]
          exact hq
        | succ i =>
          obtain ⟨h7, h8⟩ := hq1 i o' s' (by simpa using hi)
          refine ⟨by omega, ?_⟩
          have : o' - o = s + (o' - (o + s)) := by omega
          have hd : List.drop (s + (o' - (o + s))) as0 = [] := List.drop_eq_nil_of_le (by omega)
          rw [this, List.drop_append, hd, hl0, List.nil_append, show s + (o' - (o + s)) - s = o' - (o + s) from by omega]
          exact h8
    · cases h

theorem ofCells_cells {t : TypeId} {cs : List AV} {x : AV} (h : ofCells P t cs = some x) (ho : ∀ c ∈ cs, c.one = true) : x.cells = cs := by
  unfold ofCells at h
  split at h
  · injection h with h; subst h; rfl
  · split at h
    · injection h with h; subst h
      rename_i c
      have := ho c (by simp)
      cases c <;> first | rfl | (simp [AV.one] at this)
    · cases h
  · cases h

/-- **What the caller's data is.** -/
theorem reads {S : List TypeId} (hS : plainT P S = true) : ∀ (fuel : Nat) (t : TypeId) (cs : List Value) (x : DataW H × List MemPlace), t ∈ S → DataW.trod enc P W base spare held fuel t cs = some x → ∃ as_, CellsRep W as_ cs ∧ Wt P t as_ ∧ cs.length = P.cellsOf t := by
  intro fuel
  induction fuel with
  | zero => intro t cs x _ h; simp [DataW.trod] at h
  | succ fuel ih =>
    intro t cs x ht h
    have hp := List.all_eq_true.1 hS t ht
    have one1 : ∀ (a : AV) (v : Value), a.one = true → Rep gE W a v → CellsRep W [a] [v] := fun a v ho hr => ⟨rfl, by simpa using ho, fun j a' v' h1 h2 => by
      cases j with
      | zero => simp at h1 h2; subst h1 h2; exact hr
      | succ j => simp at h1⟩
    split at hp
    · rename_i hu
      obtain ⟨b, rfl, _⟩ := DataW.trod_bool hu h
      exact ⟨_, one1 _ _ rfl (.atom (.bool b) rfl), .bool t b hu, by simp at hp ⊢; exact hp.symm⟩
    · rename_i k hu
      obtain ⟨n, rfl, _, hw⟩ := DataW.trod_int hu h
      exact ⟨_, one1 _ _ rfl (.atom (.int k n) rfl), .int t k n hu (by simpa [Lit.wf] using hw), by simp at hp ⊢; exact hp.symm⟩
    · rename_i hu
      obtain ⟨s, rfl, _, hw⟩ := DataW.trod_string hu h
      exact ⟨_, one1 _ _ rfl (.atom (.string s) rfl), .string t s hu hw, by simp at hp ⊢; exact hp.symm⟩
    · rename_i e hu
      simp only [Bool.and_eq_true, decide_eq_true_eq, List.contains_iff_mem, beq_iff_eq] at hp
      obtain ⟨⟨he, hz⟩, hct⟩ := hp
      rcases DataW.trod_slice hu h with ⟨rfl, _⟩ | ⟨a, len, cap, elems, rest, n, hn, rfl, _, hb, hl, hm, hlen, hel, _, _⟩
      · exact ⟨_, one1 _ _ rfl (.nil .foreign none 0 (fun id h => by cases h) (fun h => by cases h)), .slice t e [] hu (by simp) (by simp) (by simp), by simp [hct]⟩
      · obtain rfl : fuel = n := by omega
        -- the elements
        have each : ∀ i, i < len → ∃ (cs : List Value) (as_ : List AV), W.cells? base (a.add (i * P.cellsOf e)) (P.cellsOf e) = some cs ∧ CellsRep W as_ cs ∧ Wt P e as_ ∧ cs.length = P.cellsOf e := by
          intro i hi
          have h1 := hel i hi
          obtain ⟨y, hy⟩ : ∃ y, elems[i]? = some y := ⟨_, List.getElem?_eq_getElem (by omega)⟩
          rw [hy, Option.bind_eq_some_iff] at h1
          obtain ⟨cs, h2, h3⟩ := h1
          obtain ⟨as_, h4, h5, h6⟩ := ih e cs y he h3
          exact ⟨cs, as_, h2, h4, h5, h6⟩
        have fm : ∀ cs, Wt P e cs → ∃ x, ofCells P e cs = some x := by
          intro cs hw
          unfold ofCells aggT
          cases hw with
          | bool t b ht => rw [ht]; exact ⟨_, rfl⟩
          | int t k n ht _ => rw [ht]; exact ⟨_, rfl⟩
          | string t s ht _ => rw [ht]; exact ⟨_, rfl⟩
          | slice t e es ht _ _ _ => rw [ht]; exact ⟨_, rfl⟩
          | struct t fs cs ht _ _ => rw [ht]; exact ⟨_, rfl⟩
          | array t e n cs ht _ _ => rw [ht]; exact ⟨_, rfl⟩
        have each2 : ∀ i, ∃ x : AV, i < len → ∃ cs, W.cells? base (a.add (i * P.cellsOf e)) (P.cellsOf e) = some cs ∧ CellsRep W x.cells cs ∧ Wt P e x.cells ∧ ofCells P e x.cells = some x ∧ x.cells.length = P.cellsOf e := by
          intro i
          by_cases hi : i < len
          · obtain ⟨cs, as_, h1, h2, h3, h4⟩ := each i hi
            obtain ⟨x, hx⟩ := fm as_ h3
            have hxc := ofCells_cells hx h2.2.1
            exact ⟨x, fun _ => ⟨cs, h1, by rw [hxc]; exact h2, by rw [hxc]; exact h3, by rw [hxc]; exact hx, by rw [hxc, h2.1, h4]⟩⟩
          · exact ⟨.undef, fun h => absurd h hi⟩
        obtain ⟨el, hel2⟩ := Classical.axiomOfChoice each2
        have hes : ∀ (i : Nat) (x : AV), ((List.range len).map el)[i]? = some x → i < len ∧ x = el i := by
          intro i x hx
          rw [List.getElem?_map] at hx
          cases hr : (List.range len)[i]? with
          | none => rw [hr] at hx; cases hx
          | some j =>
            rw [hr] at hx; injection hx with hx
            obtain ⟨h1, h2⟩ := List.getElem?_eq_some_iff.1 hr
            simp at h1 h2; subst h2; exact ⟨h1, hx.symm⟩
        have hmem : ∀ x ∈ (List.range len).map el, ∃ i, i < len ∧ x = el i := by
          intro x hx
          obtain ⟨i, hi, rfl⟩ := List.mem_map.1 hx
          exact ⟨i, by simpa using hi, rfl⟩
        refine ⟨[.slice .foreign ((List.range len).map el)], one1 _ _ rfl ?_, .slice t e _ hu (by simp; omega) (fun x hx => ?_) (fun x hx => ?_), by simp [hct]⟩
        · by_cases h0 : len = 0
          · subst h0; exact .nil .foreign _ _ (fun id h => by cases h) (fun h => by cases h)
          · have hspot : a.spot = none := by
              obtain ⟨cs, h1, h2, _, _, h3⟩ := hel2 0 (by omega)
              have hcl : 0 < cs.length := by rw [← h2.1, h3]; exact hz
              have h4 := (cells?_get h1).2 0 _ (List.getElem?_eq_getElem hcl)
              unfold World.cell? at h4
              split at h4
              · split at h4
                · cases h4
                · rename_i hs
                  obtain ⟨b, o, sp⟩ := a
                  cases sp with
                  | none => rfl
                  | some s => simp [Addr.add] at hs
              · cases h4
            obtain ⟨b, o, sp⟩ := a
            dsimp only at hspot
            subst hspot
            have hlm : ((List.range len).map el).length = len := by simp
            have key : Rep gE W (.slice .foreign ((List.range len).map el)) (.slice (some ⟨b, o, none⟩) ((List.range len).map el).length cap) := by
              refine Rep.slice_mk hz (fun x hx => ?_) (fun _ => imm0 _ _) (fun i x hx => ?_) (by rw [hlm]; exact hl) trivial
              · obtain ⟨i, hi, rfl⟩ := hmem x hx
                obtain ⟨cs, _, _, _, _, h3⟩ := hel2 i hi
                exact h3
              · obtain ⟨hi, rfl⟩ := hes i x hx
                obtain ⟨cs, h1, h2, _, _, h3⟩ := hel2 i hi
                refine ⟨h2.2.1, fun j c hj => ?_⟩
                have hlt : j < cs.length := by rw [← h2.1]; exact (List.getElem?_eq_some_iff.1 hj).1
                have h4 := (cells?_get h1).2 j _ (List.getElem?_eq_getElem hlt)
                rw [add_plain, add_plain] at h4
                exact ⟨_, h4, h2.2.2 j c _ hj (List.getElem?_eq_getElem hlt)⟩
            rw [hlm] at key
            exact key
        · obtain ⟨i, hi, rfl⟩ := hmem x hx
          obtain ⟨cs, _, _, h3, _, _⟩ := hel2 i hi
          exact h3
        · obtain ⟨i, hi, rfl⟩ := hmem x hx
          obtain ⟨cs, _, _, _, h3, _⟩ := hel2 i hi
          exact h3
    · rename_i fs hu
      simp only [Bool.and_eq_true, beq_iff_eq] at hp
      obtain ⟨hp1, hp2⟩ := hp
      obtain ⟨xs, n, hn, _, hl, hxl, hf⟩ := DataW.trod_struct hu h
      obtain rfl : fuel = n := by omega
      obtain ⟨as_, h1, h2⟩ := tile (w := W) hl _ 0 (fun i as_ => ∀ f, fs[i]? = some f → Wt P f.type as_) hp2 (fun i o s hi => by
        rw [List.getElem?_map] at hi
        cases hfi : fs.toList[i]? with
        | none => rw [hfi] at hi; cases hi
        | some f =>
          rw [hfi] at hi; injection hi with hi; injection hi with e1 e2; subst e1 e2
          have hfi' : fs[i]? = some f := by simpa using hfi
          have h3 := hf i f hfi'
          obtain ⟨y, hy⟩ : ∃ y, xs[i]? = some y := ⟨_, List.getElem?_eq_getElem (by rw [hxl]; exact (Array.getElem?_eq_some_iff.1 hfi').1)⟩
          rw [hy] at h3
          have hmem : f.type ∈ S := by
            rw [← Array.all_toList] at hp1
            simpa using List.all_eq_true.1 hp1 f (List.mem_of_getElem? hfi)
          obtain ⟨as_, h4, h5, h6⟩ := ih _ _ _ hmem h3
          exact ⟨as_, h4, fun f' hf' => by rw [hfi'] at hf'; injection hf' with hf'; subst hf'; exact h5⟩)
      refine ⟨as_, by simpa using h1, .struct t fs as_ hu (by rw [h1.1]; simpa using hl) (fun i f hfi => ?_), hl⟩
      have := (h2 i f.offset (P.cellsOf f.type) (by simp [hfi])).2 f hfi
      simpa using this
    · rename_i m e hu
      simp only [Bool.and_eq_true, beq_iff_eq, List.contains_iff_mem] at hp
      obtain ⟨hp1, hp2⟩ := hp
      obtain ⟨xs, n, hn, _, hl, hxl, hf⟩ := DataW.trod_array hu h
      obtain rfl : fuel = n := by omega
      obtain ⟨as_, h1, h2⟩ := tile (w := W) hl _ 0 (fun i as_ => Wt P e as_) hp2 (fun i o s hi => by
        rw [List.getElem?_map] at hi
        cases hfi : (List.range m)[i]? with
        | none => rw [hfi] at hi; cases hi
        | some j =>
          rw [hfi] at hi; injection hi with hi; injection hi with e1 e2; subst e1 e2
          obtain ⟨q1, q2⟩ := List.getElem?_eq_some_iff.1 hfi
          simp at q1 q2; subst q2
          have h3 := hf i q1
          obtain ⟨y, hy⟩ : ∃ y, xs[i]? = some y := ⟨_, List.getElem?_eq_getElem (by omega)⟩
          rw [hy] at h3
          obtain ⟨as_, h4, h5, h6⟩ := ih _ _ _ hp1 h3
          exact ⟨as_, h4, h5⟩)
      refine ⟨as_, by simpa using h1, .array t e m as_ hu (by rw [h1.1]; simpa using hl) (fun i hi => ?_), hl⟩
      have := (h2 i (i * P.cellsOf e) (P.cellsOf e) (by simp [hi])).2
      simpa using this
    · cases hp

/-- A parameter. -/
theorem reads_param {S : List TypeId} (hS : plainT P S = true) {t : TypeId} {v : Value} {d : DataW H} {ps : List MemPlace} (ht : t ∈ S) (hval : Value.okWide P W r b0 t v) (hd : DataW.Trod enc P W base spare held t v d ps) : ∃ a as_, Rep gE W a v ∧ Wt P t as_ ∧ ofCells P t as_ = some a := by
  obtain ⟨fuel, hf⟩ := hd
  obtain ⟨as_, ⟨h1, h2, h3⟩, h4, h5⟩ := reads hS fuel t _ _ ht hf
  have single : (∀ cs, v ≠ .agg cs) → (∀ cs, v ≠ .tuple cs) → v.cells = #[v] := by
    intro ha hb
    cases v <;> first | rfl | (exact absurd rfl (ha _)) | (exact absurd rfl (hb _))
  have hp := List.all_eq_true.1 hS t ht
  unfold Value.okWide at hval
  cases hu : P.underlying t with
  | none => rw [hu] at hp; cases hp
  | some dsc =>
    have agg : (∃ cs, v = .agg cs ∧ cs.size = P.cellsOf t ∧ Row.okWide P W r b0 t cs) → aggT P t = some true → ∃ a as_, Rep gE W a v ∧ Wt P t as_ ∧ ofCells P t as_ = some a := by
      rintro ⟨cs, rfl, hsz, _⟩ hag
      refine ⟨.agg as_, as_, .agg as_ cs (by rw [h1]; simp [Value.cells]) h2 (fun j c u hj hu => h3 j c u hj (by simpa [Value.cells] using hu)), h4, ?_⟩
      unfold ofCells
      rw [hag]
    have one1 : aggT P t = some false → P.cellsOf t = 1 → (∃ u, v.cells = #[u] ∧ u = v) → ∃ a as_, Rep gE W a v ∧ Wt P t as_ ∧ ofCells P t as_ = some a := by
      rintro hag hct ⟨u, hu, rfl⟩
      have hl : as_.length = 1 := by rw [h1, hu]; rfl
      obtain ⟨a, rfl⟩ : ∃ a, as_ = [a] := by
        match as_, hl with
        | [a], _ => exact ⟨a, rfl⟩
      refine ⟨a, [a], h3 0 a u rfl (by rw [hu]; rfl), h4, ?_⟩
      unfold ofCells
      rw [hag]
    have scal : aggT P t = some false → Cell.okWide P W r b0 t v → P.cellsOf t = 1 → ∃ a as_, Rep gE W a v ∧ Wt P t as_ ∧ ofCells P t as_ = some a := by
      intro hag hc hct
      have no : ∀ cs, v ≠ .agg cs ∧ v ≠ .tuple cs := by
        intro cs
        refine ⟨fun e => ?_, fun e => ?_⟩ <;>
        · subst e
          simp only [Cell.okWide, Cell.ok, hu] at hc
      exact one1 hag hct ⟨v, single (fun cs => (no cs).1) (fun cs => (no cs).2), rfl⟩
    rw [hu] at hval hp
    have hs : ∀ b, (match dsc with | .struct _ => true | .array _ _ => true | _ => false) = b → aggT P t = some b := by
      intro b hb
      unfold aggT
      simp only [hu]
      cases dsc <;> simp_all
    cases dsc <;> first | (cases hp; done) | (exact agg hval (hs _ rfl)) | skip
    · exact scal (hs _ rfl) hval (by simpa using hp)
    · exact scal (hs _ rfl) hval (by simpa using hp)
    · exact scal (hs _ rfl) hval (by simpa using hp)
    · simp only [Bool.and_eq_true, beq_iff_eq] at hp; exact scal (hs _ rfl) hval hp.2
end
end Go.Proofs.Ytcfekacmmfdggaa.G
set_option linter.unusedVariables false
set_option linter.unusedSimpArgs false
namespace Go.Proofs.Ytcfekacmmfdggaa.G

def structT (P : Program) (t : TypeId) : Option (List (TypeId × Nat × Nat)) := match P.underlying t with
  | some (.struct fs) => some (fs.toList.map fun f => (f.type, f.offset, P.cellsOf f.type))
  | _ => none
theorem Wt.int_inv {P : Program} {t : TypeId} {k : IntKind} {cs : List AV} (ht : P.underlying t = some (.int k)) (h : Wt P t cs) : ∃ n, cs = [.atom (.int k n)] ∧ k.min ≤ n ∧ n ≤ k.max := by
  cases h <;> rename_i h1 <;> simp_all
theorem Wt.bool_inv {P : Program} {t : TypeId} {cs : List AV} (ht : P.underlying t = some .bool) (h : Wt P t cs) : ∃ b, cs = [.bool b] := by
  cases h <;> rename_i h1 <;> simp_all
theorem Wt.slice_inv {P : Program} {t e : TypeId} {cs : List AV} (ht : P.underlying t = some (.slice e)) (h : Wt P t cs) : ∃ es, cs = [.slice .foreign es] ∧ es.length ≤ maxLen ∧ (∀ x ∈ es, Wt P e x.cells) ∧ ∀ x ∈ es, ofCells P e x.cells = some x := by
  cases h <;> rename_i h1 <;> simp_all
theorem Wt.struct_inv {P : Program} {t : TypeId} {cs : List AV} {l : List (TypeId × Nat × Nat)} (ht : structT P t = some l) (h : Wt P t cs) : cs.length = P.cellsOf t ∧ ∀ (i : Nat) (ty off sz : Nat), l[i]? = some (ty, off, sz) → Wt P ty ((cs.drop off).take sz) := by
  unfold structT at ht
  split at ht
  · rename_i fs hu
    injection ht with ht; subst ht
    cases h <;> rename_i h1 <;> simp_all
    rename_i h2
    intro i ty off sz x hx e1 e2 e3
    subst e1 e2 e3
    exact h2 i x hx
  · cases ht
theorem uncons {α : Type} {cs : List α} {n : Nat} (h : cs.length = n + 1) : ∃ c tl, cs = c :: tl ∧ tl.length = n := by
  cases cs with
  | nil => simp at h
  | cons c tl => exact ⟨c, tl, rfl, by simpa using h⟩
theorem Wt.i64 {P : Program} {t : TypeId} {c : AV} (ht : P.underlying t = some (.int .i64)) (h : Wt P t [c]) : ∃ n, c = .i64 n := by
  obtain ⟨n, hn, _⟩ := h.int_inv ht
  injection hn with hn; exact ⟨n, hn⟩
theorem Wt.b {P : Program} {t : TypeId} {c : AV} (ht : P.underlying t = some .bool) (h : Wt P t [c]) : ∃ n, c = .bool n := by
  obtain ⟨n, hn⟩ := h.bool_inv ht
  injection hn with hn; exact ⟨n, hn⟩
theorem rowsOf {P : Program} {e : TypeId} {α : Type} {f : α → AV} {G : α → Prop} (hagg : ∀ x, ofCells P e (f x).cells = some (f x)) {es : List AV} (h2 : ∀ x ∈ es, ∃ y, x.cells = (f y).cells ∧ G y) (h3 : ∀ x ∈ es, ofCells P e x.cells = some x) : ∃ l : List α, es = l.map f ∧ ∀ x ∈ l, G x := by
  induction es with
  | nil => exact ⟨[], rfl, by simp⟩
  | cons e es ih =>
    obtain ⟨l, rfl, hl⟩ := ih (fun x hx => h2 x (List.mem_cons_of_mem _ hx)) fun x hx => h3 x (List.mem_cons_of_mem _ hx)
    obtain ⟨x, hx, gx⟩ := h2 e (by simp)
    have := h3 e (by simp)
    rw [hx, hagg] at this
    injection this with this
    exact ⟨x :: l, by rw [← this]; rfl, fun y hy => (List.mem_cons.1 hy).elim (fun h => h ▸ gx) (hl y)⟩
theorem structT_field {P : Program} {t : TypeId} {fs : Array Field} {l : List (TypeId × Nat × Nat)} {i ty off sz : Nat} (ht : structT P t = some l) (hu : P.underlying t = some (.struct fs)) (hi : l[i]? = some (ty, off, sz)) : ∃ f, fs[i]? = some f ∧ f.type = ty ∧ f.offset = off ∧ P.cellsOf f.type = sz := by
  unfold structT at ht
  rw [hu] at ht
  injection ht with ht; subst ht
  simp at hi
  obtain ⟨f, hf, h1, h2, h3⟩ := hi
  exact ⟨f, hf, h1, h2, h3⟩
theorem structT_u {P : Program} {t : TypeId} {l : List (TypeId × Nat × Nat)} (ht : structT P t = some l) : ∃ fs, P.underlying t = some (.struct fs) := by
  unfold structT at ht
  split at ht
  · exact ⟨_, by assumption⟩
  · cases ht
theorem u64_mk {n : Int} (h1 : IntKind.u64.min ≤ n) (h2 : n ≤ IntKind.u64.max) : AV.u64 n = .w (BitVec.ofNat 64 n.toNat) := by
  have e1 : IntKind.u64.min = 0 := by decide
  have e2 : IntKind.u64.max = 18446744073709551615 := by decide
  rw [e1] at h1; rw [e2] at h2
  simp only [AV.w, BitVec.toNat_ofNat]
  congr 2; omega
theorem Wt.w {P : Program} {t : TypeId} {c : AV} (ht : P.underlying t = some (.int .u64)) (h : Wt P t [c]) : ∃ s, c = .w s := by
  obtain ⟨n, hn, h1, h2⟩ := h.int_inv ht
  injection hn with hn; subst hn
  exact ⟨_, u64_mk h1 h2⟩
theorem all_cells {P : Program} {t : TypeId} {cs : List AV} {a : AV} (h1 : aggT P t = some true) (h2 : ofCells P t cs = some a) : a = .agg cs := by
  unfold ofCells at h2
  rw [h1] at h2
  injection h2 with h2; exact h2.symm
theorem agg_of {P : Program} {t : TypeId} {cs : List AV} (h : aggT P t = some true) : ofCells P t (AV.agg cs).cells = some (.agg cs) := by
  unfold ofCells
  rw [h]; rfl
theorem one_of {P : Program} {t : TypeId} {a : AV} (h : aggT P t = some false) (hc : a.cells = [a]) : ofCells P t a.cells = some a := by
  unfold ofCells
  rw [h, hc]
end Go.Proofs.Ytcfekacmmfdggaa.G
set_option linter.unusedVariables false
set_option linter.unusedSimpArgs false
set_option maxRecDepth 100000
namespace Go.Proofs.Ytcfekacmmfdggaa.G
theorem st_T_api_Value : structT Try.prog 62 = some [(4, 0, 1), (2, 1, 1)] := by kernel_rfl
theorem wt_T_api_Value {cs : List AV} (h : Wt Try.prog 62 cs) : ∃ x : T_api_Value, cs = x.C := by
  obtain ⟨hl, hf⟩ := h.struct_inv st_T_api_Value
  rw [show Try.prog.cellsOf 62 = 2 by kernel_rfl] at hl
  obtain ⟨c0, d0, rfl, hn0⟩ := uncons hl
  obtain ⟨c1, d1, rfl, hn1⟩ := uncons hn0
  obtain rfl := List.length_eq_zero_iff.1 hn1
  obtain ⟨v0, rfl⟩ := Wt.b (show Try.prog.underlying 4 = some (.bool) by kernel_rfl) (show Wt Try.prog 4 [c0] from hf 0 _ _ _ rfl)
  obtain ⟨v1, rfl⟩ := Wt.i64 (show Try.prog.underlying 2 = some (.int .i64) by kernel_rfl) (show Wt Try.prog 2 [c1] from hf 1 _ _ _ rfl)
  exact ⟨⟨v0, v1⟩, rfl⟩
theorem st_T_api_Term : structT Try.prog 64 = some [(3, 0, 1), (3, 1, 1), (3, 2, 1), (62, 3, 2)] := by kernel_rfl
theorem wt_T_api_Term {cs : List AV} (h : Wt Try.prog 64 cs) : ∃ x : T_api_Term, cs = x.C := by
  obtain ⟨hl, hf⟩ := h.struct_inv st_T_api_Term
  rw [show Try.prog.cellsOf 64 = 5 by kernel_rfl] at hl
  obtain ⟨c0, d0, rfl, hn0⟩ := uncons hl
  obtain ⟨c1, d1, rfl, hn1⟩ := uncons hn0
  obtain ⟨c2, d2, rfl, hn2⟩ := uncons hn1
  obtain ⟨c3, d3, rfl, hn3⟩ := uncons hn2
  obtain ⟨c4, d4, rfl, hn4⟩ := uncons hn3
  obtain rfl := List.length_eq_zero_iff.1 hn4
  obtain ⟨v0, rfl⟩ := Wt.i64 (show Try.prog.underlying 3 = some (.int .i64) by kernel_rfl) (show Wt Try.prog 3 [c0] from hf 0 _ _ _ rfl)
  obtain ⟨v1, rfl⟩ := Wt.i64 (show Try.prog.underlying 3 = some (.int .i64) by kernel_rfl) (show Wt Try.prog 3 [c1] from hf 1 _ _ _ rfl)
  obtain ⟨v2, rfl⟩ := Wt.i64 (show Try.prog.underlying 3 = some (.int .i64) by kernel_rfl) (show Wt Try.prog 3 [c2] from hf 2 _ _ _ rfl)
  obtain ⟨v3, hv3⟩ := wt_T_api_Value (show Wt Try.prog 62 [c3, c4] from hf 3 _ _ _ rfl); simp only [T_api_Value.C, List.cons.injEq, and_true] at hv3; obtain ⟨rfl, rfl⟩ := hv3
  exact ⟨⟨v0, v1, v2, v3⟩, rfl⟩
theorem st_T_api_Pred : structT Try.prog 66 = some [(3, 0, 1), (3, 1, 1), (3, 2, 1), (64, 3, 5), (64, 8, 5), (29, 13, 1)] := by kernel_rfl
theorem wt_T_api_Pred' {t : TypeId} {cs : List AV} (h : Wt Try.prog t cs) : (t = 66 → ∃ x : T_api_Pred, cs = x.C) ∧ (t = 29 → ∃ xs : List T_api_Pred, cs = [.slice .foreign (xs.map T_api_Pred.av)] ∧ xs.length < 9223372036854775808) := by
  obtain ⟨fs, hfs⟩ := structT_u st_T_api_Pred
  have hs29 : Try.prog.underlying 29 = some (.slice 66) := by kernel_rfl
  induction h with
  | bool t b ht => exact ⟨fun h => by (subst h; rw [hfs] at ht; cases ht), fun h => by (subst h; rw [hs29] at ht; cases ht)⟩
  | int t b n ht => exact ⟨fun h => by (subst h; rw [hfs] at ht; cases ht), fun h => by (subst h; rw [hs29] at ht; cases ht)⟩
  | string t b ht => exact ⟨fun h => by (subst h; rw [hfs] at ht; cases ht), fun h => by (subst h; rw [hs29] at ht; cases ht)⟩
  | array t b n cs ht => exact ⟨fun h => by (subst h; rw [hfs] at ht; cases ht), fun h => by (subst h; rw [hs29] at ht; cases ht)⟩
  | slice t e es ht hl h hf ih =>
    refine ⟨fun h => by (subst h; rw [hfs] at ht; cases ht), fun h => ?_⟩
    · subst h
      rw [hs29] at ht
      injection ht with ht; injection ht with ht; subst ht
      obtain ⟨l, rfl, _⟩ := rowsOf (P := Try.prog) (f := T_api_Pred.av) (G := fun _ => True) (fun x => by rw [T_api_Pred.av_eq]; exact agg_of (by kernel_rfl)) (fun x hx => let ⟨y, hy⟩ := (ih x hx).1 rfl; ⟨y, by rw [hy, T_api_Pred.av_eq]; rfl, trivial⟩) hf
      exact ⟨l, rfl, by simp [maxLen] at hl; omega⟩
  | struct t fs' cs ht hl h ih =>
    refine ⟨fun e => ?_, fun h => by (subst h; rw [hs29] at ht; cases ht)⟩
    subst e
    obtain ⟨_, hf⟩ := (Wt.struct _ _ _ ht hl h).struct_inv st_T_api_Pred
    obtain ⟨f5, g1, g2, g3, g4⟩ := structT_field (i := 5) st_T_api_Pred ht rfl
    have hr5 := (ih 5 f5 g1).2 g2
    rw [g3, g4] at hr5
    clear g1 g2 g3 g4
    clear ih h
    rw [show Try.prog.cellsOf 66 = 14 by kernel_rfl] at hl
    obtain ⟨c0, d0, rfl, hn0⟩ := uncons hl
    obtain ⟨c1, d1, rfl, hn1⟩ := uncons hn0
    obtain ⟨c2, d2, rfl, hn2⟩ := uncons hn1
    obtain ⟨c3, d3, rfl, hn3⟩ := uncons hn2
    obtain ⟨c4, d4, rfl, hn4⟩ := uncons hn3
    obtain ⟨c5, d5, rfl, hn5⟩ := uncons hn4
    obtain ⟨c6, d6, rfl, hn6⟩ := uncons hn5
    obtain ⟨c7, d7, rfl, hn7⟩ := uncons hn6
    obtain ⟨c8, d8, rfl, hn8⟩ := uncons hn7
    obtain ⟨c9, d9, rfl, hn9⟩ := uncons hn8
    obtain ⟨c10, d10, rfl, hn10⟩ := uncons hn9
    obtain ⟨c11, d11, rfl, hn11⟩ := uncons hn10
    obtain ⟨c12, d12, rfl, hn12⟩ := uncons hn11
    obtain ⟨c13, d13, rfl, hn13⟩ := uncons hn12
    obtain rfl := List.length_eq_zero_iff.1 hn13
    obtain ⟨v0, rfl⟩ := Wt.i64 (show Try.prog.underlying 3 = some (.int .i64) by kernel_rfl) (show Wt Try.prog 3 [c0] from hf 0 _ _ _ rfl)
    obtain ⟨v1, rfl⟩ := Wt.i64 (show Try.prog.underlying 3 = some (.int .i64) by kernel_rfl) (show Wt Try.prog 3 [c1] from hf 1 _ _ _ rfl)
    obtain ⟨v2, rfl⟩ := Wt.i64 (show Try.prog.underlying 3 = some (.int .i64) by kernel_rfl) (show Wt Try.prog 3 [c2] from hf 2 _ _ _ rfl)
    obtain ⟨v3, hv3⟩ := wt_T_api_Term (show Wt Try.prog 64 [c3, c4, c5, c6, c7] from hf 3 _ _ _ rfl); simp only [T_api_Term.C, List.cons.injEq, and_true] at hv3; obtain ⟨rfl, rfl, rfl, rfl, rfl⟩ := hv3
    obtain ⟨v4, hv4⟩ := wt_T_api_Term (show Wt Try.prog 64 [c8, c9, c10, c11, c12] from hf 4 _ _ _ rfl); simp only [T_api_Term.C, List.cons.injEq, and_true] at hv4; obtain ⟨rfl, rfl, rfl, rfl, rfl⟩ := hv4
    obtain ⟨v5, ev5, _⟩ := hr5
    have ev5 : [c13] = _ := ev5
    injection ev5 with ev5; subst ev5
    exact ⟨⟨v0, v1, v2, v3, v4, v5⟩, rfl⟩
theorem wt_s29 {cs : List AV} (h : Wt Try.prog 29 cs) : ∃ l : List T_api_Pred, cs = [.slice .foreign (l.map T_api_Pred.av)] ∧ l.length < 9223372036854775808 := (wt_T_api_Pred' h).2 rfl
theorem st_T_api_Edge : structT Try.prog 93 = some [(3, 0, 1), (29, 1, 1), (32, 2, 1), (32, 3, 1), (32, 4, 1)] := by kernel_rfl
theorem wt_T_api_Edge {cs : List AV} (h : Wt Try.prog 93 cs) : ∃ x : T_api_Edge, cs = x.C := by
  obtain ⟨hl, hf⟩ := h.struct_inv st_T_api_Edge
  rw [show Try.prog.cellsOf 93 = 5 by kernel_rfl] at hl
  obtain ⟨c0, d0, rfl, hn0⟩ := uncons hl
  obtain ⟨c1, d1, rfl, hn1⟩ := uncons hn0
  obtain ⟨c2, d2, rfl, hn2⟩ := uncons hn1
  obtain ⟨c3, d3, rfl, hn3⟩ := uncons hn2
  obtain ⟨c4, d4, rfl, hn4⟩ := uncons hn3
  obtain rfl := List.length_eq_zero_iff.1 hn4
  obtain ⟨v0, rfl⟩ := Wt.i64 (show Try.prog.underlying 3 = some (.int .i64) by kernel_rfl) (show Wt Try.prog 3 [c0] from hf 0 _ _ _ rfl)
  obtain ⟨v1, e, _⟩ := wt_s29 (show Wt Try.prog 29 [c1] from hf 1 _ _ _ rfl); injection e with e; subst e
  obtain ⟨v2, rfl⟩ := Wt.w (show Try.prog.underlying 32 = some (.int .u64) by kernel_rfl) (show Wt Try.prog 32 [c2] from hf 2 _ _ _ rfl)
  obtain ⟨v3, rfl⟩ := Wt.w (show Try.prog.underlying 32 = some (.int .u64) by kernel_rfl) (show Wt Try.prog 32 [c3] from hf 3 _ _ _ rfl)
  obtain ⟨v4, rfl⟩ := Wt.w (show Try.prog.underlying 32 = some (.int .u64) by kernel_rfl) (show Wt Try.prog 32 [c4] from hf 4 _ _ _ rfl)
  exact ⟨⟨v0, v1, v2, v3, v4⟩, rfl⟩
theorem wt_s22 {cs : List AV} (h : Wt Try.prog 22 cs) : ∃ l : List T_api_Edge, cs = [.slice .foreign (l.map T_api_Edge.av)] ∧ l.length < 9223372036854775808 := by
  obtain ⟨es, hn, h1, h2, h3⟩ := h.slice_inv (show Try.prog.underlying 22 = some (.slice 93) by kernel_rfl)
  subst hn
  have hd : ∀ cs, Wt Try.prog 93 cs → ∃ y, cs = (T_api_Edge.av y).cells ∧ True := fun cs hc => let ⟨x, hx⟩ := wt_T_api_Edge hc; ⟨x, by first | (rw [hx, T_api_Edge.av_eq]; rfl) | (rw [hx]; rfl), trivial⟩
  obtain ⟨l, rfl, _⟩ := rowsOf (P := Try.prog) (f := T_api_Edge.av) (G := fun _ => True) (fun x => by first | (rw [T_api_Edge.av_eq]; exact agg_of (by kernel_rfl)) | exact agg_of (cs := T_api_Edge.C x) (by kernel_rfl)) (fun x hx => hd _ (h2 x hx)) h3
  exact ⟨l, rfl, by simp [maxLen] at h1; omega⟩
theorem wt_s23 {cs : List AV} (h : Wt Try.prog 23 cs) : ∃ l : List Set64, cs = [.slice .foreign (l.map AV.w)] ∧ l.length < 9223372036854775808 := by
  obtain ⟨es, hn, h1, h2, h3⟩ := h.slice_inv (show Try.prog.underlying 23 = some (.slice 32) by kernel_rfl)
  subst hn
  have hd : ∀ cs, Wt Try.prog 32 cs → ∃ y, cs = (AV.w y).cells ∧ True := fun cs hc => let ⟨n, hx, h1, h2⟩ := hc.int_inv (show Try.prog.underlying 32 = some (.int .u64) by kernel_rfl); ⟨BitVec.ofNat 64 n.toNat, by rw [hx, ← u64_mk h1 h2]; rfl, trivial⟩
  obtain ⟨l, rfl, _⟩ := rowsOf (P := Try.prog) (f := AV.w) (G := fun _ => True) (fun x => one_of (by kernel_rfl) rfl) (fun x hx => hd _ (h2 x hx)) h3
  exact ⟨l, rfl, by simp [maxLen] at h1; omega⟩
theorem st_T_api_Stats : structT Try.prog 25 = some [(23, 0, 1), (23, 1, 1)] := by kernel_rfl
theorem wt_T_api_Stats {cs : List AV} (h : Wt Try.prog 25 cs) : ∃ x : T_api_Stats, cs = x.C := by
  obtain ⟨hl, hf⟩ := h.struct_inv st_T_api_Stats
  rw [show Try.prog.cellsOf 25 = 2 by kernel_rfl] at hl
  obtain ⟨c0, d0, rfl, hn0⟩ := uncons hl
  obtain ⟨c1, d1, rfl, hn1⟩ := uncons hn0
  obtain rfl := List.length_eq_zero_iff.1 hn1
  obtain ⟨v0, e, _⟩ := wt_s23 (show Wt Try.prog 23 [c0] from hf 0 _ _ _ rfl); injection e with e; subst e
  obtain ⟨v1, e, _⟩ := wt_s23 (show Wt Try.prog 23 [c1] from hf 1 _ _ _ rfl); injection e with e; subst e
  exact ⟨⟨v0, v1⟩, rfl⟩
theorem st_T_cost_Model : structT Try.prog 27 = some [(3, 0, 1), (22, 1, 1), (25, 2, 2)] := by kernel_rfl
theorem wt_T_cost_Model {cs : List AV} (h : Wt Try.prog 27 cs) : ∃ x : T_cost_Model, cs = x.C := by
  obtain ⟨hl, hf⟩ := h.struct_inv st_T_cost_Model
  rw [show Try.prog.cellsOf 27 = 4 by kernel_rfl] at hl
  obtain ⟨c0, d0, rfl, hn0⟩ := uncons hl
  obtain ⟨c1, d1, rfl, hn1⟩ := uncons hn0
  obtain ⟨c2, d2, rfl, hn2⟩ := uncons hn1
  obtain ⟨c3, d3, rfl, hn3⟩ := uncons hn2
  obtain rfl := List.length_eq_zero_iff.1 hn3
  obtain ⟨v0, rfl⟩ := Wt.i64 (show Try.prog.underlying 3 = some (.int .i64) by kernel_rfl) (show Wt Try.prog 3 [c0] from hf 0 _ _ _ rfl)
  obtain ⟨v1, e, _⟩ := wt_s22 (show Wt Try.prog 22 [c1] from hf 1 _ _ _ rfl); injection e with e; subst e
  obtain ⟨v2, hv2⟩ := wt_T_api_Stats (show Wt Try.prog 25 [c2, c3] from hf 2 _ _ _ rfl); simp only [T_api_Stats.C, List.cons.injEq, and_true] at hv2; obtain ⟨rfl, rfl⟩ := hv2
  exact ⟨⟨v0, v1, v2⟩, rfl⟩
theorem st_T_api_Tree : structT Try.prog 31 = some [(3, 0, 1), (3, 1, 1), (28, 2, 1), (29, 3, 1), (4, 4, 1)] := by kernel_rfl
theorem wt_T_api_Tree' {t : TypeId} {cs : List AV} (h : Wt Try.prog t cs) : (t = 31 → ∃ x : T_api_Tree, cs = x.C) ∧ (t = 28 → ∃ xs : List T_api_Tree, cs = [.slice .foreign (xs.map T_api_Tree.av)] ∧ xs.length < 9223372036854775808) := by
  obtain ⟨fs, hfs⟩ := structT_u st_T_api_Tree
  have hs28 : Try.prog.underlying 28 = some (.slice 31) := by kernel_rfl
  induction h with
  | bool t b ht => exact ⟨fun h => by (subst h; rw [hfs] at ht; cases ht), fun h => by (subst h; rw [hs28] at ht; cases ht)⟩
  | int t b n ht => exact ⟨fun h => by (subst h; rw [hfs] at ht; cases ht), fun h => by (subst h; rw [hs28] at ht; cases ht)⟩
  | string t b ht => exact ⟨fun h => by (subst h; rw [hfs] at ht; cases ht), fun h => by (subst h; rw [hs28] at ht; cases ht)⟩
  | array t b n cs ht => exact ⟨fun h => by (subst h; rw [hfs] at ht; cases ht), fun h => by (subst h; rw [hs28] at ht; cases ht)⟩
  | slice t e es ht hl h hf ih =>
    refine ⟨fun h => by (subst h; rw [hfs] at ht; cases ht), fun h => ?_⟩
    · subst h
      rw [hs28] at ht
      injection ht with ht; injection ht with ht; subst ht
      obtain ⟨l, rfl, _⟩ := rowsOf (P := Try.prog) (f := T_api_Tree.av) (G := fun _ => True) (fun x => by rw [T_api_Tree.av_eq]; exact agg_of (by kernel_rfl)) (fun x hx => let ⟨y, hy⟩ := (ih x hx).1 rfl; ⟨y, by rw [hy, T_api_Tree.av_eq]; rfl, trivial⟩) hf
      exact ⟨l, rfl, by simp [maxLen] at hl; omega⟩
  | struct t fs' cs ht hl h ih =>
    refine ⟨fun e => ?_, fun h => by (subst h; rw [hs28] at ht; cases ht)⟩
    subst e
    obtain ⟨_, hf⟩ := (Wt.struct _ _ _ ht hl h).struct_inv st_T_api_Tree
    obtain ⟨f2, g1, g2, g3, g4⟩ := structT_field (i := 2) st_T_api_Tree ht rfl
    have hr2 := (ih 2 f2 g1).2 g2
    rw [g3, g4] at hr2
    clear g1 g2 g3 g4
    clear ih h
    rw [show Try.prog.cellsOf 31 = 5 by kernel_rfl] at hl
    obtain ⟨c0, d0, rfl, hn0⟩ := uncons hl
    obtain ⟨c1, d1, rfl, hn1⟩ := uncons hn0
    obtain ⟨c2, d2, rfl, hn2⟩ := uncons hn1
    obtain ⟨c3, d3, rfl, hn3⟩ := uncons hn2
    obtain ⟨c4, d4, rfl, hn4⟩ := uncons hn3
    obtain rfl := List.length_eq_zero_iff.1 hn4
    obtain ⟨v0, rfl⟩ := Wt.i64 (show Try.prog.underlying 3 = some (.int .i64) by kernel_rfl) (show Wt Try.prog 3 [c0] from hf 0 _ _ _ rfl)
    obtain ⟨v1, rfl⟩ := Wt.i64 (show Try.prog.underlying 3 = some (.int .i64) by kernel_rfl) (show Wt Try.prog 3 [c1] from hf 1 _ _ _ rfl)
    obtain ⟨v2, ev2, _⟩ := hr2
    have ev2 : [c2] = _ := ev2
    injection ev2 with ev2; subst ev2
    obtain ⟨v3, e, _⟩ := wt_s29 (show Wt Try.prog 29 [c3] from hf 3 _ _ _ rfl); injection e with e; subst e
    obtain ⟨v4, rfl⟩ := Wt.b (show Try.prog.underlying 4 = some (.bool) by kernel_rfl) (show Wt Try.prog 4 [c4] from hf 4 _ _ _ rfl)
    exact ⟨⟨v0, v1, v2, v3, v4⟩, rfl⟩
theorem wt_T_api_Tree {cs : List AV} (h : Wt Try.prog 31 cs) : ∃ x : T_api_Tree, cs = x.C := (wt_T_api_Tree' h).1 rfl
end Go.Proofs.Ytcfekacmmfdggaa.G
namespace Go.Proofs.Ytcfekacmmfdggaa.OrderInner
open Go.ChangeShapes Go.WideShapes Go.ChangeAt Go.RowKit Go.Proofs.Ytcfekacmmfdggaa.G
set_option linter.unusedVariables false
theorem own : ownKnob Try.prog.godebug = none := by kernel_rfl
theorem laidOut : laidOutB Try.prog = true := by kernel_rfl
set_option maxRecDepth 100000 in
theorem lifted (os : Os) (started : os.Started) (H : Type) (enc : TypeId × Value → H) :
    ReturnsInHanded {} Try.checked os 6 .any (Rows.orderInnerSpec.pre6 enc Try.prog Try.f6 Rows.orderInnerRow.domain false) (Rows.orderInnerSpec.post enc Try.prog Try.f6 false true false false) := by
  refine returnsInHanded_of_change_sized (C := Try.checked) own started (by kernel_rfl) Try.func6
    (ChangeSpec.witness6 (enc := enc) (C := Try.checked) false ⟨#[], #[.agg #[.int .i64 0, .slice none 0 0, .slice none 0 0, .slice none 0 0], .agg #[.int .i64 0, .int .i64 0, .slice none 0 0, .slice none 0 0, .bool false], .agg #[.int .i64 0, .int .i64 0, .slice none 0 0, .slice none 0 0, .bool false]], []⟩ 30 (by kernel_rfl) (by kernel_rfl) (by kernel_rfl) (by kernel_rfl)) ?_
  intro W base args ds gs before hval0 hW hcnd hsz0 _
  have hval : ∀ (j : Nat) t v, Try.f6.params[j]? = some t → args[j]? = some v → Value.okWide Try.prog W .any base t v := hval0
  have hW' := hW
  obtain ⟨p, q, hA0, hV, rfl, hfz, hnd⟩ := hW
  have hA : DataW.TrodAll enc Try.prog W 0 (fun _ => true) true Try.f6.params.toList args.toList ds p := hA0
  rw [Try.params6] at hA hval
  obtain ⟨u0, vs0, d0, ds0, p0, q0, hargs, rfl, rfl, h0, r0⟩ := trodAll_cons hA
  obtain ⟨u1, vs1, d1, ds1, p1, q1, rfl, rfl, rfl, h1, r1⟩ := trodAll_cons r0
  obtain ⟨u2, vs2, d2, ds2, p2, q2, rfl, rfl, rfl, h2, r2⟩ := trodAll_cons r1
  obtain ⟨rfl, rfl, rfl⟩ := trodAll_nil r2
  obtain rfl : args = #[u0, u1, u2] := by cases args; simp_all
  obtain ⟨rfl, rfl⟩ := trodVars_none hV
  have lt0 : ∀ x ∈ p0, x.block < W.heap.size := by obtain ⟨m, hm⟩ := h0; exact DataW.trod_lt m _ _ _ hm
  have lt1 : ∀ x ∈ p1, x.block < W.heap.size := by obtain ⟨m, hm⟩ := h1; exact DataW.trod_lt m _ _ _ hm
  have lt2 : ∀ x ∈ p2, x.block < W.heap.size := by obtain ⟨m, hm⟩ := h2; exact DataW.trod_lt m _ _ _ hm
  have hS : plainT Try.prog [27, 3, 22, 93, 29, 66, 64, 62, 4, 2, 32, 25, 23, 31, 28] = true := by kernel_rfl
  obtain ⟨a0, as0, rep0, wt0, of0⟩ := reads_param hS (by simp) (hval 0 27 u0 rfl rfl) h0
  obtain ⟨a1, as1, rep1, wt1, of1⟩ := reads_param hS (by simp) (hval 1 31 u1 rfl rfl) h1
  obtain ⟨a2, as2, rep2, wt2, of2⟩ := reads_param hS (by simp) (hval 2 31 u2 rfl rfl) h2
  obtain rfl := all_cells (by kernel_rfl) of0
  obtain ⟨x0, rfl⟩ := wt_T_cost_Model wt0
  obtain rfl := all_cells (by kernel_rfl) of1
  obtain ⟨x1, rfl⟩ := wt_T_api_Tree wt1
  obtain rfl := all_cells (by kernel_rfl) of2
  obtain ⟨x2, rfl⟩ := wt_T_api_Tree wt2
  refine ((M_law29_OrderInner.w (x0, x1, x2) true (orderInner_plain x0 x1 x2)).law (.cons rep0 (.cons rep1 (.cons rep2 .nil)))).mono fun e W' ⟨he, bel⟩ => ?_
  subst he
  exact ⟨_, rfl, _, _, _, [], _, [], hW', trodAll_mk1 (shut_bool Try.underlying4 _), (trodAll_cons_mk (Below.trod laidOut (by kernel_rfl) (of_decide_eq_true (by kernel_rfl)) h0 bel lt0) (trodAll_cons_mk (Below.trod laidOut (by kernel_rfl) (of_decide_eq_true (by kernel_rfl)) h1 bel lt1) (trodAll_cons_mk (Below.trod laidOut (by kernel_rfl) (of_decide_eq_true (by kernel_rfl)) h2 bel lt2) trodAll_mk0))), rfl, bel.frame _, fun h => by cases h⟩
theorem over : Rows.orderInnerRow.holds Try.pinned (OpenSpec.ofChange Rows.orderInnerSpec) :=
  OpenClaim.holds_of_wide 6 Try.f6 rfl rfl rfl rfl rfl rfl rfl ⟨rfl, rfl, rfl, rfl, rfl⟩ rfl rfl rfl rfl rfl (by kernel_rfl) Try.func6 (by kernel_rfl)
    (of_decide_eq_true (by kernel_rfl)) (by unfold Func.isWrapper; first | (rw [if_pos (by decide +kernel)]; kernel_rfl) | (rw [if_neg (by decide +kernel)]; exact ⟨rfl, rfl⟩))
    (fun os started H enc _ => lifted os started H enc)
end Go.Proofs.Ytcfekacmmfdggaa.OrderInner
namespace Go.Proofs.Ytcfekacmmfdggaa
/-- The row, under a short name, for the claim. -/
theorem orderInner_holds : Rows.OrderInnerSaid := OrderInner.over
end Go.Proofs.Ytcfekacmmfdggaa
