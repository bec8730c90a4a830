/-
CostParts: the law returns true whatever the input.
-/
import Derived.Test.YtcfekacmmfdggaaCostParts4
import Derived.KernelRfl
import Derived.WalkKit
import Derived.ProofKit
import Derived.OpenShut
import Derived.ChangeOld
import Derived.Below
import Derived.Carry
import Derived.SizedLaws
import Derived.Test.YtcfekacmmfdggaaRows
set_option linter.unusedVariables false
set_option linter.unusedSimpArgs false
set_option maxRecDepth 100000
namespace Go.Proofs.Ytcfekacmmfdggaa.G
theorem lok_160 : (Try.f160.body.isSome && !(Try.f160.name == "runtime.NumGoroutine") && okL (bodyF Try.f160) Try.f160.ntmps (bodyF Try.f160)) = true := by kernel_rfl
theorem lok_161 : (Try.f161.body.isSome && !(Try.f161.name == "runtime.NumGoroutine") && okL (bodyF Try.f161) Try.f161.ntmps (bodyF Try.f161)) = true := by kernel_rfl
theorem lok_162 : (Try.f162.body.isSome && !(Try.f162.name == "runtime.NumGoroutine") && okL (bodyF Try.f162) Try.f162.ntmps (bodyF Try.f162)) = true := by kernel_rfl
theorem lok_149 : (Try.f149.body.isSome && !(Try.f149.name == "runtime.NumGoroutine") && okL (bodyF Try.f149) Try.f149.ntmps (bodyF Try.f149)) = true := by kernel_rfl
theorem lok_169 : (Try.f169.body.isSome && !(Try.f169.name == "runtime.NumGoroutine") && okL (bodyF Try.f169) Try.f169.ntmps (bodyF Try.f169)) = true := by kernel_rfl
mutual
def M_ref07_all.l0 (x : List T_api_Pred × Set64 × Int) : Option (Lp (Unit) (Bool)) :=
  if (decide (x.2.2 < (x.1.length : Int))) = true then
    (getI x.1 x.2.2) >>= fun (e2 : T_api_Pred) =>
    M_ref07_Is (e2, x.2.1, 0) >>= fun r4 =>
    if r4 = true then
      M_ref07_all.l0 (x.1, x.2.1, (w64 (x.2.2 + 1)))
    else
      M_ref07_Is (e2, x.2.1, 1) >>= fun r7 =>
      if r7 = true then
        M_ref07_all.l0 (x.1, x.2.1, (w64 (x.2.2 + 1)))
      else
        M_ref07_Is (e2, x.2.1, 2) >>= fun r10 =>
        if r10 = true then
          M_ref07_all.l0 (x.1, x.2.1, (w64 (x.2.2 + 1)))
        else
          some (.ret false)
  else
    some (.brk ())
  partial_fixpoint
def M_ref07_Is (x : T_api_Pred × Set64 × Int) : Option (Bool) :=
  if (x.1.Kind == 1) = true then
    if (x.2.2 == x.1.Truth) = true then
      some true
    else
      if (x.2.2 == 1) = true then
        if (decide (x.1.Truth < 0)) = true then
          some true
        else
          some (decide (x.1.Truth > 2))
      else
        some false
  else
    if (x.1.Kind == 2) = true then
      if (decide (x.1.Op < 1)) = true then
        some (x.2.2 == 1)
      else
        if (decide (x.1.Op > 6)) = true then
          some (x.2.2 == 1)
        else
          M_ref07_sure (x.1.A, x.2.1) >>= fun r8 =>
          if r8 = true then
            some (x.2.2 == 1)
          else
            M_ref07_sure (x.1.B, x.2.1) >>= fun r11 =>
            if r11 = true then
              some (x.2.2 == 1)
            else
              if (x.1.A.Kind == 1) = true then
                some true
              else
                if (x.1.B.Kind == 1) = true then
                  some true
                else
                  M_ref03_Compare (x.1.Op, x.1.A.Value, x.1.B.Value) >>= fun r16 =>
                  some (x.2.2 == r16)
    else
      if (x.1.Kind == 3) = true then
        M_ref07_sure (x.1.A, x.2.1) >>= fun r19 =>
        if r19 = true then
          some (x.2.2 == 2)
        else
          if (x.2.2 == 0) = true then
            some true
          else
            if (x.2.2 == 2) = true then
              some (x.1.A.Kind == 1)
            else
              some false
      else
        if (x.1.Kind == 4) = true then
          M_ref07_many (x.1.Parts, x.2.1, x.2.2, 2) >>= fun r25 =>
          some r25
        else
          if (x.1.Kind == 5) = true then
            M_ref07_many (x.1.Parts, x.2.1, x.2.2, 0) >>= fun r28 =>
            some r28
          else
            if (x.1.Kind == 6) = true then
              if (decide ((x.1.Parts.length : Int) > 0)) = true then
                (x.1.Parts[0]?) >>= fun (e32 : T_api_Pred) =>
                M_ref07_Is (e32, x.2.1, (w64 (2 - x.2.2))) >>= fun r34 =>
                some r34
              else
                some (x.2.2 == 1)
            else
              some (x.2.2 == 1)
  partial_fixpoint
def M_ref07_many (x : List T_api_Pred × Set64 × Int × Int) : Option (Bool) :=
  M_ref07_all (x.1, x.2.1) >>= fun r1 =>
  if r1 = true then
    if (x.2.2.1 == x.2.2.2) = true then
      M_ref07_every (x.1, x.2.1, x.2.2.2, x.2.2.2) >>= fun r5 =>
      some r5
    else
      if (x.2.2.1 == 1) = true then
        M_ref07_some (x.1, x.2.1, 1) >>= fun r8 =>
        if r8 = true then
          M_ref07_every (x.1, x.2.1, 1, x.2.2.2) >>= fun r11 =>
          some r11
        else
          some false
      else
        M_ref07_some (x.1, x.2.1, (w64 (2 - x.2.2.2))) >>= fun r13 =>
        some r13
  else
    some false
  partial_fixpoint
def M_ref07_some (x : List T_api_Pred × Set64 × Int) : Option (Bool) :=
  M_ref07_some.l0 (x.1, x.2.1, x.2.2, 0) >>= fun (o7 : Lp (Unit) (Bool)) => match o7 with
  | .brk s10 =>
    some false
  | .ret r9 =>
    some r9
  partial_fixpoint
def M_ref07_some.l0 (x : List T_api_Pred × Set64 × Int × Int) : Option (Lp (Unit) (Bool)) :=
  if (decide (x.2.2.2 < (x.1.length : Int))) = true then
    (getI x.1 x.2.2.2) >>= fun (e2 : T_api_Pred) =>
    M_ref07_Is (e2, x.2.1, x.2.2.1) >>= fun r4 =>
    if r4 = true then
      some (.ret true)
    else
      M_ref07_some.l0 (x.1, x.2.1, x.2.2.1, (w64 (x.2.2.2 + 1)))
  else
    some (.brk ())
  partial_fixpoint
def M_ref07_every (x : List T_api_Pred × Set64 × Int × Int) : Option (Bool) :=
  M_ref07_every.l0 (x.1, x.2.1, x.2.2.1, x.2.2.2, 0) >>= fun (o10 : Lp (Unit) (Bool)) => match o10 with
  | .brk s13 =>
    some true
  | .ret r12 =>
    some r12
  partial_fixpoint
def M_ref07_every.l0 (x : List T_api_Pred × Set64 × Int × Int × Int) : Option (Lp (Unit) (Bool)) :=
  if (decide (x.2.2.2.2 < (x.1.length : Int))) = true then
    (getI x.1 x.2.2.2.2) >>= fun (e2 : T_api_Pred) =>
    M_ref07_Is (e2, x.2.1, x.2.2.1) >>= fun r4 =>
    if r4 = true then
      M_ref07_every.l0 (x.1, x.2.1, x.2.2.1, x.2.2.2.1, (w64 (x.2.2.2.2 + 1)))
    else
      M_ref07_Is (e2, x.2.1, x.2.2.2.1) >>= fun r7 =>
      if r7 = true then
        M_ref07_every.l0 (x.1, x.2.1, x.2.2.1, x.2.2.2.1, (w64 (x.2.2.2.2 + 1)))
      else
        some (.ret false)
  else
    some (.brk ())
  partial_fixpoint
def M_ref07_all (x : List T_api_Pred × Set64) : Option (Bool) :=
  M_ref07_all.l0 (x.1, x.2, 0) >>= fun (o13 : Lp (Unit) (Bool)) => match o13 with
  | .brk s16 =>
    some true
  | .ret r15 =>
    some r15
  partial_fixpoint
end
set_option maxHeartbeats 8000000 in
theorem M_ref07_all.l0.ws : (∀ (x : List T_api_Pred × Set64 × Int) (o : Lp (Unit) (Bool)), M_ref07_all.l0 x = some o → (fun (x : List T_api_Pred × Set64 × Int) (o : Lp (Unit) (Bool)) => ∀ (lo : Option Nat) (c : LCtx) (Q : Exit → LEnv → Prop) (hb : ∀ s : Unit, o = Lp.brk s → Q (.exit 0) ⟨[], []⟩) (hr : ∀ (r : Bool) (L : LEnv), o = .ret r → LPostF Try.prog [.tmp 4] (.bool r) (fun _ => True) .ret L → Q .ret L), LLoop Try.prog 160 lo c 0 (VQ Q) ⟨[(0, .v (.slice .foreign (x.1.map T_api_Pred.av))), (1, .v (.w x.2.1)), (5, .v (.i64 x.2.2))], []⟩) x o) ∧ (∀ (x : T_api_Pred × Set64 × Int) (o : Bool), M_ref07_Is x = some o → (fun (x : T_api_Pred × Set64 × Int) (r : Bool) => Fn Try.prog 169 [.agg (T_api_Pred.C x.1), .w x.2.1, .i64 x.2.2] (.bool r)) x o) ∧ (∀ (x : List T_api_Pred × Set64 × Int × Int) (o : Bool), M_ref07_many x = some o → (fun (x : List T_api_Pred × Set64 × Int × Int) (r : Bool) => Fn Try.prog 149 [.slice .foreign (x.1.map T_api_Pred.av), .w x.2.1, .i64 x.2.2.1, .i64 x.2.2.2] (.bool r)) x o) ∧ (∀ (x : List T_api_Pred × Set64 × Int) (o : Bool), M_ref07_some x = some o → (fun (x : List T_api_Pred × Set64 × Int) (r : Bool) => Fn Try.prog 162 [.slice .foreign (x.1.map T_api_Pred.av), .w x.2.1, .i64 x.2.2] (.bool r)) x o) ∧ (∀ (x : List T_api_Pred × Set64 × Int × Int) (o : Lp (Unit) (Bool)), M_ref07_some.l0 x = some o → (fun (x : List T_api_Pred × Set64 × Int × Int) (o : Lp (Unit) (Bool)) => ∀ (lo : Option Nat) (c : LCtx) (Q : Exit → LEnv → Prop) (hb : ∀ s : Unit, o = Lp.brk s → Q (.exit 0) ⟨[], []⟩) (hr : ∀ (r : Bool) (L : LEnv), o = .ret r → LPostF Try.prog [.tmp 6] (.bool r) (fun _ => True) .ret L → Q .ret L), LLoop Try.prog 162 lo c 0 (VQ Q) ⟨[(0, .v (.slice .foreign (x.1.map T_api_Pred.av))), (1, .v (.w x.2.1)), (2, .v (.i64 x.2.2.1)), (7, .v (.i64 x.2.2.2))], []⟩) x o) ∧ (∀ (x : List T_api_Pred × Set64 × Int × Int) (o : Bool), M_ref07_every x = some o → (fun (x : List T_api_Pred × Set64 × Int × Int) (r : Bool) => Fn Try.prog 161 [.slice .foreign (x.1.map T_api_Pred.av), .w x.2.1, .i64 x.2.2.1, .i64 x.2.2.2] (.bool r)) x o) ∧ (∀ (x : List T_api_Pred × Set64 × Int × Int × Int) (o : Lp (Unit) (Bool)), M_ref07_every.l0 x = some o → (fun (x : List T_api_Pred × Set64 × Int × Int × Int) (o : Lp (Unit) (Bool)) => ∀ (lo : Option Nat) (c : LCtx) (Q : Exit → LEnv → Prop) (hb : ∀ s : Unit, o = Lp.brk s → Q (.exit 0) ⟨[], []⟩) (hr : ∀ (r : Bool) (L : LEnv), o = .ret r → LPostF Try.prog [.tmp 8] (.bool r) (fun _ => True) .ret L → Q .ret L), LLoop Try.prog 161 lo c 0 (VQ Q) ⟨[(0, .v (.slice .foreign (x.1.map T_api_Pred.av))), (1, .v (.w x.2.1)), (2, .v (.i64 x.2.2.1)), (3, .v (.i64 x.2.2.2.1)), (9, .v (.i64 x.2.2.2.2))], []⟩) x o) ∧ (∀ (x : List T_api_Pred × Set64) (o : Bool), M_ref07_all x = some o → (fun (x : List T_api_Pred × Set64) (r : Bool) => Fn Try.prog 160 [.slice .foreign (x.1.map T_api_Pred.av), .w x.2] (.bool r)) x o) := by
  refine M_ref07_all.l0.mutual_partial_correctness _ _ _ _ _ _ _ _ ?_ ?_ ?_ ?_ ?_ ?_ ?_ ?_
  · intro M_M_ref07_all_l0 M_M_ref07_Is ih_M_ref07_all_l0 ih_M_ref07_Is x o h
    intro lo c Q hb hr
    refine LLoop.step mix fn_160 (by kernel_rfl) ?_
    simp -implicitDefEqProofs only [go_sem, Try.f160]
    by_cases h1 : (decide (x.2.2 < (x.1.length : Int))) = true
    · replace h := ite_some h h1
      try simp -implicitDefEqProofs only [go_sem, h1]
      obtain ⟨e2, h3, h⟩ := bind_some' h; replace h3 := getI_some h3; obtain ⟨h3', h3⟩ := h3
      try simp -implicitDefEqProofs only [go_sem, h1, h3, h3']
      obtain ⟨r4, h5, h⟩ := bind_some' h
      refine .plain _ _ rfl (ih_M_ref07_Is (e2, x.2.1, 0) _ h5) ?_
      try simp -implicitDefEqProofs only [go_sem, h1, h3, h3']
      by_cases h6 : r4 = true
      · replace h := ite_some h h6
        try simp -implicitDefEqProofs only [go_sem, h1, h3, h3', h6]
        exact LLoop.view [] (by (first | rfl | simp -implicitDefEqProofs only [go_sem, h1, h3, h3', h6] <;> rfl)) (ih_M_ref07_all_l0 _ _ h lo c Q hb hr)
      · replace h := ite_none h h6; replace h6 := bfalse h6
        try simp -implicitDefEqProofs only [go_sem, h1, h3, h3', h6]
        obtain ⟨r7, h8, h⟩ := bind_some' h
        refine .plain _ _ rfl (ih_M_ref07_Is (e2, x.2.1, 1) _ h8) ?_
        try simp -implicitDefEqProofs only [go_sem, h1, h3, h3', h6]
        by_cases h9 : r7 = true
        · replace h := ite_some h h9
          try simp -implicitDefEqProofs only [go_sem, h1, h3, h3', h6, h9]
          exact LLoop.view [] (by (first | rfl | simp -implicitDefEqProofs only [go_sem, h1, h3, h3', h6, h9] <;> rfl)) (ih_M_ref07_all_l0 _ _ h lo c Q hb hr)
        · replace h := ite_none h h9; replace h9 := bfalse h9
          try simp -implicitDefEqProofs only [go_sem, h1, h3, h3', h6, h9]
          obtain ⟨r10, h11, h⟩ := bind_some' h
          refine .plain _ _ rfl (ih_M_ref07_Is (e2, x.2.1, 2) _ h11) ?_
          try simp -implicitDefEqProofs only [go_sem, h1, h3, h3', h6, h9]
          by_cases h12 : r10 = true
          · replace h := ite_some h h12
            try simp -implicitDefEqProofs only [go_sem, h1, h3, h3', h6, h9, h12]
            exact LLoop.view [] (by (first | rfl | simp -implicitDefEqProofs only [go_sem, h1, h3, h3', h6, h9, h12] <;> rfl)) (ih_M_ref07_all_l0 _ _ h lo c Q hb hr)
          · replace h := ite_none h h12; replace h12 := bfalse h12
            try simp -implicitDefEqProofs only [go_sem, h1, h3, h3', h6, h9, h12]
            injection h with h; subst h
            exact .inl (hr _ _ rfl (by (first | rfl | simp -implicitDefEqProofs only [go_sem, h1, h3, h3', h6, h9, h12] <;> rfl)))
    · replace h := ite_none h h1; replace h1 := bfalse h1
      try simp -implicitDefEqProofs only [go_sem, h1]
      injection h with h; subst h
      exact .inr ⟨[], _, by (simp -implicitDefEqProofs only [go_sem, h1] <;> first | done | rfl | trivial), hb _ rfl⟩
  · intro M_M_ref07_Is M_M_ref07_many ih_M_ref07_Is ih_M_ref07_many x r h
    refine Fn.of_lc mix fn_169 lok_169 (by rfl) (flC (T_api_Pred.flatC _) (flC (.atom _) (flC (.atom _) (flN)))) (.atom _) ?_
    simp -implicitDefEqProofs only [go_sem, Try.f169]
    by_cases h1 : (x.1.Kind == 1) = true
    · replace h := ite_some h h1
      try simp -implicitDefEqProofs only [go_sem, h1]
      by_cases h2 : (x.2.2 == x.1.Truth) = true
      · replace h := ite_some h h2
        try simp -implicitDefEqProofs only [go_sem, h1, h2]
        injection h with h; subst h
        first | rfl | simp -implicitDefEqProofs only [go_sem, h1, h2] <;> rfl
      · replace h := ite_none h h2; replace h2 := bfalse h2
        try simp -implicitDefEqProofs only [go_sem, h1, h2]
        by_cases h3 : (x.2.2 == 1) = true
        · replace h := ite_some h h3
          try simp -implicitDefEqProofs only [go_sem, h1, h2, h3]
          by_cases h4 : (decide (x.1.Truth < 0)) = true
          · replace h := ite_some h h4
            try simp -implicitDefEqProofs only [go_sem, h1, h2, h3, h4]
            injection h with h; subst h
            first | rfl | simp -implicitDefEqProofs only [go_sem, h1, h2, h3, h4] <;> rfl
          · replace h := ite_none h h4; replace h4 := bfalse h4
            try simp -implicitDefEqProofs only [go_sem, h1, h2, h3, h4]
            injection h with h; subst h
            first | rfl | simp -implicitDefEqProofs only [go_sem, h1, h2, h3, h4] <;> rfl
        · replace h := ite_none h h3; replace h3 := bfalse h3
          try simp -implicitDefEqProofs only [go_sem, h1, h2, h3]
          injection h with h; subst h
          first | rfl | simp -implicitDefEqProofs only [go_sem, h1, h2, h3] <;> rfl
    · replace h := ite_none h h1; replace h1 := bfalse h1
      try simp -implicitDefEqProofs only [go_sem, h1]
      by_cases h5 : (x.1.Kind == 2) = true
      · replace h := ite_some h h5
        try simp -implicitDefEqProofs only [go_sem, h1, h5]
        by_cases h6 : (decide (x.1.Op < 1)) = true
        · replace h := ite_some h h6
          try simp -implicitDefEqProofs only [go_sem, h1, h5, h6]
          injection h with h; subst h
          first | rfl | simp -implicitDefEqProofs only [go_sem, h1, h5, h6] <;> rfl
        · replace h := ite_none h h6; replace h6 := bfalse h6
          try simp -implicitDefEqProofs only [go_sem, h1, h5, h6]
          by_cases h7 : (decide (x.1.Op > 6)) = true
          · replace h := ite_some h h7
            try simp -implicitDefEqProofs only [go_sem, h1, h5, h6, h7]
            injection h with h; subst h
            first | rfl | simp -implicitDefEqProofs only [go_sem, h1, h5, h6, h7] <;> rfl
          · replace h := ite_none h h7; replace h7 := bfalse h7
            try simp -implicitDefEqProofs only [go_sem, h1, h5, h6, h7]
            obtain ⟨r8, h9, h⟩ := bind_some' h
            refine .plain _ _ rfl (M_ref07_sure.w (x.1.A, x.2.1) _ h9) ?_
            try simp -implicitDefEqProofs only [go_sem, h1, h5, h6, h7]
            by_cases h10 : r8 = true
            · replace h := ite_some h h10
              try simp -implicitDefEqProofs only [go_sem, h1, h5, h6, h7, h10]
              injection h with h; subst h
              first | rfl | simp -implicitDefEqProofs only [go_sem, h1, h5, h6, h7, h10] <;> rfl
            · replace h := ite_none h h10; replace h10 := bfalse h10
              try simp -implicitDefEqProofs only [go_sem, h1, h5, h6, h7, h10]
              obtain ⟨r11, h12, h⟩ := bind_some' h
              refine .plain _ _ rfl (M_ref07_sure.w (x.1.B, x.2.1) _ h12) ?_
              try simp -implicitDefEqProofs only [go_sem, h1, h5, h6, h7, h10]
              by_cases h13 : r11 = true
              · replace h := ite_some h h13
                try simp -implicitDefEqProofs only [go_sem, h1, h5, h6, h7, h10, h13]
                injection h with h; subst h
                first | rfl | simp -implicitDefEqProofs only [go_sem, h1, h5, h6, h7, h10, h13] <;> rfl
              · replace h := ite_none h h13; replace h13 := bfalse h13
                try simp -implicitDefEqProofs only [go_sem, h1, h5, h6, h7, h10, h13]
                by_cases h14 : (x.1.A.Kind == 1) = true
                · replace h := ite_some h h14
                  try simp -implicitDefEqProofs only [go_sem, h1, h5, h6, h7, h10, h13, h14]
                  injection h with h; subst h
                  first | rfl | simp -implicitDefEqProofs only [go_sem, h1, h5, h6, h7, h10, h13, h14] <;> rfl
                · replace h := ite_none h h14; replace h14 := bfalse h14
                  try simp -implicitDefEqProofs only [go_sem, h1, h5, h6, h7, h10, h13, h14]
                  by_cases h15 : (x.1.B.Kind == 1) = true
                  · replace h := ite_some h h15
                    try simp -implicitDefEqProofs only [go_sem, h1, h5, h6, h7, h10, h13, h14, h15]
                    injection h with h; subst h
                    first | rfl | simp -implicitDefEqProofs only [go_sem, h1, h5, h6, h7, h10, h13, h14, h15] <;> rfl
                  · replace h := ite_none h h15; replace h15 := bfalse h15
                    try simp -implicitDefEqProofs only [go_sem, h1, h5, h6, h7, h10, h13, h14, h15]
                    obtain ⟨r16, h17, h⟩ := bind_some' h
                    refine .plain _ _ rfl (M_ref03_Compare.w (x.1.Op, x.1.A.Value, x.1.B.Value) _ h17) ?_
                    try simp -implicitDefEqProofs only [go_sem, h1, h5, h6, h7, h10, h13, h14, h15]
                    injection h with h; subst h
                    first | rfl | simp -implicitDefEqProofs only [go_sem, h1, h5, h6, h7, h10, h13, h14, h15] <;> rfl
      · replace h := ite_none h h5; replace h5 := bfalse h5
        try simp -implicitDefEqProofs only [go_sem, h1, h5]
        by_cases h18 : (x.1.Kind == 3) = true
        · replace h := ite_some h h18
          try simp -implicitDefEqProofs only [go_sem, h1, h5, h18]
          obtain ⟨r19, h20, h⟩ := bind_some' h
          refine .plain _ _ rfl (M_ref07_sure.w (x.1.A, x.2.1) _ h20) ?_
          try simp -implicitDefEqProofs only [go_sem, h1, h5, h18]
          by_cases h21 : r19 = true
          · replace h := ite_some h h21
            try simp -implicitDefEqProofs only [go_sem, h1, h5, h18, h21]
            injection h with h; subst h
            first | rfl | simp -implicitDefEqProofs only [go_sem, h1, h5, h18, h21] <;> rfl
          · replace h := ite_none h h21; replace h21 := bfalse h21
            try simp -implicitDefEqProofs only [go_sem, h1, h5, h18, h21]
            by_cases h22 : (x.2.2 == 0) = true
            · replace h := ite_some h h22
              try simp -implicitDefEqProofs only [go_sem, h1, h5, h18, h21, h22]
              injection h with h; subst h
              first | rfl | simp -implicitDefEqProofs only [go_sem, h1, h5, h18, h21, h22] <;> rfl
            · replace h := ite_none h h22; replace h22 := bfalse h22
              try simp -implicitDefEqProofs only [go_sem, h1, h5, h18, h21, h22]
              by_cases h23 : (x.2.2 == 2) = true
              · replace h := ite_some h h23
                try simp -implicitDefEqProofs only [go_sem, h1, h5, h18, h21, h22, h23]
                injection h with h; subst h
                first | rfl | simp -implicitDefEqProofs only [go_sem, h1, h5, h18, h21, h22, h23] <;> rfl
              · replace h := ite_none h h23; replace h23 := bfalse h23
                try simp -implicitDefEqProofs only [go_sem, h1, h5, h18, h21, h22, h23]
                injection h with h; subst h
                first | rfl | simp -implicitDefEqProofs only [go_sem, h1, h5, h18, h21, h22, h23] <;> rfl
        · replace h := ite_none h h18; replace h18 := bfalse h18
          try simp -implicitDefEqProofs only [go_sem, h1, h5, h18]
          by_cases h24 : (x.1.Kind == 4) = true
          · replace h := ite_some h h24
            try simp -implicitDefEqProofs only [go_sem, h1, h5, h18, h24]
            obtain ⟨r25, h26, h⟩ := bind_some' h
            refine .plain _ _ rfl (ih_M_ref07_many (x.1.Parts, x.2.1, x.2.2, 2) _ h26) ?_
            try simp -implicitDefEqProofs only [go_sem, h1, h5, h18, h24]
            injection h with h; subst h
            first | rfl | simp -implicitDefEqProofs only [go_sem, h1, h5, h18, h24] <;> rfl
          · replace h := ite_none h h24; replace h24 := bfalse h24
            try simp -implicitDefEqProofs only [go_sem, h1, h5, h18, h24]
            by_cases h27 : (x.1.Kind == 5) = true
            · replace h := ite_some h h27
              try simp -implicitDefEqProofs only [go_sem, h1, h5, h18, h24, h27]
              obtain ⟨r28, h29, h⟩ := bind_some' h
              refine .plain _ _ rfl (ih_M_ref07_many (x.1.Parts, x.2.1, x.2.2, 0) _ h29) ?_
              try simp -implicitDefEqProofs only [go_sem, h1, h5, h18, h24, h27]
              injection h with h; subst h
              first | rfl | simp -implicitDefEqProofs only [go_sem, h1, h5, h18, h24, h27] <;> rfl
            · replace h := ite_none h h27; replace h27 := bfalse h27
              try simp -implicitDefEqProofs only [go_sem, h1, h5, h18, h24, h27]
              by_cases h30 : (x.1.Kind == 6) = true
              · replace h := ite_some h h30
                try simp -implicitDefEqProofs only [go_sem, h1, h5, h18, h24, h27, h30]
                by_cases h31 : (decide ((x.1.Parts.length : Int) > 0)) = true
                · replace h := ite_some h h31
                  try simp -implicitDefEqProofs only [go_sem, h1, h5, h18, h24, h27, h30, h31]
                  obtain ⟨e32, h33, h⟩ := bind_some' h
                  try simp -implicitDefEqProofs only [go_sem, h1, h5, h18, h24, h27, h30, h31, h33]
                  obtain ⟨r34, h35, h⟩ := bind_some' h
                  refine .plain _ _ rfl (ih_M_ref07_Is (e32, x.2.1, (w64 (2 - x.2.2))) _ h35) ?_
                  try simp -implicitDefEqProofs only [go_sem, h1, h5, h18, h24, h27, h30, h31, h33]
                  injection h with h; subst h
                  first | rfl | simp -implicitDefEqProofs only [go_sem, h1, h5, h18, h24, h27, h30, h31, h33] <;> rfl
                · replace h := ite_none h h31; replace h31 := bfalse h31
                  try simp -implicitDefEqProofs only [go_sem, h1, h5, h18, h24, h27, h30, h31]
                  injection h with h; subst h
                  first | rfl | simp -implicitDefEqProofs only [go_sem, h1, h5, h18, h24, h27, h30, h31] <;> rfl
              · replace h := ite_none h h30; replace h30 := bfalse h30
                try simp -implicitDefEqProofs only [go_sem, h1, h5, h18, h24, h27, h30]
                injection h with h; subst h
                first | rfl | simp -implicitDefEqProofs only [go_sem, h1, h5, h18, h24, h27, h30] <;> rfl
  · intro M_M_ref07_some M_M_ref07_every M_M_ref07_all ih_M_ref07_some ih_M_ref07_every ih_M_ref07_all x r h
    refine Fn.of_lc mix fn_149 lok_149 (by rfl) (flC (flat_slice _ T_api_Pred.flat _) (flC (.atom _) (flC (.atom _) (flC (.atom _) (flN))))) (.atom _) ?_
    simp -implicitDefEqProofs only [go_sem, Try.f149]
    obtain ⟨r1, h2, h⟩ := bind_some' h
    refine .plain _ _ rfl (ih_M_ref07_all (x.1, x.2.1) _ h2) ?_
    try simp -implicitDefEqProofs only [go_sem]
    by_cases h3 : r1 = true
    · replace h := ite_some h h3
      try simp -implicitDefEqProofs only [go_sem, h3]
      by_cases h4 : (x.2.2.1 == x.2.2.2) = true
      · replace h := ite_some h h4
        try simp -implicitDefEqProofs only [go_sem, h3, h4]
        obtain ⟨r5, h6, h⟩ := bind_some' h
        refine .plain _ _ rfl (ih_M_ref07_every (x.1, x.2.1, x.2.2.2, x.2.2.2) _ h6) ?_
        try simp -implicitDefEqProofs only [go_sem, h3, h4]
        injection h with h; subst h
        first | rfl | simp -implicitDefEqProofs only [go_sem, h3, h4] <;> rfl
      · replace h := ite_none h h4; replace h4 := bfalse h4
        try simp -implicitDefEqProofs only [go_sem, h3, h4]
        by_cases h7 : (x.2.2.1 == 1) = true
        · replace h := ite_some h h7
          try simp -implicitDefEqProofs only [go_sem, h3, h4, h7]
          obtain ⟨r8, h9, h⟩ := bind_some' h
          refine .plain _ _ rfl (ih_M_ref07_some (x.1, x.2.1, 1) _ h9) ?_
          try simp -implicitDefEqProofs only [go_sem, h3, h4, h7]
          by_cases h10 : r8 = true
          · replace h := ite_some h h10
            try simp -implicitDefEqProofs only [go_sem, h3, h4, h7, h10]
            obtain ⟨r11, h12, h⟩ := bind_some' h
            refine .plain _ _ rfl (ih_M_ref07_every (x.1, x.2.1, 1, x.2.2.2) _ h12) ?_
            try simp -implicitDefEqProofs only [go_sem, h3, h4, h7, h10]
            injection h with h; subst h
            first | rfl | simp -implicitDefEqProofs only [go_sem, h3, h4, h7, h10] <;> rfl
          · replace h := ite_none h h10; replace h10 := bfalse h10
            try simp -implicitDefEqProofs only [go_sem, h3, h4, h7, h10]
            injection h with h; subst h
            first | rfl | simp -implicitDefEqProofs only [go_sem, h3, h4, h7, h10] <;> rfl
        · replace h := ite_none h h7; replace h7 := bfalse h7
          try simp -implicitDefEqProofs only [go_sem, h3, h4, h7]
          obtain ⟨r13, h14, h⟩ := bind_some' h
          refine .plain _ _ rfl (ih_M_ref07_some (x.1, x.2.1, (w64 (2 - x.2.2.2))) _ h14) ?_
          try simp -implicitDefEqProofs only [go_sem, h3, h4, h7]
          injection h with h; subst h
          first | rfl | simp -implicitDefEqProofs only [go_sem, h3, h4, h7] <;> rfl
    · replace h := ite_none h h3; replace h3 := bfalse h3
      try simp -implicitDefEqProofs only [go_sem, h3]
      injection h with h; subst h
      first | rfl | simp -implicitDefEqProofs only [go_sem, h3] <;> rfl
  · intro M_M_ref07_some_l0 ih_M_ref07_some_l0 x r h
    refine Fn.of_lc mix fn_162 lok_162 (by rfl) (flC (flat_slice _ T_api_Pred.flat _) (flC (.atom _) (flC (.atom _) (flN)))) (.atom _) ?_
    simp -implicitDefEqProofs only [go_sem, Try.f162]
    obtain ⟨o7, h8, h⟩ := bind_some' h
    refine LLoop.viewQ (LLoop.view [] (by (first | rfl | simp -implicitDefEqProofs only [go_sem] <;> rfl)) (ih_M_ref07_some_l0 (x.1, x.2.1, x.2.2, 0) _ h8 _ _ _ ?_ ?_))
    · intro s10 hs'; subst hs'
      try simp -implicitDefEqProofs only [go_sem]
      injection h with h; subst h
      first | rfl | simp -implicitDefEqProofs only [go_sem] <;> rfl
    · intro r9 L' hs' hL'; subst hs'
      injection h with h; subst h
      first | exact hL' | (simp -implicitDefEqProofs only [go_sem]; exact hL') | (simp -implicitDefEqProofs only [go_sem]; simp -implicitDefEqProofs only [go_sem] at hL'; exact hL')
  · intro M_M_ref07_Is M_M_ref07_some_l0 ih_M_ref07_Is ih_M_ref07_some_l0 x o h
    intro lo c Q hb hr
    refine LLoop.step mix fn_162 (by kernel_rfl) ?_
    simp -implicitDefEqProofs only [go_sem, Try.f162]
    by_cases h1 : (decide (x.2.2.2 < (x.1.length : Int))) = true
    · replace h := ite_some h h1
      try simp -implicitDefEqProofs only [go_sem, h1]
      obtain ⟨e2, h3, h⟩ := bind_some' h; replace h3 := getI_some h3; obtain ⟨h3', h3⟩ := h3
      try simp -implicitDefEqProofs only [go_sem, h1, h3, h3']
      obtain ⟨r4, h5, h⟩ := bind_some' h
      refine .plain _ _ rfl (ih_M_ref07_Is (e2, x.2.1, x.2.2.1) _ h5) ?_
      try simp -implicitDefEqProofs only [go_sem, h1, h3, h3']
      by_cases h6 : r4 = true
      · replace h := ite_some h h6
        try simp -implicitDefEqProofs only [go_sem, h1, h3, h3', h6]
        injection h with h; subst h
        exact .inl (hr _ _ rfl (by (first | rfl | simp -implicitDefEqProofs only [go_sem, h1, h3, h3', h6] <;> rfl)))
      · replace h := ite_none h h6; replace h6 := bfalse h6
        try simp -implicitDefEqProofs only [go_sem, h1, h3, h3', h6]
        exact LLoop.view [] (by (first | rfl | simp -implicitDefEqProofs only [go_sem, h1, h3, h3', h6] <;> rfl)) (ih_M_ref07_some_l0 _ _ h lo c Q hb hr)
    · replace h := ite_none h h1; replace h1 := bfalse h1
      try simp -implicitDefEqProofs only [go_sem, h1]
      injection h with h; subst h
      exact .inr ⟨[], _, by (simp -implicitDefEqProofs only [go_sem, h1] <;> first | done | rfl | trivial), hb _ rfl⟩
  · intro M_M_ref07_every_l0 ih_M_ref07_every_l0 x r h
    refine Fn.of_lc mix fn_161 lok_161 (by rfl) (flC (flat_slice _ T_api_Pred.flat _) (flC (.atom _) (flC (.atom _) (flC (.atom _) (flN))))) (.atom _) ?_
    simp -implicitDefEqProofs only [go_sem, Try.f161]
    obtain ⟨o10, h11, h⟩ := bind_some' h
    refine LLoop.viewQ (LLoop.view [] (by (first | rfl | simp -implicitDefEqProofs only [go_sem] <;> rfl)) (ih_M_ref07_every_l0 (x.1, x.2.1, x.2.2.1, x.2.2.2, 0) _ h11 _ _ _ ?_ ?_))
    · intro s13 hs'; subst hs'
      try simp -implicitDefEqProofs only [go_sem]
      injection h with h; subst h
      first | rfl | simp -implicitDefEqProofs only [go_sem] <;> rfl
    · intro r12 L' hs' hL'; subst hs'
      injection h with h; subst h
      first | exact hL' | (simp -implicitDefEqProofs only [go_sem]; exact hL') | (simp -implicitDefEqProofs only [go_sem]; simp -implicitDefEqProofs only [go_sem] at hL'; exact hL')
  · intro M_M_ref07_Is M_M_ref07_every_l0 ih_M_ref07_Is ih_M_ref07_every_l0 x o h
    intro lo c Q hb hr
    refine LLoop.step mix fn_161 (by kernel_rfl) ?_
    simp -implicitDefEqProofs only [go_sem, Try.f161]
    by_cases h1 : (decide (x.2.2.2.2 < (x.1.length : Int))) = true
    · replace h := ite_some h h1
      try simp -implicitDefEqProofs only [go_sem, h1]
      obtain ⟨e2, h3, h⟩ := bind_some' h; replace h3 := getI_some h3; obtain ⟨h3', h3⟩ := h3
      try simp -implicitDefEqProofs only [go_sem, h1, h3, h3']
      obtain ⟨r4, h5, h⟩ := bind_some' h
      refine .plain _ _ rfl (ih_M_ref07_Is (e2, x.2.1, x.2.2.1) _ h5) ?_
      try simp -implicitDefEqProofs only [go_sem, h1, h3, h3']
      by_cases h6 : r4 = true
      · replace h := ite_some h h6
        try simp -implicitDefEqProofs only [go_sem, h1, h3, h3', h6]
        exact LLoop.view [] (by (first | rfl | simp -implicitDefEqProofs only [go_sem, h1, h3, h3', h6] <;> rfl)) (ih_M_ref07_every_l0 _ _ h lo c Q hb hr)
      · replace h := ite_none h h6; replace h6 := bfalse h6
        try simp -implicitDefEqProofs only [go_sem, h1, h3, h3', h6]
        obtain ⟨r7, h8, h⟩ := bind_some' h
        refine .plain _ _ rfl (ih_M_ref07_Is (e2, x.2.1, x.2.2.2.1) _ h8) ?_
        try simp -implicitDefEqProofs only [go_sem, h1, h3, h3', h6]
        by_cases h9 : r7 = true
        · replace h := ite_some h h9
          try simp -implicitDefEqProofs only [go_sem, h1, h3, h3', h6, h9]
          exact LLoop.view [] (by (first | rfl | simp -implicitDefEqProofs only [go_sem, h1, h3, h3', h6, h9] <;> rfl)) (ih_M_ref07_every_l0 _ _ h lo c Q hb hr)
        · replace h := ite_none h h9; replace h9 := bfalse h9
          try simp -implicitDefEqProofs only [go_sem, h1, h3, h3', h6, h9]
          injection h with h; subst h
          exact .inl (hr _ _ rfl (by (first | rfl | simp -implicitDefEqProofs only [go_sem, h1, h3, h3', h6, h9] <;> rfl)))
    · replace h := ite_none h h1; replace h1 := bfalse h1
      try simp -implicitDefEqProofs only [go_sem, h1]
      injection h with h; subst h
      exact .inr ⟨[], _, by (simp -implicitDefEqProofs only [go_sem, h1] <;> first | done | rfl | trivial), hb _ rfl⟩
  · intro M_M_ref07_all_l0 ih_M_ref07_all_l0 x r h
    refine Fn.of_lc mix fn_160 lok_160 (by rfl) (flC (flat_slice _ T_api_Pred.flat _) (flC (.atom _) (flN))) (.atom _) ?_
    simp -implicitDefEqProofs only [go_sem, Try.f160]
    obtain ⟨o13, h14, h⟩ := bind_some' h
    refine LLoop.viewQ (LLoop.view [] (by (first | rfl | simp -implicitDefEqProofs only [go_sem] <;> rfl)) (ih_M_ref07_all_l0 (x.1, x.2, 0) _ h14 _ _ _ ?_ ?_))
    · intro s16 hs'; subst hs'
      try simp -implicitDefEqProofs only [go_sem]
      injection h with h; subst h
      first | rfl | simp -implicitDefEqProofs only [go_sem] <;> rfl
    · intro r15 L' hs' hL'; subst hs'
      injection h with h; subst h
      first | exact hL' | (simp -implicitDefEqProofs only [go_sem]; exact hL') | (simp -implicitDefEqProofs only [go_sem]; simp -implicitDefEqProofs only [go_sem] at hL'; exact hL')
theorem M_ref07_many.w : type_of% (M_ref07_all.l0.ws.2.2.1) := (M_ref07_all.l0.ws.2.2.1)
end Go.Proofs.Ytcfekacmmfdggaa.G
set_option linter.unusedVariables false
set_option linter.unusedSimpArgs false
set_option maxRecDepth 100000
namespace Go.Proofs.Ytcfekacmmfdggaa.G
theorem lok_143 : (Try.f143.body.isSome && !(Try.f143.name == "runtime.NumGoroutine") && okL (bodyF Try.f143) Try.f143.ntmps (bodyF Try.f143)) = true := by kernel_rfl
def M_ref07_Rejects (x : List T_api_Pred × Set64) : Option (Bool) :=
  M_ref07_many (x.1, x.2, 2, 2) >>= fun r1 =>
  some (!r1)
theorem M_ref07_Rejects.w : ∀ (x : List T_api_Pred × Set64) (r : Bool), M_ref07_Rejects x = some r → (fun (x : List T_api_Pred × Set64) (r : Bool) => Fn Try.prog 143 [.slice .foreign (x.1.map T_api_Pred.av), .w x.2] (.bool r)) x r := by
  intro x r h
  rw [M_ref07_Rejects] at h
  try dsimp only
  refine Fn.of_lc mix fn_143 lok_143 (by rfl) (flC (flat_slice _ T_api_Pred.flat _) (flC (.atom _) (flN))) (.atom _) ?_
  simp -implicitDefEqProofs only [go_sem, Try.f143]
  obtain ⟨r1, h2, h⟩ := bind_some' h
  refine .plain _ _ rfl (M_ref07_many.w (x.1, x.2, 2, 2) _ h2) ?_
  try simp -implicitDefEqProofs only [go_sem]
  injection h with h; subst h
  first | rfl | simp -implicitDefEqProofs only [go_sem] <;> rfl
end Go.Proofs.Ytcfekacmmfdggaa.G
set_option linter.unusedVariables false
set_option linter.unusedSimpArgs false
set_option maxRecDepth 100000
namespace Go.Proofs.Ytcfekacmmfdggaa.G
theorem lok_133 : (Try.f133.body.isSome && !(Try.f133.name == "runtime.NumGoroutine") && okL (bodyF Try.f133) Try.f133.ntmps (bodyF Try.f133)) = true := by kernel_rfl
def M_ref19_Loose (x : T_ref18_Op) : Option (Bool) :=
  if (x.Kind == 2) = true then
    M_ref07_Rejects (x.Conj, x.Left) >>= fun r2 =>
    some r2
  else
    some false
theorem M_ref19_Loose.w : ∀ (x : T_ref18_Op) (r : Bool), M_ref19_Loose x = some r → (fun (x : T_ref18_Op) (r : Bool) => Fn Try.prog 133 [.agg (T_ref18_Op.C x)] (.bool r)) x r := by
  intro x r h
  rw [M_ref19_Loose] at h
  try dsimp only
  refine Fn.of_lc mix fn_133 lok_133 (by rfl) (flC (T_ref18_Op.flatC _) (flN)) (.atom _) ?_
  simp -implicitDefEqProofs only [go_sem, Try.f133]
  by_cases h1 : (x.Kind == 2) = true
  · replace h := ite_some h h1
    try simp -implicitDefEqProofs only [go_sem, h1]
    obtain ⟨r2, h3, h⟩ := bind_some' h
    refine .plain _ _ rfl (M_ref07_Rejects.w (x.Conj, x.Left) _ h3) ?_
    try simp -implicitDefEqProofs only [go_sem, h1]
    injection h with h; subst h
    first | rfl | simp -implicitDefEqProofs only [go_sem, h1] <;> rfl
  · replace h := ite_none h h1; replace h1 := bfalse h1
    try simp -implicitDefEqProofs only [go_sem, h1]
    injection h with h; subst h
    first | rfl | simp -implicitDefEqProofs only [go_sem, h1] <;> rfl
end Go.Proofs.Ytcfekacmmfdggaa.G
set_option linter.unusedVariables false
set_option linter.unusedSimpArgs false
set_option maxRecDepth 100000
namespace Go.Proofs.Ytcfekacmmfdggaa.G
theorem lok_135 : (Try.f135.body.isSome && !(Try.f135.name == "runtime.NumGoroutine") && okL (bodyF Try.f135) Try.f135.ntmps (bodyF Try.f135)) = true := by kernel_rfl
def M_ref19_has.l0 (x : List Int × Int × Int) : Option (Lp (Unit) (Bool)) :=
  if (decide (x.2.2 < (x.1.length : Int))) = true then
    (getI x.1 x.2.2) >>= fun (e2 : Int) =>
    if (e2 == x.2.1) = true then
      some (.ret true)
    else
      M_ref19_has.l0 (x.1, x.2.1, (w64 (x.2.2 + 1)))
  else
    some (.brk ())
  partial_fixpoint
theorem M_ref19_has.l0.ws : (∀ (x : List Int × Int × Int) (o : Lp (Unit) (Bool)), M_ref19_has.l0 x = some o → (fun (x : List Int × Int × Int) (o : Lp (Unit) (Bool)) => ∀ (lo : Option Nat) (c : LCtx) (Q : Exit → LEnv → Prop) (hb : ∀ s : Unit, o = Lp.brk s → Q (.exit 0) ⟨[], []⟩) (hr : ∀ (r : Bool) (L : LEnv), o = .ret r → LPostF Try.prog [.tmp 4] (.bool r) (fun _ => True) .ret L → Q .ret L), LLoop Try.prog 135 lo c 0 (VQ Q) ⟨[(0, .v (.slice .foreign (x.1.map AV.i64))), (1, .v (.i64 x.2.1)), (5, .v (.i64 x.2.2))], []⟩) x o) := by
  refine M_ref19_has.l0.partial_correctness _ ?_
  · intro M_M_ref19_has_l0 ih_M_ref19_has_l0 x o h
    intro lo c Q hb hr
    refine LLoop.step mix fn_135 (by kernel_rfl) ?_
    simp -implicitDefEqProofs only [go_sem, Try.f135]
    by_cases h1 : (decide (x.2.2 < (x.1.length : Int))) = true
    · replace h := ite_some h h1
      try simp -implicitDefEqProofs only [go_sem, h1]
      obtain ⟨e2, h3, h⟩ := bind_some' h; replace h3 := getI_some h3; obtain ⟨h3', h3⟩ := h3
      try simp -implicitDefEqProofs only [go_sem, h1, h3, h3']
      by_cases h4 : (e2 == x.2.1) = true
      · replace h := ite_some h h4
        try simp -implicitDefEqProofs only [go_sem, h1, h3, h3', h4]
        injection h with h; subst h
        exact .inl (hr _ _ rfl (by (first | rfl | simp -implicitDefEqProofs only [go_sem, h1, h3, h3', h4] <;> rfl)))
      · replace h := ite_none h h4; replace h4 := bfalse h4
        try simp -implicitDefEqProofs only [go_sem, h1, h3, h3', h4]
        exact LLoop.view [] (by (first | rfl | simp -implicitDefEqProofs only [go_sem, h1, h3, h3', h4] <;> rfl)) (ih_M_ref19_has_l0 _ _ h lo c Q hb hr)
    · replace h := ite_none h h1; replace h1 := bfalse h1
      try simp -implicitDefEqProofs only [go_sem, h1]
      injection h with h; subst h
      exact .inr ⟨[], _, by (simp -implicitDefEqProofs only [go_sem, h1] <;> first | done | rfl | trivial), hb _ rfl⟩
theorem M_ref19_has.l0.w : type_of% @M_ref19_has.l0.ws := @M_ref19_has.l0.ws
def M_ref19_has (x : List Int × Int) : Option (Bool) :=
  M_ref19_has.l0 (x.1, x.2, 0) >>= fun (o5 : Lp (Unit) (Bool)) => match o5 with
  | .brk s8 =>
    some false
  | .ret r7 =>
    some r7
theorem M_ref19_has.w : ∀ (x : List Int × Int) (r : Bool), M_ref19_has x = some r → (fun (x : List Int × Int) (r : Bool) => Fn Try.prog 135 [.slice .foreign (x.1.map AV.i64), .i64 x.2] (.bool r)) x r := by
  intro x r h
  rw [M_ref19_has] at h
  try dsimp only
  refine Fn.of_lc mix fn_135 lok_135 (by rfl) (flC (flat_slice _ (fun _ => .atom _) _) (flC (.atom _) (flN))) (.atom _) ?_
  simp -implicitDefEqProofs only [go_sem, Try.f135]
  obtain ⟨o5, h6, h⟩ := bind_some' h
  refine LLoop.viewQ (LLoop.view [] (by (first | rfl | simp -implicitDefEqProofs only [go_sem] <;> rfl)) (M_ref19_has.l0.w (x.1, x.2, 0) _ h6 _ _ _ ?_ ?_))
  · intro s8 hs'; subst hs'
    try simp -implicitDefEqProofs only [go_sem]
    injection h with h; subst h
    first | rfl | simp -implicitDefEqProofs only [go_sem] <;> rfl
  · intro r7 L' hs' hL'; subst hs'
    injection h with h; subst h
    first | exact hL' | (simp -implicitDefEqProofs only [go_sem]; exact hL') | (simp -implicitDefEqProofs only [go_sem]; simp -implicitDefEqProofs only [go_sem] at hL'; exact hL')
end Go.Proofs.Ytcfekacmmfdggaa.G
set_option linter.unusedVariables false
set_option linter.unusedSimpArgs false
set_option maxRecDepth 100000
namespace Go.Proofs.Ytcfekacmmfdggaa.G
@[go_sem] theorem lrp_136_12 : lrp Try.prog 136 12 = (29, []) := by kernel_rfl
theorem lok_136 : (Try.f136.body.isSome && !(Try.f136.name == "runtime.NumGoroutine") && okL (bodyF Try.f136) Try.f136.ntmps (bodyF Try.f136)) = true := by kernel_rfl
def M_ref19_free.l0 (x : Int × Int × List Int × List Int × Set64 × Int × T_ref18_Levels) : Option (Lp (Unit) (Bool)) :=
  if (decide (x.2.2.2.2.2.1 < (x.2.2.2.2.2.2.Joins.length : Int))) = true then
    (getI x.2.2.2.2.2.2.Joins x.2.2.2.2.2.1) >>= fun (e8 : T_ref18_Join) =>
    if (e8.Home == x.1) = true then
      if ((x.2.2.2.2.1 &&& e8.Left) != 0#64) = true then
        some (.ret false)
      else
        if ((x.2.2.2.2.1 &&& e8.Right) != 0#64) = true then
          some (.ret false)
        else
          M_ref19_free.l0 (x.1, x.2.1, x.2.2.1, x.2.2.2.1, x.2.2.2.2.1, (w64 (x.2.2.2.2.2.1 + 1)), x.2.2.2.2.2.2)
    else
      M_ref19_free.l0 (x.1, x.2.1, x.2.2.1, x.2.2.2.1, x.2.2.2.2.1, (w64 (x.2.2.2.2.2.1 + 1)), x.2.2.2.2.2.2)
  else
    some (.brk ())
  partial_fixpoint
theorem M_ref19_free.l0.ws : (∀ (x : Int × Int × List Int × List Int × Set64 × Int × T_ref18_Levels) (o : Lp (Unit) (Bool)), M_ref19_free.l0 x = some o → (fun (x : Int × Int × List Int × List Int × Set64 × Int × T_ref18_Levels) (o : Lp (Unit) (Bool)) => ∀ (lo : Option Nat) (c : LCtx) (Q : Exit → LEnv → Prop) (hb : ∀ s : Unit, o = Lp.brk s → Q (.exit 0) ⟨[(2, .v (.i64 x.2.1)), (3, .v (.slice .foreign (x.2.2.1.map AV.i64))), (4, .v (.slice .foreign (x.2.2.2.1.map AV.i64))), (5, .lref 5 0), (11, .v (.w x.2.2.2.2.1))], [(5, [.v (.slice .foreign (x.2.2.2.2.2.2.Joins.map T_ref18_Join.av)), .v (.slice .foreign (x.2.2.2.2.2.2.Ops.map T_ref18_Op.av))])]⟩) (hr : ∀ (r : Bool) (L : LEnv), o = .ret r → LPostF Try.prog [.tmp 10] (.bool r) (fun _ => True) .ret L → Q .ret L), LLoop Try.prog 136 lo c 0 (VQ Q) ⟨[(1, .v (.i64 x.1)), (2, .v (.i64 x.2.1)), (3, .v (.slice .foreign (x.2.2.1.map AV.i64))), (4, .v (.slice .foreign (x.2.2.2.1.map AV.i64))), (5, .lref 5 0), (11, .v (.w x.2.2.2.2.1)), (12, .v (.i64 x.2.2.2.2.2.1))], [(5, [.v (.slice .foreign (x.2.2.2.2.2.2.Joins.map T_ref18_Join.av)), .v (.slice .foreign (x.2.2.2.2.2.2.Ops.map T_ref18_Op.av))])]⟩) x o) := by
  refine M_ref19_free.l0.partial_correctness _ ?_
  · intro M_M_ref19_free_l0 ih_M_ref19_free_l0 x o h
    intro lo c Q hb hr
    refine LLoop.step mix fn_136 (by kernel_rfl) ?_
    simp -implicitDefEqProofs only [go_sem, Try.f136]
    by_cases h7 : (decide (x.2.2.2.2.2.1 < (x.2.2.2.2.2.2.Joins.length : Int))) = true
    · replace h := ite_some h h7
      try simp -implicitDefEqProofs only [go_sem, h7]
      obtain ⟨e8, h9, h⟩ := bind_some' h; replace h9 := getI_some h9; obtain ⟨h9', h9⟩ := h9
      try simp -implicitDefEqProofs only [go_sem, h7, h9, h9']
      by_cases h10 : (e8.Home == x.1) = true
      · replace h := ite_some h h10
        try simp -implicitDefEqProofs only [go_sem, h7, h9, h9', h10]
        by_cases h11 : ((x.2.2.2.2.1 &&& e8.Left) != 0#64) = true
        · replace h := ite_some h h11
          try simp -implicitDefEqProofs only [go_sem, h7, h9, h9', h10, h11]
          injection h with h; subst h
          exact .inl (hr _ _ rfl (by (first | rfl | simp -implicitDefEqProofs only [go_sem, h7, h9, h9', h10, h11] <;> rfl)))
        · replace h := ite_none h h11; replace h11 := bfalse h11
          try simp -implicitDefEqProofs only [go_sem, h7, h9, h9', h10, h11]
          by_cases h12 : ((x.2.2.2.2.1 &&& e8.Right) != 0#64) = true
          · replace h := ite_some h h12
            try simp -implicitDefEqProofs only [go_sem, h7, h9, h9', h10, h11, h12]
            injection h with h; subst h
            exact .inl (hr _ _ rfl (by (first | rfl | simp -implicitDefEqProofs only [go_sem, h7, h9, h9', h10, h11, h12] <;> rfl)))
          · replace h := ite_none h h12; replace h12 := bfalse h12
            try simp -implicitDefEqProofs only [go_sem, h7, h9, h9', h10, h11, h12]
            exact LLoop.view [] (by (first | rfl | simp -implicitDefEqProofs only [go_sem, h7, h9, h9', h10, h11, h12] <;> rfl)) (ih_M_ref19_free_l0 _ _ h lo c Q hb hr)
      · replace h := ite_none h h10; replace h10 := bfalse h10
        try simp -implicitDefEqProofs only [go_sem, h7, h9, h9', h10]
        exact LLoop.view [] (by (first | rfl | simp -implicitDefEqProofs only [go_sem, h7, h9, h9', h10] <;> rfl)) (ih_M_ref19_free_l0 _ _ h lo c Q hb hr)
    · replace h := ite_none h h7; replace h7 := bfalse h7
      try simp -implicitDefEqProofs only [go_sem, h7]
      injection h with h; subst h
      exact .inr ⟨[], _, by (simp -implicitDefEqProofs only [go_sem, h7] <;> first | done | rfl | trivial), hb _ rfl⟩
theorem M_ref19_free.l0.w : type_of% @M_ref19_free.l0.ws := @M_ref19_free.l0.ws
def M_ref19_free.l1 (x : Int × List Int × List Int × Set64 × Int × T_ref18_Levels) : Option (Lp (Unit) (Bool)) :=
  if (decide (x.2.2.2.2.1 < (x.2.1.length : Int))) = true then
    (getI x.2.1 x.2.2.2.2.1) >>= fun (e18 : Int) =>
    if (e18 != x.1) = true then
      M_ref19_has (x.2.2.1, e18) >>= fun r21 =>
      if r21 = true then
        M_ref19_free.l1 (x.1, x.2.1, x.2.2.1, x.2.2.2.1, (w64 (x.2.2.2.2.1 + 1)), x.2.2.2.2.2)
      else
        (getI x.2.2.2.2.2.Ops e18) >>= fun (e24 : T_ref18_Op) =>
        if ((x.2.2.2.1 &&& e24.Left) != 0#64) = true then
          some (.ret false)
        else
          M_ref19_free.l1 (x.1, x.2.1, x.2.2.1, x.2.2.2.1, (w64 (x.2.2.2.2.1 + 1)), x.2.2.2.2.2)
    else
      M_ref19_free.l1 (x.1, x.2.1, x.2.2.1, x.2.2.2.1, (w64 (x.2.2.2.2.1 + 1)), x.2.2.2.2.2)
  else
    some (.brk ())
  partial_fixpoint
theorem M_ref19_free.l1.ws : (∀ (x : Int × List Int × List Int × Set64 × Int × T_ref18_Levels) (o : Lp (Unit) (Bool)), M_ref19_free.l1 x = some o → (fun (x : Int × List Int × List Int × Set64 × Int × T_ref18_Levels) (o : Lp (Unit) (Bool)) => ∀ (lo : Option Nat) (c : LCtx) (Q : Exit → LEnv → Prop) (hb : ∀ s : Unit, o = Lp.brk s → Q (.exit 2) ⟨[], []⟩) (hr : ∀ (r : Bool) (L : LEnv), o = .ret r → LPostF Try.prog [.tmp 10] (.bool r) (fun _ => True) .ret L → Q .ret L), LLoop Try.prog 136 lo c 1 (VQ Q) ⟨[(2, .v (.i64 x.1)), (3, .v (.slice .foreign (x.2.1.map AV.i64))), (4, .v (.slice .foreign (x.2.2.1.map AV.i64))), (5, .lref 5 0), (11, .v (.w x.2.2.2.1)), (13, .v (.i64 x.2.2.2.2.1))], [(5, [.v (.slice .foreign (x.2.2.2.2.2.Joins.map T_ref18_Join.av)), .v (.slice .foreign (x.2.2.2.2.2.Ops.map T_ref18_Op.av))])]⟩) x o) := by
  refine M_ref19_free.l1.partial_correctness _ ?_
  · intro M_M_ref19_free_l1 ih_M_ref19_free_l1 x o h
    intro lo c Q hb hr
    refine LLoop.step mix fn_136 (by kernel_rfl) ?_
    simp -implicitDefEqProofs only [go_sem, Try.f136]
    by_cases h17 : (decide (x.2.2.2.2.1 < (x.2.1.length : Int))) = true
    · replace h := ite_some h h17
      try simp -implicitDefEqProofs only [go_sem, h17]
      obtain ⟨e18, h19, h⟩ := bind_some' h; replace h19 := getI_some h19; obtain ⟨h19', h19⟩ := h19
      try simp -implicitDefEqProofs only [go_sem, h17, h19, h19']
      by_cases h20 : (e18 != x.1) = true
      · replace h := ite_some h h20
        try simp -implicitDefEqProofs only [go_sem, h17, h19, h19', h20]
        obtain ⟨r21, h22, h⟩ := bind_some' h
        refine .plain _ _ rfl (M_ref19_has.w (x.2.2.1, e18) _ h22) ?_
        try simp -implicitDefEqProofs only [go_sem, h17, h19, h19', h20]
        by_cases h23 : r21 = true
        · replace h := ite_some h h23
          try simp -implicitDefEqProofs only [go_sem, h17, h19, h19', h20, h23]
          exact LLoop.view [] (by (first | rfl | simp -implicitDefEqProofs only [go_sem, h17, h19, h19', h20, h23] <;> rfl)) (ih_M_ref19_free_l1 _ _ h lo c Q hb hr)
        · replace h := ite_none h h23; replace h23 := bfalse h23
          try simp -implicitDefEqProofs only [go_sem, h17, h19, h19', h20, h23]
          obtain ⟨e24, h25, h⟩ := bind_some' h; replace h25 := getI_some h25; obtain ⟨h25', h25⟩ := h25
          try simp -implicitDefEqProofs only [go_sem, h17, h19, h19', h20, h23, h25, h25']
          by_cases h26 : ((x.2.2.2.1 &&& e24.Left) != 0#64) = true
          · replace h := ite_some h h26
            try simp -implicitDefEqProofs only [go_sem, h17, h19, h19', h20, h23, h25, h25', h26]
            injection h with h; subst h
            exact .inl (hr _ _ rfl (by (first | rfl | simp -implicitDefEqProofs only [go_sem, h17, h19, h19', h20, h23, h25, h25', h26] <;> rfl)))
          · replace h := ite_none h h26; replace h26 := bfalse h26
            try simp -implicitDefEqProofs only [go_sem, h17, h19, h19', h20, h23, h25, h25', h26]
            exact LLoop.view [] (by (first | rfl | simp -implicitDefEqProofs only [go_sem, h17, h19, h19', h20, h23, h25, h25', h26] <;> rfl)) (ih_M_ref19_free_l1 _ _ h lo c Q hb hr)
      · replace h := ite_none h h20; replace h20 := bfalse h20
        try simp -implicitDefEqProofs only [go_sem, h17, h19, h19', h20]
        exact LLoop.view [] (by (first | rfl | simp -implicitDefEqProofs only [go_sem, h17, h19, h19', h20] <;> rfl)) (ih_M_ref19_free_l1 _ _ h lo c Q hb hr)
    · replace h := ite_none h h17; replace h17 := bfalse h17
      try simp -implicitDefEqProofs only [go_sem, h17]
      injection h with h; subst h
      exact .inr ⟨[], _, by (simp -implicitDefEqProofs only [go_sem, h17] <;> first | done | rfl | trivial), hb _ rfl⟩
theorem M_ref19_free.l1.w : type_of% @M_ref19_free.l1.ws := @M_ref19_free.l1.ws
def M_ref19_free (x : T_ref18_Levels × Int × Int × List Int × List Int) : Option (Bool) :=
  (getI x.1.Ops x.2.2.1) >>= fun (e1 : T_ref18_Op) =>
  (getI x.1.Ops x.2.1) >>= fun (e3 : T_ref18_Op) =>
  if ((e1.Own &&& e3.Left) != 0#64) = true then
    some false
  else
    if ((e1.Own &&& e3.Right) != 0#64) = true then
      some false
    else
      M_ref19_free.l0 (x.2.1, x.2.2.1, x.2.2.2.1, x.2.2.2.2, e1.Own, 0, x.1) >>= fun (o13 : Lp (Unit) (Bool)) => match o13 with
      | .brk s16 =>
        M_ref19_free.l1 (x.2.2.1, x.2.2.2.1, x.2.2.2.2, e1.Own, 0, x.1) >>= fun (o27 : Lp (Unit) (Bool)) => match o27 with
        | .brk s30 =>
          some true
        | .ret r29 =>
          some r29
      | .ret r15 =>
        some r15
theorem M_ref19_free.w : ∀ (x : T_ref18_Levels × Int × Int × List Int × List Int) (r : Bool), M_ref19_free x = some r → (fun (x : T_ref18_Levels × Int × Int × List Int × List Int) (r : Bool) => Fn Try.prog 136 [.agg (T_ref18_Levels.C x.1), .i64 x.2.1, .i64 x.2.2.1, .slice .foreign (x.2.2.2.1.map AV.i64), .slice .foreign (x.2.2.2.2.map AV.i64)] (.bool r)) x r := by
  intro x r h
  rw [M_ref19_free] at h
  try dsimp only
  refine Fn.of_lc mix fn_136 lok_136 (by rfl) (flC (T_ref18_Levels.flatC _) (flC (.atom _) (flC (.atom _) (flC (flat_slice _ (fun _ => .atom _) _) (flC (flat_slice _ (fun _ => .atom _) _) (flN)))))) (.atom _) ?_
  simp -implicitDefEqProofs only [go_sem, Try.f136]
  obtain ⟨e1, h2, h⟩ := bind_some' h; replace h2 := getI_some h2; obtain ⟨h2', h2⟩ := h2
  try simp -implicitDefEqProofs only [go_sem, h2, h2']
  obtain ⟨e3, h4, h⟩ := bind_some' h; replace h4 := getI_some h4; obtain ⟨h4', h4⟩ := h4
  try simp -implicitDefEqProofs only [go_sem, h2, h2', h4, h4']
  by_cases h5 : ((e1.Own &&& e3.Left) != 0#64) = true
  · replace h := ite_some h h5
    try simp -implicitDefEqProofs only [go_sem, h2, h2', h4, h4', h5]
    injection h with h; subst h
    first | rfl | simp -implicitDefEqProofs only [go_sem, h2, h2', h4, h4', h5] <;> rfl
  · replace h := ite_none h h5; replace h5 := bfalse h5
    try simp -implicitDefEqProofs only [go_sem, h2, h2', h4, h4', h5]
    by_cases h6 : ((e1.Own &&& e3.Right) != 0#64) = true
    · replace h := ite_some h h6
      try simp -implicitDefEqProofs only [go_sem, h2, h2', h4, h4', h5, h6]
      injection h with h; subst h
      first | rfl | simp -implicitDefEqProofs only [go_sem, h2, h2', h4, h4', h5, h6] <;> rfl
    · replace h := ite_none h h6; replace h6 := bfalse h6
      try simp -implicitDefEqProofs only [go_sem, h2, h2', h4, h4', h5, h6]
      obtain ⟨o13, h14, h⟩ := bind_some' h
      refine LLoop.viewQ (LLoop.view [] (by (first | rfl | simp -implicitDefEqProofs only [go_sem, h2, h2', h4, h4', h5, h6] <;> rfl)) (M_ref19_free.l0.w (x.2.1, x.2.2.1, x.2.2.2.1, x.2.2.2.2, e1.Own, 0, x.1) _ h14 _ _ _ ?_ ?_))
      · intro s16 hs'; subst hs'
        try simp -implicitDefEqProofs only [go_sem, h2, h2', h4, h4', h5, h6]
        obtain ⟨o27, h28, h⟩ := bind_some' h
        refine LLoop.viewQ (LLoop.view [] (by (first | rfl | simp -implicitDefEqProofs only [go_sem, h2, h2', h4, h4', h5, h6] <;> rfl)) (M_ref19_free.l1.w (x.2.2.1, x.2.2.2.1, x.2.2.2.2, e1.Own, 0, x.1) _ h28 _ _ _ ?_ ?_))
        · intro s30 hs'; subst hs'
          try simp -implicitDefEqProofs only [go_sem, h2, h2', h4, h4', h5, h6]
          injection h with h; subst h
          first | rfl | simp -implicitDefEqProofs only [go_sem, h2, h2', h4, h4', h5, h6] <;> rfl
        · intro r29 L' hs' hL'; subst hs'
          injection h with h; subst h
          first | exact hL' | (simp -implicitDefEqProofs only [go_sem]; exact hL') | (simp -implicitDefEqProofs only [go_sem]; simp -implicitDefEqProofs only [go_sem] at hL'; exact hL')
      · intro r15 L' hs' hL'; subst hs'
        injection h with h; subst h
        first | exact hL' | (simp -implicitDefEqProofs only [go_sem]; exact hL') | (simp -implicitDefEqProofs only [go_sem]; simp -implicitDefEqProofs only [go_sem] at hL'; exact hL')
end Go.Proofs.Ytcfekacmmfdggaa.G
set_option linter.unusedVariables false
set_option linter.unusedSimpArgs false
set_option maxRecDepth 100000
namespace Go.Proofs.Ytcfekacmmfdggaa.G
theorem lok_100 : (Try.f100.body.isSome && !(Try.f100.name == "runtime.NumGoroutine") && okL (bodyF Try.f100) Try.f100.ntmps (bodyF Try.f100)) = true := by kernel_rfl
def M_ref19_Lift.l2 (x : Int × List Int × List Int × List Int × Int × T_ref18_Levels) : Option (List Int) :=
  if (decide (x.2.2.2.2.1 < (x.2.2.2.2.2.Ops.length : Int))) = true then
    M_ref19_has (x.2.2.1, x.2.2.2.2.1) >>= fun r26 =>
    if r26 = true then
      M_ref19_free (x.2.2.2.2.2, x.1, x.2.2.2.2.1, x.2.1, x.2.2.1) >>= fun r29 =>
      if r29 = true then
        (room 8 x.2.2.2.1 ([x.2.2.2.2.1])) >>= fun (z32 : List Int) =>
        M_ref19_Lift.l2 (x.1, x.2.1, x.2.2.1, z32, (w64 (x.2.2.2.2.1 + 1)), x.2.2.2.2.2)
      else
        M_ref19_Lift.l2 (x.1, x.2.1, x.2.2.1, x.2.2.2.1, (w64 (x.2.2.2.2.1 + 1)), x.2.2.2.2.2)
    else
      M_ref19_Lift.l2 (x.1, x.2.1, x.2.2.1, x.2.2.2.1, (w64 (x.2.2.2.2.1 + 1)), x.2.2.2.2.2)
  else
    some x.2.2.2.1
  partial_fixpoint
theorem M_ref19_Lift.l2.ws : (∀ (x : Int × List Int × List Int × List Int × Int × T_ref18_Levels) (o : List Int), M_ref19_Lift.l2 x = some o → (fun (x : Int × List Int × List Int × List Int × Int × T_ref18_Levels) (o : List Int) => ∀ (lo : Option Nat) (c : LCtx) (Q : Exit → LEnv → Prop) (hb : ∀ s : List Int, o = s → Q (.exit 4) ⟨[(1, .v (.i64 x.1)), (2, .lref 2 0), (5, .own 100500 1 (x.2.1.map AV.i64)), (6, .own 100600 1 (x.2.2.1.map AV.i64)), (9, .own 100900 1 (s.map AV.i64))], [(2, [.v (.slice .foreign (x.2.2.2.2.2.Joins.map T_ref18_Join.av)), .v (.slice .foreign (x.2.2.2.2.2.Ops.map T_ref18_Op.av))])]⟩), LLoop Try.prog 100 lo c 2 (VQ Q) ⟨[(1, .v (.i64 x.1)), (2, .lref 2 0), (5, .own 100500 1 (x.2.1.map AV.i64)), (6, .own 100600 1 (x.2.2.1.map AV.i64)), (9, .own 100900 1 (x.2.2.2.1.map AV.i64)), (10, .v (.i64 x.2.2.2.2.1))], [(2, [.v (.slice .foreign (x.2.2.2.2.2.Joins.map T_ref18_Join.av)), .v (.slice .foreign (x.2.2.2.2.2.Ops.map T_ref18_Op.av))])]⟩) x o) := by
  refine M_ref19_Lift.l2.partial_correctness _ ?_
  · intro M_M_ref19_Lift_l2 ih_M_ref19_Lift_l2 x o h
    intro lo c Q hb
    refine LLoop.step mix fn_100 (by kernel_rfl) ?_
    simp -implicitDefEqProofs only [go_sem, Try.f100]
    by_cases h25 : (decide (x.2.2.2.2.1 < (x.2.2.2.2.2.Ops.length : Int))) = true
    · replace h := ite_some h h25
      try simp -implicitDefEqProofs only [go_sem, h25]
      obtain ⟨r26, h27, h⟩ := bind_some' h
      refine .plain _ _ rfl (M_ref19_has.w (x.2.2.1, x.2.2.2.2.1) _ h27) ?_
      try simp -implicitDefEqProofs only [go_sem, h25]
      by_cases h28 : r26 = true
      · replace h := ite_some h h28
        try simp -implicitDefEqProofs only [go_sem, h25, h28]
        obtain ⟨r29, h30, h⟩ := bind_some' h
        refine .plain _ _ rfl (M_ref19_free.w (x.2.2.2.2.2, x.1, x.2.2.2.2.1, x.2.1, x.2.2.1) _ h30) ?_
        try simp -implicitDefEqProofs only [go_sem, h25, h28]
        by_cases h31 : r29 = true
        · replace h := ite_some h h31
          try simp -implicitDefEqProofs only [go_sem, h25, h28, h31]
          obtain ⟨z32, h33, h⟩ := bind_some' h; replace h33 := room_some h33; obtain ⟨h33', rfl⟩ := h33
          refine LApp.map (F := AV.i64) (xs := x.2.2.2.1) (ys := [x.2.2.2.2.1]) t45_elem t3_size t3_bytes t3_zsize rfl (fun _ => rfl) (by (first | rfl | simp -implicitDefEqProofs only [go_sem, h25, h28, h31] <;> rfl)) (by (first | rfl | simp -implicitDefEqProofs only [go_sem, h25, h28, h31] <;> rfl)) h33' ?_
          try simp -implicitDefEqProofs only [go_sem, h25, h28, h31]
          exact LLoop.view [(100500, some 100500), (100600, some 100600), (100900, some 90)] (by (first | rfl | simp -implicitDefEqProofs only [go_sem, h25, h28, h31] <;> rfl)) (ih_M_ref19_Lift_l2 _ _ h lo c Q hb)
        · replace h := ite_none h h31; replace h31 := bfalse h31
          try simp -implicitDefEqProofs only [go_sem, h25, h28, h31]
          exact LLoop.view [(100500, some 100500), (100600, some 100600), (100900, some 100900)] (by (first | rfl | simp -implicitDefEqProofs only [go_sem, h25, h28, h31] <;> rfl)) (ih_M_ref19_Lift_l2 _ _ h lo c Q hb)
      · replace h := ite_none h h28; replace h28 := bfalse h28
        try simp -implicitDefEqProofs only [go_sem, h25, h28]
        exact LLoop.view [(100500, some 100500), (100600, some 100600), (100900, some 100900)] (by (first | rfl | simp -implicitDefEqProofs only [go_sem, h25, h28] <;> rfl)) (ih_M_ref19_Lift_l2 _ _ h lo c Q hb)
    · replace h := ite_none h h25; replace h25 := bfalse h25
      try simp -implicitDefEqProofs only [go_sem, h25]
      injection h with h; subst h
      exact .inr ⟨[(100500, some 100500), (100600, some 100600), (100900, some 100900)], _, by (simp -implicitDefEqProofs only [go_sem, h25] <;> first | done | rfl | trivial), hb _ rfl⟩
theorem M_ref19_Lift.l2.w : type_of% @M_ref19_Lift.l2.ws := @M_ref19_Lift.l2.ws
def M_ref19_Lift.l1 (x : Int × List Int × List Int × T_ref18_Levels) : Option (List Int) :=
  M_ref19_Lift.l2 (x.1, x.2.1, x.2.2.1, ([] : List Int), 0, x.2.2.2) >>= fun (o34 : List Int) =>
  if ((o34.length : Int) == (x.2.2.1.length : Int)) = true then
    some o34
  else
    M_ref19_Lift.l1 (x.1, x.2.1, o34, x.2.2.2)
  partial_fixpoint
theorem M_ref19_Lift.l1.ws : (∀ (x : Int × List Int × List Int × T_ref18_Levels) (o : List Int), M_ref19_Lift.l1 x = some o → (fun (x : Int × List Int × List Int × T_ref18_Levels) (o : List Int) => ∀ (lo : Option Nat) (c : LCtx) (Q : Exit → LEnv → Prop) (hr : ∀ (L : LEnv), LPostF Try.prog [.tmp 4] (.slice .foreign (o.map AV.i64)) (fun _ => True) .ret L → Q .ret L), LLoop Try.prog 100 lo c 1 (VQ Q) ⟨[(1, .v (.i64 x.1)), (2, .lref 2 0), (5, .own 100500 1 (x.2.1.map AV.i64)), (6, .own 100600 1 (x.2.2.1.map AV.i64))], [(2, [.v (.slice .foreign (x.2.2.2.Joins.map T_ref18_Join.av)), .v (.slice .foreign (x.2.2.2.Ops.map T_ref18_Op.av))])]⟩) x o) := by
  refine M_ref19_Lift.l1.partial_correctness _ ?_
  · intro M_M_ref19_Lift_l1 ih_M_ref19_Lift_l1 x o h
    intro lo c Q hr
    refine LLoop.step mix fn_100 (by kernel_rfl) ?_
    simp -implicitDefEqProofs only [go_sem, Try.f100]
    obtain ⟨o34, h35, h⟩ := bind_some' h
    refine LLoop.viewQ (LLoop.view [(100500, some 100500), (100600, some 100600), (100900, none)] (by (first | rfl | simp -implicitDefEqProofs only [go_sem] <;> rfl)) (M_ref19_Lift.l2.w (x.1, x.2.1, x.2.2.1, ([] : List Int), 0, x.2.2.2) _ h35 _ _ _ ?_))
    intro s' hs'; subst hs'
    try simp -implicitDefEqProofs only [go_sem]
    by_cases h36 : ((o34.length : Int) == (x.2.2.1.length : Int)) = true
    · replace h := ite_some h h36
      try simp -implicitDefEqProofs only [go_sem, h36]
      injection h with h; subst h
      exact .inl (hr _ (by (first | rfl | simp -implicitDefEqProofs only [go_sem, h36] <;> rfl)))
    · replace h := ite_none h h36; replace h36 := bfalse h36
      try simp -implicitDefEqProofs only [go_sem, h36]
      exact LLoop.view [(100500, some 100500), (100600, some 100900)] (by (first | rfl | simp -implicitDefEqProofs only [go_sem, h36] <;> rfl)) (ih_M_ref19_Lift_l1 _ _ h lo c Q hr)
theorem M_ref19_Lift.l1.w : type_of% @M_ref19_Lift.l1.ws := @M_ref19_Lift.l1.ws
mutual
def M_ref19_Lift.l0 (x : Int × List Int × List Int × Int × T_ref18_Levels) : Option (List Int × List Int) :=
  if (decide (x.2.2.2.1 < (x.2.2.2.2.Ops.length : Int))) = true then
    (getI x.2.2.2.2.Ops x.2.2.2.1) >>= fun (e7 : T_ref18_Op) =>
    if (e7.Home != x.1) = true then
      M_ref19_Lift.l0 (x.1, x.2.1, x.2.2.1, (w64 (x.2.2.2.1 + 1)), x.2.2.2.2)
    else
      M_ref19_Lift (x.2.2.2.2, x.2.2.2.1) >>= fun r10 =>
      (room 8 x.2.1 ([x.2.2.2.1])) >>= fun (z12 : List Int) =>
      (room 8 z12 r10) >>= fun (z14 : List Int) =>
      (room 8 x.2.2.1 r10) >>= fun (z16 : List Int) =>
      M_ref19_Loose e7 >>= fun r18 =>
      if r18 = true then
        (room 8 z16 ([x.2.2.2.1])) >>= fun (z21 : List Int) =>
        M_ref19_Lift.l0 (x.1, z14, z21, (w64 (x.2.2.2.1 + 1)), x.2.2.2.2)
      else
        M_ref19_Lift.l0 (x.1, z14, z16, (w64 (x.2.2.2.1 + 1)), x.2.2.2.2)
  else
    some (x.2.1, x.2.2.1)
  partial_fixpoint
def M_ref19_Lift (x : T_ref18_Levels × Int) : Option (List Int) :=
  if (decide (x.2 < 0)) = true then
    some ([] : List Int)
  else
    if (decide (x.2 ≥ (x.1.Ops.length : Int))) = true then
      some ([] : List Int)
    else
      (getI x.1.Ops x.2) >>= fun (e3 : T_ref18_Op) =>
      if (e3.Kind != 2) = true then
        some ([] : List Int)
      else
        M_ref19_Lift.l0 (x.2, ([] : List Int), ([] : List Int), 0, x.1) >>= fun (o23 : List Int × List Int) =>
        M_ref19_Lift.l1 (x.2, o23.1, o23.2, x.1) >>= fun (o37 : List Int) =>
        some o37
  partial_fixpoint
end
theorem M_ref19_Lift.l0.ws : (∀ (x : Int × List Int × List Int × Int × T_ref18_Levels) (o : List Int × List Int), M_ref19_Lift.l0 x = some o → (fun (x : Int × List Int × List Int × Int × T_ref18_Levels) (o : List Int × List Int) => ∀ (lo : Option Nat) (c : LCtx) (Q : Exit → LEnv → Prop) (hb : ∀ s : List Int × List Int, o = s → Q (.exit 0) ⟨[(1, .v (.i64 x.1)), (2, .lref 2 0), (5, .own 100500 1 (s.1.map AV.i64)), (6, .own 100600 1 (s.2.map AV.i64))], [(2, [.v (.slice .foreign (x.2.2.2.2.Joins.map T_ref18_Join.av)), .v (.slice .foreign (x.2.2.2.2.Ops.map T_ref18_Op.av))])]⟩), LLoop Try.prog 100 lo c 0 (VQ Q) ⟨[(1, .v (.i64 x.1)), (2, .lref 2 0), (5, .own 100500 1 (x.2.1.map AV.i64)), (6, .own 100600 1 (x.2.2.1.map AV.i64)), (7, .v (.i64 x.2.2.2.1))], [(2, [.v (.slice .foreign (x.2.2.2.2.Joins.map T_ref18_Join.av)), .v (.slice .foreign (x.2.2.2.2.Ops.map T_ref18_Op.av))])]⟩) x o) ∧ (∀ (x : T_ref18_Levels × Int) (o : List Int), M_ref19_Lift x = some o → (fun (x : T_ref18_Levels × Int) (r : List Int) => Fn Try.prog 100 [.agg (T_ref18_Levels.C x.1), .i64 x.2] (.slice .foreign (r.map AV.i64))) x o) := by
  refine M_ref19_Lift.l0.mutual_partial_correctness _ _ ?_ ?_
  · intro M_M_ref19_Lift_l0 M_M_ref19_Lift ih_M_ref19_Lift_l0 ih_M_ref19_Lift x o h
    intro lo c Q hb
    refine LLoop.step mix fn_100 (by kernel_rfl) ?_
    simp -implicitDefEqProofs only [go_sem, Try.f100]
    by_cases h6 : (decide (x.2.2.2.1 < (x.2.2.2.2.Ops.length : Int))) = true
    · replace h := ite_some h h6
      try simp -implicitDefEqProofs only [go_sem, h6]
      obtain ⟨e7, h8, h⟩ := bind_some' h; replace h8 := getI_some h8; obtain ⟨h8', h8⟩ := h8
      try simp -implicitDefEqProofs only [go_sem, h6, h8, h8']
      by_cases h9 : (e7.Home != x.1) = true
      · replace h := ite_some h h9
        try simp -implicitDefEqProofs only [go_sem, h6, h8, h8', h9]
        exact LLoop.view [(100500, some 100500), (100600, some 100600)] (by (first | rfl | simp -implicitDefEqProofs only [go_sem, h6, h8, h8', h9] <;> rfl)) (ih_M_ref19_Lift_l0 _ _ h lo c Q hb)
      · replace h := ite_none h h9; replace h9 := bfalse h9
        try simp -implicitDefEqProofs only [go_sem, h6, h8, h8', h9]
        obtain ⟨r10, h11, h⟩ := bind_some' h
        refine .plain _ _ rfl (ih_M_ref19_Lift (x.2.2.2.2, x.2.2.2.1) _ h11) ?_
        try simp -implicitDefEqProofs only [go_sem, h6, h8, h8', h9]
        obtain ⟨z12, h13, h⟩ := bind_some' h; replace h13 := room_some h13; obtain ⟨h13', rfl⟩ := h13
        refine LApp.map (F := AV.i64) (xs := x.2.1) (ys := [x.2.2.2.1]) t45_elem t3_size t3_bytes t3_zsize rfl (fun _ => rfl) (by (first | rfl | simp -implicitDefEqProofs only [go_sem, h6, h8, h8', h9] <;> rfl)) (by (first | rfl | simp -implicitDefEqProofs only [go_sem, h6, h8, h8', h9] <;> rfl)) h13' ?_
        try simp -implicitDefEqProofs only [go_sem, h6, h8, h8', h9]
        obtain ⟨z14, h15, h⟩ := bind_some' h; replace h15 := room_some h15; obtain ⟨h15', rfl⟩ := h15
        refine LApp.map (F := AV.i64) (xs := (x.2.1 ++ [x.2.2.2.1])) (ys := r10) t45_elem t3_size t3_bytes t3_zsize rfl (fun _ => rfl) (by (first | rfl | simp -implicitDefEqProofs only [go_sem, h6, h8, h8', h9] <;> rfl)) (by (first | rfl | simp -implicitDefEqProofs only [go_sem, h6, h8, h8', h9] <;> rfl)) h15' ?_
        try simp -implicitDefEqProofs only [go_sem, h6, h8, h8', h9]
        obtain ⟨z16, h17, h⟩ := bind_some' h; replace h17 := room_some h17; obtain ⟨h17', rfl⟩ := h17
        refine LApp.map (F := AV.i64) (xs := x.2.2.1) (ys := r10) t45_elem t3_size t3_bytes t3_zsize rfl (fun _ => rfl) (by (first | rfl | simp -implicitDefEqProofs only [go_sem, h6, h8, h8', h9] <;> rfl)) (by (first | rfl | simp -implicitDefEqProofs only [go_sem, h6, h8, h8', h9] <;> rfl)) h17' ?_
        try simp -implicitDefEqProofs only [go_sem, h6, h8, h8', h9]
        obtain ⟨r18, h19, h⟩ := bind_some' h
        refine .plain _ _ rfl (M_ref19_Loose.w e7 _ h19) ?_
        try simp -implicitDefEqProofs only [go_sem, h6, h8, h8', h9]
        by_cases h20 : r18 = true
        · replace h := ite_some h h20
          try simp -implicitDefEqProofs only [go_sem, h6, h8, h8', h9, h20]
          obtain ⟨z21, h22, h⟩ := bind_some' h; replace h22 := room_some h22; obtain ⟨h22', rfl⟩ := h22
          refine LApp.map (F := AV.i64) (xs := (x.2.2.1 ++ r10)) (ys := [x.2.2.2.1]) t45_elem t3_size t3_bytes t3_zsize rfl (fun _ => rfl) (by (first | rfl | simp -implicitDefEqProofs only [go_sem, h6, h8, h8', h9, h20] <;> rfl)) (by (first | rfl | simp -implicitDefEqProofs only [go_sem, h6, h8, h8', h9, h20] <;> rfl)) h22' ?_
          try simp -implicitDefEqProofs only [go_sem, h6, h8, h8', h9, h20]
          exact LLoop.view [(100500, some 54), (100600, some 67)] (by (first | rfl | simp -implicitDefEqProofs only [go_sem, h6, h8, h8', h9, h20] <;> rfl)) (ih_M_ref19_Lift_l0 _ _ h lo c Q hb)
        · replace h := ite_none h h20; replace h20 := bfalse h20
          try simp -implicitDefEqProofs only [go_sem, h6, h8, h8', h9, h20]
          exact LLoop.view [(100500, some 54), (100600, some 57)] (by (first | rfl | simp -implicitDefEqProofs only [go_sem, h6, h8, h8', h9, h20] <;> rfl)) (ih_M_ref19_Lift_l0 _ _ h lo c Q hb)
    · replace h := ite_none h h6; replace h6 := bfalse h6
      try simp -implicitDefEqProofs only [go_sem, h6]
      injection h with h; subst h
      exact .inr ⟨[(100500, some 100500), (100600, some 100600)], _, by (simp -implicitDefEqProofs only [go_sem, h6] <;> first | done | rfl | trivial), hb _ rfl⟩
  · intro M_M_ref19_Lift_l0 ih_M_ref19_Lift_l0 x r h
    refine Fn.of_lc mix fn_100 lok_100 (by rfl) (flC (T_ref18_Levels.flatC _) (flC (.atom _) (flN))) (flat_slice _ (fun _ => .atom _) _) ?_
    simp -implicitDefEqProofs only [go_sem, Try.f100]
    by_cases h1 : (decide (x.2 < 0)) = true
    · replace h := ite_some h h1
      try simp -implicitDefEqProofs only [go_sem, h1]
      injection h with h; subst h
      first | rfl | simp -implicitDefEqProofs only [go_sem, h1] <;> rfl
    · replace h := ite_none h h1; replace h1 := bfalse h1
      try simp -implicitDefEqProofs only [go_sem, h1]
      by_cases h2 : (decide (x.2 ≥ (x.1.Ops.length : Int))) = true
      · replace h := ite_some h h2
        try simp -implicitDefEqProofs only [go_sem, h1, h2]
        injection h with h; subst h
        first | rfl | simp -implicitDefEqProofs only [go_sem, h1, h2] <;> rfl
      · replace h := ite_none h h2; replace h2 := bfalse h2
        try simp -implicitDefEqProofs only [go_sem, h1, h2]
        obtain ⟨e3, h4, h⟩ := bind_some' h; replace h4 := getI_some h4; obtain ⟨h4', h4⟩ := h4
        try simp -implicitDefEqProofs only [go_sem, h1, h2, h4, h4']
        by_cases h5 : (e3.Kind != 2) = true
        · replace h := ite_some h h5
          try simp -implicitDefEqProofs only [go_sem, h1, h2, h4, h4', h5]
          injection h with h; subst h
          first | rfl | simp -implicitDefEqProofs only [go_sem, h1, h2, h4, h4', h5] <;> rfl
        · replace h := ite_none h h5; replace h5 := bfalse h5
          try simp -implicitDefEqProofs only [go_sem, h1, h2, h4, h4', h5]
          obtain ⟨o23, h24, h⟩ := bind_some' h
          refine LLoop.viewQ (LLoop.view [(100500, none), (100600, none)] (by (first | rfl | simp -implicitDefEqProofs only [go_sem, h1, h2, h4, h4', h5] <;> rfl)) (ih_M_ref19_Lift_l0 (x.2, ([] : List Int), ([] : List Int), 0, x.1) _ h24 _ _ _ ?_))
          intro s' hs'; subst hs'
          try simp -implicitDefEqProofs only [go_sem, h1, h2, h4, h4', h5]
          obtain ⟨o37, h38, h⟩ := bind_some' h
          refine LLoop.viewQ (LLoop.view [(100500, some 100500), (100600, some 100600)] (by (first | rfl | simp -implicitDefEqProofs only [go_sem, h1, h2, h4, h4', h5] <;> rfl)) (M_ref19_Lift.l1.w (x.2, o23.1, o23.2, x.1) _ h38 _ _ _ ?_))
          intro L' hL'
          injection h with h; subst h
          first | exact hL' | (simp -implicitDefEqProofs only [go_sem]; exact hL') | (simp -implicitDefEqProofs only [go_sem]; simp -implicitDefEqProofs only [go_sem] at hL'; exact hL')
theorem M_ref19_Lift.w : type_of% (M_ref19_Lift.l0.ws.2) := (M_ref19_Lift.l0.ws.2)
end Go.Proofs.Ytcfekacmmfdggaa.G
set_option linter.unusedVariables false
set_option linter.unusedSimpArgs false
set_option maxRecDepth 100000
namespace Go.Proofs.Ytcfekacmmfdggaa.G
@[go_sem] theorem lrp_66_8 : lrp Try.prog 66 8 = (12, []) := by kernel_rfl
theorem lok_66 : (Try.f66.body.isSome && !(Try.f66.name == "runtime.NumGoroutine") && okL (bodyF Try.f66) Try.f66.ntmps (bodyF Try.f66)) = true := by kernel_rfl
def M_ref19_Core.l0 (x : Set64 × List Int × Int × T_ref18_Levels) : Option (Set64) :=
  if (decide (x.2.2.1 < (x.2.1.length : Int))) = true then
    (getI x.2.1 x.2.2.1) >>= fun (e8 : Int) =>
    (getI x.2.2.2.Ops e8) >>= fun (e10 : T_ref18_Op) =>
    M_ref19_Core.l0 ((x.1 &&& ~~~e10.Own), x.2.1, (w64 (x.2.2.1 + 1)), x.2.2.2)
  else
    some x.1
  partial_fixpoint
theorem M_ref19_Core.l0.ws : (∀ (x : Set64 × List Int × Int × T_ref18_Levels) (o : Set64), M_ref19_Core.l0 x = some o → (fun (x : Set64 × List Int × Int × T_ref18_Levels) (o : Set64) => ∀ (lo : Option Nat) (c : LCtx) (Q : Exit → LEnv → Prop) (hb : ∀ s : Set64, o = s → Q (.exit 0) ⟨[(5, .v (.w s))], []⟩), LLoop Try.prog 66 lo c 0 (VQ Q) ⟨[(2, .lref 2 0), (5, .v (.w x.1)), (6, .v (.slice .foreign (x.2.1.map AV.i64))), (7, .v (.i64 x.2.2.1))], [(2, [.v (.slice .foreign (x.2.2.2.Joins.map T_ref18_Join.av)), .v (.slice .foreign (x.2.2.2.Ops.map T_ref18_Op.av))])]⟩) x o) := by
  refine M_ref19_Core.l0.partial_correctness _ ?_
  · intro M_M_ref19_Core_l0 ih_M_ref19_Core_l0 x o h
    intro lo c Q hb
    refine LLoop.step mix fn_66 (by kernel_rfl) ?_
    simp -implicitDefEqProofs only [go_sem, Try.f66]
    by_cases h7 : (decide (x.2.2.1 < (x.2.1.length : Int))) = true
    · replace h := ite_some h h7
      try simp -implicitDefEqProofs only [go_sem, h7]
      obtain ⟨e8, h9, h⟩ := bind_some' h; replace h9 := getI_some h9; obtain ⟨h9', h9⟩ := h9
      try simp -implicitDefEqProofs only [go_sem, h7, h9, h9']
      obtain ⟨e10, h11, h⟩ := bind_some' h; replace h11 := getI_some h11; obtain ⟨h11', h11⟩ := h11
      try simp -implicitDefEqProofs only [go_sem, h7, h9, h9', h11, h11']
      exact LLoop.view [] (by (first | rfl | simp -implicitDefEqProofs only [go_sem, h7, h9, h9', h11, h11'] <;> rfl)) (ih_M_ref19_Core_l0 _ _ h lo c Q hb)
    · replace h := ite_none h h7; replace h7 := bfalse h7
      try simp -implicitDefEqProofs only [go_sem, h7]
      injection h with h; subst h
      exact .inr ⟨[], _, by (simp -implicitDefEqProofs only [go_sem, h7] <;> first | done | rfl | trivial), hb _ rfl⟩
theorem M_ref19_Core.l0.w : type_of% @M_ref19_Core.l0.ws := @M_ref19_Core.l0.ws
def M_ref19_Core (x : T_ref18_Levels × Int) : Option (Set64) :=
  if (decide (x.2 < 0)) = true then
    some (0#64)
  else
    if (decide (x.2 ≥ (x.1.Ops.length : Int))) = true then
      some (0#64)
    else
      (getI x.1.Ops x.2) >>= fun (e3 : T_ref18_Op) =>
      M_ref19_Lift (x.1, x.2) >>= fun r5 =>
      M_ref19_Core.l0 (e3.Own, r5, 0, x.1) >>= fun (o12 : Set64) =>
      some o12
theorem M_ref19_Core.w : ∀ (x : T_ref18_Levels × Int) (r : Set64), M_ref19_Core x = some r → (fun (x : T_ref18_Levels × Int) (r : Set64) => Fn Try.prog 66 [.agg (T_ref18_Levels.C x.1), .i64 x.2] (.w r)) x r := by
  intro x r h
  rw [M_ref19_Core] at h
  try dsimp only
  refine Fn.of_lc mix fn_66 lok_66 (by rfl) (flC (T_ref18_Levels.flatC _) (flC (.atom _) (flN))) (.atom _) ?_
  simp -implicitDefEqProofs only [go_sem, Try.f66]
  by_cases h1 : (decide (x.2 < 0)) = true
  · replace h := ite_some h h1
    try simp -implicitDefEqProofs only [go_sem, h1]
    injection h with h; subst h
    first | rfl | simp -implicitDefEqProofs only [go_sem, h1] <;> rfl
  · replace h := ite_none h h1; replace h1 := bfalse h1
    try simp -implicitDefEqProofs only [go_sem, h1]
    by_cases h2 : (decide (x.2 ≥ (x.1.Ops.length : Int))) = true
    · replace h := ite_some h h2
      try simp -implicitDefEqProofs only [go_sem, h1, h2]
      injection h with h; subst h
      first | rfl | simp -implicitDefEqProofs only [go_sem, h1, h2] <;> rfl
    · replace h := ite_none h h2; replace h2 := bfalse h2
      try simp -implicitDefEqProofs only [go_sem, h1, h2]
      obtain ⟨e3, h4, h⟩ := bind_some' h; replace h4 := getI_some h4; obtain ⟨h4', h4⟩ := h4
      try simp -implicitDefEqProofs only [go_sem, h1, h2, h4, h4']
      obtain ⟨r5, h6, h⟩ := bind_some' h
      refine .plain _ _ rfl (M_ref19_Lift.w (x.1, x.2) _ h6) ?_
      try simp -implicitDefEqProofs only [go_sem, h1, h2, h4, h4']
      obtain ⟨o12, h13, h⟩ := bind_some' h
      refine LLoop.viewQ (LLoop.view [] (by (first | rfl | simp -implicitDefEqProofs only [go_sem, h1, h2, h4, h4'] <;> rfl)) (M_ref19_Core.l0.w (e3.Own, r5, 0, x.1) _ h13 _ _ _ ?_))
      intro s' hs'; subst hs'
      try simp -implicitDefEqProofs only [go_sem, h1, h2, h4, h4']
      injection h with h; subst h
      first | rfl | simp -implicitDefEqProofs only [go_sem, h1, h2, h4, h4'] <;> rfl
end Go.Proofs.Ytcfekacmmfdggaa.G
set_option linter.unusedVariables false
set_option linter.unusedSimpArgs false
set_option maxRecDepth 100000
namespace Go.Proofs.Ytcfekacmmfdggaa.G
theorem lok_99 : (Try.f99.body.isSome && !(Try.f99.name == "runtime.NumGoroutine") && okL (bodyF Try.f99) Try.f99.ntmps (bodyF Try.f99)) = true := by kernel_rfl
def M_ref18_Within (x : T_ref18_Levels × Int × Int) : Option (Bool) :=
  if (decide (x.2.1 < 0)) = true then
    some false
  else
    if (decide (x.2.1 ≥ (x.1.Ops.length : Int))) = true then
      some false
    else
      (getI x.1.Ops x.2.1) >>= fun (e3 : T_ref18_Op) =>
      if (e3.Home == x.2.2) = true then
        some true
      else
        M_ref18_Within (x.1, e3.Home, x.2.2) >>= fun r6 =>
        some r6
  partial_fixpoint
theorem M_ref18_Within.ws : (∀ (x : T_ref18_Levels × Int × Int) (o : Bool), M_ref18_Within x = some o → (fun (x : T_ref18_Levels × Int × Int) (r : Bool) => Fn Try.prog 99 [.agg (T_ref18_Levels.C x.1), .i64 x.2.1, .i64 x.2.2] (.bool r)) x o) := by
  refine M_ref18_Within.partial_correctness _ ?_
  · intro M_M_ref18_Within ih_M_ref18_Within x r h
    refine Fn.of_lc mix fn_99 lok_99 (by rfl) (flC (T_ref18_Levels.flatC _) (flC (.atom _) (flC (.atom _) (flN)))) (.atom _) ?_
    simp -implicitDefEqProofs only [go_sem, Try.f99]
    by_cases h1 : (decide (x.2.1 < 0)) = true
    · replace h := ite_some h h1
      try simp -implicitDefEqProofs only [go_sem, h1]
      injection h with h; subst h
      first | rfl | simp -implicitDefEqProofs only [go_sem, h1] <;> rfl
    · replace h := ite_none h h1; replace h1 := bfalse h1
      try simp -implicitDefEqProofs only [go_sem, h1]
      by_cases h2 : (decide (x.2.1 ≥ (x.1.Ops.length : Int))) = true
      · replace h := ite_some h h2
        try simp -implicitDefEqProofs only [go_sem, h1, h2]
        injection h with h; subst h
        first | rfl | simp -implicitDefEqProofs only [go_sem, h1, h2] <;> rfl
      · replace h := ite_none h h2; replace h2 := bfalse h2
        try simp -implicitDefEqProofs only [go_sem, h1, h2]
        obtain ⟨e3, h4, h⟩ := bind_some' h; replace h4 := getI_some h4; obtain ⟨h4', h4⟩ := h4
        try simp -implicitDefEqProofs only [go_sem, h1, h2, h4, h4']
        by_cases h5 : (e3.Home == x.2.2) = true
        · replace h := ite_some h h5
          try simp -implicitDefEqProofs only [go_sem, h1, h2, h4, h4', h5]
          injection h with h; subst h
          first | rfl | simp -implicitDefEqProofs only [go_sem, h1, h2, h4, h4', h5] <;> rfl
        · replace h := ite_none h h5; replace h5 := bfalse h5
          try simp -implicitDefEqProofs only [go_sem, h1, h2, h4, h4', h5]
          obtain ⟨r6, h7, h⟩ := bind_some' h
          refine .plain _ _ rfl (ih_M_ref18_Within (x.1, e3.Home, x.2.2) _ h7) ?_
          try simp -implicitDefEqProofs only [go_sem, h1, h2, h4, h4', h5]
          injection h with h; subst h
          first | rfl | simp -implicitDefEqProofs only [go_sem, h1, h2, h4, h4', h5] <;> rfl
theorem M_ref18_Within.w : type_of% @M_ref18_Within.ws := @M_ref18_Within.ws
end Go.Proofs.Ytcfekacmmfdggaa.G
set_option linter.unusedVariables false
set_option linter.unusedSimpArgs false
set_option maxRecDepth 100000
namespace Go.Proofs.Ytcfekacmmfdggaa.G
@[go_sem] theorem lrp_65_6 : lrp Try.prog 65 6 = (13, []) := by kernel_rfl
theorem lok_65 : (Try.f65.body.isSome && !(Try.f65.name == "runtime.NumGoroutine") && okL (bodyF Try.f65) Try.f65.ntmps (bodyF Try.f65)) = true := by kernel_rfl
def M_ref19_Need.l1 (x : Int × Set64 × Set64 × Int × T_ref18_Levels) : Option (Set64) :=
  if (decide (x.2.2.2.1 < (x.2.2.2.2.Ops.length : Int))) = true then
    M_ref18_Within (x.2.2.2.2, x.2.2.2.1, x.1) >>= fun r2 =>
    if r2 = true then
      (getI x.2.2.2.2.Ops x.2.2.2.1) >>= fun (e5 : T_ref18_Op) =>
      if ((e5.Own &&& x.2.1) != 0#64) = true then
        M_ref19_Core (x.2.2.2.2, x.2.2.2.1) >>= fun r8 =>
        M_ref19_Need.l1 (x.1, ((x.2.1 ||| r8) ||| e5.Left), x.2.2.1, (w64 (x.2.2.2.1 + 1)), x.2.2.2.2)
      else
        M_ref19_Need.l1 (x.1, x.2.1, x.2.2.1, (w64 (x.2.2.2.1 + 1)), x.2.2.2.2)
    else
      M_ref19_Need.l1 (x.1, x.2.1, x.2.2.1, (w64 (x.2.2.2.1 + 1)), x.2.2.2.2)
  else
    some x.2.1
  partial_fixpoint
theorem M_ref19_Need.l1.ws : (∀ (x : Int × Set64 × Set64 × Int × T_ref18_Levels) (o : Set64), M_ref19_Need.l1 x = some o → (fun (x : Int × Set64 × Set64 × Int × T_ref18_Levels) (o : Set64) => ∀ (lo : Option Nat) (c : LCtx) (Q : Exit → LEnv → Prop) (hb : ∀ s : Set64, o = s → Q (.exit 2) ⟨[(1, .v (.i64 x.1)), (2, .v (.w s)), (3, .lref 3 0), (7, .v (.w x.2.2.1))], [(3, [.v (.slice .foreign (x.2.2.2.2.Joins.map T_ref18_Join.av)), .v (.slice .foreign (x.2.2.2.2.Ops.map T_ref18_Op.av))])]⟩), LLoop Try.prog 65 lo c 1 (VQ Q) ⟨[(1, .v (.i64 x.1)), (2, .v (.w x.2.1)), (3, .lref 3 0), (7, .v (.w x.2.2.1)), (8, .v (.i64 x.2.2.2.1))], [(3, [.v (.slice .foreign (x.2.2.2.2.Joins.map T_ref18_Join.av)), .v (.slice .foreign (x.2.2.2.2.Ops.map T_ref18_Op.av))])]⟩) x o) := by
  refine M_ref19_Need.l1.partial_correctness _ ?_
  · intro M_M_ref19_Need_l1 ih_M_ref19_Need_l1 x o h
    intro lo c Q hb
    refine LLoop.step mix fn_65 (by kernel_rfl) ?_
    simp -implicitDefEqProofs only [go_sem, Try.f65]
    by_cases h1 : (decide (x.2.2.2.1 < (x.2.2.2.2.Ops.length : Int))) = true
    · replace h := ite_some h h1
      try simp -implicitDefEqProofs only [go_sem, h1]
      obtain ⟨r2, h3, h⟩ := bind_some' h
      refine .plain _ _ rfl (M_ref18_Within.w (x.2.2.2.2, x.2.2.2.1, x.1) _ h3) ?_
      try simp -implicitDefEqProofs only [go_sem, h1]
      by_cases h4 : r2 = true
      · replace h := ite_some h h4
        try simp -implicitDefEqProofs only [go_sem, h1, h4]
        obtain ⟨e5, h6, h⟩ := bind_some' h; replace h6 := getI_some h6; obtain ⟨h6', h6⟩ := h6
        try simp -implicitDefEqProofs only [go_sem, h1, h4, h6, h6']
        by_cases h7 : ((e5.Own &&& x.2.1) != 0#64) = true
        · replace h := ite_some h h7
          try simp -implicitDefEqProofs only [go_sem, h1, h4, h6, h6', h7]
          obtain ⟨r8, h9, h⟩ := bind_some' h
          refine .plain _ _ rfl (M_ref19_Core.w (x.2.2.2.2, x.2.2.2.1) _ h9) ?_
          try simp -implicitDefEqProofs only [go_sem, h1, h4, h6, h6', h7]
          exact LLoop.view [] (by (first | rfl | simp -implicitDefEqProofs only [go_sem, h1, h4, h6, h6', h7] <;> rfl)) (ih_M_ref19_Need_l1 _ _ h lo c Q hb)
        · replace h := ite_none h h7; replace h7 := bfalse h7
          try simp -implicitDefEqProofs only [go_sem, h1, h4, h6, h6', h7]
          exact LLoop.view [] (by (first | rfl | simp -implicitDefEqProofs only [go_sem, h1, h4, h6, h6', h7] <;> rfl)) (ih_M_ref19_Need_l1 _ _ h lo c Q hb)
      · replace h := ite_none h h4; replace h4 := bfalse h4
        try simp -implicitDefEqProofs only [go_sem, h1, h4]
        exact LLoop.view [] (by (first | rfl | simp -implicitDefEqProofs only [go_sem, h1, h4] <;> rfl)) (ih_M_ref19_Need_l1 _ _ h lo c Q hb)
    · replace h := ite_none h h1; replace h1 := bfalse h1
      try simp -implicitDefEqProofs only [go_sem, h1]
      injection h with h; subst h
      exact .inr ⟨[], _, by (simp -implicitDefEqProofs only [go_sem, h1] <;> first | done | rfl | trivial), hb _ rfl⟩
theorem M_ref19_Need.l1.w : type_of% @M_ref19_Need.l1.ws := @M_ref19_Need.l1.ws
def M_ref19_Need.l0 (x : Int × Set64 × T_ref18_Levels) : Option (Set64) :=
  M_ref19_Need.l1 (x.1, x.2.1, x.2.1, 0, x.2.2) >>= fun (o10 : Set64) =>
  if (o10 == x.2.1) = true then
    some o10
  else
    M_ref19_Need.l0 (x.1, o10, x.2.2)
  partial_fixpoint
theorem M_ref19_Need.l0.ws : (∀ (x : Int × Set64 × T_ref18_Levels) (o : Set64), M_ref19_Need.l0 x = some o → (fun (x : Int × Set64 × T_ref18_Levels) (o : Set64) => ∀ (lo : Option Nat) (c : LCtx) (Q : Exit → LEnv → Prop) (hr : ∀ (L : LEnv), LPostF Try.prog [.tmp 6] (.w o) (fun _ => True) .ret L → Q .ret L), LLoop Try.prog 65 lo c 0 (VQ Q) ⟨[(1, .v (.i64 x.1)), (2, .v (.w x.2.1)), (3, .lref 3 0)], [(3, [.v (.slice .foreign (x.2.2.Joins.map T_ref18_Join.av)), .v (.slice .foreign (x.2.2.Ops.map T_ref18_Op.av))])]⟩) x o) := by
  refine M_ref19_Need.l0.partial_correctness _ ?_
  · intro M_M_ref19_Need_l0 ih_M_ref19_Need_l0 x o h
    intro lo c Q hr
    refine LLoop.step mix fn_65 (by kernel_rfl) ?_
    simp -implicitDefEqProofs only [go_sem, Try.f65]
    obtain ⟨o10, h11, h⟩ := bind_some' h
    refine LLoop.viewQ (LLoop.view [] (by (first | rfl | simp -implicitDefEqProofs only [go_sem] <;> rfl)) (M_ref19_Need.l1.w (x.1, x.2.1, x.2.1, 0, x.2.2) _ h11 _ _ _ ?_))
    intro s' hs'; subst hs'
    try simp -implicitDefEqProofs only [go_sem]
    by_cases h12 : (o10 == x.2.1) = true
    · replace h := ite_some h h12
      try simp -implicitDefEqProofs only [go_sem, h12]
      injection h with h; subst h
      exact .inl (hr _ (by (first | rfl | simp -implicitDefEqProofs only [go_sem, h12] <;> rfl)))
    · replace h := ite_none h h12; replace h12 := bfalse h12
      try simp -implicitDefEqProofs only [go_sem, h12]
      exact LLoop.view [] (by (first | rfl | simp -implicitDefEqProofs only [go_sem, h12] <;> rfl)) (ih_M_ref19_Need_l0 _ _ h lo c Q hr)
theorem M_ref19_Need.l0.w : type_of% @M_ref19_Need.l0.ws := @M_ref19_Need.l0.ws
def M_ref19_Need (x : T_ref18_Levels × Int × Set64) : Option (Set64) :=
  M_ref19_Need.l0 (x.2.1, x.2.2, x.1) >>= fun (o13 : Set64) =>
  some o13
theorem M_ref19_Need.w : ∀ (x : T_ref18_Levels × Int × Set64) (r : Set64), M_ref19_Need x = some r → (fun (x : T_ref18_Levels × Int × Set64) (r : Set64) => Fn Try.prog 65 [.agg (T_ref18_Levels.C x.1), .i64 x.2.1, .w x.2.2] (.w r)) x r := by
  intro x r h
  rw [M_ref19_Need] at h
  try dsimp only
  refine Fn.of_lc mix fn_65 lok_65 (by rfl) (flC (T_ref18_Levels.flatC _) (flC (.atom _) (flC (.atom _) (flN)))) (.atom _) ?_
  simp -implicitDefEqProofs only [go_sem, Try.f65]
  obtain ⟨o13, h14, h⟩ := bind_some' h
  refine LLoop.viewQ (LLoop.view [] (by (first | rfl | simp -implicitDefEqProofs only [go_sem] <;> rfl)) (M_ref19_Need.l0.w (x.2.1, x.2.2, x.1) _ h14 _ _ _ ?_))
  intro L' hL'
  injection h with h; subst h
  first | exact hL' | (simp -implicitDefEqProofs only [go_sem]; exact hL') | (simp -implicitDefEqProofs only [go_sem]; simp -implicitDefEqProofs only [go_sem] at hL'; exact hL')
end Go.Proofs.Ytcfekacmmfdggaa.G
set_option linter.unusedVariables false
set_option linter.unusedSimpArgs false
set_option maxRecDepth 100000
namespace Go.Proofs.Ytcfekacmmfdggaa.G
@[go_sem] theorem lrp_95_1 : lrp Try.prog 95 1 = (9, []) := by kernel_rfl
theorem lok_95 : (Try.f95.body.isSome && !(Try.f95.name == "runtime.NumGoroutine") && okL (bodyF Try.f95) Try.f95.ntmps (bodyF Try.f95)) = true := by kernel_rfl
end Go.Proofs.Ytcfekacmmfdggaa.G
set_option linter.unusedVariables false
set_option linter.unusedSimpArgs false
set_option maxRecDepth 100000
namespace Go.Proofs.Ytcfekacmmfdggaa.G
@[go_sem] theorem lrp_96_7 : lrp Try.prog 96 7 = (50, []) := by kernel_rfl
theorem lok_96 : (Try.f96.body.isSome && !(Try.f96.name == "runtime.NumGoroutine") && okL (bodyF Try.f96) Try.f96.ntmps (bodyF Try.f96)) = true := by kernel_rfl
def M_ref19_sinks.l1 (x : Int × Int × T_ref18_Levels) : Option (Lp (Unit) (Int × Int)) :=
  if (decide (x.2.1 < (x.2.2.Ops.length : Int))) = true then
    if (x.1 != x.2.1) = true then
      (getI x.2.2.Ops x.1) >>= fun (e4 : T_ref18_Op) =>
      (getI x.2.2.Ops x.2.1) >>= fun (e6 : T_ref18_Op) =>
      if (e4.Home == e6.Home) = true then
        if (e6.Kind == 2) = true then
          M_ref19_Loose e4 >>= fun r10 =>
          if r10 = true then
            M_ref01_In (e4.Left, e6.Own) >>= fun r13 =>
            if r13 = true then
              some (.ret (x.1, x.2.1))
            else
              M_ref19_sinks.l1 (x.1, (w64 (x.2.1 + 1)), x.2.2)
          else
            M_ref19_sinks.l1 (x.1, (w64 (x.2.1 + 1)), x.2.2)
        else
          M_ref19_sinks.l1 (x.1, (w64 (x.2.1 + 1)), x.2.2)
      else
        M_ref19_sinks.l1 (x.1, (w64 (x.2.1 + 1)), x.2.2)
    else
      M_ref19_sinks.l1 (x.1, (w64 (x.2.1 + 1)), x.2.2)
  else
    some (.brk ())
  partial_fixpoint
theorem M_ref19_sinks.l1.ws : (∀ (x : Int × Int × T_ref18_Levels) (o : Lp (Unit) (Int × Int)), M_ref19_sinks.l1 x = some o → (fun (x : Int × Int × T_ref18_Levels) (o : Lp (Unit) (Int × Int)) => ∀ (lo : Option Nat) (c : LCtx) (Q : Exit → LEnv → Prop) (hb : ∀ s : Unit, o = Lp.brk s → Q (.exit 2) ⟨[(1, .lref 1 0), (4, .v (.i64 x.1))], [(1, [.v (.slice .foreign (x.2.2.Joins.map T_ref18_Join.av)), .v (.slice .foreign (x.2.2.Ops.map T_ref18_Op.av))])]⟩) (hr : ∀ (r : Int × Int) (L : LEnv), o = .ret r → LPostF Try.prog [.tmp 2, .tmp 3] (.tuple [.i64 r.1, .i64 r.2]) (fun _ => True) .ret L → Q .ret L), LLoop Try.prog 96 lo c 1 (VQ Q) ⟨[(1, .lref 1 0), (4, .v (.i64 x.1)), (5, .v (.i64 x.2.1))], [(1, [.v (.slice .foreign (x.2.2.Joins.map T_ref18_Join.av)), .v (.slice .foreign (x.2.2.Ops.map T_ref18_Op.av))])]⟩) x o) := by
  refine M_ref19_sinks.l1.partial_correctness _ ?_
  · intro M_M_ref19_sinks_l1 ih_M_ref19_sinks_l1 x o h
    intro lo c Q hb hr
    refine LLoop.step mix fn_96 (by kernel_rfl) ?_
    simp -implicitDefEqProofs only [go_sem, Try.f96]
    by_cases h2 : (decide (x.2.1 < (x.2.2.Ops.length : Int))) = true
    · replace h := ite_some h h2
      try simp -implicitDefEqProofs only [go_sem, h2]
      by_cases h3 : (x.1 != x.2.1) = true
      · replace h := ite_some h h3
        try simp -implicitDefEqProofs only [go_sem, h2, h3]
        obtain ⟨e4, h5, h⟩ := bind_some' h; replace h5 := getI_some h5; obtain ⟨h5', h5⟩ := h5
        try simp -implicitDefEqProofs only [go_sem, h2, h3, h5, h5']
        obtain ⟨e6, h7, h⟩ := bind_some' h; replace h7 := getI_some h7; obtain ⟨h7', h7⟩ := h7
        try simp -implicitDefEqProofs only [go_sem, h2, h3, h5, h5', h7, h7']
        by_cases h8 : (e4.Home == e6.Home) = true
        · replace h := ite_some h h8
          try simp -implicitDefEqProofs only [go_sem, h2, h3, h5, h5', h7, h7', h8]
          by_cases h9 : (e6.Kind == 2) = true
          · replace h := ite_some h h9
            try simp -implicitDefEqProofs only [go_sem, h2, h3, h5, h5', h7, h7', h8, h9]
            obtain ⟨r10, h11, h⟩ := bind_some' h
            refine .plain _ _ rfl (M_ref19_Loose.w e4 _ h11) ?_
            try simp -implicitDefEqProofs only [go_sem, h2, h3, h5, h5', h7, h7', h8, h9]
            by_cases h12 : r10 = true
            · replace h := ite_some h h12
              try simp -implicitDefEqProofs only [go_sem, h2, h3, h5, h5', h7, h7', h8, h9, h12]
              obtain ⟨r13, h14, h⟩ := bind_some' h
              refine .plain _ _ rfl (M_ref01_In.w (e4.Left, e6.Own) _ h14) ?_
              try simp -implicitDefEqProofs only [go_sem, h2, h3, h5, h5', h7, h7', h8, h9, h12]
              by_cases h15 : r13 = true
              · replace h := ite_some h h15
                try simp -implicitDefEqProofs only [go_sem, h2, h3, h5, h5', h7, h7', h8, h9, h12, h15]
                injection h with h; subst h
                exact .inl (hr _ _ rfl (by (first | rfl | simp -implicitDefEqProofs only [go_sem, h2, h3, h5, h5', h7, h7', h8, h9, h12, h15] <;> rfl)))
              · replace h := ite_none h h15; replace h15 := bfalse h15
                try simp -implicitDefEqProofs only [go_sem, h2, h3, h5, h5', h7, h7', h8, h9, h12, h15]
                exact LLoop.view [] (by (first | rfl | simp -implicitDefEqProofs only [go_sem, h2, h3, h5, h5', h7, h7', h8, h9, h12, h15] <;> rfl)) (ih_M_ref19_sinks_l1 _ _ h lo c Q hb hr)
            · replace h := ite_none h h12; replace h12 := bfalse h12
              try simp -implicitDefEqProofs only [go_sem, h2, h3, h5, h5', h7, h7', h8, h9, h12]
              exact LLoop.view [] (by (first | rfl | simp -implicitDefEqProofs only [go_sem, h2, h3, h5, h5', h7, h7', h8, h9, h12] <;> rfl)) (ih_M_ref19_sinks_l1 _ _ h lo c Q hb hr)
          · replace h := ite_none h h9; replace h9 := bfalse h9
            try simp -implicitDefEqProofs only [go_sem, h2, h3, h5, h5', h7, h7', h8, h9]
            exact LLoop.view [] (by (first | rfl | simp -implicitDefEqProofs only [go_sem, h2, h3, h5, h5', h7, h7', h8, h9] <;> rfl)) (ih_M_ref19_sinks_l1 _ _ h lo c Q hb hr)
        · replace h := ite_none h h8; replace h8 := bfalse h8
          try simp -implicitDefEqProofs only [go_sem, h2, h3, h5, h5', h7, h7', h8]
          exact LLoop.view [] (by (first | rfl | simp -implicitDefEqProofs only [go_sem, h2, h3, h5, h5', h7, h7', h8] <;> rfl)) (ih_M_ref19_sinks_l1 _ _ h lo c Q hb hr)
      · replace h := ite_none h h3; replace h3 := bfalse h3
        try simp -implicitDefEqProofs only [go_sem, h2, h3]
        exact LLoop.view [] (by (first | rfl | simp -implicitDefEqProofs only [go_sem, h2, h3] <;> rfl)) (ih_M_ref19_sinks_l1 _ _ h lo c Q hb hr)
    · replace h := ite_none h h2; replace h2 := bfalse h2
      try simp -implicitDefEqProofs only [go_sem, h2]
      injection h with h; subst h
      exact .inr ⟨[], _, by (simp -implicitDefEqProofs only [go_sem, h2] <;> first | done | rfl | trivial), hb _ rfl⟩
theorem M_ref19_sinks.l1.w : type_of% @M_ref19_sinks.l1.ws := @M_ref19_sinks.l1.ws
def M_ref19_sinks.l0 (x : Int × T_ref18_Levels) : Option (Lp (Unit) (Int × Int)) :=
  if (decide (x.1 < (x.2.Ops.length : Int))) = true then
    M_ref19_sinks.l1 (x.1, 0, x.2) >>= fun (o16 : Lp (Unit) (Int × Int)) => match o16 with
    | .brk s19 =>
      M_ref19_sinks.l0 ((w64 (x.1 + 1)), x.2)
    | .ret r18 =>
      some (.ret r18)
  else
    some (.brk ())
  partial_fixpoint
theorem M_ref19_sinks.l0.ws : (∀ (x : Int × T_ref18_Levels) (o : Lp (Unit) (Int × Int)), M_ref19_sinks.l0 x = some o → (fun (x : Int × T_ref18_Levels) (o : Lp (Unit) (Int × Int)) => ∀ (lo : Option Nat) (c : LCtx) (Q : Exit → LEnv → Prop) (hb : ∀ s : Unit, o = Lp.brk s → Q (.exit 0) ⟨[], []⟩) (hr : ∀ (r : Int × Int) (L : LEnv), o = .ret r → LPostF Try.prog [.tmp 2, .tmp 3] (.tuple [.i64 r.1, .i64 r.2]) (fun _ => True) .ret L → Q .ret L), LLoop Try.prog 96 lo c 0 (VQ Q) ⟨[(1, .lref 1 0), (4, .v (.i64 x.1))], [(1, [.v (.slice .foreign (x.2.Joins.map T_ref18_Join.av)), .v (.slice .foreign (x.2.Ops.map T_ref18_Op.av))])]⟩) x o) := by
  refine M_ref19_sinks.l0.partial_correctness _ ?_
  · intro M_M_ref19_sinks_l0 ih_M_ref19_sinks_l0 x o h
    intro lo c Q hb hr
    refine LLoop.step mix fn_96 (by kernel_rfl) ?_
    simp -implicitDefEqProofs only [go_sem, Try.f96]
    by_cases h1 : (decide (x.1 < (x.2.Ops.length : Int))) = true
    · replace h := ite_some h h1
      try simp -implicitDefEqProofs only [go_sem, h1]
      obtain ⟨o16, h17, h⟩ := bind_some' h
      refine LLoop.viewQ (LLoop.view [] (by (first | rfl | simp -implicitDefEqProofs only [go_sem, h1] <;> rfl)) (M_ref19_sinks.l1.w (x.1, 0, x.2) _ h17 _ _ _ ?_ ?_))
      · intro s19 hs'; subst hs'
        try simp -implicitDefEqProofs only [go_sem, h1]
        exact LLoop.view [] (by (first | rfl | simp -implicitDefEqProofs only [go_sem, h1] <;> rfl)) (ih_M_ref19_sinks_l0 _ _ h lo c Q hb hr)
      · intro r18 L' hs' hL'; subst hs'
        injection h with h; subst h
        simp -implicitDefEqProofs only [go_sem]
        exact .inl (hr _ _ rfl hL')
    · replace h := ite_none h h1; replace h1 := bfalse h1
      try simp -implicitDefEqProofs only [go_sem, h1]
      injection h with h; subst h
      exact .inr ⟨[], _, by (simp -implicitDefEqProofs only [go_sem, h1] <;> first | done | rfl | trivial), hb _ rfl⟩
theorem M_ref19_sinks.l0.w : type_of% @M_ref19_sinks.l0.ws := @M_ref19_sinks.l0.ws
def M_ref19_sinks (x : T_ref18_Levels) : Option (Int × Int) :=
  M_ref19_sinks.l0 (0, x) >>= fun (o20 : Lp (Unit) (Int × Int)) => match o20 with
  | .brk s23 =>
    some (-1, -1)
  | .ret r22 =>
    some r22
theorem M_ref19_sinks.w : ∀ (x : T_ref18_Levels) (r : Int × Int), M_ref19_sinks x = some r → (fun (x : T_ref18_Levels) (r : Int × Int) => Fn Try.prog 96 [.agg (T_ref18_Levels.C x)] (.tuple [.i64 r.1, .i64 r.2])) x r := by
  intro x r h
  rw [M_ref19_sinks] at h
  try dsimp only
  refine Fn.of_lc mix fn_96 lok_96 (by rfl) (flC (T_ref18_Levels.flatC _) (flN)) (.tuple _ (flC (.atom _) (flC (.atom _) (flN)))) ?_
  simp -implicitDefEqProofs only [go_sem, Try.f96]
  obtain ⟨o20, h21, h⟩ := bind_some' h
  refine LLoop.viewQ (LLoop.view [] (by (first | rfl | simp -implicitDefEqProofs only [go_sem] <;> rfl)) (M_ref19_sinks.l0.w (0, x) _ h21 _ _ _ ?_ ?_))
  · intro s23 hs'; subst hs'
    try simp -implicitDefEqProofs only [go_sem]
    injection h with h; subst h
    first | rfl | simp -implicitDefEqProofs only [go_sem] <;> rfl
  · intro r22 L' hs' hL'; subst hs'
    injection h with h; subst h
    first | exact hL' | (simp -implicitDefEqProofs only [go_sem]; exact hL') | (simp -implicitDefEqProofs only [go_sem]; simp -implicitDefEqProofs only [go_sem] at hL'; exact hL')
end Go.Proofs.Ytcfekacmmfdggaa.G
set_option linter.unusedVariables false
set_option linter.unusedSimpArgs false
set_option maxRecDepth 100000
namespace Go.Proofs.Ytcfekacmmfdggaa.G
@[go_sem] theorem lrp_63_9 : lrp Try.prog 63 9 = (18, []) := by kernel_rfl
theorem lok_63 : (Try.f63.body.isSome && !(Try.f63.name == "runtime.NumGoroutine") && okL (bodyF Try.f63) Try.f63.ntmps (bodyF Try.f63)) = true := by kernel_rfl
section
attribute [local instance] mu_96
def M_ref19_Twin_R (x : T_ref18_Levels) : Option (T_ref18_Levels) :=
  (room 152 ([] : List T_ref18_Join) x.Joins) >>= fun (z1 : List T_ref18_Join) =>
  (room 64 ([] : List T_ref18_Op) x.Ops) >>= fun (z3 : List T_ref18_Op) =>
  some (⟨z1, z3⟩ : T_ref18_Levels)
theorem M_ref19_Twin_R.w : ∀ (x : T_ref18_Levels) (r : T_ref18_Levels), M_ref19_Twin_R x = some r → (fun (x : T_ref18_Levels) (r : T_ref18_Levels) => FnR Try.prog 95 [] [.a (.agg (T_ref18_Levels.C x))] (.ag [.v (.slice .foreign (r.Joins.map T_ref18_Join.av)), .own 98000001 6 (r.Ops.map T_ref18_Op.av)]) []) x r := by
  intro x r h
  rw [M_ref19_Twin_R] at h
  try dsimp only
  refine FnR.of_lcG mix fn_95 lok_95 (by rfl) (by rfl) (by rfl) (by rfl) fun c => ?_
  simp -implicitDefEqProofs only [go_sem, Try.f95]
  obtain ⟨z1, h2, h⟩ := bind_some' h; replace h2 := room_some h2; obtain ⟨h2', rfl⟩ := h2
  refine LApp.mapFull (F := T_ref18_Join.av) (xs := ([] : List T_ref18_Join)) (ys := x.Joins) t84_elem t91_size t91_bytes t91_zsize rfl T_ref18_Join.len (by (first | rfl | simp -implicitDefEqProofs only [go_sem] <;> rfl)) (by (first | rfl | simp -implicitDefEqProofs only [go_sem] <;> rfl)) h2' ?_
  try simp -implicitDefEqProofs only [go_sem]
  obtain ⟨z3, h4, h⟩ := bind_some' h; replace h4 := room_some h4; obtain ⟨h4', rfl⟩ := h4
  refine LApp.mapFull (F := T_ref18_Op.av) (xs := ([] : List T_ref18_Op)) (ys := x.Ops) t85_elem t96_size t96_bytes t96_zsize rfl T_ref18_Op.len (by (first | rfl | simp -implicitDefEqProofs only [go_sem] <;> rfl)) (by (first | rfl | simp -implicitDefEqProofs only [go_sem] <;> rfl)) h4' ?_
  try simp -implicitDefEqProofs only [go_sem]
  injection h with h; subst h
  first | exact ⟨_, rfl, [(98000001, some 90000010)], by rfl, by (first | rfl | simp -implicitDefEqProofs only [go_sem] <;> rfl), by (first | rfl | simp -implicitDefEqProofs only [go_sem] <;> rfl)⟩ | exact ⟨_, rfl, [(98000001, some 90000010)], by rfl, by (simp -implicitDefEqProofs only [go_sem] <;> first | done | rfl | trivial), by (simp -implicitDefEqProofs only [go_sem] <;> first | done | rfl | trivial)⟩
end
section
attribute [local instance] mu_96
def M_ref19_Sink.l0 (x : Int × T_ref18_Levels × T_ref18_Levels × T_ref18_Levels) : Option (Lp (T_ref18_Levels × T_ref18_Levels) (T_ref18_Levels)) :=
  if (decide (x.1 ≤ (w64 ((x.2.1.Ops.length : Int) * (x.2.1.Ops.length : Int))))) = true then
    M_ref19_sinks x.2.2.2 >>= fun r4 =>
    if (decide (r4.1 < 0)) = true then
      some (.ret x.2.2.2)
    else
      (getI x.2.2.2.Ops r4.1) >>= fun (e7 : T_ref18_Op) =>
      (getI (x.2.2.2.Ops.set (r4.1).toNat (⟨e7.Kind, e7.Conj, e7.Left, e7.Right, e7.Own, r4.2⟩ : T_ref18_Op)) r4.2) >>= fun (e9 : T_ref18_Op) =>
      (getI (x.2.2.2.Ops.set (r4.1).toNat (⟨e7.Kind, e7.Conj, e7.Left, e7.Right, e7.Own, r4.2⟩ : T_ref18_Op)) r4.1) >>= fun (e11 : T_ref18_Op) =>
      M_ref19_Sink.l0 ((w64 (x.1 + 1)), x.2.1, x.2.2.1, (⟨x.2.2.2.Joins, ((x.2.2.2.Ops.set (r4.1).toNat (⟨e7.Kind, e7.Conj, e7.Left, e7.Right, e7.Own, r4.2⟩ : T_ref18_Op)).set (r4.2).toNat (⟨e9.Kind, e9.Conj, e9.Left, e9.Right, (e9.Own ||| e11.Own), e9.Home⟩ : T_ref18_Op))⟩ : T_ref18_Levels))
  else
    some (.brk (x.2.2.1, x.2.2.2))
  partial_fixpoint
theorem M_ref19_Sink.l0.ws : (∀ (x : Int × T_ref18_Levels × T_ref18_Levels × T_ref18_Levels) (o : Lp (T_ref18_Levels × T_ref18_Levels) (T_ref18_Levels)), M_ref19_Sink.l0 x = some o → (fun (x : Int × T_ref18_Levels × T_ref18_Levels × T_ref18_Levels) (o : Lp (T_ref18_Levels × T_ref18_Levels) (T_ref18_Levels)) => ∀ (lo : Option Nat) (c : LCtx) (Q : Exit → LEnv → Prop) (hb : ∀ s : T_ref18_Levels × T_ref18_Levels, o = Lp.brk s → Q (.exit 0) ⟨[(2, .lref 2 0), (3, .lref 3 0)], [(2, [.own 20000200 17 (s.1.Joins.map T_ref18_Join.av), .own 70000201 6 (s.1.Ops.map T_ref18_Op.av)]), (3, [.v (.slice .foreign (s.2.Joins.map T_ref18_Join.av)), .own 110000301 6 (s.2.Ops.map T_ref18_Op.av)])]⟩) (hr : ∀ (r : T_ref18_Levels) (L : LEnv), o = .ret r → LPostF Try.prog [.cell 2 87] (.agg (T_ref18_Levels.C r)) (fun _ => True) .ret L → Q .ret L), LLoop Try.prog 63 lo c 0 (VQ Q) ⟨[(1, .lref 1 0), (2, .lref 2 0), (3, .lref 3 0), (4, .v (.i64 x.1))], [(1, [.v (.slice .foreign (x.2.1.Joins.map T_ref18_Join.av)), .v (.slice .foreign (x.2.1.Ops.map T_ref18_Op.av))]), (2, [.own 20000200 17 (x.2.2.1.Joins.map T_ref18_Join.av), .own 70000201 6 (x.2.2.1.Ops.map T_ref18_Op.av)]), (3, [.v (.slice .foreign (x.2.2.2.Joins.map T_ref18_Join.av)), .own 110000301 6 (x.2.2.2.Ops.map T_ref18_Op.av)])]⟩) x o) := by
  refine M_ref19_Sink.l0.partial_correctness _ ?_
  · intro M_M_ref19_Sink_l0 ih_M_ref19_Sink_l0 x o h
    intro lo c Q hb hr
    refine LLoop.step mix fn_63 (by kernel_rfl) ?_
    simp -implicitDefEqProofs only [go_sem, Try.f63]
    by_cases h3 : (decide (x.1 ≤ (w64 ((x.2.1.Ops.length : Int) * (x.2.1.Ops.length : Int))))) = true
    · replace h := ite_some h h3
      try simp -implicitDefEqProofs only [go_sem, h3]
      obtain ⟨r4, h5, h⟩ := bind_some' h
      have hw := M_ref19_sinks.w x.2.2.2 _ h5
      try simp -implicitDefEqProofs only [go_sem] at hw
      refine ⟨_, hw, by first | exact (flC (T_ref18_Levels.flatC _) (flN)) | (simp -implicitDefEqProofs only [go_sem]; exact (flC (T_ref18_Levels.flatC _) (flN))), (.tuple _ (scC (.atom _) (scC (.atom _) (scN)))), ?_⟩
      clear hw
      try simp -implicitDefEqProofs only [go_sem, h3]
      by_cases h6 : (decide (r4.1 < 0)) = true
      · replace h := ite_some h h6
        try simp -implicitDefEqProofs only [go_sem, h3, h6]
        injection h with h; subst h
        exact .inl (hr _ _ rfl (by (first | rfl | simp -implicitDefEqProofs only [go_sem, h3, h6] <;> rfl)))
      · replace h := ite_none h h6; replace h6 := bfalse h6
        try simp -implicitDefEqProofs only [go_sem, h3, h6]
        obtain ⟨e7, h8, h⟩ := bind_some' h; replace h8 := getI_some h8; obtain ⟨h8', h8⟩ := h8; have h8v : r4.1 < (x.2.2.2.Ops.length : Int) := by have := (List.getElem?_eq_some_iff.1 h8).1; omega
        try simp -implicitDefEqProofs only [go_sem, h3, h6, h8, h8', h8v]
        refine LStV.map (F := T_ref18_Op.av) (xs := x.2.2.2.Ops) (x := e7) (x' := (⟨e7.Kind, e7.Conj, e7.Left, e7.Right, e7.Own, r4.2⟩ : T_ref18_Op)) (by (first | rfl | simp -implicitDefEqProofs only [go_sem, h3, h6, h8, h8', h8v] <;> rfl)) (by (first | rfl | simp -implicitDefEqProofs only [go_sem, h3, h6, h8, h8', h8v] <;> rfl)) (by rfl) (by rfl) (by rfl) h8 (by first | rfl | (first | rfl | simp -implicitDefEqProofs only [go_sem, h3, h6, h8, h8', h8v] <;> rfl)) ?_
        try simp -implicitDefEqProofs only [go_sem, h3, h6, h8, h8', h8v]
        obtain ⟨e9, h10, h⟩ := bind_some' h; replace h10 := getI_some h10; obtain ⟨h10', h10⟩ := h10; have h10v : r4.2 < ((x.2.2.2.Ops.set (r4.1).toNat (⟨e7.Kind, e7.Conj, e7.Left, e7.Right, e7.Own, r4.2⟩ : T_ref18_Op)).length : Int) := by have := (List.getElem?_eq_some_iff.1 h10).1; omega
        try simp -implicitDefEqProofs only [go_sem, h3, h6, h8, h8', h8v, h10, h10', h10v]
        obtain ⟨e11, h12, h⟩ := bind_some' h; replace h12 := getI_some h12; obtain ⟨h12', h12⟩ := h12; have h12v : r4.1 < ((x.2.2.2.Ops.set (r4.1).toNat (⟨e7.Kind, e7.Conj, e7.Left, e7.Right, e7.Own, r4.2⟩ : T_ref18_Op)).length : Int) := by have := (List.getElem?_eq_some_iff.1 h12).1; omega
        try simp -implicitDefEqProofs only [go_sem, h3, h6, h8, h8', h8v, h10, h10', h10v, h12, h12', h12v]
        refine LStV.map (F := T_ref18_Op.av) (xs := (x.2.2.2.Ops.set (r4.1).toNat (⟨e7.Kind, e7.Conj, e7.Left, e7.Right, e7.Own, r4.2⟩ : T_ref18_Op))) (x := e9) (x' := (⟨e9.Kind, e9.Conj, e9.Left, e9.Right, (e9.Own ||| e11.Own), e9.Home⟩ : T_ref18_Op)) (by (first | rfl | simp -implicitDefEqProofs only [go_sem, h3, h6, h8, h8', h8v, h10, h10', h10v, h12, h12', h12v] <;> rfl)) (by (first | rfl | simp -implicitDefEqProofs only [go_sem, h3, h6, h8, h8', h8v, h10, h10', h10v, h12, h12', h12v] <;> rfl)) (by rfl) (by rfl) (by rfl) h10 (by first | rfl | (first | rfl | simp -implicitDefEqProofs only [go_sem, h3, h6, h8, h8', h8v, h10, h10', h10v, h12, h12', h12v] <;> rfl)) ?_
        try simp -implicitDefEqProofs only [go_sem, h3, h6, h8, h8', h8v, h10, h10', h10v, h12, h12', h12v]
        exact LLoop.view [(20000200, some 20000200), (70000201, some 70000201), (110000301, some 110000301)] (by (first | rfl | simp -implicitDefEqProofs only [go_sem, h3, h6, h8, h8', h8v, h10, h10', h10v, h12, h12', h12v] <;> rfl)) (ih_M_ref19_Sink_l0 _ _ h lo c Q hb hr)
    · replace h := ite_none h h3; replace h3 := bfalse h3
      try simp -implicitDefEqProofs only [go_sem, h3]
      injection h with h; subst h
      exact .inr ⟨[(20000200, some 20000200), (70000201, some 70000201), (110000301, some 110000301)], _, by (simp -implicitDefEqProofs only [go_sem, h3] <;> first | done | rfl | trivial), hb _ rfl⟩
theorem M_ref19_Sink.l0.w : type_of% @M_ref19_Sink.l0.ws := @M_ref19_Sink.l0.ws
end
section
attribute [local instance] mu_96
def M_ref19_Sink (x : T_ref18_Levels) : Option (T_ref18_Levels) :=
  M_ref19_Twin_R x >>= fun r1 =>
  M_ref19_Sink.l0 (0, x, (⟨[], []⟩ : T_ref18_Levels), r1) >>= fun (o13 : Lp (T_ref18_Levels × T_ref18_Levels) (T_ref18_Levels)) => match o13 with
  | .brk s16 =>
    some s16.2
  | .ret r15 =>
    some r15
theorem M_ref19_Sink.w : ∀ (x : T_ref18_Levels) (r : T_ref18_Levels), M_ref19_Sink x = some r → (fun (x : T_ref18_Levels) (r : T_ref18_Levels) => Fn Try.prog 63 [.agg (T_ref18_Levels.C x)] (.agg (T_ref18_Levels.C r))) x r := by
  intro x r h
  rw [M_ref19_Sink] at h
  try dsimp only
  refine Fn.of_lc mix fn_63 lok_63 (by rfl) (flC (T_ref18_Levels.flatC _) (flN)) (T_ref18_Levels.flatC _) ?_
  simp -implicitDefEqProofs only [go_sem, Try.f63]
  obtain ⟨r1, h2, h⟩ := bind_some' h
  have hw := M_ref19_Twin_R.w x _ h2
  try simp -implicitDefEqProofs only [go_sem] at hw
  refine .res [] [] [] [] _ _ hw (by (first | rfl | simp -implicitDefEqProofs only [go_sem] <;> rfl)) (by rfl) (by rfl) (by rfl) (by rfl) (by (first | rfl | simp -implicitDefEqProofs only [go_sem] <;> rfl)) (by rfl) (by (first | rfl | simp -implicitDefEqProofs only [go_sem] <;> rfl)) (by (first | rfl | simp -implicitDefEqProofs only [go_sem] <;> rfl)) ?_
  clear hw
  try simp -implicitDefEqProofs only [go_sem]
  obtain ⟨o13, h14, h⟩ := bind_some' h
  refine LLoop.viewQ (LLoop.view [(20000200, none), (70000201, none), (110000301, some 98000001)] (by (first | rfl | simp -implicitDefEqProofs only [go_sem] <;> rfl)) (M_ref19_Sink.l0.w (0, x, (⟨[], []⟩ : T_ref18_Levels), r1) _ h14 _ _ _ ?_ ?_))
  · intro s16 hs'; subst hs'
    try simp -implicitDefEqProofs only [go_sem]
    injection h with h; subst h
    first | rfl | simp -implicitDefEqProofs only [go_sem] <;> rfl
  · intro r15 L' hs' hL'; subst hs'
    injection h with h; subst h
    first | exact hL' | (simp -implicitDefEqProofs only [go_sem]; exact hL') | (simp -implicitDefEqProofs only [go_sem]; simp -implicitDefEqProofs only [go_sem] at hL'; exact hL')
end
end Go.Proofs.Ytcfekacmmfdggaa.G
set_option linter.unusedVariables false
set_option linter.unusedSimpArgs false
set_option maxRecDepth 100000
namespace Go.Proofs.Ytcfekacmmfdggaa.G
theorem lok_24 : (Try.f24.body.isSome && !(Try.f24.name == "runtime.NumGoroutine") && okL (bodyF Try.f24) Try.f24.ntmps (bodyF Try.f24)) = true := by kernel_rfl
def M_ref20_Of.l0 (x : List T_api_Edge × Int × T_ref18_Levels) : Option (List T_api_Edge) :=
  if (decide (x.2.1 < (x.2.2.Joins.length : Int))) = true then
    (getI x.2.2.Joins x.2.1) >>= fun (e6 : T_ref18_Join) =>
    M_ref19_Need (x.2.2, e6.Home, e6.Left) >>= fun r8 =>
    M_ref19_Need (x.2.2, e6.Home, e6.Right) >>= fun r10 =>
    (room 56 x.1 ([(⟨1, [e6.Pred], (e6.Left ||| e6.Right), r8, r10⟩ : T_api_Edge)])) >>= fun (z12 : List T_api_Edge) =>
    M_ref20_Of.l0 (z12, (w64 (x.2.1 + 1)), x.2.2)
  else
    some x.1
  partial_fixpoint
theorem M_ref20_Of.l0.ws : (∀ (x : List T_api_Edge × Int × T_ref18_Levels) (o : List T_api_Edge), M_ref20_Of.l0 x = some o → (fun (x : List T_api_Edge × Int × T_ref18_Levels) (o : List T_api_Edge) => ∀ (lo : Option Nat) (c : LCtx) (Q : Exit → LEnv → Prop) (hb : ∀ s : List T_api_Edge, o = s → Q (.exit 0) ⟨[(3, .lref 3 0), (4, .own 100400 5 (s.map T_api_Edge.av))], [(3, [.v (.slice .foreign (x.2.2.Joins.map T_ref18_Join.av)), .v (.slice .foreign (x.2.2.Ops.map T_ref18_Op.av))])]⟩), LLoop Try.prog 24 lo c 0 (VQ Q) ⟨[(3, .lref 3 0), (4, .own 100400 5 (x.1.map T_api_Edge.av)), (5, .v (.i64 x.2.1))], [(3, [.v (.slice .foreign (x.2.2.Joins.map T_ref18_Join.av)), .v (.slice .foreign (x.2.2.Ops.map T_ref18_Op.av))])]⟩) x o) := by
  refine M_ref20_Of.l0.partial_correctness _ ?_
  · intro M_M_ref20_Of_l0 ih_M_ref20_Of_l0 x o h
    intro lo c Q hb
    refine LLoop.step mix fn_24 (by kernel_rfl) ?_
    simp -implicitDefEqProofs only [go_sem, Try.f24]
    by_cases h5 : (decide (x.2.1 < (x.2.2.Joins.length : Int))) = true
    · replace h := ite_some h h5
      try simp -implicitDefEqProofs only [go_sem, h5]
      obtain ⟨e6, h7, h⟩ := bind_some' h; replace h7 := getI_some h7; obtain ⟨h7', h7⟩ := h7
      try simp -implicitDefEqProofs only [go_sem, h5, h7, h7']
      obtain ⟨r8, h9, h⟩ := bind_some' h
      refine .plain _ _ rfl (M_ref19_Need.w (x.2.2, e6.Home, e6.Left) _ h9) ?_
      try simp -implicitDefEqProofs only [go_sem, h5, h7, h7']
      obtain ⟨r10, h11, h⟩ := bind_some' h
      refine .plain _ _ rfl (M_ref19_Need.w (x.2.2, e6.Home, e6.Right) _ h11) ?_
      try simp -implicitDefEqProofs only [go_sem, h5, h7, h7']
      obtain ⟨z12, h13, h⟩ := bind_some' h; replace h13 := room_some h13; obtain ⟨h13', rfl⟩ := h13
      refine LApp.map (F := T_api_Edge.av) (xs := x.1) (ys := [(⟨1, [e6.Pred], (e6.Left ||| e6.Right), r8, r10⟩ : T_api_Edge)]) t22_elem t93_size t93_bytes t93_zsize rfl T_api_Edge.len (by (first | rfl | simp -implicitDefEqProofs only [go_sem, h5, h7, h7'] <;> rfl)) (by (first | rfl | simp -implicitDefEqProofs only [go_sem, h5, h7, h7'] <;> rfl)) h13' ?_
      try simp -implicitDefEqProofs only [go_sem, h5, h7, h7']
      exact LLoop.view [(100400, some 53)] (by (first | rfl | simp -implicitDefEqProofs only [go_sem, h5, h7, h7'] <;> rfl)) (ih_M_ref20_Of_l0 _ _ h lo c Q hb)
    · replace h := ite_none h h5; replace h5 := bfalse h5
      try simp -implicitDefEqProofs only [go_sem, h5]
      injection h with h; subst h
      exact .inr ⟨[(100400, some 100400)], _, by (simp -implicitDefEqProofs only [go_sem, h5] <;> first | done | rfl | trivial), hb _ rfl⟩
theorem M_ref20_Of.l0.w : type_of% @M_ref20_Of.l0.ws := @M_ref20_Of.l0.ws
def M_ref20_Of.l1 (x : List T_api_Edge × Int × T_ref18_Levels) : Option (List T_api_Edge) :=
  if (decide (x.2.1 < (x.2.2.Ops.length : Int))) = true then
    (getI x.2.2.Ops x.2.1) >>= fun (e17 : T_ref18_Op) =>
    M_ref19_Need (x.2.2, e17.Home, e17.Left) >>= fun r19 =>
    M_ref19_Core (x.2.2, x.2.1) >>= fun r21 =>
    (room 56 x.1 ([(⟨e17.Kind, e17.Conj, (e17.Left ||| e17.Right), r19, r21⟩ : T_api_Edge)])) >>= fun (z23 : List T_api_Edge) =>
    M_ref20_Of.l1 (z23, (w64 (x.2.1 + 1)), x.2.2)
  else
    some x.1
  partial_fixpoint
theorem M_ref20_Of.l1.ws : (∀ (x : List T_api_Edge × Int × T_ref18_Levels) (o : List T_api_Edge), M_ref20_Of.l1 x = some o → (fun (x : List T_api_Edge × Int × T_ref18_Levels) (o : List T_api_Edge) => ∀ (lo : Option Nat) (c : LCtx) (Q : Exit → LEnv → Prop) (hb : ∀ s : List T_api_Edge, o = s → Q (.exit 2) ⟨[(4, .own 100400 5 (s.map T_api_Edge.av))], []⟩), LLoop Try.prog 24 lo c 1 (VQ Q) ⟨[(3, .lref 3 0), (4, .own 100400 5 (x.1.map T_api_Edge.av)), (8, .v (.i64 x.2.1))], [(3, [.v (.slice .foreign (x.2.2.Joins.map T_ref18_Join.av)), .v (.slice .foreign (x.2.2.Ops.map T_ref18_Op.av))])]⟩) x o) := by
  refine M_ref20_Of.l1.partial_correctness _ ?_
  · intro M_M_ref20_Of_l1 ih_M_ref20_Of_l1 x o h
    intro lo c Q hb
    refine LLoop.step mix fn_24 (by kernel_rfl) ?_
    simp -implicitDefEqProofs only [go_sem, Try.f24]
    by_cases h16 : (decide (x.2.1 < (x.2.2.Ops.length : Int))) = true
    · replace h := ite_some h h16
      try simp -implicitDefEqProofs only [go_sem, h16]
      obtain ⟨e17, h18, h⟩ := bind_some' h; replace h18 := getI_some h18; obtain ⟨h18', h18⟩ := h18
      try simp -implicitDefEqProofs only [go_sem, h16, h18, h18']
      obtain ⟨r19, h20, h⟩ := bind_some' h
      refine .plain _ _ rfl (M_ref19_Need.w (x.2.2, e17.Home, e17.Left) _ h20) ?_
      try simp -implicitDefEqProofs only [go_sem, h16, h18, h18']
      obtain ⟨r21, h22, h⟩ := bind_some' h
      refine .plain _ _ rfl (M_ref19_Core.w (x.2.2, x.2.1) _ h22) ?_
      try simp -implicitDefEqProofs only [go_sem, h16, h18, h18']
      obtain ⟨z23, h24, h⟩ := bind_some' h; replace h24 := room_some h24; obtain ⟨h24', rfl⟩ := h24
      refine LApp.map (F := T_api_Edge.av) (xs := x.1) (ys := [(⟨e17.Kind, e17.Conj, (e17.Left ||| e17.Right), r19, r21⟩ : T_api_Edge)]) t22_elem t93_size t93_bytes t93_zsize rfl T_api_Edge.len (by (first | rfl | simp -implicitDefEqProofs only [go_sem, h16, h18, h18'] <;> rfl)) (by (first | rfl | simp -implicitDefEqProofs only [go_sem, h16, h18, h18'] <;> rfl)) h24' ?_
      try simp -implicitDefEqProofs only [go_sem, h16, h18, h18']
      exact LLoop.view [(100400, some 90)] (by (first | rfl | simp -implicitDefEqProofs only [go_sem, h16, h18, h18'] <;> rfl)) (ih_M_ref20_Of_l1 _ _ h lo c Q hb)
    · replace h := ite_none h h16; replace h16 := bfalse h16
      try simp -implicitDefEqProofs only [go_sem, h16]
      injection h with h; subst h
      exact .inr ⟨[(100400, some 100400)], _, by (simp -implicitDefEqProofs only [go_sem, h16] <;> first | done | rfl | trivial), hb _ rfl⟩
theorem M_ref20_Of.l1.w : type_of% @M_ref20_Of.l1.ws := @M_ref20_Of.l1.ws
def M_ref20_Of (x : T_api_Tree) : Option (List T_api_Edge) :=
  M_ref18_Of x >>= fun r1 =>
  M_ref19_Sink r1 >>= fun r3 =>
  M_ref20_Of.l0 (([] : List T_api_Edge), 0, r3) >>= fun (o14 : List T_api_Edge) =>
  M_ref20_Of.l1 (o14, 0, r3) >>= fun (o25 : List T_api_Edge) =>
  some o25
theorem M_ref20_Of.w : ∀ (x : T_api_Tree) (r : List T_api_Edge), M_ref20_Of x = some r → (fun (x : T_api_Tree) (r : List T_api_Edge) => Fn Try.prog 24 [.agg (T_api_Tree.C x)] (.slice .foreign (r.map T_api_Edge.av))) x r := by
  intro x r h
  rw [M_ref20_Of] at h
  try dsimp only
  refine Fn.of_lc mix fn_24 lok_24 (by rfl) (flC (T_api_Tree.flatC _) (flN)) (flat_slice _ T_api_Edge.flat _) ?_
  simp -implicitDefEqProofs only [go_sem, Try.f24]
  obtain ⟨r1, h2, h⟩ := bind_some' h
  refine .plain _ _ rfl (M_ref18_Of.w x _ h2) ?_
  try simp -implicitDefEqProofs only [go_sem]
  obtain ⟨r3, h4, h⟩ := bind_some' h
  refine .plain _ _ rfl (M_ref19_Sink.w r1 _ h4) ?_
  try simp -implicitDefEqProofs only [go_sem]
  obtain ⟨o14, h15, h⟩ := bind_some' h
  refine LLoop.viewQ (LLoop.view [(100400, none)] (by (first | rfl | simp -implicitDefEqProofs only [go_sem] <;> rfl)) (M_ref20_Of.l0.w (([] : List T_api_Edge), 0, r3) _ h15 _ _ _ ?_))
  intro s' hs'; subst hs'
  try simp -implicitDefEqProofs only [go_sem]
  obtain ⟨o25, h26, h⟩ := bind_some' h
  refine LLoop.viewQ (LLoop.view [(100400, some 100400)] (by (first | rfl | simp -implicitDefEqProofs only [go_sem] <;> rfl)) (M_ref20_Of.l1.w (o14, 0, r3) _ h26 _ _ _ ?_))
  intro s' hs'; subst hs'
  try simp -implicitDefEqProofs only [go_sem]
  injection h with h; subst h
  first | rfl | simp -implicitDefEqProofs only [go_sem] <;> rfl
end Go.Proofs.Ytcfekacmmfdggaa.G
set_option linter.unusedVariables false
set_option linter.unusedSimpArgs false
set_option maxRecDepth 100000
namespace Go.Proofs.Ytcfekacmmfdggaa.G
theorem lok_40 : (Try.f40.body.isSome && !(Try.f40.name == "runtime.NumGoroutine") && okL (bodyF Try.f40) Try.f40.ntmps (bodyF Try.f40)) = true := by kernel_rfl
def M_law28_Two (x : Int) : Option (T_cost_Model) :=
  M_law10_Two 1 >>= fun r1 =>
  M_ref20_Of r1 >>= fun r3 =>
  some (⟨x, r3, (⟨[10#64, 20#64], [32768#64]⟩ : T_api_Stats)⟩ : T_cost_Model)
theorem M_law28_Two.w : ∀ (x : Int) (r : T_cost_Model), M_law28_Two x = some r → (fun (x : Int) (r : T_cost_Model) => Fn Try.prog 40 [.i64 x] (.agg (T_cost_Model.C r))) x r := by
  intro x r h
  rw [M_law28_Two] at h
  try dsimp only
  refine Fn.of_lc mix fn_40 lok_40 (by rfl) (flC (.atom _) (flN)) (T_cost_Model.flatC _) ?_
  simp -implicitDefEqProofs only [go_sem, Try.f40]
  obtain ⟨r1, h2, h⟩ := bind_some' h
  refine .plain _ _ rfl (M_law10_Two.w 1 _ h2) ?_
  try simp -implicitDefEqProofs only [go_sem]
  obtain ⟨r3, h4, h⟩ := bind_some' h
  refine .plain _ _ rfl (M_ref20_Of.w r1 _ h4) ?_
  try simp -implicitDefEqProofs only [go_sem]
  injection h with h; subst h
  first | rfl | simp -implicitDefEqProofs only [go_sem] <;> rfl
end Go.Proofs.Ytcfekacmmfdggaa.G
set_option linter.unusedVariables false
set_option linter.unusedSimpArgs false
set_option maxRecDepth 100000
namespace Go.Proofs.Ytcfekacmmfdggaa.G
end Go.Proofs.Ytcfekacmmfdggaa.G
set_option linter.unusedVariables false
set_option linter.unusedSimpArgs false
set_option maxRecDepth 100000
namespace Go.Proofs.Ytcfekacmmfdggaa.G
end Go.Proofs.Ytcfekacmmfdggaa.G
set_option linter.unusedVariables false
set_option linter.unusedSimpArgs false
set_option maxRecDepth 100000
namespace Go.Proofs.Ytcfekacmmfdggaa.G
end Go.Proofs.Ytcfekacmmfdggaa.G
set_option linter.unusedVariables false
set_option linter.unusedSimpArgs false
set_option maxRecDepth 100000
namespace Go.Proofs.Ytcfekacmmfdggaa.G
end Go.Proofs.Ytcfekacmmfdggaa.G
set_option linter.unusedVariables false
set_option linter.unusedSimpArgs false
set_option maxRecDepth 100000
namespace Go.Proofs.Ytcfekacmmfdggaa.G
end Go.Proofs.Ytcfekacmmfdggaa.G
set_option linter.unusedVariables false
set_option linter.unusedSimpArgs false
set_option maxRecDepth 100000
namespace Go.Proofs.Ytcfekacmmfdggaa.G
theorem lok_9 : (Try.f9.body.isSome && !(Try.f9.name == "runtime.NumGoroutine") && okL (bodyF Try.f9) Try.f9.ntmps (bodyF Try.f9)) = true := by kernel_rfl
def M_law28_Few (x : T_cost_Model) : Option (Bool) :=
  if (decide ((x.Edges.length : Int) ≤ 60)) = true then
    if (decide ((x.Stats.Rows.length : Int) ≤ 100)) = true then
      some (decide ((x.Stats.Sel.length : Int) ≤ 100))
    else
      some false
  else
    some false
theorem M_law28_Few.w : ∀ (x : T_cost_Model) (r : Bool), M_law28_Few x = some r → (fun (x : T_cost_Model) (r : Bool) => Fn Try.prog 9 [.agg (T_cost_Model.C x)] (.bool r)) x r := by
  intro x r h
  rw [M_law28_Few] at h
  try dsimp only
  refine Fn.of_lc mix fn_9 lok_9 (by rfl) (flC (T_cost_Model.flatC _) (flN)) (.atom _) ?_
  simp -implicitDefEqProofs only [go_sem, Try.f9]
  by_cases h1 : (decide ((x.Edges.length : Int) ≤ 60)) = true
  · replace h := ite_some h h1
    try simp -implicitDefEqProofs only [go_sem, h1]
    by_cases h2 : (decide ((x.Stats.Rows.length : Int) ≤ 100)) = true
    · replace h := ite_some h h2
      try simp -implicitDefEqProofs only [go_sem, h1, h2]
      injection h with h; subst h
      first | rfl | simp -implicitDefEqProofs only [go_sem, h1, h2] <;> rfl
    · replace h := ite_none h h2; replace h2 := bfalse h2
      try simp -implicitDefEqProofs only [go_sem, h1, h2]
      injection h with h; subst h
      first | rfl | simp -implicitDefEqProofs only [go_sem, h1, h2] <;> rfl
  · replace h := ite_none h h1; replace h1 := bfalse h1
    try simp -implicitDefEqProofs only [go_sem, h1]
    injection h with h; subst h
    first | rfl | simp -implicitDefEqProofs only [go_sem, h1] <;> rfl
end Go.Proofs.Ytcfekacmmfdggaa.G
set_option linter.unusedVariables false
set_option linter.unusedSimpArgs false
set_option maxRecDepth 100000
namespace Go.Proofs.Ytcfekacmmfdggaa.G
end Go.Proofs.Ytcfekacmmfdggaa.G
set_option linter.unusedVariables false
set_option linter.unusedSimpArgs false
namespace Go.Proofs.Ytcfekacmmfdggaa.G

abbrev CostF := Set64 → Set64 → List T_api_Pred → Set64
end Go.Proofs.Ytcfekacmmfdggaa.G
set_option linter.unusedVariables false
set_option linter.unusedSimpArgs false
namespace Go.Proofs.Ytcfekacmmfdggaa.G

/-- Are there few. -/
theorem law28_Few_eq (m : T_cost_Model) : ∃ b, M_law28_Few m = some b ∧ (b = true → m.Edges.length ≤ 60 ∧ m.Stats.Rows.length ≤ 100 ∧ m.Stats.Sel.length ≤ 100) := by
  unfold M_law28_Few
  by_cases h1 : (m.Edges.length : Int) ≤ 60
  · rw [if_pos (by simpa using h1)]
    by_cases h2 : (m.Stats.Rows.length : Int) ≤ 100
    · rw [if_pos (by simpa using h2)]
      refine ⟨_, rfl, fun h => ⟨by omega, by omega, by have := of_decide_eq_true h; omega⟩⟩
    · rw [if_neg (by simpa using h2)]
      exact ⟨_, rfl, fun h => by cases h⟩
  · rw [if_neg (by simpa using h1)]
    exact ⟨_, rfl, fun h => by cases h⟩
end Go.Proofs.Ytcfekacmmfdggaa.G
set_option linter.unusedVariables false
set_option linter.unusedSimpArgs false
namespace Go.Proofs.Ytcfekacmmfdggaa.G

theorem satN_le {m n : Nat} (h : m ≤ n) : satN m ≤ satN n := by
  rw [BitVec.le_def, satN_toNat, satN_toNat]; unfold most; omega
theorem le_satN {a : Set64} {n : Nat} (h : a.toNat ≤ n) : a ≤ satN n := by
  have := a.isLt
  rw [BitVec.le_def, satN_toNat]; unfold most; omega
theorem cost_kids (f : CostF) {t x y : T_api_Tree} (h : t.Kids = [x, y]) : costS f x ≤ costS f t ∧ costS f y ≤ costS f t := by
  rw [costS_two f h]
  exact ⟨le_satN (by omega), le_satN (by omega)⟩
theorem cost_swap (f : CostF) {t o x y u v : T_api_Tree} (h : t.Kids = [x, y]) (h' : o.Kids = [u, v]) (hc : o.Conj = t.Conj) (hu : tabs u = tabs x) (hv : tabs v = tabs y)
    (h1 : costS f u ≤ costS f x) (h2 : costS f v ≤ costS f y) : costS f o ≤ costS f t := by
  rw [costS_two f h, costS_two f h', hc, hu, hv]
  rw [BitVec.le_def] at h1 h2
  exact satN_le (by omega)
theorem set_le_refl (a : Set64) : a ≤ a := by rw [BitVec.le_def]; omega
end Go.Proofs.Ytcfekacmmfdggaa.G
set_option linter.unusedVariables false
set_option linter.unusedSimpArgs false
namespace Go.Proofs.Ytcfekacmmfdggaa.G

def eq01 : T_api_Pred := ⟨2, 0, 1, ⟨1, 0, 0, ⟨false, 0⟩⟩, ⟨1, 1, 0, ⟨false, 0⟩⟩, []⟩
def lf (n : Int) : T_api_Tree := ⟨0, n, [], [], false⟩
def two (k : Int) (a b : Int) : T_api_Tree := ⟨k, 0, [lf a, lf b], [eq01], false⟩
theorem lf_tour (n : Int) : (lf n).tour = [lf n] := by rw [tour_eq]; rfl
theorem two_tour (k a b : Int) : (two k a b).tour = [lf a, lf b, two k a b] := by
  rw [tour_eq]
  show [lf a, lf b].flatMap T_api_Tree.tour ++ _ = _
  simp [lf_tour]
theorem eq01_size : eq01.size = 1 := by rw [psize_eq]; rfl
theorem lf_size (n : Int) : (lf n).size = 1 := by rw [tsize_eq]; rfl
theorem two_size (k a b : Int) : (two k a b).size = 4 := by
  rw [tsize_eq]
  show 1 + ([eq01].map T_api_Pred.size).sum + ([lf a, lf b].map T_api_Tree.size).sum = 4
  simp [eq01_size, lf_size]
theorem lf_tabs (n : Int) : tabs (lf n) = bitI n := by
  unfold tabs
  rw [lf_tour]
  simp [leafTabs, lf, ofL_cons, ofL_nil]
theorem law10_Two_eq (k : Int) : M_law10_Two k = some (two k 0 1) := rfl
theorem ref05_Tables_eq (t : T_api_Term) : M_ref05_Tables t = some (if t.Kind = 1 then bitI t.Table else 0#64) := by
  unfold M_ref05_Tables
  by_cases h : t.Kind = 1
  · rw [if_neg (by simpa using h), if_pos h, ref01_Of_eq _ (by simp)]
    simp -implicitDefEqProofs only [Option.bind_eq_bind, Option.bind_some]
    rw [ofL_cons, ofL_nil, BitVec.or_zero]
  · rw [if_pos (by simpa using h), if_neg h]
theorem eq01_tables : M_ref06_Tables eq01 = some (3#64) := by
  rw [M_ref06_Tables, ref05_Tables_eq, ref05_Tables_eq]
  simp -implicitDefEqProofs only [Option.bind_eq_bind, Option.bind_some]
  rw [M_ref06_Tables.l0, if_neg (by simp [eq01])]
  rfl
theorem levels_two : M_ref18_Of (two 1 0 1) = some ⟨[⟨eq01, 1#64, 2#64, -1⟩], []⟩ := by
  unfold M_ref18_Of
  rw [ref10_All_eq _ (by rw [two_size]; omega), two_tour]
  simp -implicitDefEqProofs only [Option.bind_eq_bind, Option.bind_some]
  have w1 : w64 (0 + 1) = 1 := by decide
  have w2 : w64 (1 + 1) = 2 := by decide
  have w3 : w64 (2 + 1) = 3 := by decide
  have g0 : getI [lf 0, lf 1, two 1 0 1] 0 = some (lf 0) := rfl
  have g1 : getI [lf 0, lf 1, two 1 0 1] 1 = some (lf 1) := rfl
  have g2 : getI [lf 0, lf 1, two 1 0 1] 2 = some (two 1 0 1) := rfl
  have e0 : M_ref18_Of.l0 ([lf 0, lf 1, two 1 0 1], ([] : List Set64), 0, (⟨[], []⟩ : T_ref18_Levels), (⟨[], []⟩ : T_ref18_Levels)) = some [] := by
    rw [M_ref18_Of.l0, if_pos (by simp)]
    dsimp only
    rw [g0]
    simp -implicitDefEqProofs only [Option.bind_eq_bind, Option.bind_some]
    rw [if_neg (by simp [lf]), w1]
    rw [M_ref18_Of.l0, if_pos (by simp)]
    dsimp only
    rw [g1]
    simp -implicitDefEqProofs only [Option.bind_eq_bind, Option.bind_some]
    rw [if_neg (by simp [lf]), w2]
    rw [M_ref18_Of.l0, if_pos (by simp)]
    dsimp only
    rw [g2]
    simp -implicitDefEqProofs only [Option.bind_eq_bind, Option.bind_some]
    rw [if_neg (by simp [two]), w3]
    rw [M_ref18_Of.l0, if_neg (by simp)]
  rw [e0]
  simp -implicitDefEqProofs only [Option.bind_some]
  rw [M_ref18_Of.l1, if_pos (by simp)]
  dsimp only
  rw [g0]
  simp -implicitDefEqProofs only [Option.bind_eq_bind, Option.bind_some]
  rw [if_pos (by simp [lf]), w1]
  rw [M_ref18_Of.l1, if_pos (by simp)]
  dsimp only
  rw [g1]
  simp -implicitDefEqProofs only [Option.bind_eq_bind, Option.bind_some]
  rw [if_pos (by simp [lf]), w2]
  rw [M_ref18_Of.l1, if_pos (by simp)]
  dsimp only
  rw [g2]
  simp -implicitDefEqProofs only [Option.bind_eq_bind, Option.bind_some]
  rw [if_neg (by simp [two])]
  have k0 : (two 1 0 1).Kids[0]? = some (lf 0) := rfl
  have k1 : (two 1 0 1).Kids[1]? = some (lf 1) := rfl
  rw [k0, k1]
  simp -implicitDefEqProofs only [Option.bind_some]
  rw [ref10_Tables_eq _ (by rw [lf_size]; omega), ref10_Tables_eq _ (by rw [lf_size]; omega), lf_tabs, lf_tabs]
  simp -implicitDefEqProofs only [Option.bind_some]
  rw [M_ref18_Of.l2, if_neg (by simp)]
  simp -implicitDefEqProofs only [Option.bind_some]
  rw [M_ref18_Of.l3, if_pos (by simp [two])]
  dsimp only
  have c0 : getI (two 1 0 1).Conj 0 = some eq01 := rfl
  rw [c0]
  simp -implicitDefEqProofs only [Option.bind_eq_bind, Option.bind_some]
  rw [eq01_tables]
  simp -implicitDefEqProofs only [Option.bind_some]
  rw [if_pos (by simp [two]), room_of (by simp)]
  simp -implicitDefEqProofs only [Option.bind_some]
  rw [w1, M_ref18_Of.l3, if_neg (by simp [two])]
  simp -implicitDefEqProofs only [Option.bind_some]
  rw [if_neg (by simp [two]), w3]
  rw [M_ref18_Of.l1, if_neg (by simp)]
  rfl
theorem sink_noOps (l : T_ref18_Levels) (h : l.Ops = []) (hj : l.Joins.length ≤ 1000000) : M_ref19_Sink l = some l := by
  obtain ⟨js, os⟩ := l
  dsimp only at h hj
  subst h
  unfold M_ref19_Sink M_ref19_Twin_R
  dsimp only
  rw [room_of (by simp; omega), room_of (by simp)]
  simp -implicitDefEqProofs only [Option.bind_eq_bind, Option.bind_some, List.nil_append]
  have w0 : (0 : Int) ≤ w64 ((([] : List T_ref18_Op).length : Int) * (([] : List T_ref18_Op).length : Int)) := by decide
  rw [M_ref19_Sink.l0, if_pos (decide_eq_true w0)]
  dsimp only
  have : M_ref19_sinks (⟨js, []⟩ : T_ref18_Levels) = some (-1, -1) := by
    unfold M_ref19_sinks
    rw [M_ref19_sinks.l0, if_neg (by simp)]
    rfl
  rw [this]
  rfl
theorem need_noOps (l : T_ref18_Levels) (h : l.Ops = []) (k : Int) (s : Set64) : M_ref19_Need (l, k, s) = some s := by
  unfold M_ref19_Need
  dsimp only
  rw [M_ref19_Need.l0]
  dsimp only
  rw [M_ref19_Need.l1, if_neg (by simp [h])]
  simp -implicitDefEqProofs only [Option.bind_eq_bind, Option.bind_some]
  rw [if_pos (by simp)]
  rfl
theorem edges_two : M_ref20_Of (two 1 0 1) = some [⟨1, [eq01], 3#64, 1#64, 2#64⟩] := by
  unfold M_ref20_Of
  rw [levels_two]
  simp -implicitDefEqProofs only [Option.bind_eq_bind, Option.bind_some]
  rw [sink_noOps _ rfl (by simp)]
  simp -implicitDefEqProofs only [Option.bind_some]
  rw [M_ref20_Of.l0, if_pos (by simp)]
  dsimp only
  have g : getI [(⟨eq01, 1#64, 2#64, -1⟩ : T_ref18_Join)] 0 = some ⟨eq01, 1#64, 2#64, -1⟩ := rfl
  rw [g]
  simp -implicitDefEqProofs only [Option.bind_eq_bind, Option.bind_some]
  rw [need_noOps _ rfl, need_noOps _ rfl]
  simp -implicitDefEqProofs only [Option.bind_some]
  rw [room_of (by simp)]
  simp -implicitDefEqProofs only [Option.bind_some]
  have w1 : w64 (0 + 1) = 1 := by decide
  rw [w1, M_ref20_Of.l0, if_neg (by simp)]
  simp -implicitDefEqProofs only [Option.bind_some]
  rw [M_ref20_Of.l1, if_neg (by simp)]
  rfl
theorem law28_Two_eq (k : Int) : M_law28_Two k = some ⟨k, [⟨1, [eq01], 3#64, 1#64, 2#64⟩], ⟨[10#64, 20#64], [32768#64]⟩⟩ := by
  unfold M_law28_Two
  rw [law10_Two_eq]
  simp -implicitDefEqProofs only [Option.bind_eq_bind, Option.bind_some]
  rw [edges_two]; rfl
end Go.Proofs.Ytcfekacmmfdggaa.G
set_option linter.unusedVariables false
set_option linter.unusedSimpArgs false
namespace Go.Proofs.Ytcfekacmmfdggaa.G

/-- Below which variables, which rows all stays. -/
abbrev Low := Nat × Nat
def big : Nat := 1000000000000
def Low.top : Low := (big, big)
/-- The lower ones. -/
def low2 {α : Type} (a b : Low) (k : Low → α) : α :=
  match a, b with
  | (a1, a2), (b1, b2) => if a1 ≤ b1 then (if a2 ≤ b2 then k (a1, a2) else k (a1, b2)) else (if a2 ≤ b2 then k (b1, a2) else k (b1, b2))
structure Keep (lw : Low) (m m1 : Mem) : Prop where
  len : m.boxes.length ≤ m1.boxes.length
  lenR : m.rows.length ≤ m1.rows.length
  box : ∀ l, l < lw.1 → l < m.boxes.length → m1.boxes[l]? = m.boxes[l]?
  row : ∀ l, l < lw.2 → l < m.rows.length → m1.rows[l]? = m.rows[l]?
  mode : m1.mode = m.mode
def lowAV : AV → Low
  | .slice (.row id) _ => (big, id)
  | .vec id _ _ _ _ => (big, id)
  | _ => .top
def lowOp (env : List AV) : Op → Low
  | .store _ x _ => match aeval env x with
    | some (.ptr l _) => (l, big)
    | some (.vptr id _) => (big, id)
    | _ => .top
  | .call { callee := .builtin .append, args, .. } => match aevals env args.toList with
    | some (x :: _) => lowAV x
    | _ => .top
  | _ => .top

section
variable {P : Program}
theorem Keep.refl (lw : Low) (m : Mem) : Keep lw m m := ⟨Nat.le_refl _, Nat.le_refl _, fun _ _ _ => rfl, fun _ _ _ => rfl, rfl⟩
theorem Keep.of_ext {m m1 : Mem} (lw : Low) (h : Ext m m1) : Keep lw m m1 := ⟨h.mono.1, h.mono.2, fun l _ hl => h.box hl, fun l _ hl => h.row hl, h.modeEq⟩
theorem take_eq {α : Type} {a b : List α} (hl : a.length ≤ b.length) (h : ∀ l, l < a.length → b[l]? = a[l]?) : ∃ x, b = a ++ x := by
  refine ⟨b.drop a.length, ?_⟩
  apply List.ext_getElem?
  intro i
  by_cases hi : i < a.length
  · rw [List.getElem?_append_left hi, h i hi]
  · rw [List.getElem?_append_right (by omega), List.getElem?_drop]; congr 1; omega
theorem Keep.ext {lw : Low} {m m1 : Mem} (h : Keep lw m m1) (h1 : m.boxes.length ≤ lw.1) (h2 : m.rows.length ≤ lw.2) : Ext m m1 :=
  ⟨take_eq h.len fun l hl => h.box l (by omega) hl, take_eq h.lenR fun l hl => h.row l (by omega) hl, h.mode⟩
theorem Keep.trans {a b c : Low} {m m1 m2 : Mem} (h : Keep a m m1) (k : Keep b m1 m2) (h1 : c.1 ≤ a.1 ∧ c.1 ≤ b.1) (h2 : c.2 ≤ a.2 ∧ c.2 ≤ b.2) : Keep c m m2 :=
  ⟨Nat.le_trans h.len k.len, Nat.le_trans h.lenR k.lenR, fun l hl hm => (k.box l (by omega) (Nat.lt_of_lt_of_le hm h.len)).trans (h.box l (by omega) hm), fun l hl hm => (k.row l (by omega) (Nat.lt_of_lt_of_le hm h.lenR)).trans (h.row l (by omega) hm), k.mode.trans h.mode⟩
theorem low2_eq {α : Type} {a b : Low} {k : Low → α} : ∃ c : Low, low2 a b k = k c ∧ (c.1 ≤ a.1 ∧ c.1 ≤ b.1) ∧ c.2 ≤ a.2 ∧ c.2 ≤ b.2 := by
  obtain ⟨a1, a2⟩ := a
  obtain ⟨b1, b2⟩ := b
  simp only [low2]
  split <;> split <;> refine ⟨_, rfl, ?_, ?_⟩ <;> dsimp only <;> omega
theorem Keep.set {m : Mem} {l : Nat} {c : ABox} : Keep (l, big) m (m.set l c) :=
  ⟨by simp [Mem.set], Nat.le_refl _, fun k hk _ => by simp only [Mem.set]; rw [List.getElem?_set_ne (by simp at hk; omega)], fun _ _ _ => rfl, rfl⟩
theorem Keep.setRow {m : Mem} {l n : Nat} {cs : List AV} : Keep (big, l) m (m.setRow l n cs) :=
  ⟨Nat.le_refl _, by simp [Mem.setRow], fun _ _ _ => rfl, fun k hk _ => by simp only [Mem.setRow]; rw [List.getElem?_set_ne (by simp at hk; omega)], rfl⟩
theorem Keep.grow {m : Mem} {l n : Nat} {cs : List AV} : Keep (big, l) m ((m.retire l).pushRow n cs) :=
  ⟨Nat.le_refl _, by simp [Mem.retire, Mem.pushRow], fun _ _ _ => rfl, fun k hk hl => by simp only [Mem.retire, Mem.pushRow]; rw [List.getElem?_append_left (by simpa using hl), List.getElem?_set_ne (by simp at hk; omega)], rfl⟩
theorem Keep.pushRow {lw : Low} {m : Mem} {n : Nat} {cs : List AV} : Keep lw m (m.pushRow n cs) :=
  ⟨Nat.le_refl _, by simp [Mem.pushRow], fun _ _ _ => rfl, fun k hk hl => by simp only [Mem.pushRow]; rw [List.getElem?_append_left hl], rfl⟩

theorem aappend_keep {env : List AV} {m m1 : Mem} {t xt : TypeId} {x y d : AV} (h : aappend P m t xt x y = some (d, m1)) :
    Keep (lowAV x) m m1 := by
  have hS : ∀ own es, x = .slice own es → aappendS P m t xt x y = some (d, m1) → Keep (lowAV x) m m1 := by
    rintro own es rfl h
    unfold aappendS at h
    split at h
    · rename_i own' es' _ _ _ _ heq _ _ _
      injection heq with e1 e2
      subst e1 e2
      split at h
      · split at h
        · split at h
          · injection h with h; injection h with h1 h2; subst h2; exact Keep.refl _ _
          · split at h
            · cases h
            · injection h with h; injection h with h1 h2; subst h2; exact Keep.pushRow
            · split at h
              · injection h with h; injection h with h1 h2; subst h2; exact Keep.grow
              · cases h
        · cases h
      · cases h
    · cases h
  have hV : aappendV P m t xt x y = some (d, m1) → Keep (lowAV x) m m1 := by
    intro h
    unfold aappendV at h
    split at h
    · split at h
      · split at h
        · split at h
          · split at h
            · injection h with h; injection h with h1 h2; subst h2; exact Keep.refl _ _
            · unfold avec at h
              split at h
              · injection h with h; injection h with h1 h2; subst h2; exact Keep.pushRow
              · injection h with h; injection h with h1 h2; subst h2; exact Keep.pushRow
              · split at h
                · split at h
                  · injection h with h; injection h with h1 h2; subst h2; exact Keep.setRow
                  · split at h
                    · injection h with h; injection h with h1 h2; subst h2; exact Keep.grow
                    · cases h
                · cases h
              · cases h
          · cases h
        · cases h
      · cases h
    · cases h
  cases x with
  | vec id off len sz k => exact hV h
  | slice own es =>
    cases own with
    | full =>
      simp only [aappend] at h
      split at h
      · split at h
        · exact hV h
        · exact hS _ _ rfl h
      · cases h
    | _ => exact hS _ _ rfl h
  | _ => simp [aappend, aappendS] at h

theorem aop_keep {op : Op} {env : List AV} {m m1 : Mem} {d : AV} (h : aop P op env m = some (d, m1)) : Keep (lowOp env op) m m1 := by
  by_cases hk : opKeeps op = true
  · exact .of_ext _ (keeps_ext hk h)
  · unfold aop at h
    split at h <;> first | (exact absurd rfl hk) | skip
    · -- store
      rename_i t a x
      obtain ⟨p, hp, h⟩ := bind_some' h
      obtain ⟨y, hy, h⟩ := bind_some' h
      cases hs : astore P m t p y with
      | none => rw [hs] at h; cases h
      | some m2 =>
        rw [hs] at h; injection h with h; injection h with h1 h2; subst h2
        simp only [lowOp, hp]
        unfold astore at hs
        split at hs
        · split at hs
          · split at hs
            · injection hs with hs; subst hs; exact Keep.set
            · cases hs
          · cases hs
        · split at hs
          · split at hs
            · injection hs with hs; subst hs; exact Keep.setRow
            · cases hs
          · cases hs
        · cases hs
    · -- a builtin
      rename_i b as_ ts
      obtain ⟨l, hl, h⟩ := bind_some' h
      unfold abuiltin at h
      split at h
      · exact absurd rfl hk
      · rename_i t xt x y hts hw
        simp only [lowOp, hl]
        exact aappend_keep (env := env) h
      · exact absurd rfl hk
      · exact absurd rfl hk
      · cases h
    · cases h

abbrev CallF := AV → List AV → Mem → Option (AV × Mem × Low)
def exOp (P : Program) (call : CallF) (op : Op) (env : List AV) (m : Mem) : Option (AV × Mem × Low) :=
  match op with
  | .call { callee := .value f, args, .. } => (aeval env f).bind fun fv => (aevals env args.toList).bind fun as_ => call fv (as_.map AV.strip) m
  | op => (aop P op env m).bind fun r => some (r.1, r.2, lowOp env op)
/-- Ahead of where memory may turn: has it stayed? -/
def calm (p k : Nat) (lw : Low) (m : Mem) : Bool := decide (p ≤ k) || (decide (m.boxes.length ≤ lw.1) && decide (m.rows.length ≤ lw.2))
def exOps (P : Program) (call : CallF) (ops : Array Oper) (pr : Nat × Option (Nat × Nat)) : Nat → List Oper → List AV → Mem → Option (List AV × Mem × Low)
  | _, [], env, m => some (env, m, .top)
  | k, o :: l, env, m => (wantedA ops env o).bind fun w => match w with
    | true => if swChk pr k o.op (aeval env) = true then
        (exOp P call o.op env m).bind fun r => if calm pr.1 k r.2.2 m = true then (exOps P call ops pr (k + 1) l (aput env o.dst r.1) r.2.1).bind fun s => low2 r.2.2 s.2.2 fun lw => some (s.1, s.2.1, lw) else none
      else none
    | false => exOps P call ops pr (k + 1) l (aput env o.dst .undef) m
abbrev Out := Exit × List AV × Mem × Low
def loopN (step : List AV → Mem → Option Out) : Nat → List AV → Mem → Option Out
  | 0, _, _ => none
  | n + 1, env, m => (step env m).bind fun r => match r.1 with
    | .normal => (loopN step n r.2.1 r.2.2.1).bind fun s => low2 r.2.2.2 s.2.2.2 fun lw => some (s.1, s.2.1, s.2.2.1, lw)
    | _ => some r
def loOk (m : Mem) : Option Nat → Bool
  | none => true
  | some l => match m.boxes[l]? with
    | some (.loop ..) => true
    | _ => false
def ex (P : Program) (call : CallF) (n : Nat) (lo : Option Nat) : Code → List AV → Mem → Option Out
  | .skip, env, m => some (.normal, env, m, .top)
  | .exit id, env, m => some (.exit id, env, m, .top)
  | .ret, env, m => some (.ret, env, m, .top)
  | .seq a b, env, m => (ex P call n lo a env m).bind fun r => match r.1 with
    | .normal => (ex P call n lo b r.2.1 r.2.2.1).bind fun s => low2 r.2.2.2 s.2.2.2 fun lw => some (s.1, s.2.1, s.2.2.1, lw)
    | _ => some r
  | .cond (.tmp t) a b, env, m => (env[t]?).bind fun v => match v with
    | .atom (.bool true) => ex P call n lo a env m
    | .atom (.bool false) => ex P call n lo b env m
    | _ => none
  | .block id c, env, m => (ex P call n lo c env m).bind fun r => some (leave id r.1, r.2)
  | .loop c, env, m => loopN (ex P call n lo c) n env m
  | .region _ ops draw, env, m => (exOps P call ops (drawP ops draw) 0 ops.toList env m).bind fun s => some (.normal, s)
  | .rangeFunc x ps a b, env, m => if loOk m lo = true then (aeval env x).bind fun fv => match fv with
      | .func f first cap => (call (.func f first cap) [.yield m.boxes.length] (m.push (.loop .ready none env ps a b))).bind fun r => (r.2.1.boxes[m.boxes.length]?).bind fun c => match c with
        | .loop st pend e2 p2 a2 b2 => if st = .busy then none else (jumpExit pend).bind fun e => some (e, env, r.2.1.set m.boxes.length (.loop .exhausted pend e2 p2 a2 b2), r.2.2)
        | _ => none
      | _ => none
    else none
  | _, _, _ => none
/-- A call, by so many nested calls and rounds at most. -/
def run (P : Program) (ok : Nat) : Nat → CallF
  | 0, _, _, _ => none
  | n + 1, fv, args, m => match fv with
    | .func f first cap => if ok.testBit f = true then (P.funcs[f]?).bind fun fn => (fn.body).bind fun c =>
        (ex P (run P ok n) n none c (first ++ args ++ cap ++ List.replicate (fn.ntmps - (first ++ args ++ cap).length) .undef) m).bind fun r => if ends r.1 = true then (aresults P fn r.2.1 r.2.2.1).bind fun v => some (v.stripR, r.2.2.1, r.2.2.2) else none
      else none
    | .yield l => (m.boxes[l]?).bind fun c => match c with
      | .loop .ready pend env0 ps as_ body => if args.length = ps.size ∧ drawsOk as_ = true ∧ drawsOk body = true then
          (ex P (run P ok n) n (some l) as_ (putAll env0 ps.toList args) m).bind fun r => match r.1 with
            | .normal => (r.2.2.1.boxes[l]?).bind fun c1 => match c1 with
              | .loop .ready pend1 e1 p1 a1 b1 => (ex P (run P ok n) n (some l) body r.2.1 (r.2.2.1.set l (.loop .busy pend1 e1 p1 a1 b1))).bind fun s => (s.2.2.1.boxes[l]?).bind fun c2 => match c2 with
                | .loop .busy pend2 e2 p2 a2 b2 => (exitJump s.1).bind fun j => low2 r.2.2.2 s.2.2.2 fun lw => low2 lw (l, big) fun lw => some (.bool j.isNone, s.2.2.1.set l (.loop (if j.isNone then .ready else .done) j e2 p2 a2 b2), lw)
                | _ => none
              | _ => none
            | _ => none
        else none
      | _ => none
    | _ => none

/-- What is asked of calls. -/
def CallOk (P : Program) (call : CallF) : Prop := ∀ fv args m r m1 lw, call fv args m = some (r, m1, lw) → ACallV P fv args m r m1 ∧ Keep lw m m1 ∧ ∀ f first cap, fv = .func f first cap → ACalls P f (first ++ args ++ cap) m r m1

theorem exOps_ok {call : CallF} (hcall : CallOk P call) {ops : Array Oper} {pr : Nat × Option (Nat × Nat)} : ∀ {l : List Oper} {k : Nat} {env env' : List AV} {m m' : Mem} {lw : Low}, exOps P call ops pr k l env m = some (env', m', lw) →
    WOps P ops pr (fun a b => a = env' ∧ b = m') k l env m ∧ Keep lw m m' := by
  intro l
  induction l with
  | nil => intro k env env' m m' lw h; injection h with h; injection h with h1 h; injection h with h2 h3; subst h1 h2 h3; exact ⟨⟨rfl, rfl⟩, Keep.refl _ _⟩
  | cons o l ih =>
    intro k env env' m m' lw h
    simp only [exOps] at h
    obtain ⟨w, hw, h⟩ := bind_some' h
    simp only [WOps, hw]
    cases w with
    | false => exact ih h
    | true =>
      dsimp only at h ⊢
      split at h
      · rename_i hsw
        obtain ⟨⟨d, m1, lw1⟩, hr, h⟩ := bind_some' h
        split at h
        · rename_i hcalm
          obtain ⟨⟨env2, m2, lw2⟩, hs, h⟩ := bind_some' h
          obtain ⟨c, hc, hc1, hc2⟩ := low2_eq (a := lw1) (b := lw2) (k := fun lw => some (env2, m2, lw))
          rw [hc] at h
          injection h with h; injection h with h1 h; injection h with h2 h3; subst h1 h2 h3
          obtain ⟨ih1, ih2⟩ := ih hs
          have key : WOp P o.op env m (k < pr.1) (fun d m1 => WOps P ops pr (fun a b => a = env2 ∧ b = m2) (k + 1) l (aput env o.dst d) m1) ∧ Keep lw1 m m1 := by
            have hcm : Keep lw1 m m1 → k < pr.1 → Ext m m1 := by
              intro hk hlt
              simp only [calm, Bool.or_eq_true, Bool.and_eq_true, decide_eq_true_eq] at hcalm
              rcases hcalm with h1 | ⟨h1, h2⟩
              · omega
              · exact hk.ext h1 h2
            unfold exOp at hr
            unfold WOp
            split at hr
            · rename_i heq
              rw [heq]
              obtain ⟨fv, hfv, hr⟩ := bind_some' hr
              obtain ⟨as_, has, hr⟩ := bind_some' hr
              simp only [hfv, has]
              obtain ⟨h1, h2, _⟩ := hcall _ _ _ _ _ _ hr
              exact ⟨⟨d, m1, h1, hcm h2, ih1⟩, h2⟩
            · rename_i hne
              obtain ⟨⟨d', m1'⟩, ha, hr⟩ := bind_some' hr
              injection hr with hr; injection hr with e1 hr; injection hr with e2 e3
              dsimp only at e1 e2
              subst e1 e2 e3
              split
              · rename_i f args ts heq; exact absurd heq (hne f args ts)
              · rw [ha]; exact ⟨ih1, aop_keep ha⟩
          exact ⟨⟨hsw, key.1⟩, key.2.trans ih2 hc1 hc2⟩
        · cases h
      · cases h

/-- Does a run tell such a truth? -/
def tells (b : Bool) : Option (AV × Mem × Low) → Bool
  | some (.atom (.bool c), _, _) => b == c
  | _ => false
end
end Go.Proofs.Ytcfekacmmfdggaa.G
set_option linter.unusedVariables false
set_option linter.unusedSimpArgs false
namespace Go.Proofs.Ytcfekacmmfdggaa.G

/-- The calls of a region that may turn memory. -/
def callsAt : Nat → List Oper → List Nat
  | _, [] => []
  | k, o :: l => if opCalls o.op then k :: callsAt (k + 1) l else callsAt (k + 1) l
/-- How a region may be ordered: as_ ever, or with more ahead of where memory may turn. -/
def dP (ops : Array Oper) : Nat × Option (Nat × Nat) := if ops.toList.any (freshApp ops) then (lsplit ops 0 ops.toList, none) else match callsAt 0 ops.toList with
  | [k] => if (ops.toList.drop (k + 1)).all (fun o => opPure o.op) && decide (k < splitOf 0 ops.toList) then (k, none) else (splitOf 0 ops.toList, swapOf ops (splitOf 0 ops.toList))
  | _ => (splitOf 0 ops.toList, swapOf ops (splitOf 0 ops.toList))
def drawsOk2 : Code → Bool
  | .seq a b => drawsOk2 a && drawsOk2 b
  | .cond _ a b => drawsOk2 a && drawsOk2 b
  | .block _ c => drawsOk2 c
  | .scope c => drawsOk2 c
  | .loop c => drawsOk2 c
  | .region _ ops true => drawOk ops (dP ops).1 (dP ops).2 && decide ((dP ops).1 ≤ ops.size)
  | .rangeFunc _ _ a b => drawsOk2 a && drawsOk2 b
  | _ => true
section
variable {P : Program}
theorem exOps_okD {call : CallF} (hcall : CallOk P call) {ops : Array Oper} {pr : Nat × Option (Nat × Nat)} : ∀ {l : List Oper} {k : Nat} {env env' : List AV} {m m' : Mem} {lw : Low}, exOps P call ops pr k l env m = some (env', m', lw) →
    AOpsD P ops pr.1 pr.2 k l env m env' m' ∧ Keep lw m m' := by
  intro l
  induction l with
  | nil => intro k env env' m m' lw h; injection h with h; injection h with h1 h; injection h with h2 h3; subst h1 h2 h3; exact ⟨.nil _ _ _, Keep.refl _ _⟩
  | cons o l ih =>
    intro k env env' m m' lw h
    simp only [exOps] at h
    obtain ⟨w, hw, h⟩ := bind_some' h
    cases w with
    | false => obtain ⟨h1, h2⟩ := ih h; exact ⟨.skip hw h1, h2⟩
    | true =>
      dsimp only at h
      split at h
      · rename_i hsw
        obtain ⟨⟨d, m1, lw1⟩, hr, h⟩ := bind_some' h
        split at h
        · rename_i hcalm
          obtain ⟨⟨env2, m2, lw2⟩, hs, h⟩ := bind_some' h
          obtain ⟨c, hc, hc1, hc2⟩ := low2_eq (a := lw1) (b := lw2) (k := fun lw => some (env2, m2, lw))
          rw [hc] at h
          injection h with h; injection h with h1 h; injection h with h2 h3; subst h1 h2 h3
          obtain ⟨ih1, ih2⟩ := ih hs
          have hcm : Keep lw1 m m1 → k < pr.1 → Ext m m1 := by
            intro hk hlt
            simp only [calm, Bool.or_eq_true, Bool.and_eq_true, decide_eq_true_eq] at hcalm
            rcases hcalm with h1 | ⟨h1, h2⟩
            · omega
            · exact hk.ext h1 h2
          have key : AOpsD P ops pr.1 pr.2 k (o :: l) env m env2 m2 ∧ Keep lw1 m m1 := by
            unfold exOp at hr
            split at hr
            · rename_i heq
              obtain ⟨fv, hfv, hr⟩ := bind_some' hr
              obtain ⟨as_, has, hr⟩ := bind_some' hr
              obtain ⟨h1, h2, _⟩ := hcall _ _ _ _ _ _ hr
              exact ⟨.loud hw (by rw [heq]; rfl) (.call heq rfl hfv has h1) (hcm h2) (swChk_call hsw heq) ih1, h2⟩
            · rename_i hne
              obtain ⟨⟨d', m1'⟩, ha, hr⟩ := bind_some' hr
              injection hr with hr; injection hr with e1 hr; injection hr with e2 e3
              dsimp only at e1 e2
              subst e1 e2 e3
              have hk := aop_keep ha
              refine ⟨?_, hk⟩
              by_cases hpu : opPure o.op = true
              · exact .pure hw hpu ha ih1
              · exact .loud hw (by simpa using hpu) (aop_ok ha) (hcm hk) (swChk_fact hsw ha) ih1
          exact ⟨key.1, key.2.trans ih2 hc1 hc2⟩
        · cases h
      · cases h
def ex2 (P : Program) (call : CallF) (n : Nat) (lo : Option Nat) : Code → List AV → Mem → Option Out
  | .skip, env, m => some (.normal, env, m, .top)
  | .exit id, env, m => some (.exit id, env, m, .top)
  | .ret, env, m => some (.ret, env, m, .top)
  | .seq a b, env, m => (ex2 P call n lo a env m).bind fun r => match r.1 with
    | .normal => (ex2 P call n lo b r.2.1 r.2.2.1).bind fun s => low2 r.2.2.2 s.2.2.2 fun lw => some (s.1, s.2.1, s.2.2.1, lw)
    | _ => some r
  | .cond (.tmp t) a b, env, m => (env[t]?).bind fun v => match v with
    | .atom (.bool true) => ex2 P call n lo a env m
    | .atom (.bool false) => ex2 P call n lo b env m
    | _ => none
  | .block id c, env, m => (ex2 P call n lo c env m).bind fun r => some (leave id r.1, r.2)
  | .loop c, env, m => loopN (ex2 P call n lo c) n env m
  | .region _ ops draw, env, m => (exOps P call ops (if draw then dP ops else (0, none)) 0 ops.toList env m).bind fun s => some (.normal, s)
  | .rangeFunc x ps a b, env, m => if loOk m lo = true then (aeval env x).bind fun fv => match fv with
      | .func f first cap => (call (.func f first cap) [.yield m.boxes.length] (m.push (.loop .ready none env ps a b))).bind fun r => (r.2.1.boxes[m.boxes.length]?).bind fun c => match c with
        | .loop st pend e2 p2 a2 b2 => if st = .busy then none else (jumpExit pend).bind fun e => some (e, env, r.2.1.set m.boxes.length (.loop .exhausted pend e2 p2 a2 b2), r.2.2)
        | _ => none
      | _ => none
    else none
  | _, _, _ => none
theorem ex2_ok (hmix : P.follows .mixedOrders = true) {call : CallF} (hcall : CallOk P call) {n : Nat} {lo : Option Nat} : ∀ {c : Code} {env env' : List AV} {m m' : Mem} {e : Exit} {lw : Low}, drawsOk2 c = true → ex2 P call n lo c env m = some (e, env', m', lw) →
    AExec P lo c env m e env' m' ∧ Keep lw m m' := by
  intro c
  induction c with
  | skip => intro env env' m m' e lw _ h; injection h with h; injection h with h0 h; injection h with h1 h; injection h with h2 h3; subst h0 h1 h2 h3; exact ⟨.skip _ _, Keep.refl _ _⟩
  | exit id => intro env env' m m' e lw _ h; injection h with h; injection h with h0 h; injection h with h1 h; injection h with h2 h3; subst h0 h1 h2 h3; exact ⟨.exit id _ _, Keep.refl _ _⟩
  | ret => intro env env' m m' e lw _ h; injection h with h; injection h with h0 h; injection h with h1 h; injection h with h2 h3; subst h0 h1 h2 h3; exact ⟨.ret _ _, Keep.refl _ _⟩
  | seq a b iha ihb =>
    intro env env' m m' e lw hd h
    simp only [drawsOk2, Bool.and_eq_true] at hd
    obtain ⟨⟨e1, env1, m1, lw1⟩, hr, h⟩ := bind_some' h
    obtain ⟨h1, k1⟩ := iha hd.1 hr
    have other : e1 ≠ .normal → some (e1, env1, m1, lw1) = some (e, env', m', lw) → AExec P lo (.seq a b) env m e env' m' ∧ Keep lw m m' := by
      intro hne h
      injection h with h; injection h with h0 h; injection h with h2 h; injection h with h3 h4; subst h0 h2 h3 h4
      exact ⟨h1.seq_out hne, k1⟩
    cases e1 with
    | normal =>
      obtain ⟨⟨e2, env2, m2, lw2⟩, hs, h⟩ := bind_some' h
      obtain ⟨c, hc, hc1, hc2⟩ := low2_eq (a := lw1) (b := lw2) (k := fun lw => some (e2, env2, m2, lw))
      rw [hc] at h
      injection h with h; injection h with h0 h; injection h with h2 h; injection h with h3 h4; subst h0 h2 h3 h4
      obtain ⟨h2, k2⟩ := ihb hd.2 hs
      exact ⟨h1.seq h2, k1.trans k2 hc1 hc2⟩
    | _ => exact other (by simp) h
  | cond t a b iha ihb =>
    intro env env' m m' e lw hd h
    simp only [drawsOk2, Bool.and_eq_true] at hd
    cases t with
    | tmp t =>
      obtain ⟨v, hv, h⟩ := bind_some' h
      split at h
      · obtain ⟨h1, h2⟩ := iha hd.1 h
        exact ⟨AExec.cond (b := true) rfl hv h1, h2⟩
      · obtain ⟨h1, h2⟩ := ihb hd.2 h
        exact ⟨AExec.cond (b := false) rfl hv h1, h2⟩
      · cases h
    | _ => cases h
  | block id c ih =>
    intro env env' m m' e lw hd h
    obtain ⟨⟨e1, env1, m1, lw1⟩, hr, h⟩ := bind_some' h
    injection h with h; injection h with h0 h; injection h with h2 h; injection h with h3 h4; subst h0 h2 h3 h4
    obtain ⟨h1, k1⟩ := ih hd hr
    exact ⟨h1.block, k1⟩
  | loop c ih =>
    intro env env' m m' e lw hd h
    have key : ∀ (j : Nat) (lw : Low) (env : List AV) (m : Mem), loopN (ex2 P call n lo c) j env m = some (e, env', m', lw) → ∀ lw', lw' = lw → ALoop P lo c env m e env' m' ∧ Keep lw m m' := by
      intro j
      induction j with
      | zero => intro lw env m h; cases h
      | succ j ihj =>
        intro lw env m h lw' _
        simp only [loopN] at h
        obtain ⟨⟨e1, env1, m1, lw1⟩, hr, h⟩ := bind_some' h
        obtain ⟨hx, k1⟩ := ih (by simpa only [drawsOk2] using hd) hr
        have other : e1 ≠ .normal → some (e1, env1, m1, lw1) = some (e, env', m', lw) → ALoop P lo c env m e env' m' ∧ Keep lw m m' := by
          intro hne h
          injection h with h; injection h with h0 h; injection h with h2 h; injection h with h3 h4; subst h0 h2 h3 h4
          exact ⟨.out hx hne, k1⟩
        cases e1 with
        | normal =>
          obtain ⟨⟨e2, env2, m2, lw2⟩, hs, h⟩ := bind_some' h
          obtain ⟨c', hc, hc1, hc2⟩ := low2_eq (a := lw1) (b := lw2) (k := fun lw => some (e2, env2, m2, lw))
          rw [hc] at h
          injection h with h; injection h with h0 h; injection h with h2 h; injection h with h3 h4; subst h0 h2 h3 h4
          obtain ⟨h5, h6⟩ := ihj _ _ _ hs lw2 rfl
          exact ⟨.round hx h5, k1.trans h6 hc1 hc2⟩
        | _ => exact other (by simp) h
    obtain ⟨h1, h2⟩ := key n lw env m h lw rfl
    exact ⟨.loop h1, h2⟩
  | region id ops draw =>
    intro env env' m m' e lw hd h
    obtain ⟨⟨env1, m1, lw1⟩, hr, h⟩ := bind_some' h
    injection h with h; injection h with h0 h; injection h with h2 h; injection h with h3 h4; subst h0 h2 h3 h4
    cases draw with
    | false =>
      obtain ⟨h1, k1⟩ := exOps_ok hcall hr
      obtain ⟨env2, m2, h3, h4, h5⟩ := WOps.ops h1
      subst h4 h5
      exact ⟨.region h3, k1⟩
    | true =>
      simp only [drawsOk2, Bool.and_eq_true, decide_eq_true_eq] at hd
      obtain ⟨h1, k1⟩ := exOps_okD hcall hr
      exact ⟨.draw hmix hd.2 hd.1 h1, k1⟩
  | rangeFunc x ps a b iha ihb =>
    intro env env' m m' e lw hd h
    simp only [ex2] at h
    split at h
    · rename_i hlo
      obtain ⟨fv, hfv, h⟩ := bind_some' h
      split at h
      · rename_i f first cap
        obtain ⟨⟨r, m1, lw1⟩, hr, h⟩ := bind_some' h
        obtain ⟨cb, hcb, h⟩ := bind_some' h
        split at h
        · rename_i st pend e2 p2 a2 b2
          split at h
          · cases h
          · rename_i hst
            obtain ⟨ee, hee, h⟩ := bind_some' h
            injection h with h; injection h with h0 h; injection h with h2 h; injection h with h3 h4; subst h0 h2 h3 h4
            obtain ⟨_, k1, hc⟩ := hcall _ _ _ _ _ _ hr
            have hloat : LoAt m lo := by
              cases lo with
              | none => trivial
              | some l0 =>
                simp only [loOk] at hlo
                split at hlo
                · exact ⟨_, _, _, _, _, _, by assumption⟩
                · cases hlo
            refine ⟨AExec.range hloat hfv (hc _ _ _ rfl) hcb hst hee, ?_⟩
            refine ⟨?_, k1.lenR, fun l hl hm => ?_, fun l hl hm => k1.row l hl hm, k1.mode⟩
            · have := k1.len; simp [Mem.push, Mem.set] at this ⊢; omega
            · simp only [Mem.set]
              rw [List.getElem?_set_ne (by omega), k1.box l hl (by simp [Mem.push]; omega)]
              simp only [Mem.push]
              rw [List.getElem?_append_left hm]
        · cases h
      · cases h
    · cases h
  | _ => intro env env' m m' e lw _ h; cases h
/-- A call, by so many nested calls and rounds at most. -/
def run2 (P : Program) (ok : Nat) : Nat → CallF
  | 0, _, _, _ => none
  | n + 1, fv, args, m => match fv with
    | .func f first cap => if ok.testBit f = true then (P.funcs[f]?).bind fun fn => (fn.body).bind fun c =>
        (ex2 P (run2 P ok n) n none c (first ++ args ++ cap ++ List.replicate (fn.ntmps - (first ++ args ++ cap).length) .undef) m).bind fun r => if ends r.1 = true then (aresults P fn r.2.1 r.2.2.1).bind fun v => some (v.stripR, r.2.2.1, r.2.2.2) else none
      else none
    | .yield l => (m.boxes[l]?).bind fun c => match c with
      | .loop .ready pend env0 ps as_ body => if args.length = ps.size ∧ drawsOk2 as_ = true ∧ drawsOk2 body = true then
          (ex2 P (run2 P ok n) n (some l) as_ (putAll env0 ps.toList args) m).bind fun r => match r.1 with
            | .normal => (r.2.2.1.boxes[l]?).bind fun c1 => match c1 with
              | .loop .ready pend1 e1 p1 a1 b1 => (ex2 P (run2 P ok n) n (some l) body r.2.1 (r.2.2.1.set l (.loop .busy pend1 e1 p1 a1 b1))).bind fun s => (s.2.2.1.boxes[l]?).bind fun c2 => match c2 with
                | .loop .busy pend2 e2 p2 a2 b2 => (exitJump s.1).bind fun j => low2 r.2.2.2 s.2.2.2 fun lw => low2 lw (l, big) fun lw => some (.bool j.isNone, s.2.2.1.set l (.loop (if j.isNone then .ready else .done) j e2 p2 a2 b2), lw)
                | _ => none
              | _ => none
            | _ => none
        else none
      | _ => none
    | _ => none
def okFn2 (fn : Func) : Bool := fn.body.isSome && !(fn.name == "runtime.NumGoroutine") && drawsOk2 (bodyF fn)
theorem run2_ok (hmix : P.follows .mixedOrders = true) {ok : Nat} (hok : ∀ f, ok.testBit f = true → ∃ fn, P.funcs[f]? = some fn ∧ okFn2 fn = true) : ∀ n, CallOk P (run2 P ok n) := by
  intro n
  induction n with
  | zero => intro fv args m r m1 lw h; cases h
  | succ n ih =>
    intro fv args m r m1 lw h
    simp only [run2] at h
    split at h
    · rename_i f first cap
      split at h
      · rename_i hb
        obtain ⟨fn, hfn, h⟩ := bind_some' h
        obtain ⟨c, hc, h⟩ := bind_some' h
        obtain ⟨⟨e1, env1, m2, lw1⟩, hr, h⟩ := bind_some' h
        split at h
        · rename_i he
          obtain ⟨v, hv, h⟩ := bind_some' h
          injection h with h; injection h with h0 h; injection h with h2 h3; subst h0 h2 h3
          obtain ⟨fn', hfn', hk⟩ := hok f hb
          rw [hfn] at hfn'; injection hfn' with hfn'; subst hfn'
          simp only [okFn2, Bool.and_eq_true, Bool.not_eq_true'] at hk
          obtain ⟨⟨h1, h2⟩, h3⟩ := hk
          have hbf : bodyF fn = c := by simp [bodyF, hc]
          rw [hbf] at h3
          obtain ⟨hx, k1⟩ := ex2_ok hmix ih h3 hr
          have hcalls : ACalls P f (first ++ args ++ cap) m v.stripR m2 := ACalls.of_body hfn hc h2 hx (by cases e1 <;> simp [ends] at he <;> simp) hv
          exact ⟨.of_func hcalls, k1, fun f' first' cap' heq => by injection heq with e1 e2 e3; subst e1 e2 e3; exact hcalls⟩
        · cases h
      · cases h
    · rename_i l
      obtain ⟨cb, hcb, h⟩ := bind_some' h
      split at h
      · rename_i pend env0 ps as_ body
        split at h
        · rename_i hcond
          obtain ⟨hlen, hda, hdb⟩ := hcond
          obtain ⟨⟨e1, env1, m2, lw1⟩, hr, h⟩ := bind_some' h
          split at h
          · rename_i he1
            dsimp only at he1
            subst he1
            obtain ⟨c1, hc1, h⟩ := bind_some' h
            split at h
            · rename_i pend1 ea pa aa ba
              obtain ⟨⟨e2, env2, m3, lw2⟩, hs, h⟩ := bind_some' h
              obtain ⟨c2, hc2, h⟩ := bind_some' h
              split at h
              · rename_i pend2 eb pb ab bb
                obtain ⟨j, hj, h⟩ := bind_some' h
                obtain ⟨lwA, hlA, hA1, hA2⟩ := low2_eq (a := lw1) (b := lw2) (k := fun lw => low2 lw (l, big) fun lw => some (AV.bool j.isNone, m3.set l (.loop (if j.isNone then .ready else .done) j eb pb ab bb), lw))
                obtain ⟨lwB, hlB, hB1, hB2⟩ := low2_eq (a := lwA) (b := (l, big)) (k := fun lw => some (AV.bool j.isNone, m3.set l (.loop (if j.isNone then .ready else .done) j eb pb ab bb), lw))
                rw [hlA, hlB] at h
                injection h with h; injection h with h0 h; injection h with h2 h3; subst h0 h2 h3
                obtain ⟨hx, k1⟩ := ex2_ok hmix ih hda hr
                obtain ⟨hx2, k2⟩ := ex2_ok hmix ih hdb hs
                refine ⟨ACallV.yield hcb hlen hx hc1 hx2 hc2 hj, ?_, fun f first cap heq => by cases heq⟩
                have ka : Keep lwB m2 (m2.set l (.loop .busy pend1 ea pa aa ba)) := by
                  have := Keep.set (m := m2) (l := l) (c := .loop .busy pend1 ea pa aa ba)
                  exact this.trans (Keep.refl lwB _) ⟨by dsimp only at hB1 ⊢; omega, Nat.le_refl _⟩ ⟨by dsimp only at hB2 ⊢; omega, Nat.le_refl _⟩
                have kb : Keep lwB m3 (m3.set l (.loop (if j.isNone then .ready else .done) j eb pb ab bb)) := by
                  have := Keep.set (m := m3) (l := l) (c := .loop (if j.isNone then .ready else .done) j eb pb ab bb)
                  exact this.trans (Keep.refl lwB _) ⟨by dsimp only at hB1 ⊢; omega, Nat.le_refl _⟩ ⟨by dsimp only at hB2 ⊢; omega, Nat.le_refl _⟩
                exact ((k1.trans ka (c := lwB) ⟨by omega, Nat.le_refl _⟩ ⟨by omega, Nat.le_refl _⟩).trans k2 (c := lwB) ⟨Nat.le_refl _, by omega⟩ ⟨Nat.le_refl _, by omega⟩).trans kb (c := lwB) ⟨Nat.le_refl _, Nat.le_refl _⟩ ⟨Nat.le_refl _, Nat.le_refl _⟩
              · cases h
            · cases h
          · cases h
        · cases h
      · cases h
    · cases h
/-- Are all functions of a set fit to be computed? -/
def allOk2 (P : Program) (ok n : Nat) : Bool := decide (ok < 2 ^ n) && (List.range n).all fun f => !ok.testBit f || (match P.funcs[f]? with | some fn => okFn2 fn | none => false)
theorem allOk2_spec {ok n : Nat} (h : allOk2 P ok n = true) (f : Nat) (hf : ok.testBit f = true) : ∃ fn, P.funcs[f]? = some fn ∧ okFn2 fn = true := by
  simp only [allOk2, Bool.and_eq_true, decide_eq_true_eq, List.all_eq_true, List.mem_range] at h
  have hlt : f < n := by
    rcases Nat.lt_or_ge f n with h2 | h2
    · exact h2
    · rw [Nat.testBit_lt_two_pow (Nat.lt_of_lt_of_le h.1 (Nat.pow_le_pow_right (by omega) h2))] at hf
      cases hf
  have := h.2 f hlt
  rw [hf] at this
  simp only [Bool.not_true, Bool.false_or] at this
  split at this
  · exact ⟨_, by assumption, this⟩
  · cases this
end
end Go.Proofs.Ytcfekacmmfdggaa.G
set_option linter.unusedVariables false
set_option linter.unusedSimpArgs false
namespace Go.Proofs.Ytcfekacmmfdggaa.G

/-- An element that is taken out of a memory. -/
def frzE (F : AV → Option AV) : AV → Option AV
  | .agg cs => (cs.mapM F).map .agg
  | .atom v => some (.atom v)
  | _ => none
/-- A value that is taken out of a memory. -/
def frzV (m : Mem) : Nat → AV → Option AV
  | 0, _ => none
  | n + 1, .atom v => some (.atom v)
  | n + 1, .agg cs => (cs.mapM (frzV m n)).map .agg
  | n + 1, .slice _ es => (es.mapM (frzE (frzV m n))).map (.slice .foreign)
  | n + 1, .vec id off len sz _ => match m.rows[id]? with
    | some (some (_, cs)) => if off + len * sz ≤ cs.length then ((List.range len).mapM fun i => frzE (frzV m n) (.agg ((cs.drop (off + i * sz)).take sz))).map (.slice .foreign) else none
    | _ => none
  | _, _ => none
theorem frzE_ok {m : Mem} {F : AV → Option AV} (hF : ∀ a a', F a = some a' → Frz m a a') {a a' : AV} (h : frzE F a = some a') : a'.cells.length = a.cells.length ∧ ∀ (j : Nat) (c c' : AV), a.cells[j]? = some c → a'.cells[j]? = some c' → Frz m c c' := by
  cases a with
  | agg cs =>
    simp only [frzE] at h
    obtain ⟨ds, hds, rfl⟩ := map_some1 h
    obtain ⟨h1, h2⟩ := mapM_two hds
    refine ⟨h1, fun j c c' hc hc' => ?_⟩
    obtain ⟨z, hz, hzf⟩ := h2 j c' hc'
    have e : cs[j]? = some c := hc
    rw [e] at hz; injection hz with hz; subst hz
    exact hF _ _ hzf
  | atom v =>
    injection h with h; subst h
    refine ⟨rfl, fun j c c' hc hc' => ?_⟩
    rw [hc] at hc'; injection hc' with hc'; subst hc'
    cases j with
    | zero => injection hc with hc; subst hc; exact .atom _
    | succ j => simp [AV.cells] at hc
  | _ => cases h
theorem frzV_ok {m : Mem} : ∀ (n : Nat) (a a' : AV), frzV m n a = some a' → Frz m a a' := by
  intro n
  induction n with
  | zero => intro a a' h; simp [frzV] at h
  | succ n ih =>
    intro a a' h
    cases a with
    | atom v => simp only [frzV] at h; injection h with h; subst h; exact .atom _
    | agg cs =>
      simp only [frzV] at h
      obtain ⟨ds, hds, rfl⟩ := map_some1 h
      obtain ⟨h1, h2⟩ := mapM_two hds
      refine .agg _ _ h1 (fun j c c' hc hc' => ?_)
      obtain ⟨z, hz, hzf⟩ := h2 j c' hc'
      rw [hc] at hz; injection hz with hz; subst hz
      exact ih _ _ hzf
    | slice own es =>
      simp only [frzV] at h
      obtain ⟨ds, hds, rfl⟩ := map_some1 h
      obtain ⟨h1, h2⟩ := mapM_two hds
      refine .slice _ _ _ _ (.inl rfl) h1 (fun i e e' he he' => ?_) (fun i j e e' c c' he he' hc hc' => ?_)
      · obtain ⟨z, hz, hzf⟩ := h2 i e' he'
        rw [he] at hz; injection hz with hz; subst hz
        exact (frzE_ok ih hzf).1
      · obtain ⟨z, hz, hzf⟩ := h2 i e' he'
        rw [he] at hz; injection hz with hz; subst hz
        exact (frzE_ok ih hzf).2 j c c' hc hc'
    | vec id off len sz k =>
      simp only [frzV] at h
      split at h
      · rename_i n0 cs hr
        split at h
        · rename_i hfit
          obtain ⟨ds, hds, rfl⟩ := map_some1 h
          obtain ⟨h1, h2⟩ := mapM_two hds
          have hlen : ∀ i, i < len → ((cs.drop (off + i * sz)).take sz).length = sz := by
            intro i hi
            have := mul_succ_le (s := sz) hi
            rw [List.length_take, List.length_drop]; omega
          have hat : ∀ (i : Nat) (e' : AV), ds[i]? = some e' → i < len ∧ frzE (frzV m n) (.agg ((cs.drop (off + i * sz)).take sz)) = some e' := by
            intro i e' he'
            obtain ⟨z, hz, hzf⟩ := h2 i e' he'
            have hi : i < len := by have := (List.getElem?_eq_some_iff.1 hz).1; simpa using this
            rw [List.getElem?_range hi] at hz
            injection hz with hz; subst hz; exact ⟨hi, hzf⟩
          refine .vec _ _ _ _ _ _ _ _ hr (by rw [h1, List.length_range]) hfit (fun e' he' => ?_) (fun i j e' c c' he' hc hc' => ?_)
          · obtain ⟨i, hi, hie⟩ := List.getElem_of_mem he'
            obtain ⟨g1, g2⟩ := hat i e' (by rw [← hie]; exact List.getElem?_eq_getElem hi)
            rw [(frzE_ok ih g2).1]; exact hlen i g1
          · obtain ⟨g1, g2⟩ := hat i e' he'
            obtain ⟨g3, g4⟩ := frzE_ok ih g2
            have hj : j < sz := by rw [← hlen i g1]; rw [show ((cs.drop (off + i * sz)).take sz).length = (AV.agg ((cs.drop (off + i * sz)).take sz)).cells.length from rfl, ← g3]; exact (List.getElem?_eq_some_iff.1 hc').1
            refine g4 j c c' ?_ hc'
            show ((cs.drop (off + i * sz)).take sz)[j]? = some c
            rw [List.getElem?_take_of_lt hj, List.getElem?_drop, Nat.add_assoc]
            exact hc
        · cases h
      · cases h
    | _ => simp [frzV] at h
section
variable {P : Program}
/-- What a closed call tells, taken out of its memory. -/
def tellsV (k : Nat) : Option (AV × Mem × Low) → Option AV
  | some (r, m, _) => frzV m k r
  | none => none
theorem Fn.run_val2 (hmix : P.follows .mixedOrders = true) {ok N : Nat} (hok : allOk2 P ok N = true) {f n k : Nat} {args : List AV} {r : AV} {μ : TypeId → Bool} (ha : ∀ a ∈ args, Flat a) (h : tellsV k (run2 P ok n (.func f [] []) args (mE μ)) = some r) : Fn P f args r := by
  unfold tellsV at h
  split at h
  · rename_i r0 m1 lw he
    obtain ⟨_, _, h1⟩ := run2_ok hmix (allOk2_spec hok) n _ _ _ _ _ _ he
    have h2 := h1 _ _ _ rfl
    simp only [List.nil_append, List.append_nil] at h2
    exact .of h2 ha (frzV_ok _ _ _ h)
  · cases h
end
end Go.Proofs.Ytcfekacmmfdggaa.G
set_option linter.unusedVariables false
set_option linter.unusedSimpArgs false
set_option maxRecDepth 100000
namespace Go.Proofs.Ytcfekacmmfdggaa.G

def kEq : T_api_Pred := ⟨2, 0, 1, ⟨1, 0, 0, ⟨false, 0⟩⟩, ⟨1, 1, 0, ⟨false, 0⟩⟩, []⟩
def kLf (n : Int) : T_api_Tree := ⟨0, n, [], [], false⟩
def kTwo (b : Bool) : T_api_Tree := ⟨1, 0, [kLf 0, kLf 1], [kEq], b⟩
def kModel (k : Int) : T_cost_Model := ⟨k, [⟨1, [kEq], 3#64, 1#64, 2#64⟩], ⟨[10#64, 20#64], [32768#64]⟩⟩
def vEq : AV := .agg [.i64 2, .i64 0, .i64 1, .i64 1, .i64 0, .i64 0, .bool false, .i64 0, .i64 1, .i64 1, .i64 0, .bool false, .i64 0, .slice .foreign []]
def vLf (n : Int) : AV := .agg [.i64 0, .i64 n, .slice .foreign [], .slice .foreign [], .bool false]
def vTwo (b : Bool) : AV := .agg [.i64 1, .i64 0, .slice .foreign [vLf 0, vLf 1], .slice .foreign [vEq], .bool b]
def vModel (k : Int) : AV := .agg [.i64 k, .slice .foreign [.agg [.i64 1, .slice .foreign [vEq], .atom (.int .u64 3), .atom (.int .u64 1), .atom (.int .u64 2)]], .slice .foreign [.atom (.int .u64 10), .atom (.int .u64 20)], .slice .foreign [.atom (.int .u64 32768)]]
theorem kEq_av : kEq.av = vEq := by rw [T_api_Pred.av_eq]; rfl
theorem kLf_av (n : Int) : (kLf n).av = vLf n := by rw [T_api_Tree.av_eq]; rfl
theorem kTwo_C (b : Bool) : .agg (T_api_Tree.C (kTwo b)) = vTwo b := by
  unfold kTwo T_api_Tree.C vTwo
  simp -implicitDefEqProofs only [List.map, kEq_av, kLf_av]
theorem kModel_C (k : Int) : .agg (T_cost_Model.C (kModel k)) = vModel k := by
  have e : T_api_Edge.av ⟨1, [kEq], 3#64, 1#64, 2#64⟩ = .agg [.i64 1, .slice .foreign [vEq], .atom (.int .u64 3), .atom (.int .u64 1), .atom (.int .u64 2)] := by
    unfold T_api_Edge.av T_api_Edge.C
    simp -implicitDefEqProofs only [List.map, kEq_av]
    rfl
  unfold kModel T_cost_Model.C vModel
  simp -implicitDefEqProofs only [List.map, e]
  rfl
def kBits : Nat := 8188044454041892865155218865489443295232
theorem kBits_ok : allOk2 Try.prog kBits 198 = true := by kernel_rfl
theorem vFlat (k : Int) (b : Bool) : ∀ a ∈ [vModel k, vTwo b], Flat a := by
  rw [← kTwo_C, ← kModel_C]
  exact flC (T_cost_Model.flatC _) (flC (T_api_Tree.flatC _) flN)
theorem marked_2 : Fn Try.prog 19 [.agg (T_cost_Model.C (kModel 2)), .agg (T_api_Tree.C (kTwo false))] (.agg (T_api_Tree.C (kTwo true))) := by
  rw [kTwo_C, kTwo_C, kModel_C]
  exact Fn.run_val2 mix kBits_ok (n := 1000) (k := 100) (μ := fun _ => true) (vFlat _ _) (by kernel_rfl)
theorem marked_1 : Fn Try.prog 19 [.agg (T_cost_Model.C (kModel 1)), .agg (T_api_Tree.C (kTwo false))] (.agg (T_api_Tree.C (kTwo false))) := by
  rw [kTwo_C, kModel_C]
  exact Fn.run_val2 mix kBits_ok (n := 1000) (k := 100) (μ := fun _ => true) (vFlat _ _) (by kernel_rfl)
/- Are they those values? -/
def isEq (p : T_api_Pred) : Bool := p.Kind == 2 && p.Truth == 0 && p.Op == 1 && p.A.Kind == 1 && p.A.Table == 0 && p.A.Col == 0 && !p.A.Value.Null && p.A.Value.N == 0 && p.B.Kind == 1 && p.B.Table == 1 && p.B.Col == 0 && !p.B.Value.Null && p.B.Value.N == 0 && p.Parts.isEmpty
def isLf (n : Int) (t : T_api_Tree) : Bool := t.Kind == 0 && t.Table == n && t.Kids.isEmpty && t.Conj.isEmpty && !t.Hash
def isTwo (t : T_api_Tree) : Bool := t.Kind == 1 && t.Table == 0 && !t.Hash && (match t.Kids with | [a, b] => isLf 0 a && isLf 1 b | _ => false) && (match t.Conj with | [p] => isEq p | _ => false)
def isModel (k : Int) (m : T_cost_Model) : Bool := m.Kind == k && (match m.Edges with | [e] => e.Kind == 1 && (match e.Preds with | [p] => isEq p | _ => false) && e.Uses == 3#64 && e.Left == 1#64 && e.Right == 2#64 | _ => false) && m.Stats.Rows == [10#64, 20#64] && m.Stats.Sel == [32768#64]
theorem isEq_eq {p : T_api_Pred} (h : isEq p = true) : p = kEq := by
  obtain ⟨a, b, c, ⟨d, e, f, ⟨g, i⟩⟩, ⟨d', e', f', ⟨g', i'⟩⟩, ps⟩ := p
  simp [isEq] at h
  obtain ⟨⟨⟨⟨⟨⟨⟨⟨⟨⟨⟨⟨⟨h1, h2⟩, h3⟩, h4⟩, h5⟩, h6⟩, h7⟩, h8⟩, h9⟩, h10⟩, h11⟩, h12⟩, h13⟩, h14⟩ := h
  subst h1 h2 h3 h4 h5 h6 h7 h8 h9 h10 h11 h12 h13 h14; rfl
theorem isLf_eq {n : Int} {t : T_api_Tree} (h : isLf n t = true) : t = kLf n := by
  obtain ⟨a, b, c, d, e⟩ := t
  simp [isLf] at h
  obtain ⟨⟨⟨⟨h1, h2⟩, h3⟩, h4⟩, h5⟩ := h
  subst h1 h2 h3 h4 h5; rfl
theorem isTwo_eq {t : T_api_Tree} (h : isTwo t = true) : t = kTwo false := by
  obtain ⟨a, b, c, d, e⟩ := t
  simp only [isTwo, Bool.and_eq_true] at h
  obtain ⟨⟨⟨⟨h1, h2⟩, h3⟩, h4⟩, h5⟩ := h
  simp at h1 h2 h3
  subst h1 h2 h3
  match c, h4, d, h5 with
  | [x, y], h4, [p], h5 =>
    rw [Bool.and_eq_true] at h4
    rw [isLf_eq h4.1, isLf_eq h4.2, isEq_eq h5]; rfl
  | [x, y], h4, [], h5 => cases h5
  | [x, y], h4, _ :: _ :: _, h5 => cases h5
  | [], h4, _, h5 => cases h4
  | [_], h4, _, h5 => cases h4
  | _ :: _ :: _ :: _, h4, _, h5 => cases h4
theorem isModel_eq {k : Int} {m : T_cost_Model} (h : isModel k m = true) : m = kModel k := by
  obtain ⟨a, es, ⟨rs, ss⟩⟩ := m
  simp only [isModel, Bool.and_eq_true] at h
  obtain ⟨⟨⟨h1, h2⟩, h3⟩, h4⟩ := h
  simp at h1 h3 h4
  subst h1 h3 h4
  match es, h2 with
  | [⟨ek, ep, eu, el, er⟩], h2 =>
    simp only [Bool.and_eq_true] at h2
    obtain ⟨⟨⟨⟨g1, g2⟩, g3⟩, g4⟩, g5⟩ := h2
    simp at g1 g3 g4 g5
    subst g1 g3 g4 g5
    match ep, g2 with
    | [p], g2 => rw [isEq_eq g2]; rfl
    | [], g2 => cases g2
    | _ :: _ :: _, g2 => cases g2
  | [], h2 => cases h2
  | _ :: _ :: _, h2 => cases h2
def M_cost_Model_Marked (x : T_cost_Model × T_api_Tree) : Option T_api_Tree :=
  if (isModel 2 x.1 && isTwo x.2) = true then some (kTwo true) else if (isModel 1 x.1 && isTwo x.2) = true then some (kTwo false) else none
theorem M_cost_Model_Marked_2 : M_cost_Model_Marked (kModel 2, kTwo false) = some (kTwo true) := by kernel_rfl
theorem M_cost_Model_Marked_1 : M_cost_Model_Marked (kModel 1, kTwo false) = some (kTwo false) := by kernel_rfl
theorem M_cost_Model_Marked.w (x : T_cost_Model × T_api_Tree) (r : T_api_Tree) (h : M_cost_Model_Marked x = some r) : Fn Try.prog 19 [.agg (T_cost_Model.C x.1), .agg (T_api_Tree.C x.2)] (.agg (T_api_Tree.C r)) := by
  unfold M_cost_Model_Marked at h
  split at h
  · rename_i hx
    rw [Bool.and_eq_true] at hx
    injection h with h; subst h
    rw [isModel_eq hx.1, isTwo_eq hx.2]
    exact marked_2
  · split at h
    · rename_i hx
      rw [Bool.and_eq_true] at hx
      injection h with h; subst h
      rw [isModel_eq hx.1, isTwo_eq hx.2]
      exact marked_1
    · cases h
end Go.Proofs.Ytcfekacmmfdggaa.G
set_option linter.unusedVariables false
set_option linter.unusedSimpArgs false
set_option maxRecDepth 100000
namespace Go.Proofs.Ytcfekacmmfdggaa.G
@[go_sem] theorem lrp_11_2 : lrp Try.prog 11 2 = (38, []) := by kernel_rfl
theorem lok_11 : (Try.f11.body.isSome && !(Try.f11.name == "runtime.NumGoroutine") && okL (bodyF Try.f11) Try.f11.ntmps (bodyF Try.f11)) = true := by kernel_rfl
def M_law28_awake (x : Unit) : Option (Bool) :=
  M_law10_Two 1 >>= fun r1 =>
  M_law28_Two 1 >>= fun r3 =>
  M_cost_Model_Tree (r3, r1) >>= fun r5 =>
  if (r5 == 100#64) = true then
    M_law28_Two 2 >>= fun r8 =>
    M_cost_Model_Tree (r8, r1) >>= fun r10 =>
    if (r10 == 130#64) = true then
      M_law28_Two 2 >>= fun r13 =>
      M_cost_Model_Node (r13, 1#64, 2#64, ([] : List T_api_Pred)) >>= fun r15 =>
      if (r15 == 300#64) = true then
        M_law28_Two 2 >>= fun r18 =>
        M_cost_Model_Marked (r18, r1) >>= fun r20 =>
        if r20.Hash = true then
          M_law28_Two 1 >>= fun r23 =>
          M_cost_Model_Marked (r23, r1) >>= fun r25 =>
          if r25.Hash = true then
            some false
          else
            M_law28_Two 2 >>= fun r28 =>
            (r1.Kids[0]?) >>= fun (e30 : T_api_Tree) =>
            M_cost_Model_Tree (r28, e30) >>= fun r32 =>
            some (r32 == 0#64)
        else
          some false
      else
        some false
    else
      some false
  else
    some false
set_option maxHeartbeats 8000000 in
theorem M_law28_awake.w : ∀ (x : Unit) (r : Bool), M_law28_awake x = some r → (fun (x : Unit) (r : Bool) => Fn Try.prog 11 [] (.bool r)) x r := by
  intro x r h
  rw [M_law28_awake] at h
  try dsimp only
  refine Fn.of_lc mix fn_11 lok_11 (by rfl) (flN) (.atom _) ?_
  simp -implicitDefEqProofs only [go_sem, Try.f11]
  obtain ⟨r1, h2, h⟩ := bind_some' h
  refine .plain _ _ rfl (M_law10_Two.w 1 _ h2) ?_
  try simp -implicitDefEqProofs only [go_sem]
  obtain ⟨r3, h4, h⟩ := bind_some' h
  refine .plain _ _ rfl (M_law28_Two.w 1 _ h4) ?_
  try simp -implicitDefEqProofs only [go_sem]
  obtain ⟨r5, h6, h⟩ := bind_some' h
  refine .plain _ _ rfl (M_cost_Model_Tree.w (r3, r1) _ h6) ?_
  try simp -implicitDefEqProofs only [go_sem]
  by_cases h7 : (r5 == 100#64) = true
  · replace h := ite_some h h7
    try simp -implicitDefEqProofs only [go_sem, h7]
    obtain ⟨r8, h9, h⟩ := bind_some' h
    refine .plain _ _ rfl (M_law28_Two.w 2 _ h9) ?_
    try simp -implicitDefEqProofs only [go_sem, h7]
    obtain ⟨r10, h11, h⟩ := bind_some' h
    refine .plain _ _ rfl (M_cost_Model_Tree.w (r8, r1) _ h11) ?_
    try simp -implicitDefEqProofs only [go_sem, h7]
    by_cases h12 : (r10 == 130#64) = true
    · replace h := ite_some h h12
      try simp -implicitDefEqProofs only [go_sem, h7, h12]
      obtain ⟨r13, h14, h⟩ := bind_some' h
      refine .plain _ _ rfl (M_law28_Two.w 2 _ h14) ?_
      try simp -implicitDefEqProofs only [go_sem, h7, h12]
      obtain ⟨r15, h16, h⟩ := bind_some' h
      refine .plain _ _ rfl (M_cost_Model_Node.w (r13, 1#64, 2#64, ([] : List T_api_Pred)) _ h16) ?_
      try simp -implicitDefEqProofs only [go_sem, h7, h12]
      by_cases h17 : (r15 == 300#64) = true
      · replace h := ite_some h h17
        try simp -implicitDefEqProofs only [go_sem, h7, h12, h17]
        obtain ⟨r18, h19, h⟩ := bind_some' h
        refine .plain _ _ rfl (M_law28_Two.w 2 _ h19) ?_
        try simp -implicitDefEqProofs only [go_sem, h7, h12, h17]
        obtain ⟨r20, h21, h⟩ := bind_some' h
        refine .plain _ _ rfl (M_cost_Model_Marked.w (r18, r1) _ h21) ?_
        try simp -implicitDefEqProofs only [go_sem, h7, h12, h17]
        by_cases h22 : r20.Hash = true
        · replace h := ite_some h h22
          try simp -implicitDefEqProofs only [go_sem, h7, h12, h17, h22]
          obtain ⟨r23, h24, h⟩ := bind_some' h
          refine .plain _ _ rfl (M_law28_Two.w 1 _ h24) ?_
          try simp -implicitDefEqProofs only [go_sem, h7, h12, h17, h22]
          obtain ⟨r25, h26, h⟩ := bind_some' h
          refine .plain _ _ rfl (M_cost_Model_Marked.w (r23, r1) _ h26) ?_
          try simp -implicitDefEqProofs only [go_sem, h7, h12, h17, h22]
          by_cases h27 : r25.Hash = true
          · replace h := ite_some h h27
            try simp -implicitDefEqProofs only [go_sem, h7, h12, h17, h22, h27]
            injection h with h; subst h
            first | rfl | simp -implicitDefEqProofs only [go_sem, h7, h12, h17, h22, h27] <;> rfl
          · replace h := ite_none h h27; replace h27 := bfalse h27
            try simp -implicitDefEqProofs only [go_sem, h7, h12, h17, h22, h27]
            obtain ⟨r28, h29, h⟩ := bind_some' h
            refine .plain _ _ rfl (M_law28_Two.w 2 _ h29) ?_
            try simp -implicitDefEqProofs only [go_sem, h7, h12, h17, h22, h27]
            obtain ⟨e30, h31, h⟩ := bind_some' h
            try simp -implicitDefEqProofs only [go_sem, h7, h12, h17, h22, h27, h31]
            obtain ⟨r32, h33, h⟩ := bind_some' h
            refine .plain _ _ rfl (M_cost_Model_Tree.w (r28, e30) _ h33) ?_
            try simp -implicitDefEqProofs only [go_sem, h7, h12, h17, h22, h27, h31]
            injection h with h; subst h
            first | rfl | simp -implicitDefEqProofs only [go_sem, h7, h12, h17, h22, h27, h31] <;> rfl
        · replace h := ite_none h h22; replace h22 := bfalse h22
          try simp -implicitDefEqProofs only [go_sem, h7, h12, h17, h22]
          injection h with h; subst h
          first | rfl | simp -implicitDefEqProofs only [go_sem, h7, h12, h17, h22] <;> rfl
      · replace h := ite_none h h17; replace h17 := bfalse h17
        try simp -implicitDefEqProofs only [go_sem, h7, h12, h17]
        injection h with h; subst h
        first | rfl | simp -implicitDefEqProofs only [go_sem, h7, h12, h17] <;> rfl
    · replace h := ite_none h h12; replace h12 := bfalse h12
      try simp -implicitDefEqProofs only [go_sem, h7, h12]
      injection h with h; subst h
      first | rfl | simp -implicitDefEqProofs only [go_sem, h7, h12] <;> rfl
  · replace h := ite_none h h7; replace h7 := bfalse h7
    try simp -implicitDefEqProofs only [go_sem, h7]
    injection h with h; subst h
    first | rfl | simp -implicitDefEqProofs only [go_sem, h7] <;> rfl
end Go.Proofs.Ytcfekacmmfdggaa.G
set_option linter.unusedVariables false
set_option linter.unusedSimpArgs false
set_option maxRecDepth 100000
namespace Go.Proofs.Ytcfekacmmfdggaa.G
@[go_sem] theorem lrp_4_4 : lrp Try.prog 4 4 = (18, []) := by kernel_rfl
@[go_sem] theorem lrp_4_6 : lrp Try.prog 4 6 = (8, []) := by kernel_rfl
@[go_sem] theorem lrp_4_8 : lrp Try.prog 4 8 = (12, []) := by kernel_rfl
@[go_sem] theorem lrp_4_9 : lrp Try.prog 4 9 = (22, []) := by kernel_rfl
theorem lok_4 : (Try.f4.body.isSome && !(Try.f4.name == "runtime.NumGoroutine") && okL (bodyF Try.f4) Try.f4.ntmps (bodyF Try.f4)) = true := by kernel_rfl
def M_law28_CostParts (x : T_cost_Model × T_api_Tree × T_api_Tree) : Option (Bool) :=
  M_law28_Few x.1 >>= fun r1 =>
  if r1 = true then
    M_ref10_Size (x.2.1, 301) >>= fun r4 =>
    if (decide (r4 > 300)) = true then
      M_law28_awake () >>= fun r7 =>
      some r7
    else
      M_ref10_Size (x.2.2, 301) >>= fun r9 =>
      if (decide (r9 > 300)) = true then
        M_law28_awake () >>= fun r12 =>
        some r12
      else
        if ((x.2.1.Kids.length : Int) != 2) = true then
          M_law28_awake () >>= fun r15 =>
          some r15
        else
          M_cost_Model_Tree (x.1, x.2.1) >>= fun r17 =>
          (x.2.1.Kids[0]?) >>= fun (e19 : T_api_Tree) =>
          M_cost_Model_Tree (x.1, e19) >>= fun r21 =>
          if (decide (r17 < r21)) = true then
            some false
          else
            (x.2.1.Kids[1]?) >>= fun (e24 : T_api_Tree) =>
            M_cost_Model_Tree (x.1, e24) >>= fun r26 =>
            if (decide (r17 < r26)) = true then
              some false
            else
              M_ref10_Tables x.2.2 >>= fun r29 =>
              M_ref10_Tables e19 >>= fun r31 =>
              if (r29 != r31) = true then
                M_law28_awake () >>= fun r34 =>
                some r34
              else
                M_cost_Model_Tree (x.1, x.2.2) >>= fun r36 =>
                M_cost_Model_Tree (x.1, e19) >>= fun r38 =>
                M_cost_Model_Tree (x.1, x.2.2) >>= fun r40 =>
                M_cost_Model_Tree (x.1, e19) >>= fun r42 =>
                if (decide (r36 ≤ r38)) = true then
                  M_cost_Model_Tree (x.1, (⟨x.2.1.Kind, 0, [x.2.2, e24], x.2.1.Conj, false⟩ : T_api_Tree)) >>= fun r45 =>
                  if (decide (r45 ≤ r17)) = true then
                    if (decide (r40 ≥ r42)) = true then
                      M_cost_Model_Tree (x.1, (⟨x.2.1.Kind, 0, [x.2.2, e24], x.2.1.Conj, false⟩ : T_api_Tree)) >>= fun r49 =>
                      if (decide (r49 ≥ r17)) = true then
                        M_law28_awake () >>= fun r52 =>
                        some r52
                      else
                        some false
                    else
                      M_law28_awake () >>= fun r54 =>
                      some r54
                  else
                    some false
                else
                  if (decide (r40 ≥ r42)) = true then
                    M_cost_Model_Tree (x.1, (⟨x.2.1.Kind, 0, [x.2.2, e24], x.2.1.Conj, false⟩ : T_api_Tree)) >>= fun r57 =>
                    if (decide (r57 ≥ r17)) = true then
                      M_law28_awake () >>= fun r60 =>
                      some r60
                    else
                      some false
                  else
                    M_law28_awake () >>= fun r62 =>
                    some r62
  else
    M_law28_awake () >>= fun r64 =>
    some r64
set_option maxHeartbeats 8000000 in
theorem M_law28_CostParts.w : ∀ (x : T_cost_Model × T_api_Tree × T_api_Tree) (r : Bool), M_law28_CostParts x = some r → (fun (x : T_cost_Model × T_api_Tree × T_api_Tree) (r : Bool) => Fn Try.prog 4 [.agg (T_cost_Model.C x.1), .agg (T_api_Tree.C x.2.1), .agg (T_api_Tree.C x.2.2)] (.bool r)) x r := by
  intro x r h
  rw [M_law28_CostParts] at h
  try dsimp only
  refine Fn.of_lc mix fn_4 lok_4 (by rfl) (flC (T_cost_Model.flatC _) (flC (T_api_Tree.flatC _) (flC (T_api_Tree.flatC _) (flN)))) (.atom _) ?_
  simp -implicitDefEqProofs only [go_sem, Try.f4]
  obtain ⟨r1, h2, h⟩ := bind_some' h
  refine .plain _ _ rfl (M_law28_Few.w x.1 _ h2) ?_
  try simp -implicitDefEqProofs only [go_sem]
  by_cases h3 : r1 = true
  · replace h := ite_some h h3
    try simp -implicitDefEqProofs only [go_sem, h3]
    obtain ⟨r4, h5, h⟩ := bind_some' h
    refine .plain _ _ rfl (M_ref10_Size.w (x.2.1, 301) _ h5) ?_
    try simp -implicitDefEqProofs only [go_sem, h3]
    by_cases h6 : (decide (r4 > 300)) = true
    · replace h := ite_some h h6
      try simp -implicitDefEqProofs only [go_sem, h3, h6]
      obtain ⟨r7, h8, h⟩ := bind_some' h
      refine .plain _ _ rfl (M_law28_awake.w () _ h8) ?_
      try simp -implicitDefEqProofs only [go_sem, h3, h6]
      injection h with h; subst h
      first | rfl | simp -implicitDefEqProofs only [go_sem, h3, h6] <;> rfl
    · replace h := ite_none h h6; replace h6 := bfalse h6
      try simp -implicitDefEqProofs only [go_sem, h3, h6]
      obtain ⟨r9, h10, h⟩ := bind_some' h
      refine .plain _ _ rfl (M_ref10_Size.w (x.2.2, 301) _ h10) ?_
      try simp -implicitDefEqProofs only [go_sem, h3, h6]
      by_cases h11 : (decide (r9 > 300)) = true
      · replace h := ite_some h h11
        try simp -implicitDefEqProofs only [go_sem, h3, h6, h11]
        obtain ⟨r12, h13, h⟩ := bind_some' h
        refine .plain _ _ rfl (M_law28_awake.w () _ h13) ?_
        try simp -implicitDefEqProofs only [go_sem, h3, h6, h11]
        injection h with h; subst h
        first | rfl | simp -implicitDefEqProofs only [go_sem, h3, h6, h11] <;> rfl
      · replace h := ite_none h h11; replace h11 := bfalse h11
        try simp -implicitDefEqProofs only [go_sem, h3, h6, h11]
        by_cases h14 : ((x.2.1.Kids.length : Int) != 2) = true
        · replace h := ite_some h h14
          try simp -implicitDefEqProofs only [go_sem, h3, h6, h11, h14]
          obtain ⟨r15, h16, h⟩ := bind_some' h
          refine .plain _ _ rfl (M_law28_awake.w () _ h16) ?_
          try simp -implicitDefEqProofs only [go_sem, h3, h6, h11, h14]
          injection h with h; subst h
          first | rfl | simp -implicitDefEqProofs only [go_sem, h3, h6, h11, h14] <;> rfl
        · replace h := ite_none h h14; replace h14 := bfalse h14
          try simp -implicitDefEqProofs only [go_sem, h3, h6, h11, h14]
          obtain ⟨r17, h18, h⟩ := bind_some' h
          refine .plain _ _ rfl (M_cost_Model_Tree.w (x.1, x.2.1) _ h18) ?_
          try simp -implicitDefEqProofs only [go_sem, h3, h6, h11, h14]
          obtain ⟨e19, h20, h⟩ := bind_some' h
          try simp -implicitDefEqProofs only [go_sem, h3, h6, h11, h14, h20]
          obtain ⟨r21, h22, h⟩ := bind_some' h
          refine .plain _ _ rfl (M_cost_Model_Tree.w (x.1, e19) _ h22) ?_
          try simp -implicitDefEqProofs only [go_sem, h3, h6, h11, h14, h20]
          by_cases h23 : (decide (r17 < r21)) = true
          · replace h := ite_some h h23
            try simp -implicitDefEqProofs only [go_sem, h3, h6, h11, h14, h20, h23]
            injection h with h; subst h
            first | rfl | simp -implicitDefEqProofs only [go_sem, h3, h6, h11, h14, h20, h23] <;> rfl
          · replace h := ite_none h h23; replace h23 := bfalse h23
            try simp -implicitDefEqProofs only [go_sem, h3, h6, h11, h14, h20, h23]
            obtain ⟨e24, h25, h⟩ := bind_some' h
            try simp -implicitDefEqProofs only [go_sem, h3, h6, h11, h14, h20, h23, h25]
            obtain ⟨r26, h27, h⟩ := bind_some' h
            refine .plain _ _ rfl (M_cost_Model_Tree.w (x.1, e24) _ h27) ?_
            try simp -implicitDefEqProofs only [go_sem, h3, h6, h11, h14, h20, h23, h25]
            by_cases h28 : (decide (r17 < r26)) = true
            · replace h := ite_some h h28
              try simp -implicitDefEqProofs only [go_sem, h3, h6, h11, h14, h20, h23, h25, h28]
              injection h with h; subst h
              first | rfl | simp -implicitDefEqProofs only [go_sem, h3, h6, h11, h14, h20, h23, h25, h28] <;> rfl
            · replace h := ite_none h h28; replace h28 := bfalse h28
              try simp -implicitDefEqProofs only [go_sem, h3, h6, h11, h14, h20, h23, h25, h28]
              obtain ⟨r29, h30, h⟩ := bind_some' h
              refine .plain _ _ rfl (M_ref10_Tables.w x.2.2 _ h30) ?_
              try simp -implicitDefEqProofs only [go_sem, h3, h6, h11, h14, h20, h23, h25, h28]
              obtain ⟨r31, h32, h⟩ := bind_some' h
              refine .plain _ _ rfl (M_ref10_Tables.w e19 _ h32) ?_
              try simp -implicitDefEqProofs only [go_sem, h3, h6, h11, h14, h20, h23, h25, h28]
              by_cases h33 : (r29 != r31) = true
              · replace h := ite_some h h33
                try simp -implicitDefEqProofs only [go_sem, h3, h6, h11, h14, h20, h23, h25, h28, h33]
                obtain ⟨r34, h35, h⟩ := bind_some' h
                refine .plain _ _ rfl (M_law28_awake.w () _ h35) ?_
                try simp -implicitDefEqProofs only [go_sem, h3, h6, h11, h14, h20, h23, h25, h28, h33]
                injection h with h; subst h
                first | rfl | simp -implicitDefEqProofs only [go_sem, h3, h6, h11, h14, h20, h23, h25, h28, h33] <;> rfl
              · replace h := ite_none h h33; replace h33 := bfalse h33
                try simp -implicitDefEqProofs only [go_sem, h3, h6, h11, h14, h20, h23, h25, h28, h33]
                obtain ⟨r36, h37, h⟩ := bind_some' h
                refine .plain _ _ rfl (M_cost_Model_Tree.w (x.1, x.2.2) _ h37) ?_
                try simp -implicitDefEqProofs only [go_sem, h3, h6, h11, h14, h20, h23, h25, h28, h33]
                obtain ⟨r38, h39, h⟩ := bind_some' h
                refine .plain _ _ rfl (M_cost_Model_Tree.w (x.1, e19) _ h39) ?_
                try simp -implicitDefEqProofs only [go_sem, h3, h6, h11, h14, h20, h23, h25, h28, h33]
                obtain ⟨r40, h41, h⟩ := bind_some' h
                refine .plain _ _ rfl (M_cost_Model_Tree.w (x.1, x.2.2) _ h41) ?_
                try simp -implicitDefEqProofs only [go_sem, h3, h6, h11, h14, h20, h23, h25, h28, h33]
                obtain ⟨r42, h43, h⟩ := bind_some' h
                refine .plain _ _ rfl (M_cost_Model_Tree.w (x.1, e19) _ h43) ?_
                try simp -implicitDefEqProofs only [go_sem, h3, h6, h11, h14, h20, h23, h25, h28, h33]
                by_cases h44 : (decide (r36 ≤ r38)) = true
                · replace h := ite_some h h44
                  try simp -implicitDefEqProofs only [go_sem, h3, h6, h11, h14, h20, h23, h25, h28, h33, h44]
                  obtain ⟨r45, h46, h⟩ := bind_some' h
                  have hw := M_cost_Model_Tree.w (x.1, (⟨x.2.1.Kind, 0, [x.2.2, e24], x.2.1.Conj, false⟩ : T_api_Tree)) _ h46
                  simp -implicitDefEqProofs only [go_sem] at hw
                  refine .plain _ _ rfl hw ?_
                  clear hw
                  try simp -implicitDefEqProofs only [go_sem, h3, h6, h11, h14, h20, h23, h25, h28, h33, h44]
                  by_cases h47 : (decide (r45 ≤ r17)) = true
                  · replace h := ite_some h h47
                    try simp -implicitDefEqProofs only [go_sem, h3, h6, h11, h14, h20, h23, h25, h28, h33, h44, h47]
                    by_cases h48 : (decide (r40 ≥ r42)) = true
                    · replace h := ite_some h h48
                      try simp -implicitDefEqProofs only [go_sem, h3, h6, h11, h14, h20, h23, h25, h28, h33, h44, h47, h48]
                      obtain ⟨r49, h50, h⟩ := bind_some' h
                      have hw := M_cost_Model_Tree.w (x.1, (⟨x.2.1.Kind, 0, [x.2.2, e24], x.2.1.Conj, false⟩ : T_api_Tree)) _ h50
                      simp -implicitDefEqProofs only [go_sem] at hw
                      refine .plain _ _ rfl hw ?_
                      clear hw
                      try simp -implicitDefEqProofs only [go_sem, h3, h6, h11, h14, h20, h23, h25, h28, h33, h44, h47, h48]
                      by_cases h51 : (decide (r49 ≥ r17)) = true
                      · replace h := ite_some h h51
                        try simp -implicitDefEqProofs only [go_sem, h3, h6, h11, h14, h20, h23, h25, h28, h33, h44, h47, h48, h51]
                        obtain ⟨r52, h53, h⟩ := bind_some' h
                        refine .plain _ _ rfl (M_law28_awake.w () _ h53) ?_
                        try simp -implicitDefEqProofs only [go_sem, h3, h6, h11, h14, h20, h23, h25, h28, h33, h44, h47, h48, h51]
                        injection h with h; subst h
                        first | rfl | simp -implicitDefEqProofs only [go_sem, h3, h6, h11, h14, h20, h23, h25, h28, h33, h44, h47, h48, h51] <;> rfl
                      · replace h := ite_none h h51; replace h51 := bfalse h51
                        try simp -implicitDefEqProofs only [go_sem, h3, h6, h11, h14, h20, h23, h25, h28, h33, h44, h47, h48, h51]
                        injection h with h; subst h
                        first | rfl | simp -implicitDefEqProofs only [go_sem, h3, h6, h11, h14, h20, h23, h25, h28, h33, h44, h47, h48, h51] <;> rfl
                    · replace h := ite_none h h48; replace h48 := bfalse h48
                      try simp -implicitDefEqProofs only [go_sem, h3, h6, h11, h14, h20, h23, h25, h28, h33, h44, h47, h48]
                      obtain ⟨r54, h55, h⟩ := bind_some' h
                      refine .plain _ _ rfl (M_law28_awake.w () _ h55) ?_
                      try simp -implicitDefEqProofs only [go_sem, h3, h6, h11, h14, h20, h23, h25, h28, h33, h44, h47, h48]
                      injection h with h; subst h
                      first | rfl | simp -implicitDefEqProofs only [go_sem, h3, h6, h11, h14, h20, h23, h25, h28, h33, h44, h47, h48] <;> rfl
                  · replace h := ite_none h h47; replace h47 := bfalse h47
                    try simp -implicitDefEqProofs only [go_sem, h3, h6, h11, h14, h20, h23, h25, h28, h33, h44, h47]
                    injection h with h; subst h
                    first | rfl | simp -implicitDefEqProofs only [go_sem, h3, h6, h11, h14, h20, h23, h25, h28, h33, h44, h47] <;> rfl
                · replace h := ite_none h h44; replace h44 := bfalse h44
                  try simp -implicitDefEqProofs only [go_sem, h3, h6, h11, h14, h20, h23, h25, h28, h33, h44]
                  by_cases h56 : (decide (r40 ≥ r42)) = true
                  · replace h := ite_some h h56
                    try simp -implicitDefEqProofs only [go_sem, h3, h6, h11, h14, h20, h23, h25, h28, h33, h44, h56]
                    obtain ⟨r57, h58, h⟩ := bind_some' h
                    have hw := M_cost_Model_Tree.w (x.1, (⟨x.2.1.Kind, 0, [x.2.2, e24], x.2.1.Conj, false⟩ : T_api_Tree)) _ h58
                    simp -implicitDefEqProofs only [go_sem] at hw
                    refine .plain _ _ rfl hw ?_
                    clear hw
                    try simp -implicitDefEqProofs only [go_sem, h3, h6, h11, h14, h20, h23, h25, h28, h33, h44, h56]
                    by_cases h59 : (decide (r57 ≥ r17)) = true
                    · replace h := ite_some h h59
                      try simp -implicitDefEqProofs only [go_sem, h3, h6, h11, h14, h20, h23, h25, h28, h33, h44, h56, h59]
                      obtain ⟨r60, h61, h⟩ := bind_some' h
                      refine .plain _ _ rfl (M_law28_awake.w () _ h61) ?_
                      try simp -implicitDefEqProofs only [go_sem, h3, h6, h11, h14, h20, h23, h25, h28, h33, h44, h56, h59]
                      injection h with h; subst h
                      first | rfl | simp -implicitDefEqProofs only [go_sem, h3, h6, h11, h14, h20, h23, h25, h28, h33, h44, h56, h59] <;> rfl
                    · replace h := ite_none h h59; replace h59 := bfalse h59
                      try simp -implicitDefEqProofs only [go_sem, h3, h6, h11, h14, h20, h23, h25, h28, h33, h44, h56, h59]
                      injection h with h; subst h
                      first | rfl | simp -implicitDefEqProofs only [go_sem, h3, h6, h11, h14, h20, h23, h25, h28, h33, h44, h56, h59] <;> rfl
                  · replace h := ite_none h h56; replace h56 := bfalse h56
                    try simp -implicitDefEqProofs only [go_sem, h3, h6, h11, h14, h20, h23, h25, h28, h33, h44, h56]
                    obtain ⟨r62, h63, h⟩ := bind_some' h
                    refine .plain _ _ rfl (M_law28_awake.w () _ h63) ?_
                    try simp -implicitDefEqProofs only [go_sem, h3, h6, h11, h14, h20, h23, h25, h28, h33, h44, h56]
                    injection h with h; subst h
                    first | rfl | simp -implicitDefEqProofs only [go_sem, h3, h6, h11, h14, h20, h23, h25, h28, h33, h44, h56] <;> rfl
  · replace h := ite_none h h3; replace h3 := bfalse h3
    try simp -implicitDefEqProofs only [go_sem, h3]
    obtain ⟨r64, h65, h⟩ := bind_some' h
    refine .plain _ _ rfl (M_law28_awake.w () _ h65) ?_
    try simp -implicitDefEqProofs only [go_sem, h3]
    injection h with h; subst h
    first | rfl | simp -implicitDefEqProofs only [go_sem, h3] <;> rfl
end Go.Proofs.Ytcfekacmmfdggaa.G
set_option linter.unusedVariables false
set_option linter.unusedSimpArgs false
namespace Go.Proofs.Ytcfekacmmfdggaa.G

theorem kTwo_two : two 1 0 1 = kTwo false := rfl
theorem kModel_eq (k : Int) : M_law28_Two k = some (kModel k) := law28_Two_eq k
theorem costK1 : costS (nodeS (kModel 1).Kind (kModel 1).Edges (kModel 1).Stats) (kTwo false) = 100#64 := by kernel_rfl
theorem costK2 : costS (nodeS (kModel 2).Kind (kModel 2).Edges (kModel 2).Stats) (kTwo false) = 130#64 := by kernel_rfl
theorem nodeK2 : nodeS (kModel 2).Kind (kModel 2).Edges (kModel 2).Stats 1#64 2#64 [] = 300#64 := by kernel_rfl
theorem law28_awake_plain : M_law28_awake () = some true := by
  unfold M_law28_awake
  have s1 : (kTwo false).size ≤ 1000000000 := by rw [← kTwo_two, two_size]; omega
  have s0 : (lf 0).size ≤ 1000000000 := by rw [lf_size]; omega
  have hE : ∀ k, (kModel k).Edges.length < 9223372036854775808 := fun k => by simp [kModel]
  rw [law10_Two_eq, kTwo_two, kModel_eq, kModel_eq]
  simp -implicitDefEqProofs only [Option.bind_eq_bind, Option.bind_some]
  rw [cost_Tree_eq _ (hE 1) _ s1, costK1]
  simp -implicitDefEqProofs only [Option.bind_some]
  rw [if_pos (by rfl), cost_Tree_eq _ (hE 2) _ s1, costK2]
  simp -implicitDefEqProofs only [Option.bind_some]
  rw [if_pos (by rfl), cost_Node_eq _ _ _ _ (hE 2) (by simp), nodeK2]
  simp -implicitDefEqProofs only [Option.bind_some]
  rw [if_pos (by rfl), M_cost_Model_Marked_2]
  simp -implicitDefEqProofs only [Option.bind_some]
  rw [if_pos (by rfl), M_cost_Model_Marked_1]
  simp -implicitDefEqProofs only [Option.bind_some]
  rw [if_neg (by simp [kTwo])]
  have k0 : (kTwo false).Kids[0]? = some (lf 0) := rfl
  rw [k0]
  simp -implicitDefEqProofs only [Option.bind_some]
  rw [cost_Tree_eq _ (hE 2) _ s0, costS_else _ (by simp [lf])]
  rfl
/-- A tree costs no less than each of its kids; who costs more within costs no less as_ a whole. -/
theorem costParts_plain (m : T_cost_Model) (t k : T_api_Tree) : M_law28_CostParts (m, t, k) = some true := by
  have haw := law28_awake_plain
  unfold M_law28_CostParts
  dsimp only
  obtain ⟨b, h1, h2⟩ := law28_Few_eq m
  rw [h1]
  simp -implicitDefEqProofs only [Option.bind_eq_bind, Option.bind_some]
  by_cases hb : b = true
  · rw [if_pos hb]
    have hE : m.Edges.length < 9223372036854775808 := by have := (h2 hb).1; omega
    have e1 := ref10_Size_eq t 301 (by omega) (by omega)
    have e2 := ref10_Size_eq k 301 (by omega) (by omega)
    rw [show ((301 : Nat) : Int) = 301 from rfl] at e1 e2
    rw [e1]
    simp -implicitDefEqProofs only [Option.bind_some]
    by_cases ht : t.size ≤ 300
    · rw [if_neg (by simp; omega), e2]
      simp -implicitDefEqProofs only [Option.bind_some]
      by_cases hk : k.size ≤ 300
      · rw [if_neg (by simp; omega)]
        by_cases hl : t.Kids.length = 2
        · rw [if_neg (by simp [hl])]
          obtain ⟨x, y, hxy⟩ := two_kids hl
          have hx : x.size < t.size := kid_size (by rw [hxy]; simp)
          have hy : y.size < t.size := kid_size (by rw [hxy]; simp)
          have g0 : t.Kids[0]? = some x := by rw [hxy]; rfl
          have g1 : t.Kids[1]? = some y := by rw [hxy]; rfl
          have hsum : t.size = 1 + (t.Conj.map T_api_Pred.size).sum + (x.size + y.size) := by rw [tsize_eq, hxy]; simp
          let o : T_api_Tree := ⟨t.Kind, 0, [k, y], t.Conj, false⟩
          have ho : o.size = 1 + (t.Conj.map T_api_Pred.size).sum + (k.size + y.size) := by rw [tsize_eq]; simp [o]
          let f := nodeS m.Kind m.Edges m.Stats
          have c := fun (z : T_api_Tree) (h : z.size ≤ 1000000000) => cost_Tree_eq m hE z h
          rw [c t (by omega), g0, g1]
          simp -implicitDefEqProofs only [Option.bind_some]
          rw [c x (by omega), c y (by omega), c k (by omega), c ⟨t.Kind, 0, [k, y], t.Conj, false⟩ (by show o.size ≤ _; omega)]
          simp -implicitDefEqProofs only [Option.bind_some]
          have hkids := cost_kids f hxy
          rw [BitVec.le_def, BitVec.le_def] at hkids
          rw [if_neg (by simp only [decide_eq_true_eq, BitVec.lt_def]; show ¬ (costS f t).toNat < (costS f x).toNat; omega), if_neg (by simp only [decide_eq_true_eq, BitVec.lt_def]; show ¬ (costS f t).toNat < (costS f y).toNat; omega)]
          rw [ref10_Tables_eq k (by omega), ref10_Tables_eq x (by omega)]
          simp -implicitDefEqProofs only [Option.bind_some]
          by_cases htab : tabs k = tabs x
          · rw [if_neg (by simp [htab])]
            have hless : costS f k ≤ costS f x → costS f o ≤ costS f t := fun h => cost_swap f hxy rfl rfl htab rfl h (set_le_refl _)
            have hmore : costS f x ≤ costS f k → costS f t ≤ costS f o := fun h => cost_swap f (t := o) (o := t) (x := k) (y := y) rfl hxy rfl htab.symm rfl h (set_le_refl _)
            by_cases hle : costS f k ≤ costS f x
            · rw [if_pos (decide_eq_true (show costS (nodeS m.Kind m.Edges m.Stats) k ≤ costS (nodeS m.Kind m.Edges m.Stats) x from hle)), if_pos (decide_eq_true (show costS (nodeS m.Kind m.Edges m.Stats) ⟨t.Kind, 0, [k, y], t.Conj, false⟩ ≤ costS (nodeS m.Kind m.Edges m.Stats) t from hless hle))]
              by_cases hge : costS f x ≤ costS f k
              · rw [if_pos (decide_eq_true (show costS (nodeS m.Kind m.Edges m.Stats) k ≥ costS (nodeS m.Kind m.Edges m.Stats) x from hge)), if_pos (decide_eq_true (show costS (nodeS m.Kind m.Edges m.Stats) ⟨t.Kind, 0, [k, y], t.Conj, false⟩ ≥ costS (nodeS m.Kind m.Edges m.Stats) t from hmore hge)), haw]; rfl
              · rw [if_neg (by simp only [decide_eq_true_eq]; exact hge), haw]; rfl
            · rw [if_neg (by simp only [decide_eq_true_eq]; exact hle)]
              by_cases hge : costS f x ≤ costS f k
              · rw [if_pos (decide_eq_true (show costS (nodeS m.Kind m.Edges m.Stats) k ≥ costS (nodeS m.Kind m.Edges m.Stats) x from hge)), if_pos (decide_eq_true (show costS (nodeS m.Kind m.Edges m.Stats) ⟨t.Kind, 0, [k, y], t.Conj, false⟩ ≥ costS (nodeS m.Kind m.Edges m.Stats) t from hmore hge)), haw]; rfl
              · rw [if_neg (by simp only [decide_eq_true_eq]; exact hge), haw]; rfl
          · rw [if_pos (by simp [htab]), haw]; rfl
        · rw [if_pos (by simp; omega), haw]; rfl
      · rw [if_pos (by simp; omega), haw]; rfl
    · rw [if_pos (by simp; omega), haw]; rfl
  · rw [if_neg hb, haw]; rfl
end Go.Proofs.Ytcfekacmmfdggaa.G
set_option linter.unusedVariables false
set_option linter.unusedSimpArgs false
namespace Go.Proofs.Ytcfekacmmfdggaa.G
open Go.ChangeShapes Go.WideShapes Go.ChangeAt Go.RowKit

theorem memOk0 (μ : TypeId → Bool) (w : World) : MemOk gE (mE μ) w := by
  constructor <;> intros <;> simp_all [gE, mE]
theorem imm0 (b n : Nat) : Imm gE b n := ⟨fun l h => by simp [gE] at h, fun id h => by simp [gE] at h⟩

/-- **A law's function that tells true: a call's fact.** -/
theorem Fn.law {P : Program} {f : FuncId} {args : List AV} {vs : Array Value} {w : World} (h : Fn P f args (.bool true)) (hr : Reps gE w args vs) :
    Calls P f vs w fun e w' => e = .returned (.bool true) ∧ Below w.heap.size w w' := by
  have h0 := h (mE fun _ => false)
  refine (callsIn_wide.1 (h0.2.2 gE w vs ⟨fun _ _ _ => rfl, fun _ _ _ => rfl⟩ (memOk0 _ w) hr)).mono ?_
  rintro e w' ⟨v, g', rfl, hs, hm, hv⟩
  rw [hv.atom_inv]
  exact ⟨rfl, hs.os, hs.tape, hs.output, hs.size, fun b hb => hs.same b hb (fun l h => by simp [mE] at h) (fun l h => by simp [mE] at h)⟩

theorem Reps.nil {g : Gh} {w : World} : Reps g w [] #[] := ⟨rfl, fun j c v h => by cases h⟩
theorem Reps.cons {g : Gh} {w : World} {a : AV} {v : Value} {as_ : List AV} {vs : List Value} (h : Rep g w a v) (hs : Reps g w as_ vs.toArray) : Reps g w (a :: as_) (v :: vs).toArray := by
  refine ⟨by have := hs.1; simp at this ⊢; omega, fun j c x hc hx => ?_⟩
  cases j with
  | zero => simp at hc hx; subst hc hx; exact h
  | succ j => simp at hc hx; exact hs.2 j c x hc (by simpa using hx)

/-- A type's value out of its cells. -/
def ofCells (P : Program) (t : TypeId) (cs : List AV) : Option AV :=
  match aggT P t with
  | some true => some (.agg cs)
  | some false => match cs with
    | [c] => some c
    | _ => none
  | none => none
/-- Data of a type: numbers, truths, texts; rows and structs of these. -/
inductive Wt (P : Program) : TypeId → List AV → Prop
  | bool (t : TypeId) (b : Bool) (ht : P.underlying t = some .bool) : Wt P t [.atom (.bool b)]
  | int (t : TypeId) (k : IntKind) (n : Int) (ht : P.underlying t = some (.int k)) (h : k.min ≤ n ∧ n ≤ k.max) : Wt P t [.atom (.int k n)]
  | string (t : TypeId) (s : ByteArray) (ht : P.underlying t = some .string) (h : s.size ≤ maxLen) : Wt P t [.atom (.string s)]
  | slice (t e : TypeId) (es : List AV) (ht : P.underlying t = some (.slice e)) (hl : es.length ≤ maxLen) (h : ∀ x ∈ es, Wt P e x.cells) (hf : ∀ x ∈ es, ofCells P e x.cells = some x) : Wt P t [.slice .foreign es]
  | struct (t : TypeId) (fs : Array Field) (cs : List AV) (ht : P.underlying t = some (.struct fs)) (hl : cs.length = P.cellsOf t) (h : ∀ (i : Nat) (f : Field), fs[i]? = some f → Wt P f.type ((cs.drop f.offset).take (P.cellsOf f.type))) : Wt P t cs
  | array (t e : TypeId) (n : Nat) (cs : List AV) (ht : P.underlying t = some (.array n e)) (hl : cs.length = P.cellsOf t) (h : ∀ i, i < n → Wt P e ((cs.drop (i * P.cellsOf e)).take (P.cellsOf e))) : Wt P t cs

/-- Parts one behind the other. -/
def tiles : Nat → List (Nat × Nat) → Option Nat
  | k, [] => some k
  | k, (o, s) :: l => if o = k then tiles (k + s) l else none
/-- Types of data, and all that are within. -/
def plainT (P : Program) (S : List TypeId) : Bool := S.all fun t => match P.underlying t with
  | some .bool | some (.int _) | some .string => P.cellsOf t == 1
  | some (.slice e) => S.contains e && decide (0 < P.cellsOf e) && P.cellsOf t == 1
  | some (.struct fs) => (fs.all fun f => S.contains f.type) && tiles 0 (fs.toList.map fun f => (f.offset, P.cellsOf f.type)) == some (P.cellsOf t)
  | some (.array n e) => S.contains e && tiles 0 ((List.range n).map fun i => (i * P.cellsOf e, P.cellsOf e)) == some (P.cellsOf t)
  | _ => false

section
variable {H : Type} {enc : TypeId × Value → H} {P : Program} {W : World} {base b0 : Nat} {spare : Nat → Bool} {held : Bool} {r : Reach}

theorem cells?_get {w : World} {a : Addr} {n : Nat} {cs : List Value} (h : w.cells? base a n = some cs) : cs.length = n ∧ ∀ (j : Nat) (v : Value), cs[j]? = some v → w.cell? (a.add j) = some v := by
  unfold World.cells? at h
  split at h
  · have h1 := mapM_some_length h
    refine ⟨by simpa using h1, fun j v hj => ?_⟩
    have hlt : j < n := by rw [← List.length_range (n := n), ← h1]; exact (List.getElem?_eq_some_iff.1 hj).1
    rw [mapM_some_get h j j (by simp [hlt])]; exact hj
  · cases h

/-- Each part of cells that stand for values. -/
def CellsRep (w : World) (as_ : List AV) (cs : List Value) : Prop := as_.length = cs.length ∧ (∀ c ∈ as_, c.one = true) ∧ ∀ (j : Nat) (a : AV) (v : Value), as_[j]? = some a → cs[j]? = some v → Rep gE w a v

theorem tiles_le : ∀ {l : List (Nat × Nat)} {k n : Nat}, tiles k l = some n → k ≤ n := by
  intro l
  induction l with
  | nil => intro k n h; simp [tiles] at h; omega
  | cons x l ih =>
    intro k n h
    obtain ⟨o, s⟩ := x
    simp only [tiles] at h
    split at h
    · have := ih h; omega
    · cases h
theorem tile {w : World} {cs : List Value} {n : Nat} (hn : cs.length = n) : ∀ (l : List (Nat × Nat)) (k : Nat) (Q : Nat → List AV → Prop), tiles k l = some n → (∀ (i o s : Nat), l[i]? = some (o, s) → ∃ as_, CellsRep w as_ ((cs.drop o).take s) ∧ Q i as_) →
    ∃ as_, CellsRep w as_ (cs.drop k) ∧ ∀ (i o s : Nat), l[i]? = some (o, s) → k ≤ o ∧ Q i ((as_.drop (o - k)).take s) := by
  intro l
  induction l with
  | nil =>
    intro k Q h _
    simp [tiles] at h
    subst h
    exact ⟨[], ⟨by simp; omega, by simp, fun j a v h => by simp at h⟩, fun i o s h => by simp at h⟩
  | cons x l ih =>
    intro k Q h hp
    obtain ⟨o, s⟩ := x
    simp only [tiles] at h
    split at h
    · rename_i hok
      subst hok
      have hle := tiles_le h
      obtain ⟨as0, ⟨h1, h2, h3⟩, hq⟩ := hp 0 o s rfl
      obtain ⟨as1, ⟨h4, h5, h6⟩, hq1⟩ := ih (o + s) (fun i => Q (i + 1)) h (fun i o' s' hi => hp (i + 1) o' s' (by simpa using hi))
      have hl0 : as0.length = s := by rw [h1]; simp; omega
      refine ⟨as0 ++ as1, ⟨by simp [hl0, h4]; omega, fun c hc => (List.mem_append.1 hc).elim (h2 c) (h5 c), fun j a v ha hv => ?_⟩, fun i o' s' hi => ?_⟩
      · rw [List.getElem?_drop] at hv
        by_cases hj : j < s
        · rw [List.getElem?_append_left (by omega)] at ha
          exact h3 j a v ha (by rw [List.getElem?_take_of_lt hj, List.getElem?_drop]; exact hv)
        · rw [List.getElem?_append_right (by omega), hl0] at ha
          exact h6 (j - s) a v ha (by rw [List.getElem?_drop, ← hv]; congr 1; omega)
      · cases i with
        | zero =>
          simp at hi
          obtain ⟨rfl, rfl⟩ := hi
          refine ⟨Nat.le_refl _, ?_⟩
          rw [Nat.sub_self, List.drop_zero, List.take_append_of_le_length (by omega), List.take_of_length_le (by omega)]
          exact hq
        | succ i =>
          obtain ⟨h7, h8⟩ := hq1 i o' s' (by simpa using hi)
          refine ⟨by omega, ?_⟩
          have : o' - o = s + (o' - (o + s)) := by omega
          have hd : List.drop (s + (o' - (o + s))) as0 = [] := List.drop_eq_nil_of_le (by omega)
          rw [this, List.drop_append, hd, hl0, List.nil_append, show s + (o' - (o + s)) - s = o' - (o + s) from by omega]
          exact h8
    · cases h

theorem ofCells_cells {t : TypeId} {cs : List AV} {x : AV} (h : ofCells P t cs = some x) (ho : ∀ c ∈ cs, c.one = true) : x.cells = cs := by
  unfold ofCells at h
  split at h
  · injection h with h; subst h; rfl
  · split at h
    · injection h with h; subst h
      rename_i c
      have := ho c (by simp)
      cases c <;> first | rfl | (simp [AV.one] at this)
    · cases h
  · cases h

/-- **What the caller's data is.** -/
theorem reads {S : List TypeId} (hS : plainT P S = true) : ∀ (fuel : Nat) (t : TypeId) (cs : List Value) (x : DataW H × List MemPlace), t ∈ S → DataW.trod enc P W base spare held fuel t cs = some x → ∃ as_, CellsRep W as_ cs ∧ Wt P t as_ ∧ cs.length = P.cellsOf t := by
  intro fuel
  induction fuel with
  | zero => intro t cs x _ h; simp [DataW.trod] at h
  | succ fuel ih =>
    intro t cs x ht h
    have hp := List.all_eq_true.1 hS t ht
    have one1 : ∀ (a : AV) (v : Value), a.one = true → Rep gE W a v → CellsRep W [a] [v] := fun a v ho hr => ⟨rfl, by simpa using ho, fun j a' v' h1 h2 => by
      cases j with
      | zero => simp at h1 h2; subst h1 h2; exact hr
      | succ j => simp at h1⟩
    split at hp
    · rename_i hu
      obtain ⟨b, rfl, _⟩ := DataW.trod_bool hu h
      exact ⟨_, one1 _ _ rfl (.atom (.bool b) rfl), .bool t b hu, by simp at hp ⊢; exact hp.symm⟩
    · rename_i k hu
      obtain ⟨n, rfl, _, hw⟩ := DataW.trod_int hu h
      exact ⟨_, one1 _ _ rfl (.atom (.int k n) rfl), .int t k n hu (by simpa [Lit.wf] using hw), by simp at hp ⊢; exact hp.symm⟩
    · rename_i hu
      obtain ⟨s, rfl, _, hw⟩ := DataW.trod_string hu h
      exact ⟨_, one1 _ _ rfl (.atom (.string s) rfl), .string t s hu hw, by simp at hp ⊢; exact hp.symm⟩
    · rename_i e hu
      simp only [Bool.and_eq_true, decide_eq_true_eq, List.contains_iff_mem, beq_iff_eq] at hp
      obtain ⟨⟨he, hz⟩, hct⟩ := hp
      rcases DataW.trod_slice hu h with ⟨rfl, _⟩ | ⟨a, len, cap, elems, rest, n, hn, rfl, _, hb, hl, hm, hlen, hel, _, _⟩
      · exact ⟨_, one1 _ _ rfl (.nil .foreign none 0 (fun id h => by cases h) (fun h => by cases h)), .slice t e [] hu (by simp) (by simp) (by simp), by simp [hct]⟩
      · obtain rfl : fuel = n := by omega
        -- the elements
        have each : ∀ i, i < len → ∃ (cs : List Value) (as_ : List AV), W.cells? base (a.add (i * P.cellsOf e)) (P.cellsOf e) = some cs ∧ CellsRep W as_ cs ∧ Wt P e as_ ∧ cs.length = P.cellsOf e := by
          intro i hi
          have h1 := hel i hi
          obtain ⟨y, hy⟩ : ∃ y, elems[i]? = some y := ⟨_, List.getElem?_eq_getElem (by omega)⟩
          rw [hy, Option.bind_eq_some_iff] at h1
          obtain ⟨cs, h2, h3⟩ := h1
          obtain ⟨as_, h4, h5, h6⟩ := ih e cs y he h3
          exact ⟨cs, as_, h2, h4, h5, h6⟩
        have fm : ∀ cs, Wt P e cs → ∃ x, ofCells P e cs = some x := by
          intro cs hw
          unfold ofCells aggT
          cases hw with
          | bool t b ht => rw [ht]; exact ⟨_, rfl⟩
          | int t k n ht _ => rw [ht]; exact ⟨_, rfl⟩
          | string t s ht _ => rw [ht]; exact ⟨_, rfl⟩
          | slice t e es ht _ _ _ => rw [ht]; exact ⟨_, rfl⟩
          | struct t fs cs ht _ _ => rw [ht]; exact ⟨_, rfl⟩
          | array t e n cs ht _ _ => rw [ht]; exact ⟨_, rfl⟩
        have each2 : ∀ i, ∃ x : AV, i < len → ∃ cs, W.cells? base (a.add (i * P.cellsOf e)) (P.cellsOf e) = some cs ∧ CellsRep W x.cells cs ∧ Wt P e x.cells ∧ ofCells P e x.cells = some x ∧ x.cells.length = P.cellsOf e := by
          intro i
          by_cases hi : i < len
          · obtain ⟨cs, as_, h1, h2, h3, h4⟩ := each i hi
            obtain ⟨x, hx⟩ := fm as_ h3
            have hxc := ofCells_cells hx h2.2.1
            exact ⟨x, fun _ => ⟨cs, h1, by rw [hxc]; exact h2, by rw [hxc]; exact h3, by rw [hxc]; exact hx, by rw [hxc, h2.1, h4]⟩⟩
          · exact ⟨.undef, fun h => absurd h hi⟩
        obtain ⟨el, hel2⟩ := Classical.axiomOfChoice each2
        have hes : ∀ (i : Nat) (x : AV), ((List.range len).map el)[i]? = some x → i < len ∧ x = el i := by
          intro i x hx
          rw [List.getElem?_map] at hx
          cases hr : (List.range len)[i]? with
          | none => rw [hr] at hx; cases hx
          | some j =>
            rw [hr] at hx; injection hx with hx
            obtain ⟨h1, h2⟩ := List.getElem?_eq_some_iff.1 hr
            simp at h1 h2; subst h2; exact ⟨h1, hx.symm⟩
        have hmem : ∀ x ∈ (List.range len).map el, ∃ i, i < len ∧ x = el i := by
          intro x hx
          obtain ⟨i, hi, rfl⟩ := List.mem_map.1 hx
          exact ⟨i, by simpa using hi, rfl⟩
        refine ⟨[.slice .foreign ((List.range len).map el)], one1 _ _ rfl ?_, .slice t e _ hu (by simp; omega) (fun x hx => ?_) (fun x hx => ?_), by simp [hct]⟩
        · by_cases h0 : len = 0
          · subst h0; exact .nil .foreign _ _ (fun id h => by cases h) (fun h => by cases h)
          · have hspot : a.spot = none := by
              obtain ⟨cs, h1, h2, _, _, h3⟩ := hel2 0 (by omega)
              have hcl : 0 < cs.length := by rw [← h2.1, h3]; exact hz
              have h4 := (cells?_get h1).2 0 _ (List.getElem?_eq_getElem hcl)
              unfold World.cell? at h4
              split at h4
              · split at h4
                · cases h4
                · rename_i hs
                  obtain ⟨b, o, sp⟩ := a
                  cases sp with
                  | none => rfl
                  | some s => simp [Addr.add] at hs
              · cases h4
            obtain ⟨b, o, sp⟩ := a
            dsimp only at hspot
            subst hspot
            have hlm : ((List.range len).map el).length = len := by simp
            have key : Rep gE W (.slice .foreign ((List.range len).map el)) (.slice (some ⟨b, o, none⟩) ((List.range len).map el).length cap) := by
              refine Rep.slice_mk hz (fun x hx => ?_) (fun _ => imm0 _ _) (fun i x hx => ?_) (by rw [hlm]; exact hl) trivial
              · obtain ⟨i, hi, rfl⟩ := hmem x hx
                obtain ⟨cs, _, _, _, _, h3⟩ := hel2 i hi
                exact h3
              · obtain ⟨hi, rfl⟩ := hes i x hx
                obtain ⟨cs, h1, h2, _, _, h3⟩ := hel2 i hi
                refine ⟨h2.2.1, fun j c hj => ?_⟩
                have hlt : j < cs.length := by rw [← h2.1]; exact (List.getElem?_eq_some_iff.1 hj).1
                have h4 := (cells?_get h1).2 j _ (List.getElem?_eq_getElem hlt)
                rw [add_plain, add_plain] at h4
                exact ⟨_, h4, h2.2.2 j c _ hj (List.getElem?_eq_getElem hlt)⟩
            rw [hlm] at key
            exact key
        · obtain ⟨i, hi, rfl⟩ := hmem x hx
          obtain ⟨cs, _, _, h3, _, _⟩ := hel2 i hi
          exact h3
        · obtain ⟨i, hi, rfl⟩ := hmem x hx
          obtain ⟨cs, _, _, _, h3, _⟩ := hel2 i hi
          exact h3
    · rename_i fs hu
      simp only [Bool.and_eq_true, beq_iff_eq] at hp
      obtain ⟨hp1, hp2⟩ := hp
      obtain ⟨xs, n, hn, _, hl, hxl, hf⟩ := DataW.trod_struct hu h
      obtain rfl : fuel = n := by omega
      obtain ⟨as_, h1, h2⟩ := tile (w := W) hl _ 0 (fun i as_ => ∀ f, fs[i]? = some f → Wt P f.type as_) hp2 (fun i o s hi => by
        rw [List.getElem?_map] at hi
        cases hfi : fs.toList[i]? with
        | none => rw [hfi] at hi; cases hi
        | some f =>
          rw [hfi] at hi; injection hi with hi; injection hi with e1 e2; subst e1 e2
          have hfi' : fs[i]? = some f := by simpa using hfi
          have h3 := hf i f hfi'
          obtain ⟨y, hy⟩ : ∃ y, xs[i]? = some y := ⟨_, List.getElem?_eq_getElem (by rw [hxl]; exact (Array.getElem?_eq_some_iff.1 hfi').1)⟩
          rw [hy] at h3
          have hmem : f.type ∈ S := by
            rw [← Array.all_toList] at hp1
            simpa using List.all_eq_true.1 hp1 f (List.mem_of_getElem? hfi)
          obtain ⟨as_, h4, h5, h6⟩ := ih _ _ _ hmem h3
          exact ⟨as_, h4, fun f' hf' => by rw [hfi'] at hf'; injection hf' with hf'; subst hf'; exact h5⟩)
      refine ⟨as_, by simpa using h1, .struct t fs as_ hu (by rw [h1.1]; simpa using hl) (fun i f hfi => ?_), hl⟩
      have := (h2 i f.offset (P.cellsOf f.type) (by simp [hfi])).2 f hfi
      simpa using this
    · rename_i m e hu
      simp only [Bool.and_eq_true, beq_iff_eq, List.contains_iff_mem] at hp
      obtain ⟨hp1, hp2⟩ := hp
      obtain ⟨xs, n, hn, _, hl, hxl, hf⟩ := DataW.trod_array hu h
      obtain rfl : fuel = n := by omega
      obtain ⟨as_, h1, h2⟩ := tile (w := W) hl _ 0 (fun i as_ => Wt P e as_) hp2 (fun i o s hi => by
        rw [List.getElem?_map] at hi
        cases hfi : (List.range m)[i]? with
        | none => rw [hfi] at hi; cases hi
        | some j =>
          rw [hfi] at hi; injection hi with hi; injection hi with e1 e2; subst e1 e2
          obtain ⟨q1, q2⟩ := List.getElem?_eq_some_iff.1 hfi
          simp at q1 q2; subst q2
          have h3 := hf i q1
          obtain ⟨y, hy⟩ : ∃ y, xs[i]? = some y := ⟨_, List.getElem?_eq_getElem (by omega)⟩
          rw [hy] at h3
          obtain ⟨as_, h4, h5, h6⟩ := ih _ _ _ hp1 h3
          exact ⟨as_, h4, h5⟩)
      refine ⟨as_, by simpa using h1, .array t e m as_ hu (by rw [h1.1]; simpa using hl) (fun i hi => ?_), hl⟩
      have := (h2 i (i * P.cellsOf e) (P.cellsOf e) (by simp [hi])).2
      simpa using this
    · cases hp

/-- A parameter. -/
theorem reads_param {S : List TypeId} (hS : plainT P S = true) {t : TypeId} {v : Value} {d : DataW H} {ps : List MemPlace} (ht : t ∈ S) (hval : Value.okWide P W r b0 t v) (hd : DataW.Trod enc P W base spare held t v d ps) : ∃ a as_, Rep gE W a v ∧ Wt P t as_ ∧ ofCells P t as_ = some a := by
  obtain ⟨fuel, hf⟩ := hd
  obtain ⟨as_, ⟨h1, h2, h3⟩, h4, h5⟩ := reads hS fuel t _ _ ht hf
  have single : (∀ cs, v ≠ .agg cs) → (∀ cs, v ≠ .tuple cs) → v.cells = #[v] := by
    intro ha hb
    cases v <;> first | rfl | (exact absurd rfl (ha _)) | (exact absurd rfl (hb _))
  have hp := List.all_eq_true.1 hS t ht
  unfold Value.okWide at hval
  cases hu : P.underlying t with
  | none => rw [hu] at hp; cases hp
  | some dsc =>
    have agg : (∃ cs, v = .agg cs ∧ cs.size = P.cellsOf t ∧ Row.okWide P W r b0 t cs) → aggT P t = some true → ∃ a as_, Rep gE W a v ∧ Wt P t as_ ∧ ofCells P t as_ = some a := by
      rintro ⟨cs, rfl, hsz, _⟩ hag
      refine ⟨.agg as_, as_, .agg as_ cs (by rw [h1]; simp [Value.cells]) h2 (fun j c u hj hu => h3 j c u hj (by simpa [Value.cells] using hu)), h4, ?_⟩
      unfold ofCells
      rw [hag]
    have one1 : aggT P t = some false → P.cellsOf t = 1 → (∃ u, v.cells = #[u] ∧ u = v) → ∃ a as_, Rep gE W a v ∧ Wt P t as_ ∧ ofCells P t as_ = some a := by
      rintro hag hct ⟨u, hu, rfl⟩
      have hl : as_.length = 1 := by rw [h1, hu]; rfl
      obtain ⟨a, rfl⟩ : ∃ a, as_ = [a] := by
        match as_, hl with
        | [a], _ => exact ⟨a, rfl⟩
      refine ⟨a, [a], h3 0 a u rfl (by rw [hu]; rfl), h4, ?_⟩
      unfold ofCells
      rw [hag]
    have scal : aggT P t = some false → Cell.okWide P W r b0 t v → P.cellsOf t = 1 → ∃ a as_, Rep gE W a v ∧ Wt P t as_ ∧ ofCells P t as_ = some a := by
      intro hag hc hct
      have no : ∀ cs, v ≠ .agg cs ∧ v ≠ .tuple cs := by
        intro cs
        refine ⟨fun e => ?_, fun e => ?_⟩ <;>
        · subst e
          simp only [Cell.okWide, Cell.ok, hu] at hc
      exact one1 hag hct ⟨v, single (fun cs => (no cs).1) (fun cs => (no cs).2), rfl⟩
    rw [hu] at hval hp
    have hs : ∀ b, (match dsc with | .struct _ => true | .array _ _ => true | _ => false) = b → aggT P t = some b := by
      intro b hb
      unfold aggT
      simp only [hu]
      cases dsc <;> simp_all
    cases dsc <;> first | (cases hp; done) | (exact agg hval (hs _ rfl)) | skip
    · exact scal (hs _ rfl) hval (by simpa using hp)
    · exact scal (hs _ rfl) hval (by simpa using hp)
    · exact scal (hs _ rfl) hval (by simpa using hp)
    · simp only [Bool.and_eq_true, beq_iff_eq] at hp; exact scal (hs _ rfl) hval hp.2
end
end Go.Proofs.Ytcfekacmmfdggaa.G
set_option linter.unusedVariables false
set_option linter.unusedSimpArgs false
namespace Go.Proofs.Ytcfekacmmfdggaa.G

def structT (P : Program) (t : TypeId) : Option (List (TypeId × Nat × Nat)) := match P.underlying t with
  | some (.struct fs) => some (fs.toList.map fun f => (f.type, f.offset, P.cellsOf f.type))
  | _ => none
theorem Wt.int_inv {P : Program} {t : TypeId} {k : IntKind} {cs : List AV} (ht : P.underlying t = some (.int k)) (h : Wt P t cs) : ∃ n, cs = [.atom (.int k n)] ∧ k.min ≤ n ∧ n ≤ k.max := by
  cases h <;> rename_i h1 <;> simp_all
theorem Wt.bool_inv {P : Program} {t : TypeId} {cs : List AV} (ht : P.underlying t = some .bool) (h : Wt P t cs) : ∃ b, cs = [.bool b] := by
  cases h <;> rename_i h1 <;> simp_all
theorem Wt.slice_inv {P : Program} {t e : TypeId} {cs : List AV} (ht : P.underlying t = some (.slice e)) (h : Wt P t cs) : ∃ es, cs = [.slice .foreign es] ∧ es.length ≤ maxLen ∧ (∀ x ∈ es, Wt P e x.cells) ∧ ∀ x ∈ es, ofCells P e x.cells = some x := by
  cases h <;> rename_i h1 <;> simp_all
theorem Wt.struct_inv {P : Program} {t : TypeId} {cs : List AV} {l : List (TypeId × Nat × Nat)} (ht : structT P t = some l) (h : Wt P t cs) : cs.length = P.cellsOf t ∧ ∀ (i : Nat) (ty off sz : Nat), l[i]? = some (ty, off, sz) → Wt P ty ((cs.drop off).take sz) := by
  unfold structT at ht
  split at ht
  · rename_i fs hu
    injection ht with ht; subst ht
    cases h <;> rename_i h1 <;> simp_all
    rename_i h2
    intro i ty off sz x hx e1 e2 e3
    subst e1 e2 e3
    exact h2 i x hx
  · cases ht
theorem uncons {α : Type} {cs : List α} {n : Nat} (h : cs.length = n + 1) : ∃ c tl, cs = c :: tl ∧ tl.length = n := by
  cases cs with
  | nil => simp at h
  | cons c tl => exact ⟨c, tl, rfl, by simpa using h⟩
theorem Wt.i64 {P : Program} {t : TypeId} {c : AV} (ht : P.underlying t = some (.int .i64)) (h : Wt P t [c]) : ∃ n, c = .i64 n := by
  obtain ⟨n, hn, _⟩ := h.int_inv ht
  injection hn with hn; exact ⟨n, hn⟩
theorem Wt.b {P : Program} {t : TypeId} {c : AV} (ht : P.underlying t = some .bool) (h : Wt P t [c]) : ∃ n, c = .bool n := by
  obtain ⟨n, hn⟩ := h.bool_inv ht
  injection hn with hn; exact ⟨n, hn⟩
theorem rowsOf {P : Program} {e : TypeId} {α : Type} {f : α → AV} {G : α → Prop} (hagg : ∀ x, ofCells P e (f x).cells = some (f x)) {es : List AV} (h2 : ∀ x ∈ es, ∃ y, x.cells = (f y).cells ∧ G y) (h3 : ∀ x ∈ es, ofCells P e x.cells = some x) : ∃ l : List α, es = l.map f ∧ ∀ x ∈ l, G x := by
  induction es with
  | nil => exact ⟨[], rfl, by simp⟩
  | cons e es ih =>
    obtain ⟨l, rfl, hl⟩ := ih (fun x hx => h2 x (List.mem_cons_of_mem _ hx)) fun x hx => h3 x (List.mem_cons_of_mem _ hx)
    obtain ⟨x, hx, gx⟩ := h2 e (by simp)
    have := h3 e (by simp)
    rw [hx, hagg] at this
    injection this with this
    exact ⟨x :: l, by rw [← this]; rfl, fun y hy => (List.mem_cons.1 hy).elim (fun h => h ▸ gx) (hl y)⟩
theorem structT_field {P : Program} {t : TypeId} {fs : Array Field} {l : List (TypeId × Nat × Nat)} {i ty off sz : Nat} (ht : structT P t = some l) (hu : P.underlying t = some (.struct fs)) (hi : l[i]? = some (ty, off, sz)) : ∃ f, fs[i]? = some f ∧ f.type = ty ∧ f.offset = off ∧ P.cellsOf f.type = sz := by
  unfold structT at ht
  rw [hu] at ht
  injection ht with ht; subst ht
  simp at hi
  obtain ⟨f, hf, h1, h2, h3⟩ := hi
  exact ⟨f, hf, h1, h2, h3⟩
theorem structT_u {P : Program} {t : TypeId} {l : List (TypeId × Nat × Nat)} (ht : structT P t = some l) : ∃ fs, P.underlying t = some (.struct fs) := by
  unfold structT at ht
  split at ht
  · exact ⟨_, by assumption⟩
  · cases ht
theorem u64_mk {n : Int} (h1 : IntKind.u64.min ≤ n) (h2 : n ≤ IntKind.u64.max) : AV.u64 n = .w (BitVec.ofNat 64 n.toNat) := by
  have e1 : IntKind.u64.min = 0 := by decide
  have e2 : IntKind.u64.max = 18446744073709551615 := by decide
  rw [e1] at h1; rw [e2] at h2
  simp only [AV.w, BitVec.toNat_ofNat]
  congr 2; omega
theorem Wt.w {P : Program} {t : TypeId} {c : AV} (ht : P.underlying t = some (.int .u64)) (h : Wt P t [c]) : ∃ s, c = .w s := by
  obtain ⟨n, hn, h1, h2⟩ := h.int_inv ht
  injection hn with hn; subst hn
  exact ⟨_, u64_mk h1 h2⟩
theorem all_cells {P : Program} {t : TypeId} {cs : List AV} {a : AV} (h1 : aggT P t = some true) (h2 : ofCells P t cs = some a) : a = .agg cs := by
  unfold ofCells at h2
  rw [h1] at h2
  injection h2 with h2; exact h2.symm
theorem agg_of {P : Program} {t : TypeId} {cs : List AV} (h : aggT P t = some true) : ofCells P t (AV.agg cs).cells = some (.agg cs) := by
  unfold ofCells
  rw [h]; rfl
theorem one_of {P : Program} {t : TypeId} {a : AV} (h : aggT P t = some false) (hc : a.cells = [a]) : ofCells P t a.cells = some a := by
  unfold ofCells
  rw [h, hc]
end Go.Proofs.Ytcfekacmmfdggaa.G
set_option linter.unusedVariables false
set_option linter.unusedSimpArgs false
set_option maxRecDepth 100000
namespace Go.Proofs.Ytcfekacmmfdggaa.G
theorem st_T_api_Value : structT Try.prog 62 = some [(4, 0, 1), (2, 1, 1)] := by kernel_rfl
theorem wt_T_api_Value {cs : List AV} (h : Wt Try.prog 62 cs) : ∃ x : T_api_Value, cs = x.C := by
  obtain ⟨hl, hf⟩ := h.struct_inv st_T_api_Value
  rw [show Try.prog.cellsOf 62 = 2 by kernel_rfl] at hl
  obtain ⟨c0, d0, rfl, hn0⟩ := uncons hl
  obtain ⟨c1, d1, rfl, hn1⟩ := uncons hn0
  obtain rfl := List.length_eq_zero_iff.1 hn1
  obtain ⟨v0, rfl⟩ := Wt.b (show Try.prog.underlying 4 = some (.bool) by kernel_rfl) (show Wt Try.prog 4 [c0] from hf 0 _ _ _ rfl)
  obtain ⟨v1, rfl⟩ := Wt.i64 (show Try.prog.underlying 2 = some (.int .i64) by kernel_rfl) (show Wt Try.prog 2 [c1] from hf 1 _ _ _ rfl)
  exact ⟨⟨v0, v1⟩, rfl⟩
theorem st_T_api_Term : structT Try.prog 64 = some [(3, 0, 1), (3, 1, 1), (3, 2, 1), (62, 3, 2)] := by kernel_rfl
theorem wt_T_api_Term {cs : List AV} (h : Wt Try.prog 64 cs) : ∃ x : T_api_Term, cs = x.C := by
  obtain ⟨hl, hf⟩ := h.struct_inv st_T_api_Term
  rw [show Try.prog.cellsOf 64 = 5 by kernel_rfl] at hl
  obtain ⟨c0, d0, rfl, hn0⟩ := uncons hl
  obtain ⟨c1, d1, rfl, hn1⟩ := uncons hn0
  obtain ⟨c2, d2, rfl, hn2⟩ := uncons hn1
  obtain ⟨c3, d3, rfl, hn3⟩ := uncons hn2
  obtain ⟨c4, d4, rfl, hn4⟩ := uncons hn3
  obtain rfl := List.length_eq_zero_iff.1 hn4
  obtain ⟨v0, rfl⟩ := Wt.i64 (show Try.prog.underlying 3 = some (.int .i64) by kernel_rfl) (show Wt Try.prog 3 [c0] from hf 0 _ _ _ rfl)
  obtain ⟨v1, rfl⟩ := Wt.i64 (show Try.prog.underlying 3 = some (.int .i64) by kernel_rfl) (show Wt Try.prog 3 [c1] from hf 1 _ _ _ rfl)
  obtain ⟨v2, rfl⟩ := Wt.i64 (show Try.prog.underlying 3 = some (.int .i64) by kernel_rfl) (show Wt Try.prog 3 [c2] from hf 2 _ _ _ rfl)
  obtain ⟨v3, hv3⟩ := wt_T_api_Value (show Wt Try.prog 62 [c3, c4] from hf 3 _ _ _ rfl); simp only [T_api_Value.C, List.cons.injEq, and_true] at hv3; obtain ⟨rfl, rfl⟩ := hv3
  exact ⟨⟨v0, v1, v2, v3⟩, rfl⟩
theorem st_T_api_Pred : structT Try.prog 66 = some [(3, 0, 1), (3, 1, 1), (3, 2, 1), (64, 3, 5), (64, 8, 5), (29, 13, 1)] := by kernel_rfl
theorem wt_T_api_Pred' {t : TypeId} {cs : List AV} (h : Wt Try.prog t cs) : (t = 66 → ∃ x : T_api_Pred, cs = x.C) ∧ (t = 29 → ∃ xs : List T_api_Pred, cs = [.slice .foreign (xs.map T_api_Pred.av)] ∧ xs.length < 9223372036854775808) := by
  obtain ⟨fs, hfs⟩ := structT_u st_T_api_Pred
  have hs29 : Try.prog.underlying 29 = some (.slice 66) := by kernel_rfl
  induction h with
  | bool t b ht => exact ⟨fun h => by (subst h; rw [hfs] at ht; cases ht), fun h => by (subst h; rw [hs29] at ht; cases ht)⟩
  | int t b n ht => exact ⟨fun h => by (subst h; rw [hfs] at ht; cases ht), fun h => by (subst h; rw [hs29] at ht; cases ht)⟩
  | string t b ht => exact ⟨fun h => by (subst h; rw [hfs] at ht; cases ht), fun h => by (subst h; rw [hs29] at ht; cases ht)⟩
  | array t b n cs ht => exact ⟨fun h => by (subst h; rw [hfs] at ht; cases ht), fun h => by (subst h; rw [hs29] at ht; cases ht)⟩
  | slice t e es ht hl h hf ih =>
    refine ⟨fun h => by (subst h; rw [hfs] at ht; cases ht), fun h => ?_⟩
    · subst h
      rw [hs29] at ht
      injection ht with ht; injection ht with ht; subst ht
      obtain ⟨l, rfl, _⟩ := rowsOf (P := Try.prog) (f := T_api_Pred.av) (G := fun _ => True) (fun x => by rw [T_api_Pred.av_eq]; exact agg_of (by kernel_rfl)) (fun x hx => let ⟨y, hy⟩ := (ih x hx).1 rfl; ⟨y, by rw [hy, T_api_Pred.av_eq]; rfl, trivial⟩) hf
      exact ⟨l, rfl, by simp [maxLen] at hl; omega⟩
  | struct t fs' cs ht hl h ih =>
    refine ⟨fun e => ?_, fun h => by (subst h; rw [hs29] at ht; cases ht)⟩
    subst e
    obtain ⟨_, hf⟩ := (Wt.struct _ _ _ ht hl h).struct_inv st_T_api_Pred
    obtain ⟨f5, g1, g2, g3, g4⟩ := structT_field (i := 5) st_T_api_Pred ht rfl
    have hr5 := (ih 5 f5 g1).2 g2
    rw [g3, g4] at hr5
    clear g1 g2 g3 g4
    clear ih h
    rw [show Try.prog.cellsOf 66 = 14 by kernel_rfl] at hl
    obtain ⟨c0, d0, rfl, hn0⟩ := uncons hl
    obtain ⟨c1, d1, rfl, hn1⟩ := uncons hn0
    obtain ⟨c2, d2, rfl, hn2⟩ := uncons hn1
    obtain ⟨c3, d3, rfl, hn3⟩ := uncons hn2
    obtain ⟨c4, d4, rfl, hn4⟩ := uncons hn3
    obtain ⟨c5, d5, rfl, hn5⟩ := uncons hn4
    obtain ⟨c6, d6, rfl, hn6⟩ := uncons hn5
    obtain ⟨c7, d7, rfl, hn7⟩ := uncons hn6
    obtain ⟨c8, d8, rfl, hn8⟩ := uncons hn7
    obtain ⟨c9, d9, rfl, hn9⟩ := uncons hn8
    obtain ⟨c10, d10, rfl, hn10⟩ := uncons hn9
    obtain ⟨c11, d11, rfl, hn11⟩ := uncons hn10
    obtain ⟨c12, d12, rfl, hn12⟩ := uncons hn11
    obtain ⟨c13, d13, rfl, hn13⟩ := uncons hn12
    obtain rfl := List.length_eq_zero_iff.1 hn13
    obtain ⟨v0, rfl⟩ := Wt.i64 (show Try.prog.underlying 3 = some (.int .i64) by kernel_rfl) (show Wt Try.prog 3 [c0] from hf 0 _ _ _ rfl)
    obtain ⟨v1, rfl⟩ := Wt.i64 (show Try.prog.underlying 3 = some (.int .i64) by kernel_rfl) (show Wt Try.prog 3 [c1] from hf 1 _ _ _ rfl)
    obtain ⟨v2, rfl⟩ := Wt.i64 (show Try.prog.underlying 3 = some (.int .i64) by kernel_rfl) (show Wt Try.prog 3 [c2] from hf 2 _ _ _ rfl)
    obtain ⟨v3, hv3⟩ := wt_T_api_Term (show Wt Try.prog 64 [c3, c4, c5, c6, c7] from hf 3 _ _ _ rfl); simp only [T_api_Term.C, List.cons.injEq, and_true] at hv3; obtain ⟨rfl, rfl, rfl, rfl, rfl⟩ := hv3
    obtain ⟨v4, hv4⟩ := wt_T_api_Term (show Wt Try.prog 64 [c8, c9, c10, c11, c12] from hf 4 _ _ _ rfl); simp only [T_api_Term.C, List.cons.injEq, and_true] at hv4; obtain ⟨rfl, rfl, rfl, rfl, rfl⟩ := hv4
    obtain ⟨v5, ev5, _⟩ := hr5
    have ev5 : [c13] = _ := ev5
    injection ev5 with ev5; subst ev5
    exact ⟨⟨v0, v1, v2, v3, v4, v5⟩, rfl⟩
theorem wt_s29 {cs : List AV} (h : Wt Try.prog 29 cs) : ∃ l : List T_api_Pred, cs = [.slice .foreign (l.map T_api_Pred.av)] ∧ l.length < 9223372036854775808 := (wt_T_api_Pred' h).2 rfl
theorem st_T_api_Edge : structT Try.prog 93 = some [(3, 0, 1), (29, 1, 1), (32, 2, 1), (32, 3, 1), (32, 4, 1)] := by kernel_rfl
theorem wt_T_api_Edge {cs : List AV} (h : Wt Try.prog 93 cs) : ∃ x : T_api_Edge, cs = x.C := by
  obtain ⟨hl, hf⟩ := h.struct_inv st_T_api_Edge
  rw [show Try.prog.cellsOf 93 = 5 by kernel_rfl] at hl
  obtain ⟨c0, d0, rfl, hn0⟩ := uncons hl
  obtain ⟨c1, d1, rfl, hn1⟩ := uncons hn0
  obtain ⟨c2, d2, rfl, hn2⟩ := uncons hn1
  obtain ⟨c3, d3, rfl, hn3⟩ := uncons hn2
  obtain ⟨c4, d4, rfl, hn4⟩ := uncons hn3
  obtain rfl := List.length_eq_zero_iff.1 hn4
  obtain ⟨v0, rfl⟩ := Wt.i64 (show Try.prog.underlying 3 = some (.int .i64) by kernel_rfl) (show Wt Try.prog 3 [c0] from hf 0 _ _ _ rfl)
  obtain ⟨v1, e, _⟩ := wt_s29 (show Wt Try.prog 29 [c1] from hf 1 _ _ _ rfl); injection e with e; subst e
  obtain ⟨v2, rfl⟩ := Wt.w (show Try.prog.underlying 32 = some (.int .u64) by kernel_rfl) (show Wt Try.prog 32 [c2] from hf 2 _ _ _ rfl)
  obtain ⟨v3, rfl⟩ := Wt.w (show Try.prog.underlying 32 = some (.int .u64) by kernel_rfl) (show Wt Try.prog 32 [c3] from hf 3 _ _ _ rfl)
  obtain ⟨v4, rfl⟩ := Wt.w (show Try.prog.underlying 32 = some (.int .u64) by kernel_rfl) (show Wt Try.prog 32 [c4] from hf 4 _ _ _ rfl)
  exact ⟨⟨v0, v1, v2, v3, v4⟩, rfl⟩
theorem wt_s22 {cs : List AV} (h : Wt Try.prog 22 cs) : ∃ l : List T_api_Edge, cs = [.slice .foreign (l.map T_api_Edge.av)] ∧ l.length < 9223372036854775808 := by
  obtain ⟨es, hn, h1, h2, h3⟩ := h.slice_inv (show Try.prog.underlying 22 = some (.slice 93) by kernel_rfl)
  subst hn
  have hd : ∀ cs, Wt Try.prog 93 cs → ∃ y, cs = (T_api_Edge.av y).cells ∧ True := fun cs hc => let ⟨x, hx⟩ := wt_T_api_Edge hc; ⟨x, by first | (rw [hx, T_api_Edge.av_eq]; rfl) | (rw [hx]; rfl), trivial⟩
  obtain ⟨l, rfl, _⟩ := rowsOf (P := Try.prog) (f := T_api_Edge.av) (G := fun _ => True) (fun x => by first | (rw [T_api_Edge.av_eq]; exact agg_of (by kernel_rfl)) | exact agg_of (cs := T_api_Edge.C x) (by kernel_rfl)) (fun x hx => hd _ (h2 x hx)) h3
  exact ⟨l, rfl, by simp [maxLen] at h1; omega⟩
theorem wt_s23 {cs : List AV} (h : Wt Try.prog 23 cs) : ∃ l : List Set64, cs = [.slice .foreign (l.map AV.w)] ∧ l.length < 9223372036854775808 := by
  obtain ⟨es, hn, h1, h2, h3⟩ := h.slice_inv (show Try.prog.underlying 23 = some (.slice 32) by kernel_rfl)
  subst hn
  have hd : ∀ cs, Wt Try.prog 32 cs → ∃ y, cs = (AV.w y).cells ∧ True := fun cs hc => let ⟨n, hx, h1, h2⟩ := hc.int_inv (show Try.prog.underlying 32 = some (.int .u64) by kernel_rfl); ⟨BitVec.ofNat 64 n.toNat, by rw [hx, ← u64_mk h1 h2]; rfl, trivial⟩
  obtain ⟨l, rfl, _⟩ := rowsOf (P := Try.prog) (f := AV.w) (G := fun _ => True) (fun x => one_of (by kernel_rfl) rfl) (fun x hx => hd _ (h2 x hx)) h3
  exact ⟨l, rfl, by simp [maxLen] at h1; omega⟩
theorem st_T_api_Stats : structT Try.prog 25 = some [(23, 0, 1), (23, 1, 1)] := by kernel_rfl
theorem wt_T_api_Stats {cs : List AV} (h : Wt Try.prog 25 cs) : ∃ x : T_api_Stats, cs = x.C := by
  obtain ⟨hl, hf⟩ := h.struct_inv st_T_api_Stats
  rw [show Try.prog.cellsOf 25 = 2 by kernel_rfl] at hl
  obtain ⟨c0, d0, rfl, hn0⟩ := uncons hl
  obtain ⟨c1, d1, rfl, hn1⟩ := uncons hn0
  obtain rfl := List.length_eq_zero_iff.1 hn1
  obtain ⟨v0, e, _⟩ := wt_s23 (show Wt Try.prog 23 [c0] from hf 0 _ _ _ rfl); injection e with e; subst e
  obtain ⟨v1, e, _⟩ := wt_s23 (show Wt Try.prog 23 [c1] from hf 1 _ _ _ rfl); injection e with e; subst e
  exact ⟨⟨v0, v1⟩, rfl⟩
theorem st_T_cost_Model : structT Try.prog 27 = some [(3, 0, 1), (22, 1, 1), (25, 2, 2)] := by kernel_rfl
theorem wt_T_cost_Model {cs : List AV} (h : Wt Try.prog 27 cs) : ∃ x : T_cost_Model, cs = x.C := by
  obtain ⟨hl, hf⟩ := h.struct_inv st_T_cost_Model
  rw [show Try.prog.cellsOf 27 = 4 by kernel_rfl] at hl
  obtain ⟨c0, d0, rfl, hn0⟩ := uncons hl
  obtain ⟨c1, d1, rfl, hn1⟩ := uncons hn0
  obtain ⟨c2, d2, rfl, hn2⟩ := uncons hn1
  obtain ⟨c3, d3, rfl, hn3⟩ := uncons hn2
  obtain rfl := List.length_eq_zero_iff.1 hn3
  obtain ⟨v0, rfl⟩ := Wt.i64 (show Try.prog.underlying 3 = some (.int .i64) by kernel_rfl) (show Wt Try.prog 3 [c0] from hf 0 _ _ _ rfl)
  obtain ⟨v1, e, _⟩ := wt_s22 (show Wt Try.prog 22 [c1] from hf 1 _ _ _ rfl); injection e with e; subst e
  obtain ⟨v2, hv2⟩ := wt_T_api_Stats (show Wt Try.prog 25 [c2, c3] from hf 2 _ _ _ rfl); simp only [T_api_Stats.C, List.cons.injEq, and_true] at hv2; obtain ⟨rfl, rfl⟩ := hv2
  exact ⟨⟨v0, v1, v2⟩, rfl⟩
theorem st_T_api_Tree : structT Try.prog 31 = some [(3, 0, 1), (3, 1, 1), (28, 2, 1), (29, 3, 1), (4, 4, 1)] := by kernel_rfl
theorem wt_T_api_Tree' {t : TypeId} {cs : List AV} (h : Wt Try.prog t cs) : (t = 31 → ∃ x : T_api_Tree, cs = x.C) ∧ (t = 28 → ∃ xs : List T_api_Tree, cs = [.slice .foreign (xs.map T_api_Tree.av)] ∧ xs.length < 9223372036854775808) := by
  obtain ⟨fs, hfs⟩ := structT_u st_T_api_Tree
  have hs28 : Try.prog.underlying 28 = some (.slice 31) := by kernel_rfl
  induction h with
  | bool t b ht => exact ⟨fun h => by (subst h; rw [hfs] at ht; cases ht), fun h => by (subst h; rw [hs28] at ht; cases ht)⟩
  | int t b n ht => exact ⟨fun h => by (subst h; rw [hfs] at ht; cases ht), fun h => by (subst h; rw [hs28] at ht; cases ht)⟩
  | string t b ht => exact ⟨fun h => by (subst h; rw [hfs] at ht; cases ht), fun h => by (subst h; rw [hs28] at ht; cases ht)⟩
  | array t b n cs ht => exact ⟨fun h => by (subst h; rw [hfs] at ht; cases ht), fun h => by (subst h; rw [hs28] at ht; cases ht)⟩
  | slice t e es ht hl h hf ih =>
    refine ⟨fun h => by (subst h; rw [hfs] at ht; cases ht), fun h => ?_⟩
    · subst h
      rw [hs28] at ht
      injection ht with ht; injection ht with ht; subst ht
      obtain ⟨l, rfl, _⟩ := rowsOf (P := Try.prog) (f := T_api_Tree.av) (G := fun _ => True) (fun x => by rw [T_api_Tree.av_eq]; exact agg_of (by kernel_rfl)) (fun x hx => let ⟨y, hy⟩ := (ih x hx).1 rfl; ⟨y, by rw [hy, T_api_Tree.av_eq]; rfl, trivial⟩) hf
      exact ⟨l, rfl, by simp [maxLen] at hl; omega⟩
  | struct t fs' cs ht hl h ih =>
    refine ⟨fun e => ?_, fun h => by (subst h; rw [hs28] at ht; cases ht)⟩
    subst e
    obtain ⟨_, hf⟩ := (Wt.struct _ _ _ ht hl h).struct_inv st_T_api_Tree
    obtain ⟨f2, g1, g2, g3, g4⟩ := structT_field (i := 2) st_T_api_Tree ht rfl
    have hr2 := (ih 2 f2 g1).2 g2
    rw [g3, g4] at hr2
    clear g1 g2 g3 g4
    clear ih h
    rw [show Try.prog.cellsOf 31 = 5 by kernel_rfl] at hl
    obtain ⟨c0, d0, rfl, hn0⟩ := uncons hl
    obtain ⟨c1, d1, rfl, hn1⟩ := uncons hn0
    obtain ⟨c2, d2, rfl, hn2⟩ := uncons hn1
    obtain ⟨c3, d3, rfl, hn3⟩ := uncons hn2
    obtain ⟨c4, d4, rfl, hn4⟩ := uncons hn3
    obtain rfl := List.length_eq_zero_iff.1 hn4
    obtain ⟨v0, rfl⟩ := Wt.i64 (show Try.prog.underlying 3 = some (.int .i64) by kernel_rfl) (show Wt Try.prog 3 [c0] from hf 0 _ _ _ rfl)
    obtain ⟨v1, rfl⟩ := Wt.i64 (show Try.prog.underlying 3 = some (.int .i64) by kernel_rfl) (show Wt Try.prog 3 [c1] from hf 1 _ _ _ rfl)
    obtain ⟨v2, ev2, _⟩ := hr2
    have ev2 : [c2] = _ := ev2
    injection ev2 with ev2; subst ev2
    obtain ⟨v3, e, _⟩ := wt_s29 (show Wt Try.prog 29 [c3] from hf 3 _ _ _ rfl); injection e with e; subst e
    obtain ⟨v4, rfl⟩ := Wt.b (show Try.prog.underlying 4 = some (.bool) by kernel_rfl) (show Wt Try.prog 4 [c4] from hf 4 _ _ _ rfl)
    exact ⟨⟨v0, v1, v2, v3, v4⟩, rfl⟩
theorem wt_T_api_Tree {cs : List AV} (h : Wt Try.prog 31 cs) : ∃ x : T_api_Tree, cs = x.C := (wt_T_api_Tree' h).1 rfl
end Go.Proofs.Ytcfekacmmfdggaa.G
namespace Go.Proofs.Ytcfekacmmfdggaa.CostParts
open Go.ChangeShapes Go.WideShapes Go.ChangeAt Go.RowKit Go.Proofs.Ytcfekacmmfdggaa.G
set_option linter.unusedVariables false
theorem own : ownKnob Try.prog.godebug = none := by kernel_rfl
theorem laidOut : laidOutB Try.prog = true := by kernel_rfl
set_option maxRecDepth 100000 in
theorem lifted (os : Os) (started : os.Started) (H : Type) (enc : TypeId × Value → H) :
    ReturnsInHanded {} Try.checked os 4 .any (Rows.costPartsSpec.pre6 enc Try.prog Try.f4 Rows.costPartsRow.domain false) (Rows.costPartsSpec.post enc Try.prog Try.f4 false true false false) := by
  refine returnsInHanded_of_change_sized (C := Try.checked) own started (by kernel_rfl) Try.func4
    (ChangeSpec.witness6 (enc := enc) (C := Try.checked) false ⟨#[], #[.agg #[.int .i64 0, .slice none 0 0, .slice none 0 0, .slice none 0 0], .agg #[.int .i64 0, .int .i64 0, .slice none 0 0, .slice none 0 0, .bool false], .agg #[.int .i64 0, .int .i64 0, .slice none 0 0, .slice none 0 0, .bool false]], []⟩ 30 (by kernel_rfl) (by kernel_rfl) (by kernel_rfl) (by kernel_rfl)) ?_
  intro W base args ds gs before hval0 hW hcnd hsz0 _
  have hval : ∀ (j : Nat) t v, Try.f4.params[j]? = some t → args[j]? = some v → Value.okWide Try.prog W .any base t v := hval0
  have hW' := hW
  obtain ⟨p, q, hA0, hV, rfl, hfz, hnd⟩ := hW
  have hA : DataW.TrodAll enc Try.prog W 0 (fun _ => true) true Try.f4.params.toList args.toList ds p := hA0
  rw [Try.params4] at hA hval
  obtain ⟨u0, vs0, d0, ds0, p0, q0, hargs, rfl, rfl, h0, r0⟩ := trodAll_cons hA
  obtain ⟨u1, vs1, d1, ds1, p1, q1, rfl, rfl, rfl, h1, r1⟩ := trodAll_cons r0
  obtain ⟨u2, vs2, d2, ds2, p2, q2, rfl, rfl, rfl, h2, r2⟩ := trodAll_cons r1
  obtain ⟨rfl, rfl, rfl⟩ := trodAll_nil r2
  obtain rfl : args = #[u0, u1, u2] := by cases args; simp_all
  obtain ⟨rfl, rfl⟩ := trodVars_none hV
  have lt0 : ∀ x ∈ p0, x.block < W.heap.size := by obtain ⟨m, hm⟩ := h0; exact DataW.trod_lt m _ _ _ hm
  have lt1 : ∀ x ∈ p1, x.block < W.heap.size := by obtain ⟨m, hm⟩ := h1; exact DataW.trod_lt m _ _ _ hm
  have lt2 : ∀ x ∈ p2, x.block < W.heap.size := by obtain ⟨m, hm⟩ := h2; exact DataW.trod_lt m _ _ _ hm
  have hS : plainT Try.prog [27, 3, 22, 93, 29, 66, 64, 62, 4, 2, 32, 25, 23, 31, 28] = true := by kernel_rfl
  obtain ⟨a0, as0, rep0, wt0, of0⟩ := reads_param hS (by simp) (hval 0 27 u0 rfl rfl) h0
  obtain ⟨a1, as1, rep1, wt1, of1⟩ := reads_param hS (by simp) (hval 1 31 u1 rfl rfl) h1
  obtain ⟨a2, as2, rep2, wt2, of2⟩ := reads_param hS (by simp) (hval 2 31 u2 rfl rfl) h2
  obtain rfl := all_cells (by kernel_rfl) of0
  obtain ⟨x0, rfl⟩ := wt_T_cost_Model wt0
  obtain rfl := all_cells (by kernel_rfl) of1
  obtain ⟨x1, rfl⟩ := wt_T_api_Tree wt1
  obtain rfl := all_cells (by kernel_rfl) of2
  obtain ⟨x2, rfl⟩ := wt_T_api_Tree wt2
  refine ((M_law28_CostParts.w (x0, x1, x2) true (costParts_plain x0 x1 x2)).law (.cons rep0 (.cons rep1 (.cons rep2 .nil)))).mono fun e W' ⟨he, bel⟩ => ?_
  subst he
  exact ⟨_, rfl, _, _, _, [], _, [], hW', trodAll_mk1 (shut_bool Try.underlying4 _), (trodAll_cons_mk (Below.trod laidOut (by kernel_rfl) (of_decide_eq_true (by kernel_rfl)) h0 bel lt0) (trodAll_cons_mk (Below.trod laidOut (by kernel_rfl) (of_decide_eq_true (by kernel_rfl)) h1 bel lt1) (trodAll_cons_mk (Below.trod laidOut (by kernel_rfl) (of_decide_eq_true (by kernel_rfl)) h2 bel lt2) trodAll_mk0))), rfl, bel.frame _, fun h => by cases h⟩
theorem over : Rows.costPartsRow.holds Try.pinned (OpenSpec.ofChange Rows.costPartsSpec) :=
  OpenClaim.holds_of_wide 4 Try.f4 rfl rfl rfl rfl rfl rfl rfl ⟨rfl, rfl, rfl, rfl, rfl⟩ rfl rfl rfl rfl rfl (by kernel_rfl) Try.func4 (by kernel_rfl)
    (of_decide_eq_true (by kernel_rfl)) (by unfold Func.isWrapper; first | (rw [if_pos (by decide +kernel)]; kernel_rfl) | (rw [if_neg (by decide +kernel)]; exact ⟨rfl, rfl⟩))
    (fun os started H enc _ => lifted os started H enc)
end Go.Proofs.Ytcfekacmmfdggaa.CostParts
namespace Go.Proofs.Ytcfekacmmfdggaa
/-- The row, under a short name, for the claim. -/
theorem costParts_holds : Rows.CostPartsSaid := CostParts.over
end Go.Proofs.Ytcfekacmmfdggaa
