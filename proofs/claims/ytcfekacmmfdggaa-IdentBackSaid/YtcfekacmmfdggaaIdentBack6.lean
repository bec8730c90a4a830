/-
IdentBack: the law returns true whatever the input.
-/
import Derived.Test.YtcfekacmmfdggaaIdentBack5
import Derived.WalkKit
import Derived.ProofKit
import Derived.OpenShut
import Derived.ChangeOld
import Derived.Below
import Derived.Carry
import Derived.SizedLaws
import Derived.KernelRfl
import Derived.Test.YtcfekacmmfdggaaRows
set_option linter.unusedVariables false
set_option linter.unusedSimpArgs false
set_option maxRecDepth 100000
namespace Go.Proofs.Ytcfekacmmfdggaa.G
@[go_sem] theorem lrp_8_9 : lrp Try.prog 8 9 = (10, []) := by kernel_rfl
@[go_sem] theorem lrp_8_10 : lrp Try.prog 8 10 = (25, []) := by kernel_rfl
theorem lok_8 : (Try.f8.body.isSome && !(Try.f8.name == "runtime.NumGoroutine") && okL (bodyF Try.f8) Try.f8.ntmps (bodyF Try.f8)) = true := by kernel_rfl
def M_law17_IdentBack.l0 (x : List Int × Int × T_api_Query) : Option (Lp (Unit) (Bool)) :=
  if (decide (x.2.1 ≤ 5)) = true then
    M_ident_Do (x.2.1, x.2.2.Root) >>= fun r8 =>
    if r8.2 = true then
      (getI x.1 x.2.1) >>= fun (e11 : Int) =>
      M_ident_Do (e11, r8.1) >>= fun r13 =>
      if r13.2 = true then
        M_ref10_Same (r13.1, x.2.2.Root) >>= fun r16 =>
        if r16 = true then
          M_ref10_Tables r8.1 >>= fun r19 =>
          M_ref10_Tables x.2.2.Root >>= fun r21 =>
          if (r19 != r21) = true then
            some (.ret false)
          else
            M_ref10_Seen r8.1 >>= fun r24 =>
            M_ref10_Seen x.2.2.Root >>= fun r26 =>
            if (r24 != r26) = true then
              some (.ret false)
            else
              M_law17_IdentBack.l0 (x.1, (w64 (x.2.1 + 1)), x.2.2)
        else
          some (.ret false)
      else
        some (.ret false)
    else
      M_law17_IdentBack.l0 (x.1, (w64 (x.2.1 + 1)), x.2.2)
  else
    some (.brk ())
  partial_fixpoint
theorem M_law17_IdentBack.l0.ws : (∀ (x : List Int × Int × T_api_Query) (o : Lp (Unit) (Bool)), M_law17_IdentBack.l0 x = some o → (fun (x : List Int × Int × T_api_Query) (o : Lp (Unit) (Bool)) => ∀ (lo : Option Nat) (c : LCtx) (Q : Exit → LEnv → Prop) (hb : ∀ s : Unit, o = Lp.brk s → Q (.exit 0) ⟨[], []⟩) (hr : ∀ (r : Bool) (L : LEnv), o = .ret r → LPostF Try.prog [.tmp 2] (.bool r) (fun _ => True) .ret L → Q .ret L), LLoop Try.prog 8 lo c 0 (VQ Q) ⟨[(1, .lref 1 0), (3, .own 100300 1 (x.1.map AV.i64)), (4, .v (.i64 x.2.1))], [(1, [.v (.slice .foreign (x.2.2.Cols.map AV.i64)), .v (.i64 x.2.2.Root.Kind), .v (.i64 x.2.2.Root.Table), .v (.slice .foreign (x.2.2.Root.Kids.map T_api_Tree.av)), .v (.slice .foreign (x.2.2.Root.Conj.map T_api_Pred.av)), .v (.bool x.2.2.Root.Hash)])]⟩) x o) := by
  refine M_law17_IdentBack.l0.partial_correctness _ ?_
  · intro M_M_law17_IdentBack_l0 ih_M_law17_IdentBack_l0 x o h
    intro lo c Q hb hr
    refine LLoop.step mix fn_8 (by kernel_rfl) ?_
    simp -implicitDefEqProofs only [go_sem, Try.f8]
    by_cases h7 : (decide (x.2.1 ≤ 5)) = true
    · replace h := ite_some h h7
      try simp -implicitDefEqProofs only [go_sem, h7]
      obtain ⟨r8, h9, h⟩ := bind_some' h
      refine .plain _ _ rfl (M_ident_Do.w (x.2.1, x.2.2.Root) _ h9) ?_
      try simp -implicitDefEqProofs only [go_sem, h7]
      by_cases h10 : r8.2 = true
      · replace h := ite_some h h10
        try simp -implicitDefEqProofs only [go_sem, h7, h10]
        obtain ⟨e11, h12, h⟩ := bind_some' h; replace h12 := getI_some h12; obtain ⟨h12', h12⟩ := h12
        try simp -implicitDefEqProofs only [go_sem, h7, h10, h12, h12']
        obtain ⟨r13, h14, h⟩ := bind_some' h
        refine .plain _ _ rfl (M_ident_Do.w (e11, r8.1) _ h14) ?_
        try simp -implicitDefEqProofs only [go_sem, h7, h10, h12, h12']
        by_cases h15 : r13.2 = true
        · replace h := ite_some h h15
          try simp -implicitDefEqProofs only [go_sem, h7, h10, h12, h12', h15]
          obtain ⟨r16, h17, h⟩ := bind_some' h
          refine .plain _ _ rfl (M_ref10_Same.w (r13.1, x.2.2.Root) _ h17) ?_
          try simp -implicitDefEqProofs only [go_sem, h7, h10, h12, h12', h15]
          by_cases h18 : r16 = true
          · replace h := ite_some h h18
            try simp -implicitDefEqProofs only [go_sem, h7, h10, h12, h12', h15, h18]
            obtain ⟨r19, h20, h⟩ := bind_some' h
            refine .plain _ _ rfl (M_ref10_Tables.w r8.1 _ h20) ?_
            try simp -implicitDefEqProofs only [go_sem, h7, h10, h12, h12', h15, h18]
            obtain ⟨r21, h22, h⟩ := bind_some' h
            refine .plain _ _ rfl (M_ref10_Tables.w x.2.2.Root _ h22) ?_
            try simp -implicitDefEqProofs only [go_sem, h7, h10, h12, h12', h15, h18]
            by_cases h23 : (r19 != r21) = true
            · replace h := ite_some h h23
              try simp -implicitDefEqProofs only [go_sem, h7, h10, h12, h12', h15, h18, h23]
              injection h with h; subst h
              exact .inl (hr _ _ rfl (by (first | rfl | simp -implicitDefEqProofs only [go_sem, h7, h10, h12, h12', h15, h18, h23] <;> rfl)))
            · replace h := ite_none h h23; replace h23 := bfalse h23
              try simp -implicitDefEqProofs only [go_sem, h7, h10, h12, h12', h15, h18, h23]
              obtain ⟨r24, h25, h⟩ := bind_some' h
              refine .plain _ _ rfl (M_ref10_Seen.w r8.1 _ h25) ?_
              try simp -implicitDefEqProofs only [go_sem, h7, h10, h12, h12', h15, h18, h23]
              obtain ⟨r26, h27, h⟩ := bind_some' h
              refine .plain _ _ rfl (M_ref10_Seen.w x.2.2.Root _ h27) ?_
              try simp -implicitDefEqProofs only [go_sem, h7, h10, h12, h12', h15, h18, h23]
              by_cases h28 : (r24 != r26) = true
              · replace h := ite_some h h28
                try simp -implicitDefEqProofs only [go_sem, h7, h10, h12, h12', h15, h18, h23, h28]
                injection h with h; subst h
                exact .inl (hr _ _ rfl (by (first | rfl | simp -implicitDefEqProofs only [go_sem, h7, h10, h12, h12', h15, h18, h23, h28] <;> rfl)))
              · replace h := ite_none h h28; replace h28 := bfalse h28
                try simp -implicitDefEqProofs only [go_sem, h7, h10, h12, h12', h15, h18, h23, h28]
                exact LLoop.view [(100300, some 100300)] (by (first | rfl | simp -implicitDefEqProofs only [go_sem, h7, h10, h12, h12', h15, h18, h23, h28] <;> rfl)) (ih_M_law17_IdentBack_l0 _ _ h lo c Q hb hr)
          · replace h := ite_none h h18; replace h18 := bfalse h18
            try simp -implicitDefEqProofs only [go_sem, h7, h10, h12, h12', h15, h18]
            injection h with h; subst h
            exact .inl (hr _ _ rfl (by (first | rfl | simp -implicitDefEqProofs only [go_sem, h7, h10, h12, h12', h15, h18] <;> rfl)))
        · replace h := ite_none h h15; replace h15 := bfalse h15
          try simp -implicitDefEqProofs only [go_sem, h7, h10, h12, h12', h15]
          injection h with h; subst h
          exact .inl (hr _ _ rfl (by (first | rfl | simp -implicitDefEqProofs only [go_sem, h7, h10, h12, h12', h15] <;> rfl)))
      · replace h := ite_none h h10; replace h10 := bfalse h10
        try simp -implicitDefEqProofs only [go_sem, h7, h10]
        exact LLoop.view [(100300, some 100300)] (by (first | rfl | simp -implicitDefEqProofs only [go_sem, h7, h10] <;> rfl)) (ih_M_law17_IdentBack_l0 _ _ h lo c Q hb hr)
    · replace h := ite_none h h7; replace h7 := bfalse h7
      try simp -implicitDefEqProofs only [go_sem, h7]
      injection h with h; subst h
      exact .inr ⟨[], _, by (simp -implicitDefEqProofs only [go_sem, h7] <;> first | done | rfl | trivial), hb _ rfl⟩
theorem M_law17_IdentBack.l0.w : type_of% @M_law17_IdentBack.l0.ws := @M_law17_IdentBack.l0.ws
def M_law17_IdentBack (x : T_api_Query) : Option (Bool) :=
  M_law11_Few x >>= fun r1 =>
  if r1 = true then
    M_ref11_Right x >>= fun r4 =>
    if r4 = true then
      M_law17_IdentBack.l0 ([0, 1, 3, 2, 4, 5], 1, x) >>= fun (o29 : Lp (Unit) (Bool)) => match o29 with
      | .brk s32 =>
        M_law17_awake () >>= fun r33 =>
        some r33
      | .ret r31 =>
        some r31
    else
      M_law17_awake () >>= fun r35 =>
      some r35
  else
    M_law17_awake () >>= fun r37 =>
    some r37
set_option maxHeartbeats 8000000 in
theorem M_law17_IdentBack.w : ∀ (x : T_api_Query) (r : Bool), M_law17_IdentBack x = some r → (fun (x : T_api_Query) (r : Bool) => Fn Try.prog 8 [.agg (T_api_Query.C x)] (.bool r)) x r := by
  intro x r h
  rw [M_law17_IdentBack] at h
  try dsimp only
  refine Fn.of_lc mix fn_8 lok_8 (by rfl) (flC (T_api_Query.flatC _) (flN)) (.atom _) ?_
  simp -implicitDefEqProofs only [go_sem, Try.f8]
  obtain ⟨r1, h2, h⟩ := bind_some' h
  refine .plain _ _ rfl (M_law11_Few.w x _ h2) ?_
  try simp -implicitDefEqProofs only [go_sem]
  by_cases h3 : r1 = true
  · replace h := ite_some h h3
    try simp -implicitDefEqProofs only [go_sem, h3]
    obtain ⟨r4, h5, h⟩ := bind_some' h
    refine .plain _ _ rfl (M_ref11_Right.w x _ h5) ?_
    try simp -implicitDefEqProofs only [go_sem, h3]
    by_cases h6 : r4 = true
    · replace h := ite_some h h6
      try simp -implicitDefEqProofs only [go_sem, h3, h6]
      obtain ⟨o29, h30, h⟩ := bind_some' h
      refine LLoop.viewQ (LLoop.view [(100300, none)] (by (first | rfl | simp -implicitDefEqProofs only [go_sem, h3, h6] <;> rfl)) (M_law17_IdentBack.l0.w ([0, 1, 3, 2, 4, 5], 1, x) _ h30 _ _ _ ?_ ?_))
      · intro s32 hs'; subst hs'
        try simp -implicitDefEqProofs only [go_sem, h3, h6]
        obtain ⟨r33, h34, h⟩ := bind_some' h
        refine .plain _ _ rfl (M_law17_awake.w () _ h34) ?_
        try simp -implicitDefEqProofs only [go_sem, h3, h6]
        injection h with h; subst h
        first | rfl | simp -implicitDefEqProofs only [go_sem, h3, h6] <;> rfl
      · intro r31 L' hs' hL'; subst hs'
        injection h with h; subst h
        first | exact hL' | (simp -implicitDefEqProofs only [go_sem]; exact hL') | (simp -implicitDefEqProofs only [go_sem]; simp -implicitDefEqProofs only [go_sem] at hL'; exact hL')
    · replace h := ite_none h h6; replace h6 := bfalse h6
      try simp -implicitDefEqProofs only [go_sem, h3, h6]
      obtain ⟨r35, h36, h⟩ := bind_some' h
      refine .plain _ _ rfl (M_law17_awake.w () _ h36) ?_
      try simp -implicitDefEqProofs only [go_sem, h3, h6]
      injection h with h; subst h
      first | rfl | simp -implicitDefEqProofs only [go_sem, h3, h6] <;> rfl
  · replace h := ite_none h h3; replace h3 := bfalse h3
    try simp -implicitDefEqProofs only [go_sem, h3]
    obtain ⟨r37, h38, h⟩ := bind_some' h
    refine .plain _ _ rfl (M_law17_awake.w () _ h38) ?_
    try simp -implicitDefEqProofs only [go_sem, h3]
    injection h with h; subst h
    first | rfl | simp -implicitDefEqProofs only [go_sem, h3] <;> rfl
end Go.Proofs.Ytcfekacmmfdggaa.G
set_option linter.unusedVariables false
set_option linter.unusedSimpArgs false
namespace Go.Proofs.Ytcfekacmmfdggaa.G

def z0 : T_api_Tree := ⟨0, 0, [], [], false⟩
abbrev T5 := T_api_Tree × T_api_Tree × T_api_Tree × T_api_Tree × T_api_Tree
def chg : List T_ident_change := [⟨1, -1, 116⟩, ⟨2, 0, 118⟩, ⟨3, 1, 121⟩, ⟨4, 0, 122⟩, ⟨5, 1, 123⟩]
theorem changes_eq : M_ident_changes () = some chg := rfl
theorem chg_0 : getI chg 0 = some ⟨1, -1, 116⟩ := rfl
theorem chg_1 : getI chg 1 = some ⟨2, 0, 118⟩ := rfl
theorem chg_2 : getI chg 2 = some ⟨3, 1, 121⟩ := rfl
theorem chg_3 : getI chg 3 = some ⟨4, 0, 122⟩ := rfl
theorem chg_4 : getI chg 4 = some ⟨5, 1, 123⟩ := rfl
theorem do_end (how : Int) (t z : T_api_Tree) : M_ident_Do.l0 (how, chg, 5, 5, t, z) = some (.brk z) := by
  rw [M_ident_Do.l0, if_neg (by simp)]
theorem do_skip (how : Int) (t z : T_api_Tree) (i : Int) (c : T_ident_change) (hc : getI chg i = some c) (h0 : 0 ≤ i) (hi : i < 5) (hne : c.how ≠ how) : M_ident_Do.l0 (how, chg, 5, i, t, z) = M_ident_Do.l0 (how, chg, 5, i + 1, t, z) := by
  rw [M_ident_Do.l0, if_pos (dlt (by dsimp only; omega))]
  dsimp only
  rw [hc]
  simp -implicitDefEqProofs only [Option.bind_eq_bind, Option.bind_some]
  rw [if_pos (by simpa using hne), w64_of (by omega) (by omega)]
/-- A change's work, once its parts are taken. -/
def runK (how : Int) (F : T5 → Option (T_api_Tree × Bool)) (p : T_api_Tree × T_api_Tree × T_api_Tree × T_api_Tree × T_api_Tree × Bool) : Option (T_api_Tree × Bool) :=
  if p.2.2.2.2.2 = true then M_ident_May (how, p.1.Kind, p.2.1.Kind) >>= fun r => if r = true then F (p.1, p.2.1, p.2.2.1, p.2.2.2.1, p.2.2.2.2.1) >>= fun v => if v.2 = true then M_tree_Copy v.1 >>= fun s => some (s, true) else some (z0, false) else some (z0, false) else some (z0, false)
theorem do_eq_1 (t : T_api_Tree) : M_ident_Do (1, t) = M_ident_parts (⟨1, -1, 116⟩, t) >>= runK 1 M_ident_changes_1 := by
  have fin : M_ident_Do.l0 (1, chg, 5, 1, t, z0) = some (.brk z0) := by
    rw [do_skip 1 t z0 1 _ chg_1 (by omega) (by omega) (by decide), show (1 : Int) + 1 = 2 from rfl, do_skip 1 t z0 2 _ chg_2 (by omega) (by omega) (by decide), show (2 : Int) + 1 = 3 from rfl, do_skip 1 t z0 3 _ chg_3 (by omega) (by omega) (by decide), show (3 : Int) + 1 = 4 from rfl, do_skip 1 t z0 4 _ chg_4 (by omega) (by omega) (by decide), show (4 : Int) + 1 = 5 from rfl, do_end]
  have e : M_ident_Do.l0 (1, chg, 5, 0, t, z0) = M_ident_Do.l0 (1, chg, 5, 0, t, z0) := by
    rfl
  unfold M_ident_Do
  rw [changes_eq]
  simp -implicitDefEqProofs only [Option.bind_eq_bind, Option.bind_some]
  have e' : M_ident_Do.l0 (((1 : Int), t).1, chg, (chg.length : Int), 0, ((1 : Int), t).2, (⟨0, 0, [], [], false⟩ : T_api_Tree)) = _ := e
  rw [e', M_ident_Do.l0, if_pos (dlt (by dsimp only; omega))]
  dsimp only
  rw [chg_0]
  simp -implicitDefEqProofs only [Option.bind_eq_bind, Option.bind_some]
  rw [if_neg (by decide)]
  cases M_ident_parts (⟨1, -1, 116⟩, t) with
  | none => rfl
  | some p =>
    simp -implicitDefEqProofs only [Option.bind_some, runK, Option.bind_eq_bind]
    by_cases h1 : p.2.2.2.2.2 = true
    · rw [if_pos h1, if_pos h1]
      cases M_ident_May (1, p.1.Kind, p.2.1.Kind) with
      | none => rfl
      | some r =>
        simp -implicitDefEqProofs only [Option.bind_some]
        by_cases h2 : r = true
        · have hf : ∀ y : T5, M_fid_116_118_121_122_123 (116, y) = M_ident_changes_1 y := fun y => by
            unfold M_fid_116_118_121_122_123
            dsimp only
            rw [if_pos (by decide)]
          rw [if_pos h2, if_pos h2, hf]
          cases M_ident_changes_1 (p.1, p.2.1, p.2.2.1, p.2.2.2.1, p.2.2.2.2.1) with
          | none => rfl
          | some v =>
            simp -implicitDefEqProofs only [Option.bind_some]
            by_cases h3 : v.2 = true
            · rw [if_pos h3, if_pos h3]
              cases M_tree_Copy v.1 <;> rfl
            · rw [if_neg h3, if_neg h3, show w64 (0 + 1) = 1 from by decide, fin]; rfl
        · rw [if_neg h2, if_neg h2]; rfl
    · rw [if_neg h1, if_neg h1]; rfl
theorem do_of_1 {t : T_api_Tree} {p : T_api_Tree × T_api_Tree × T_api_Tree × T_api_Tree × T_api_Tree × Bool} (h : M_ident_parts (⟨1, -1, 116⟩, t) = some p) : M_ident_Do (1, t) = runK 1 M_ident_changes_1 p := by rw [do_eq_1, h]; rfl
theorem do_eq_2 (t : T_api_Tree) : M_ident_Do (2, t) = M_ident_parts (⟨2, 0, 118⟩, t) >>= runK 2 M_ident_changes_2 := by
  have fin : M_ident_Do.l0 (2, chg, 5, 2, t, z0) = some (.brk z0) := by
    rw [do_skip 2 t z0 2 _ chg_2 (by omega) (by omega) (by decide), show (2 : Int) + 1 = 3 from rfl, do_skip 2 t z0 3 _ chg_3 (by omega) (by omega) (by decide), show (3 : Int) + 1 = 4 from rfl, do_skip 2 t z0 4 _ chg_4 (by omega) (by omega) (by decide), show (4 : Int) + 1 = 5 from rfl, do_end]
  have e : M_ident_Do.l0 (2, chg, 5, 0, t, z0) = M_ident_Do.l0 (2, chg, 5, 1, t, z0) := by
    rw [do_skip 2 t z0 0 _ chg_0 (by omega) (by omega) (by decide), show (0 : Int) + 1 = 1 from rfl]
  unfold M_ident_Do
  rw [changes_eq]
  simp -implicitDefEqProofs only [Option.bind_eq_bind, Option.bind_some]
  have e' : M_ident_Do.l0 (((2 : Int), t).1, chg, (chg.length : Int), 0, ((2 : Int), t).2, (⟨0, 0, [], [], false⟩ : T_api_Tree)) = _ := e
  rw [e', M_ident_Do.l0, if_pos (dlt (by dsimp only; omega))]
  dsimp only
  rw [chg_1]
  simp -implicitDefEqProofs only [Option.bind_eq_bind, Option.bind_some]
  rw [if_neg (by decide)]
  cases M_ident_parts (⟨2, 0, 118⟩, t) with
  | none => rfl
  | some p =>
    simp -implicitDefEqProofs only [Option.bind_some, runK, Option.bind_eq_bind]
    by_cases h1 : p.2.2.2.2.2 = true
    · rw [if_pos h1, if_pos h1]
      cases M_ident_May (2, p.1.Kind, p.2.1.Kind) with
      | none => rfl
      | some r =>
        simp -implicitDefEqProofs only [Option.bind_some]
        by_cases h2 : r = true
        · have hf : ∀ y : T5, M_fid_116_118_121_122_123 (118, y) = M_ident_changes_2 y := fun y => by
            unfold M_fid_116_118_121_122_123
            dsimp only
            rw [if_neg (by decide), if_pos (by decide)]
          rw [if_pos h2, if_pos h2, hf]
          cases M_ident_changes_2 (p.1, p.2.1, p.2.2.1, p.2.2.2.1, p.2.2.2.2.1) with
          | none => rfl
          | some v =>
            simp -implicitDefEqProofs only [Option.bind_some]
            by_cases h3 : v.2 = true
            · rw [if_pos h3, if_pos h3]
              cases M_tree_Copy v.1 <;> rfl
            · rw [if_neg h3, if_neg h3, show w64 (1 + 1) = 2 from by decide, fin]; rfl
        · rw [if_neg h2, if_neg h2]; rfl
    · rw [if_neg h1, if_neg h1]; rfl
theorem do_of_2 {t : T_api_Tree} {p : T_api_Tree × T_api_Tree × T_api_Tree × T_api_Tree × T_api_Tree × Bool} (h : M_ident_parts (⟨2, 0, 118⟩, t) = some p) : M_ident_Do (2, t) = runK 2 M_ident_changes_2 p := by rw [do_eq_2, h]; rfl
theorem do_eq_3 (t : T_api_Tree) : M_ident_Do (3, t) = M_ident_parts (⟨3, 1, 121⟩, t) >>= runK 3 M_ident_changes_3 := by
  have fin : M_ident_Do.l0 (3, chg, 5, 3, t, z0) = some (.brk z0) := by
    rw [do_skip 3 t z0 3 _ chg_3 (by omega) (by omega) (by decide), show (3 : Int) + 1 = 4 from rfl, do_skip 3 t z0 4 _ chg_4 (by omega) (by omega) (by decide), show (4 : Int) + 1 = 5 from rfl, do_end]
  have e : M_ident_Do.l0 (3, chg, 5, 0, t, z0) = M_ident_Do.l0 (3, chg, 5, 2, t, z0) := by
    rw [do_skip 3 t z0 0 _ chg_0 (by omega) (by omega) (by decide), show (0 : Int) + 1 = 1 from rfl]
    rw [do_skip 3 t z0 1 _ chg_1 (by omega) (by omega) (by decide), show (1 : Int) + 1 = 2 from rfl]
  unfold M_ident_Do
  rw [changes_eq]
  simp -implicitDefEqProofs only [Option.bind_eq_bind, Option.bind_some]
  have e' : M_ident_Do.l0 (((3 : Int), t).1, chg, (chg.length : Int), 0, ((3 : Int), t).2, (⟨0, 0, [], [], false⟩ : T_api_Tree)) = _ := e
  rw [e', M_ident_Do.l0, if_pos (dlt (by dsimp only; omega))]
  dsimp only
  rw [chg_2]
  simp -implicitDefEqProofs only [Option.bind_eq_bind, Option.bind_some]
  rw [if_neg (by decide)]
  cases M_ident_parts (⟨3, 1, 121⟩, t) with
  | none => rfl
  | some p =>
    simp -implicitDefEqProofs only [Option.bind_some, runK, Option.bind_eq_bind]
    by_cases h1 : p.2.2.2.2.2 = true
    · rw [if_pos h1, if_pos h1]
      cases M_ident_May (3, p.1.Kind, p.2.1.Kind) with
      | none => rfl
      | some r =>
        simp -implicitDefEqProofs only [Option.bind_some]
        by_cases h2 : r = true
        · have hf : ∀ y : T5, M_fid_116_118_121_122_123 (121, y) = M_ident_changes_3 y := fun y => by
            unfold M_fid_116_118_121_122_123
            dsimp only
            rw [if_neg (by decide), if_neg (by decide), if_pos (by decide)]
          rw [if_pos h2, if_pos h2, hf]
          cases M_ident_changes_3 (p.1, p.2.1, p.2.2.1, p.2.2.2.1, p.2.2.2.2.1) with
          | none => rfl
          | some v =>
            simp -implicitDefEqProofs only [Option.bind_some]
            by_cases h3 : v.2 = true
            · rw [if_pos h3, if_pos h3]
              cases M_tree_Copy v.1 <;> rfl
            · rw [if_neg h3, if_neg h3, show w64 (2 + 1) = 3 from by decide, fin]; rfl
        · rw [if_neg h2, if_neg h2]; rfl
    · rw [if_neg h1, if_neg h1]; rfl
theorem do_of_3 {t : T_api_Tree} {p : T_api_Tree × T_api_Tree × T_api_Tree × T_api_Tree × T_api_Tree × Bool} (h : M_ident_parts (⟨3, 1, 121⟩, t) = some p) : M_ident_Do (3, t) = runK 3 M_ident_changes_3 p := by rw [do_eq_3, h]; rfl
theorem do_eq_4 (t : T_api_Tree) : M_ident_Do (4, t) = M_ident_parts (⟨4, 0, 122⟩, t) >>= runK 4 M_ident_changes_4 := by
  have fin : M_ident_Do.l0 (4, chg, 5, 4, t, z0) = some (.brk z0) := by
    rw [do_skip 4 t z0 4 _ chg_4 (by omega) (by omega) (by decide), show (4 : Int) + 1 = 5 from rfl, do_end]
  have e : M_ident_Do.l0 (4, chg, 5, 0, t, z0) = M_ident_Do.l0 (4, chg, 5, 3, t, z0) := by
    rw [do_skip 4 t z0 0 _ chg_0 (by omega) (by omega) (by decide), show (0 : Int) + 1 = 1 from rfl]
    rw [do_skip 4 t z0 1 _ chg_1 (by omega) (by omega) (by decide), show (1 : Int) + 1 = 2 from rfl]
    rw [do_skip 4 t z0 2 _ chg_2 (by omega) (by omega) (by decide), show (2 : Int) + 1 = 3 from rfl]
  unfold M_ident_Do
  rw [changes_eq]
  simp -implicitDefEqProofs only [Option.bind_eq_bind, Option.bind_some]
  have e' : M_ident_Do.l0 (((4 : Int), t).1, chg, (chg.length : Int), 0, ((4 : Int), t).2, (⟨0, 0, [], [], false⟩ : T_api_Tree)) = _ := e
  rw [e', M_ident_Do.l0, if_pos (dlt (by dsimp only; omega))]
  dsimp only
  rw [chg_3]
  simp -implicitDefEqProofs only [Option.bind_eq_bind, Option.bind_some]
  rw [if_neg (by decide)]
  cases M_ident_parts (⟨4, 0, 122⟩, t) with
  | none => rfl
  | some p =>
    simp -implicitDefEqProofs only [Option.bind_some, runK, Option.bind_eq_bind]
    by_cases h1 : p.2.2.2.2.2 = true
    · rw [if_pos h1, if_pos h1]
      cases M_ident_May (4, p.1.Kind, p.2.1.Kind) with
      | none => rfl
      | some r =>
        simp -implicitDefEqProofs only [Option.bind_some]
        by_cases h2 : r = true
        · have hf : ∀ y : T5, M_fid_116_118_121_122_123 (122, y) = M_ident_changes_4 y := fun y => by
            unfold M_fid_116_118_121_122_123
            dsimp only
            rw [if_neg (by decide), if_neg (by decide), if_neg (by decide), if_pos (by decide)]
          rw [if_pos h2, if_pos h2, hf]
          cases M_ident_changes_4 (p.1, p.2.1, p.2.2.1, p.2.2.2.1, p.2.2.2.2.1) with
          | none => rfl
          | some v =>
            simp -implicitDefEqProofs only [Option.bind_some]
            by_cases h3 : v.2 = true
            · rw [if_pos h3, if_pos h3]
              cases M_tree_Copy v.1 <;> rfl
            · rw [if_neg h3, if_neg h3, show w64 (3 + 1) = 4 from by decide, fin]; rfl
        · rw [if_neg h2, if_neg h2]; rfl
    · rw [if_neg h1, if_neg h1]; rfl
theorem do_of_4 {t : T_api_Tree} {p : T_api_Tree × T_api_Tree × T_api_Tree × T_api_Tree × T_api_Tree × Bool} (h : M_ident_parts (⟨4, 0, 122⟩, t) = some p) : M_ident_Do (4, t) = runK 4 M_ident_changes_4 p := by rw [do_eq_4, h]; rfl
theorem do_eq_5 (t : T_api_Tree) : M_ident_Do (5, t) = M_ident_parts (⟨5, 1, 123⟩, t) >>= runK 5 M_ident_changes_5 := by
  have fin : M_ident_Do.l0 (5, chg, 5, 5, t, z0) = some (.brk z0) := by
    rw [do_end]
  have e : M_ident_Do.l0 (5, chg, 5, 0, t, z0) = M_ident_Do.l0 (5, chg, 5, 4, t, z0) := by
    rw [do_skip 5 t z0 0 _ chg_0 (by omega) (by omega) (by decide), show (0 : Int) + 1 = 1 from rfl]
    rw [do_skip 5 t z0 1 _ chg_1 (by omega) (by omega) (by decide), show (1 : Int) + 1 = 2 from rfl]
    rw [do_skip 5 t z0 2 _ chg_2 (by omega) (by omega) (by decide), show (2 : Int) + 1 = 3 from rfl]
    rw [do_skip 5 t z0 3 _ chg_3 (by omega) (by omega) (by decide), show (3 : Int) + 1 = 4 from rfl]
  unfold M_ident_Do
  rw [changes_eq]
  simp -implicitDefEqProofs only [Option.bind_eq_bind, Option.bind_some]
  have e' : M_ident_Do.l0 (((5 : Int), t).1, chg, (chg.length : Int), 0, ((5 : Int), t).2, (⟨0, 0, [], [], false⟩ : T_api_Tree)) = _ := e
  rw [e', M_ident_Do.l0, if_pos (dlt (by dsimp only; omega))]
  dsimp only
  rw [chg_4]
  simp -implicitDefEqProofs only [Option.bind_eq_bind, Option.bind_some]
  rw [if_neg (by decide)]
  cases M_ident_parts (⟨5, 1, 123⟩, t) with
  | none => rfl
  | some p =>
    simp -implicitDefEqProofs only [Option.bind_some, runK, Option.bind_eq_bind]
    by_cases h1 : p.2.2.2.2.2 = true
    · rw [if_pos h1, if_pos h1]
      cases M_ident_May (5, p.1.Kind, p.2.1.Kind) with
      | none => rfl
      | some r =>
        simp -implicitDefEqProofs only [Option.bind_some]
        by_cases h2 : r = true
        · have hf : ∀ y : T5, M_fid_116_118_121_122_123 (123, y) = M_ident_changes_5 y := fun y => by
            unfold M_fid_116_118_121_122_123
            dsimp only
            rw [if_neg (by decide), if_neg (by decide), if_neg (by decide), if_neg (by decide), if_pos (by decide)]
          rw [if_pos h2, if_pos h2, hf]
          cases M_ident_changes_5 (p.1, p.2.1, p.2.2.1, p.2.2.2.1, p.2.2.2.2.1) with
          | none => rfl
          | some v =>
            simp -implicitDefEqProofs only [Option.bind_some]
            by_cases h3 : v.2 = true
            · rw [if_pos h3, if_pos h3]
              cases M_tree_Copy v.1 <;> rfl
            · rw [if_neg h3, if_neg h3, show w64 (4 + 1) = 5 from by decide, fin]; rfl
        · rw [if_neg h2, if_neg h2]; rfl
    · rw [if_neg h1, if_neg h1]; rfl
theorem do_of_5 {t : T_api_Tree} {p : T_api_Tree × T_api_Tree × T_api_Tree × T_api_Tree × T_api_Tree × Bool} (h : M_ident_parts (⟨5, 1, 123⟩, t) = some p) : M_ident_Do (5, t) = runK 5 M_ident_changes_5 p := by rw [do_eq_5, h]; rfl
theorem runK_go {how : Int} {F : T5 → Option (T_api_Tree × Bool)} {a b e f g v : T_api_Tree} (hm : M_ident_May (how, a.Kind, b.Kind) = some true) (hF : F (a, b, e, f, g) = some (v, true)) (hv : v.size ≤ 1000000) : runK how F (a, b, e, f, g, true) = some (v, true) := by
  unfold runK
  dsimp only
  rw [if_pos rfl, hm]
  simp -implicitDefEqProofs only [Option.bind_eq_bind, Option.bind_some, if_true]
  rw [hF]
  simp -implicitDefEqProofs only [Option.bind_some, if_true]
  rw [tree_Copy_eq v hv]; rfl
theorem runK_may {how : Int} {F : T5 → Option (T_api_Tree × Bool)} {a b e f g : T_api_Tree} (hm : M_ident_May (how, a.Kind, b.Kind) = some false) : runK how F (a, b, e, f, g, true) = some (z0, false) := by
  unfold runK
  dsimp only
  rw [if_pos rfl, hm]; rfl
theorem runK_not {how : Int} {F : T5 → Option (T_api_Tree × Bool)} {a b e f g v : T_api_Tree} (hm : M_ident_May (how, a.Kind, b.Kind) = some true) (hF : F (a, b, e, f, g) = some (v, false)) : runK how F (a, b, e, f, g, true) = some (z0, false) := by
  unfold runK
  dsimp only
  rw [if_pos rfl, hm]
  simp -implicitDefEqProofs only [Option.bind_eq_bind, Option.bind_some, if_true]
  rw [hF]; rfl
theorem parts_none {c : T_ident_change} {t : T_api_Tree} (h : t.Kids.length ≠ 2) : M_ident_parts (c, t) = some (z0, z0, z0, z0, z0, false) := by
  unfold M_ident_parts
  dsimp only
  rw [if_pos (by simp; omega)]; rfl
theorem parts_1 {k : Int} {d : Nat} {t x y : T_api_Tree} (h : t.Kids = [x, y]) : M_ident_parts (⟨k, -1, d⟩, t) = some (t, t, x, y, z0, true) := by
  unfold M_ident_parts
  dsimp only
  rw [h, if_neg (by simp)]
  rfl
theorem parts_l {k : Int} {d : Nat} {t x y e f : T_api_Tree} (h : t.Kids = [x, y]) (hx : x.Kids = [e, f]) : M_ident_parts (⟨k, 0, d⟩, t) = some (x, t, e, f, y, true) := by
  unfold M_ident_parts
  dsimp only
  rw [h, if_neg (by simp)]
  have k0 : [x, y][0]? = some x := rfl
  have k1 : [x, y][1]? = some y := rfl
  have g : getI [x, y] 0 = some x := rfl
  rw [k0, k1]
  simp -implicitDefEqProofs only [Option.bind_eq_bind, Option.bind_some]
  rw [if_neg (by simp), g]
  simp -implicitDefEqProofs only [Option.bind_some]
  rw [hx, if_neg (by simp)]
  rfl
theorem parts_l_none {k : Int} {d : Nat} {t x y : T_api_Tree} (h : t.Kids = [x, y]) (hx : x.Kids.length ≠ 2) : M_ident_parts (⟨k, 0, d⟩, t) = some (z0, z0, z0, z0, z0, false) := by
  unfold M_ident_parts
  dsimp only
  rw [h, if_neg (by simp)]
  have k0 : [x, y][0]? = some x := rfl
  have k1 : [x, y][1]? = some y := rfl
  have g : getI [x, y] 0 = some x := rfl
  rw [k0, k1]
  simp -implicitDefEqProofs only [Option.bind_eq_bind, Option.bind_some]
  rw [if_neg (by simp), g]
  simp -implicitDefEqProofs only [Option.bind_some]
  rw [if_pos (by simp; omega)]; rfl
theorem parts_r {k : Int} {d : Nat} {t x y f g : T_api_Tree} (h : t.Kids = [x, y]) (hy : y.Kids = [f, g]) : M_ident_parts (⟨k, 1, d⟩, t) = some (t, y, x, f, g, true) := by
  unfold M_ident_parts
  dsimp only
  rw [h, if_neg (by simp)]
  have k0 : [x, y][0]? = some x := rfl
  have k1 : [x, y][1]? = some y := rfl
  have g : getI [x, y] 1 = some y := rfl
  rw [k0, k1]
  simp -implicitDefEqProofs only [Option.bind_eq_bind, Option.bind_some]
  rw [if_neg (by simp), g]
  simp -implicitDefEqProofs only [Option.bind_some]
  rw [hy, if_neg (by simp)]
  rfl
theorem parts_r_none {k : Int} {d : Nat} {t x y : T_api_Tree} (h : t.Kids = [x, y]) (hy : y.Kids.length ≠ 2) : M_ident_parts (⟨k, 1, d⟩, t) = some (z0, z0, z0, z0, z0, false) := by
  unfold M_ident_parts
  dsimp only
  rw [h, if_neg (by simp)]
  have k0 : [x, y][0]? = some x := rfl
  have k1 : [x, y][1]? = some y := rfl
  have g : getI [x, y] 1 = some y := rfl
  rw [k0, k1]
  simp -implicitDefEqProofs only [Option.bind_eq_bind, Option.bind_some]
  rw [if_neg (by simp), g]
  simp -implicitDefEqProofs only [Option.bind_some]
  rw [if_pos (by simp; omega)]; rfl
/- Which operators may change places. -/
def opB (k : Int) : Bool := decide (1 ≤ k ∧ k ≤ 4)
theorem operator_eq (k : Int) : M_ident_operator k = some (opB k) := by
  unfold M_ident_operator opB
  by_cases h : k ≥ 1
  · rw [if_pos (decide_eq_true h)]; congr 1; simp; omega
  · rw [if_neg (by simpa using h)]; congr 1; simp; omega
def rotB (a b : Int) : Bool := (a == 1 && opB b) || (a == 2 && b == 2)
theorem may_1 (a b : Int) : M_ident_May (1, a, b) = some (a == 1) := rfl
theorem may_2 (a b : Int) : M_ident_May (2, a, b) = some (rotB a b) := by
  unfold M_ident_May rotB
  dsimp only
  rw [if_neg (by decide), if_pos (by decide), operator_eq]
  by_cases h : a = 1
  · subst h
    rw [if_pos (by decide)]
    simp -implicitDefEqProofs only [Option.bind_eq_bind, Option.bind_some]
    cases opB b <;> rfl
  · rw [if_neg (by simpa using h)]
    have : (a == 1) = false := by simpa using h
    rw [this]; rfl
theorem may_3 (a b : Int) : M_ident_May (3, a, b) = some (rotB a b) := by
  unfold M_ident_May rotB
  dsimp only
  rw [if_neg (by decide), if_neg (by decide), if_pos (by decide), operator_eq]
  by_cases h : a = 1
  · subst h
    rw [if_pos (by decide)]
    simp -implicitDefEqProofs only [Option.bind_eq_bind, Option.bind_some]
    cases opB b <;> rfl
  · rw [if_neg (by simpa using h)]
    have : (a == 1) = false := by simpa using h
    rw [this]; rfl
theorem may_4 (a b : Int) : M_ident_May (4, a, b) = some (opB a && opB b) := by
  unfold M_ident_May
  dsimp only
  rw [if_neg (by decide), if_neg (by decide), if_neg (by decide), if_pos (by decide), operator_eq, operator_eq]
  simp -implicitDefEqProofs only [Option.bind_eq_bind, Option.bind_some]
  cases opB a <;> cases opB b <;> rfl
theorem may_5 (a b : Int) : M_ident_May (5, a, b) = some ((a == 1) && (b == 1)) := by
  unfold M_ident_May
  dsimp only
  rw [if_neg (by decide), if_neg (by decide), if_neg (by decide), if_neg (by decide), if_pos (by decide)]
/- Names. -/
theorem names_l0 : ∀ (post pre : List T_api_Pred) (s : Set64), pre.length + post.length ≤ 1000000 → (∀ p ∈ post, p.size ≤ 1000000) →
    M_ident_names.l0 (s, pre ++ post, ((pre ++ post).length : Int), (pre.length : Int)) = some (s ||| ctabs post) := by
  intro post
  induction post with
  | nil =>
    intro pre s _ _
    rw [List.append_nil, M_ident_names.l0, if_neg (dge (by dsimp only; omega))]
    show some s = some (s ||| 0#64)
    rw [BitVec.or_zero]
  | cons p post ih =>
    intro pre s hl hs
    simp only [List.length_cons] at hl
    have hlen : (pre ++ p :: post).length = pre.length + (post.length + 1) := by rw [List.length_append]; rfl
    have h0 := ih (pre ++ [p]) (s ||| p.tabs) (by rw [snoc_ln]; omega) (fun x hx => hs x (List.mem_cons_of_mem _ hx))
    rw [snoc_ln, List.append_assoc, BitVec.or_assoc] at h0
    rw [M_ident_names.l0, if_pos (dlt (by dsimp only; omega))]
    dsimp only
    rw [getI_md]
    simp -implicitDefEqProofs only [Option.bind_eq_bind, Option.bind_some]
    rw [pred_Tables_eq p (hs p List.mem_cons_self)]
    simp -implicitDefEqProofs only [Option.bind_some]
    rw [w64_succ (by omega), ctabs_cons]
    exact h0
theorem names_eq (t : T_api_Tree) (h : t.size ≤ 1000000) : M_ident_names t.Conj = some (ctabs t.Conj) := by
  have hc := conj_len t
  have h0 := names_l0 t.Conj [] 0#64 (by simp; omega) (fun p hp => by have := conj_size hp; omega)
  simp only [List.nil_append, List.length_nil] at h0
  rw [show ((0 : Nat) : Int) = 0 from rfl, BitVec.zero_or] at h0
  unfold M_ident_names
  rw [h0]; rfl
theorem named_eq (op t : T_api_Tree) (h1 : op.size ≤ 1000000) (h2 : t.size ≤ 1000000) : M_ident_named (op, t) = some ((ctabs op.Conj &&& tabs t) != 0#64) := by
  unfold M_ident_named
  dsimp only
  rw [names_eq op h1, tree_Tables_eq t (by omega)]; rfl
theorem rej_some (a b f : T_api_Tree) (hb : b.size ≤ 1000000) (hf : f.size ≤ 1000000) : ∃ r, M_ident_rejects (a, b, f) = some r := by
  unfold M_ident_rejects
  dsimp only
  refine ex_ite ⟨_, rfl⟩ (ex_ite ⟨_, rfl⟩ ?_)
  rw [names_eq b hb, tree_Tables_eq f (by omega)]
  simp -implicitDefEqProofs only [Option.bind_eq_bind, Option.bind_some]
  exact exb (rejects_some b.Conj _ (by rw [tsize_eq] at hb; omega)) fun _ => ⟨_, rfl⟩
theorem rej_same {a b f a' b' : T_api_Tree} (h : a'.Kind = a.Kind) (h2 : b'.Kind = b.Kind) (h3 : b'.Conj = b.Conj) : M_ident_rejects (a', b', f) = M_ident_rejects (a, b, f) := by
  unfold M_ident_rejects
  dsimp only
  rw [h, h2, h3]
/- What a node's conjuncts name. -/
theorem tabs_cols (p : T_api_Pred) : ∀ n, hasI p.tabs n = true → ∃ c ∈ p.cols, c.e0 = n := by
  induction p using T_api_Pred.induct with
  | h p ih =>
    intro n h
    have hl : ∀ l : List T_api_Pred, (∀ y ∈ l, y ∈ p.Parts) → hasI (T_api_Pred.tabs.tabsL l) n = true → ∃ c ∈ T_api_Pred.cols.colsL l, c.e0 = n := by
      intro l
      induction l with
      | nil => intro _ h; simp only [T_api_Pred.tabs.tabsL] at h; rw [hasI_zero] at h; cases h
      | cons y l ih2 =>
        intro hs h
        simp only [T_api_Pred.tabs.tabsL] at h
        simp only [T_api_Pred.cols.colsL]
        rw [hasI_or, Bool.or_eq_true] at h
        rcases h with h | h
        · obtain ⟨c, h1, h2⟩ := ih y (hs y List.mem_cons_self) n h
          exact ⟨c, List.mem_append_left _ h1, h2⟩
        · obtain ⟨c, h1, h2⟩ := ih2 (fun z hz => hs z (List.mem_cons_of_mem _ hz)) h
          exact ⟨c, List.mem_append_right _ h1, h2⟩
    have ht : ∀ t : T_api_Term, hasI (ttab t) n = true → t.Kind = 1 ∧ t.Table = n := by
      intro t h
      unfold ttab at h
      split at h
      · rename_i hk
        refine ⟨hk, ?_⟩
        obtain ⟨j, h1, h2, h3⟩ := hasI_lt h
        rw [bitI_lsb] at h3
        simp only [Bool.and_eq_true, decide_eq_true_eq] at h3
        omega
      · rw [hasI_zero] at h; cases h
    rw [ptabs_eq, hasI_or, hasI_or, Bool.or_eq_true, Bool.or_eq_true] at h
    rw [pcols_eq]
    rcases h with (h | h) | h
    · obtain ⟨h1, h2⟩ := ht _ h
      exact ⟨⟨p.A.Table, p.A.Col⟩, by rw [if_pos h1]; simp, h2⟩
    · obtain ⟨h1, h2⟩ := ht _ h
      exact ⟨⟨p.B.Table, p.B.Col⟩, by rw [if_pos h1]; simp, h2⟩
    · obtain ⟨c, h1, h2⟩ := hl p.Parts (fun y hy => hy) h
      exact ⟨c, List.mem_append_right _ h1, h2⟩
theorem ctabs_has (l : List T_api_Pred) (n : Int) (h : hasI (ctabs l) n = true) : ∃ p ∈ l, hasI p.tabs n = true := by
  induction l with
  | nil => rw [show ctabs [] = 0#64 from rfl, hasI_zero] at h; cases h
  | cons p l ih =>
    rw [ctabs_cons, hasI_or, Bool.or_eq_true] at h
    rcases h with h | h
    · exact ⟨p, List.mem_cons_self, h⟩
    · obtain ⟨q, h1, h2⟩ := ih h
      exact ⟨q, List.mem_cons_of_mem _ h1, h2⟩
theorem hasI_and (a b : Set64) (n : Int) : hasI (a &&& b) n = (hasI a n && hasI b n) := by
  unfold hasI
  rw [BitVec.getLsbD_and]
  cases decide (0 ≤ n ∧ n < 64) <;> simp
theorem zero_of {s : Set64} (h : ∀ n, hasI s n = false) : s = 0#64 := by
  apply BitVec.eq_of_getLsbD_eq
  intro i hi
  rw [← hasI_nat s i hi, h]; simp
theorem leafTabs2 {t a b : T_api_Tree} (h : t.Kids = [a, b]) (hk : 1 ≤ t.Kind) : leafTabs t.tour = leafTabs a.tour ++ leafTabs b.tour := by
  rw [tour2 h, leafTabs_append, leafTabs_append, leafTabs_neg [] (by omega : ¬ t.Kind = 0)]
  show _ ++ [] = _
  rw [List.append_nil]
theorem tabs_on {t a b : T_api_Tree} (h : t.Kids = [a, b]) (hk : 1 ≤ t.Kind) : tabs t = tabs a ||| tabs b := by
  unfold tabs
  rw [leafTabs2 h hk, ofL_append]
theorem seen_2 {t a b : T_api_Tree} (h : t.Kids = [a, b]) (hk : 1 ≤ t.Kind) : t.seen = if t.Kind = 3 ∨ t.Kind = 4 then a.seen else a.seen ||| b.seen := by
  rw [seen_eq, if_neg (by omega), h]
  simp only [T_api_Tree.seen.seen1, T_api_Tree.seen.seenL, BitVec.or_zero]
/-- What an operator's conjuncts name stands within it. -/
theorem conj_apart {cols : List Int} {y a b x : T_api_Tree} (hy : y.Kids = [a, b]) (hk : 1 ≤ y.Kind) (hp : ∀ p ∈ y.Conj, OkConj cols a.seen b.seen p) (hd : ∀ n, n ∈ leafTabs y.tour → n ∈ leafTabs x.tour → False) : ((ctabs y.Conj &&& tabs x) != 0#64) = false := by
  have : ctabs y.Conj &&& tabs x = 0#64 := by
    refine zero_of fun n => ?_
    rw [hasI_and]
    cases h1 : hasI (ctabs y.Conj) n with
    | false => rfl
    | true =>
      cases h2 : hasI (tabs x) n with
      | false => rfl
      | true =>
        exfalso
        obtain ⟨p, hpm, hpt⟩ := ctabs_has _ n h1
        obtain ⟨c, hc, rfl⟩ := tabs_cols p n hpt
        have h3 := ((hasI_ofL _ _).1 h2).2.2
        refine hd c.e0 ?_ h3
        rw [leafTabs2 hy hk]
        rcases ((hp p hpm).col c hc).1 with h4 | h4
        · exact List.mem_append_left _ (seen_tabs a _ h4)
        · exact List.mem_append_right _ (seen_tabs b _ h4)
  rw [this]; rfl
def onS (t x y : T_api_Tree) : T_api_Tree := ⟨t.Kind, t.Table, [x, y], t.Conj, t.Hash⟩
theorem on_eq (t x y : T_api_Tree) : M_ident_on (t, x, y) = some (onS t x y) := rfl
theorem onS_self {t x y : T_api_Tree} (h : t.Kids = [x, y]) : onS t x y = t := by
  obtain ⟨a, b, c, d, e⟩ := t
  unfold onS
  dsimp only at h ⊢
  rw [h]
theorem size_2 {t a b : T_api_Tree} (h : t.Kids = [a, b]) : t.size = 1 + (t.Conj.map T_api_Pred.size).sum + (a.size + b.size) := by
  rw [tsize_eq, h]; simp
theorem size_on (t a b : T_api_Tree) : (onS t a b).size = 1 + (t.Conj.map T_api_Pred.size).sum + (a.size + b.size) := size_2 (t := onS t a b) rfl
/-- What is asked of a change: the other one undoes it, the tables and what is seen stay. -/
structure GoodB (u : Int) (t x : T_api_Tree) : Prop where
  undo : M_ident_Do (u, x) = some (t, true)
  tab : tabs x = tabs t
  see : x.seen = t.seen
  size : x.size = t.size
def Back (k u : Int) (t : T_api_Tree) : Prop := ∃ v, M_ident_Do (k, t) = some v ∧ (v.2 = true → GoodB u t v.1)
theorem Back.no {k u : Int} {t : T_api_Tree} (h : M_ident_Do (k, t) = some (z0, false)) : Back k u t := ⟨_, h, fun h => by cases h⟩
theorem back_1 {cols : List Int} {t : T_api_Tree} (ok : ∀ y ∈ t.tour, OkNode cols y) (nd : (leafTabs t.tour).Nodup) (hsz : t.size ≤ 600) : Back 1 1 t := by
  cases ok t (tour_self t) with
  | leaf hk hks hc hh h0 h1 => exact .no (by rw [do_eq_1, parts_none (by rw [hks]; simp)]; rfl)
  | op x y hk1 hk2 hks hc ht hp =>
    have e := do_of_1 (parts_1 hks)
    have s := size_2 hks
    have so := size_on t y x
    by_cases h1 : t.Kind = 1
    · have g : M_ident_Do (1, t) = some (onS t y x, true) := e.trans (runK_go (by rw [may_1, h1]; rfl) (by unfold M_ident_changes_1; dsimp only; rw [on_eq]; rfl) (by omega))
      refine ⟨_, g, fun _ => ⟨?_, ?_, ?_, by dsimp only; omega⟩⟩
      · have e2 := do_of_1 (parts_1 (t := onS t y x) (x := y) (y := x) rfl)
        exact e2.trans (runK_go (by rw [may_1]; show some ((t.Kind : Int) == 1) = _; rw [h1]; rfl) (by unfold M_ident_changes_1; dsimp only; rw [on_eq]; show some (onS t x y, true) = _; rw [onS_self hks]) (by omega))
      · rw [tabs_on hks hk1, tabs_on (t := onS t y x) rfl hk1, BitVec.or_comm]
      · rw [seen_2 hks hk1, seen_2 (t := onS t y x) rfl hk1, if_neg (by show ¬ (t.Kind = 3 ∨ t.Kind = 4); omega), if_neg (by omega), BitVec.or_comm]
    · exact .no (e.trans (runK_may (by rw [may_1]; congr 1; simpa using h1)))
theorem kids_ok {cols : List Int} {t : T_api_Tree} (ok : ∀ y ∈ t.tour, OkNode cols y) (nd : (leafTabs t.tour).Nodup) (hsz : t.size ≤ 600) {x y : T_api_Tree} (hks : t.Kids = [x, y]) (hk1 : 1 ≤ t.Kind) : (∀ n, n ∈ leafTabs x.tour → n ∈ leafTabs y.tour → False) ∧ OkNode cols x ∧ OkNode cols y := by
  rw [leafTabs2 hks hk1] at nd
  exact ⟨fun n h1 h2 => (List.nodup_append.1 nd).2.2 n h1 n h2 rfl, ok x (tour_kid (by rw [hks]; simp) _ (tour_self x)), ok y (tour_kid (by rw [hks]; simp) _ (tour_self y))⟩
theorem back_2 {cols : List Int} {t : T_api_Tree} (ok : ∀ y ∈ t.tour, OkNode cols y) (nd : (leafTabs t.tour).Nodup) (hsz : t.size ≤ 600) : Back 2 3 t := by
  cases ok t (tour_self t) with
  | leaf hk hks hc hh h0 h1 => exact .no (by rw [do_eq_2, parts_none (by rw [hks]; simp)]; rfl)
  | op x y hk1 hk2 hks hc ht hp =>
    obtain ⟨hd, okx, oky⟩ := kids_ok ok nd hsz hks hk1
    cases okx with
    | leaf hk hks' hc hh h0 h1 => exact .no (by rw [do_eq_2, parts_l_none hks (by rw [hks']; simp)]; rfl)
    | op e f xk1 xk2 xks xc xt xp =>
      have e1 := do_of_2 (parts_l hks xks)
      have s := size_2 hks
      have sx := size_2 xks
      have so1 := size_on t f y
      have so := size_on x e (onS t f y)
      cases hm : rotB x.Kind t.Kind with
      | false => exact .no (e1.trans (runK_may (by rw [may_2, hm])))
      | true =>
        have hch : ∀ b r, ((ctabs t.Conj &&& tabs e) != 0#64) = b → M_ident_rejects (x, t, f) = some r → M_ident_changes_2 (x, t, e, f, y) = some (onS x e (onS t f y), if b = true then false else r) := by
          intro b r hb hr
          unfold M_ident_changes_2
          dsimp only
          rw [on_eq]
          simp -implicitDefEqProofs only [Option.bind_eq_bind, Option.bind_some]
          rw [on_eq]
          simp -implicitDefEqProofs only [Option.bind_some]
          rw [named_eq t e (by omega) (by omega), hb]
          simp -implicitDefEqProofs only [Option.bind_some]
          cases b with
          | true => rfl
          | false => rw [if_neg (by decide), hr]; rfl
        obtain ⟨r, hr⟩ := rej_some x t f (by omega) (by omega)
        cases hb : ((ctabs t.Conj &&& tabs e) != 0#64) with
        | true => exact .no (e1.trans (runK_not (by rw [may_2, hm]) (hch _ _ hb hr)))
        | false =>
          cases r with
          | false => exact .no (e1.trans (runK_not (by rw [may_2, hm]) (hch _ _ hb hr)))
          | true =>
            have g := e1.trans (runK_go (by rw [may_2, hm]) (hch _ _ hb hr) (by omega))
            refine ⟨_, g, fun _ => ⟨?_, ?_, ?_, by dsimp only; omega⟩⟩
            · have e2 := do_of_3 (parts_r (t := onS x e (onS t f y)) (x := e) (y := onS t f y) (f := f) (g := y) rfl rfl)
              refine e2.trans (runK_go (by rw [may_3]; exact congrArg some hm) ?_ (by omega))
              unfold M_ident_changes_3
              dsimp only
              rw [on_eq]
              simp -implicitDefEqProofs only [Option.bind_eq_bind, Option.bind_some]
              rw [on_eq]
              simp -implicitDefEqProofs only [Option.bind_some]
              rw [named_eq _ y (by omega) (by omega), show ((ctabs (onS x e (onS t f y)).Conj &&& tabs y) != 0#64) = false from conj_apart (y := x) xks xk1 xp hd]
              simp -implicitDefEqProofs only [Option.bind_some]
              have hr2 : M_ident_rejects (onS x e (onS t f y), onS t f y, f) = some true := (rej_same (a := x) (b := t) rfl rfl rfl).trans hr
              rw [if_neg (by decide), hr2]
              show some (onS t (onS x e f) y, true) = _
              rw [onS_self xks, onS_self hks]
            · rw [tabs_on hks hk1, tabs_on xks xk1, tabs_on (t := onS x e (onS t f y)) rfl xk1, tabs_on (t := onS t f y) rfl hk1, BitVec.or_assoc]
            · have hk : x.Kind = 1 ∨ (x.Kind = 2 ∧ t.Kind = 2) := by
                unfold rotB at hm; simp at hm; omega
              rw [seen_2 hks hk1, seen_2 xks xk1, seen_2 (t := onS x e (onS t f y)) rfl xk1, seen_2 (t := onS t f y) rfl hk1]
              rw [if_neg (show ¬ (x.Kind = 3 ∨ x.Kind = 4) by omega), if_neg (show ¬ ((onS x e (onS t f y)).Kind = 3 ∨ (onS x e (onS t f y)).Kind = 4) from (show ¬ (x.Kind = 3 ∨ x.Kind = 4) by omega))]
              by_cases h34 : t.Kind = 3 ∨ t.Kind = 4
              · rw [if_pos (show (onS t f y).Kind = 3 ∨ (onS t f y).Kind = 4 from h34), if_pos h34]
              · rw [if_neg (show ¬ ((onS t f y).Kind = 3 ∨ (onS t f y).Kind = 4) from h34), if_neg h34, BitVec.or_assoc]
theorem back_3 {cols : List Int} {t : T_api_Tree} (ok : ∀ y ∈ t.tour, OkNode cols y) (nd : (leafTabs t.tour).Nodup) (hsz : t.size ≤ 600) : Back 3 2 t := by
  cases ok t (tour_self t) with
  | leaf hk hks hc hh h0 h1 => exact .no (by rw [do_eq_3, parts_none (by rw [hks]; simp)]; rfl)
  | op x y hk1 hk2 hks hc ht hp =>
    obtain ⟨hd, okx, oky⟩ := kids_ok ok nd hsz hks hk1
    cases oky with
    | leaf hk hks' hc hh h0 h1 => exact .no (by rw [do_eq_3, parts_r_none hks (by rw [hks']; simp)]; rfl)
    | op f g yk1 yk2 yks yc yt yp =>
      have e1 := do_of_3 (parts_r hks yks)
      have s := size_2 hks
      have sy := size_2 yks
      have so1 := size_on t x f
      have so := size_on y (onS t x f) g
      cases hm : rotB t.Kind y.Kind with
      | false => exact .no (e1.trans (runK_may (by rw [may_3, hm])))
      | true =>
        have hch : ∀ b r, ((ctabs t.Conj &&& tabs g) != 0#64) = b → M_ident_rejects (t, y, f) = some r → M_ident_changes_3 (t, y, x, f, g) = some (onS y (onS t x f) g, if b = true then false else r) := by
          intro b r hb hr
          unfold M_ident_changes_3
          dsimp only
          rw [on_eq]
          simp -implicitDefEqProofs only [Option.bind_eq_bind, Option.bind_some]
          rw [on_eq]
          simp -implicitDefEqProofs only [Option.bind_some]
          rw [named_eq t g (by omega) (by omega), hb]
          simp -implicitDefEqProofs only [Option.bind_some]
          cases b with
          | true => rfl
          | false => rw [if_neg (by decide), hr]; rfl
        obtain ⟨r, hr⟩ := rej_some t y f (by omega) (by omega)
        cases hb : ((ctabs t.Conj &&& tabs g) != 0#64) with
        | true => exact .no (e1.trans (runK_not (by rw [may_3, hm]) (hch _ _ hb hr)))
        | false =>
          cases r with
          | false => exact .no (e1.trans (runK_not (by rw [may_3, hm]) (hch _ _ hb hr)))
          | true =>
            have gg := e1.trans (runK_go (by rw [may_3, hm]) (hch _ _ hb hr) (by omega))
            refine ⟨_, gg, fun _ => ⟨?_, ?_, ?_, by dsimp only; omega⟩⟩
            · have e2 := do_of_2 (parts_l (t := onS y (onS t x f) g) (x := onS t x f) (y := g) (e := x) (f := f) rfl rfl)
              refine e2.trans (runK_go (by rw [may_2]; exact congrArg some hm) ?_ (by omega))
              unfold M_ident_changes_2
              dsimp only
              rw [on_eq]
              simp -implicitDefEqProofs only [Option.bind_eq_bind, Option.bind_some]
              rw [on_eq]
              simp -implicitDefEqProofs only [Option.bind_some]
              rw [named_eq _ x (by omega) (by omega), show ((ctabs (onS y (onS t x f) g).Conj &&& tabs x) != 0#64) = false from conj_apart (y := y) yks yk1 yp (fun n h1 h2 => hd n h2 h1)]
              simp -implicitDefEqProofs only [Option.bind_some]
              have hr2 : M_ident_rejects (onS t x f, onS y (onS t x f) g, f) = some true := (rej_same (a := t) (b := y) rfl rfl rfl).trans hr
              rw [if_neg (by decide), hr2]
              show some (onS t x (onS y f g), true) = _
              rw [onS_self yks, onS_self hks]
            · rw [tabs_on hks hk1, tabs_on yks yk1, tabs_on (t := onS y (onS t x f) g) rfl yk1, tabs_on (t := onS t x f) rfl hk1, BitVec.or_assoc]
            · have hk : t.Kind = 1 ∨ (t.Kind = 2 ∧ y.Kind = 2) := by
                unfold rotB at hm; simp at hm; omega
              rw [seen_2 hks hk1, seen_2 yks yk1, seen_2 (t := onS y (onS t x f) g) rfl yk1, seen_2 (t := onS t x f) rfl hk1]
              rw [if_neg (show ¬ (t.Kind = 3 ∨ t.Kind = 4) by omega), if_neg (show ¬ ((onS t x f).Kind = 3 ∨ (onS t x f).Kind = 4) from (show ¬ (t.Kind = 3 ∨ t.Kind = 4) by omega))]
              by_cases h34 : y.Kind = 3 ∨ y.Kind = 4
              · rw [if_pos (show (onS y (onS t x f) g).Kind = 3 ∨ (onS y (onS t x f) g).Kind = 4 from h34), if_pos h34]
              · rw [if_neg (show ¬ ((onS y (onS t x f) g).Kind = 3 ∨ (onS y (onS t x f) g).Kind = 4) from h34), if_neg h34, BitVec.or_assoc]
theorem back_4 {cols : List Int} {t : T_api_Tree} (ok : ∀ y ∈ t.tour, OkNode cols y) (nd : (leafTabs t.tour).Nodup) (hsz : t.size ≤ 600) : Back 4 4 t := by
  cases ok t (tour_self t) with
  | leaf hk hks hc hh h0 h1 => exact .no (by rw [do_eq_4, parts_none (by rw [hks]; simp)]; rfl)
  | op x y hk1 hk2 hks hc ht hp =>
    obtain ⟨hd, okx, oky⟩ := kids_ok ok nd hsz hks hk1
    cases okx with
    | leaf hk hks' hc hh h0 h1 => exact .no (by rw [do_eq_4, parts_l_none hks (by rw [hks']; simp)]; rfl)
    | op e f xk1 xk2 xks xc xt xp =>
      have e1 := do_of_4 (parts_l hks xks)
      have s := size_2 hks
      have sx := size_2 xks
      have so1 := size_on t e y
      have so := size_on x (onS t e y) f
      have hop : ∀ k : Int, 1 ≤ k → k ≤ 4 → opB k = true := fun k h1 h2 => decide_eq_true ⟨h1, h2⟩
      have hmay : ∀ a b : Int, 1 ≤ a → a ≤ 4 → 1 ≤ b → b ≤ 4 → M_ident_May (4, a, b) = some true := fun a b h1 h2 h3 h4 => by rw [may_4, hop a h1 h2, hop b h3 h4]; rfl
      have hch : ∀ b, ((ctabs t.Conj &&& tabs f) != 0#64) = b → M_ident_changes_4 (x, t, e, f, y) = some (onS x (onS t e y) f, !b) := by
        intro b hb
        unfold M_ident_changes_4
        dsimp only
        rw [on_eq]
        simp -implicitDefEqProofs only [Option.bind_eq_bind, Option.bind_some]
        rw [on_eq]
        simp -implicitDefEqProofs only [Option.bind_some]
        rw [named_eq t f (by omega) (by omega), hb]; rfl
      cases hb : ((ctabs t.Conj &&& tabs f) != 0#64) with
      | true => exact .no (e1.trans (runK_not (hmay _ _ xk1 xk2 hk1 hk2) (hch _ hb)))
      | false =>
        have gg := e1.trans (runK_go (hmay _ _ xk1 xk2 hk1 hk2) (hch _ hb) (by omega))
        refine ⟨_, gg, fun _ => ⟨?_, ?_, ?_, by dsimp only; omega⟩⟩
        · have e2 := do_of_4 (parts_l (t := onS x (onS t e y) f) (x := onS t e y) (y := f) (e := e) (f := y) rfl rfl)
          refine e2.trans (runK_go (hmay _ _ hk1 hk2 xk1 xk2) ?_ (by omega))
          unfold M_ident_changes_4
          dsimp only
          rw [on_eq]
          simp -implicitDefEqProofs only [Option.bind_eq_bind, Option.bind_some]
          rw [on_eq]
          simp -implicitDefEqProofs only [Option.bind_some]
          rw [named_eq _ y (by omega) (by omega), show ((ctabs (onS x (onS t e y) f).Conj &&& tabs y) != 0#64) = false from conj_apart (y := x) xks xk1 xp hd]
          show some (onS t (onS x e f) y, true) = _
          rw [onS_self xks, onS_self hks]
        · rw [tabs_on hks hk1, tabs_on xks xk1, tabs_on (t := onS x (onS t e y) f) rfl xk1, tabs_on (t := onS t e y) rfl hk1, BitVec.or_assoc, BitVec.or_assoc, BitVec.or_comm (tabs y)]
        · rw [seen_2 hks hk1, seen_2 xks xk1, seen_2 (t := onS x (onS t e y) f) rfl xk1, seen_2 (t := onS t e y) rfl hk1]
          show (if x.Kind = 3 ∨ x.Kind = 4 then (if t.Kind = 3 ∨ t.Kind = 4 then e.seen else e.seen ||| y.seen) else (if t.Kind = 3 ∨ t.Kind = 4 then e.seen else e.seen ||| y.seen) ||| f.seen) = (if t.Kind = 3 ∨ t.Kind = 4 then (if x.Kind = 3 ∨ x.Kind = 4 then e.seen else e.seen ||| f.seen) else (if x.Kind = 3 ∨ x.Kind = 4 then e.seen else e.seen ||| f.seen) ||| y.seen)
          by_cases h1 : x.Kind = 3 ∨ x.Kind = 4 <;> by_cases h2 : t.Kind = 3 ∨ t.Kind = 4
          · rw [if_pos h1, if_pos h2, if_pos h2, if_pos h1]
          · rw [if_pos h1, if_neg h2, if_neg h2, if_pos h1]
          · rw [if_neg h1, if_pos h2, if_pos h2, if_neg h1]
          · rw [if_neg h1, if_neg h2, if_neg h2, if_neg h1, BitVec.or_assoc, BitVec.or_assoc, BitVec.or_comm y.seen]
theorem back_5 {cols : List Int} {t : T_api_Tree} (ok : ∀ y ∈ t.tour, OkNode cols y) (nd : (leafTabs t.tour).Nodup) (hsz : t.size ≤ 600) : Back 5 5 t := by
  cases ok t (tour_self t) with
  | leaf hk hks hc hh h0 h1 => exact .no (by rw [do_eq_5, parts_none (by rw [hks]; simp)]; rfl)
  | op x y hk1 hk2 hks hc ht hp =>
    obtain ⟨hd, okx, oky⟩ := kids_ok ok nd hsz hks hk1
    cases oky with
    | leaf hk hks' hc hh h0 h1 => exact .no (by rw [do_eq_5, parts_r_none hks (by rw [hks']; simp)]; rfl)
    | op f g yk1 yk2 yks yc yt yp =>
      have e1 := do_of_5 (parts_r hks yks)
      have s := size_2 hks
      have sy := size_2 yks
      have so1 := size_on t x g
      have so := size_on y f (onS t x g)
      by_cases hm : t.Kind = 1 ∧ y.Kind = 1
      · have hch : ∀ b, ((ctabs t.Conj &&& tabs f) != 0#64) = b → M_ident_changes_5 (t, y, x, f, g) = some (onS y f (onS t x g), !b) := by
          intro b hb
          unfold M_ident_changes_5
          dsimp only
          rw [on_eq]
          simp -implicitDefEqProofs only [Option.bind_eq_bind, Option.bind_some]
          rw [on_eq]
          simp -implicitDefEqProofs only [Option.bind_some]
          rw [named_eq t f (by omega) (by omega), hb]; rfl
        have hmay : M_ident_May (5, t.Kind, y.Kind) = some true := by rw [may_5, hm.1, hm.2]; rfl
        have hmay2 : M_ident_May (5, y.Kind, t.Kind) = some true := by rw [may_5, hm.1, hm.2]; rfl
        cases hb : ((ctabs t.Conj &&& tabs f) != 0#64) with
        | true => exact .no (e1.trans (runK_not hmay (hch _ hb)))
        | false =>
          have gg := e1.trans (runK_go hmay (hch _ hb) (by omega))
          refine ⟨_, gg, fun _ => ⟨?_, ?_, ?_, by dsimp only; omega⟩⟩
          · have e2 := do_of_5 (parts_r (t := onS y f (onS t x g)) (x := f) (y := onS t x g) (f := x) (g := g) rfl rfl)
            refine e2.trans (runK_go hmay2 ?_ (by omega))
            unfold M_ident_changes_5
            dsimp only
            rw [on_eq]
            simp -implicitDefEqProofs only [Option.bind_eq_bind, Option.bind_some]
            rw [on_eq]
            simp -implicitDefEqProofs only [Option.bind_some]
            rw [named_eq _ x (by omega) (by omega), show ((ctabs (onS y f (onS t x g)).Conj &&& tabs x) != 0#64) = false from conj_apart (y := y) yks yk1 yp (fun n h1 h2 => hd n h2 h1)]
            show some (onS t x (onS y f g), true) = _
            rw [onS_self yks, onS_self hks]
          · rw [tabs_on hks hk1, tabs_on yks yk1, tabs_on (t := onS y f (onS t x g)) rfl yk1, tabs_on (t := onS t x g) rfl hk1, ← BitVec.or_assoc, ← BitVec.or_assoc, BitVec.or_comm (tabs f)]
          · rw [seen_2 hks hk1, seen_2 yks yk1, seen_2 (t := onS y f (onS t x g)) rfl yk1, seen_2 (t := onS t x g) rfl hk1]
            rw [if_neg (show ¬ (t.Kind = 3 ∨ t.Kind = 4) by omega), if_neg (show ¬ (y.Kind = 3 ∨ y.Kind = 4) by omega), if_neg (show ¬ ((onS y f (onS t x g)).Kind = 3 ∨ (onS y f (onS t x g)).Kind = 4) from (show ¬ (y.Kind = 3 ∨ y.Kind = 4) by omega)), if_neg (show ¬ ((onS t x g).Kind = 3 ∨ (onS t x g).Kind = 4) from (show ¬ (t.Kind = 3 ∨ t.Kind = 4) by omega))]
            rw [← BitVec.or_assoc, ← BitVec.or_assoc, BitVec.or_comm f.seen]
      · exact .no (e1.trans (runK_may (by rw [may_5]; congr 1; simp; omega)))
end Go.Proofs.Ytcfekacmmfdggaa.G
set_option linter.unusedVariables false
set_option linter.unusedSimpArgs false
namespace Go.Proofs.Ytcfekacmmfdggaa.G

/- The predicates, the trees of the chapter's examples. -/
def eqP (a b : Int) : T_api_Pred := ⟨2, 0, 1, ⟨1, a, 0, ⟨false, 0⟩⟩, ⟨1, b, 0, ⟨false, 0⟩⟩, []⟩
def leafT (n : Int) : T_api_Tree := ⟨0, n, [], [], false⟩
def twoT (k : Int) : T_api_Tree := ⟨k, 0, [leafT 0, leafT 1], [eqP 0 1], false⟩
def leftsT : T_api_Tree := ⟨2, 0, [twoT 2, leafT 2], [eqP 1 2], false⟩
theorem eqP_size (a b : Int) : (eqP a b).size = 1 := by rw [psize_eq]; rfl
theorem leafT_size (n : Int) : (leafT n).size = 1 := by rw [tsize_eq]; rfl
theorem twoT_size (k : Int) : (twoT k).size = 4 := by rw [size_2 (t := twoT k) rfl]; simp [twoT, eqP_size, leafT_size]
theorem leftsT_size : leftsT.size = 7 := by rw [size_2 (t := leftsT) rfl]; simp [leftsT, eqP_size, leafT_size, twoT_size]
theorem leafT_tour (n : Int) : (leafT n).tour = [leafT n] := tour0 rfl
theorem leafT_tabs (n : Int) : tabs (leafT n) = bitI n := by
  unfold tabs
  rw [leafT_tour]
  simp [leafTabs, leafT, ofL_cons, ofL_nil]
theorem eqP_tabs (a b : Int) : (eqP a b).tabs = bitI a ||| bitI b := by
  rw [ptabs_eq]
  simp [eqP, ttab, T_api_Pred.tabs.tabsL]
theorem do_none {t : T_api_Tree} (h : t.Kids.length ≠ 2) : M_ident_Do (1, t) = some (z0, false) ∧ M_ident_Do (2, t) = some (z0, false) ∧ M_ident_Do (3, t) = some (z0, false) ∧ M_ident_Do (4, t) = some (z0, false) ∧ M_ident_Do (5, t) = some (z0, false) :=
  ⟨do_of_1 (parts_none h), do_of_2 (parts_none h), do_of_3 (parts_none h), do_of_4 (parts_none h), do_of_5 (parts_none h)⟩
theorem do_flat {t x y : T_api_Tree} (h : t.Kids = [x, y]) (hx : x.Kids.length ≠ 2) (hy : y.Kids.length ≠ 2) : M_ident_Do (2, t) = some (z0, false) ∧ M_ident_Do (3, t) = some (z0, false) ∧ M_ident_Do (4, t) = some (z0, false) ∧ M_ident_Do (5, t) = some (z0, false) :=
  ⟨do_of_2 (parts_l_none h hx), do_of_3 (parts_r_none h hy), do_of_4 (parts_l_none h hx), do_of_5 (parts_r_none h hy)⟩
theorem turn_1 : M_ident_Do (1, twoT 1) = some (onS (twoT 1) (leafT 1) (leafT 0), true) := by
  rw [do_of_1 (parts_1 (t := twoT 1) rfl)]
  exact runK_go rfl (by unfold M_ident_changes_1; dsimp only; rw [on_eq]; rfl) (by rw [size_on]; simp [twoT, eqP_size, leafT_size])
theorem turn_2 : M_ident_Do (1, twoT 2) = some (z0, false) := by
  rw [do_of_1 (parts_1 (t := twoT 2) rfl)]
  exact runK_may rfl
theorem w64_nums : w64 (0 + 1) = 1 ∧ w64 (1 + 1) = 2 ∧ w64 (2 + 1) = 3 ∧ w64 (3 + 1) = 4 ∧ w64 (4 + 1) = 5 ∧ w64 (5 + 1) = 6 ∧ w64 1 = 1 ∧ w64 2 = 2 ∧ w64 3 = 3 := by decide
/- Whether the later Left rejects. -/
theorem only_1 : M_reject_only 1 = some ⟨false, true, false⟩ := by
  unfold M_reject_only; rw [and_eq _ (by simp)]; rfl
theorem only_2 : M_reject_only 2 = some ⟨false, false, true⟩ := by
  unfold M_reject_only; rw [and_eq _ (by simp)]; rfl
theorem both_21 : M_reject_both__logic_And (⟨false, false, true⟩, ⟨false, true, false⟩) = some ⟨false, true, false⟩ := by
  have b01 : ((0 : Int) == 1) = false := rfl
  have b02 : ((0 : Int) == 2) = false := rfl
  have b10 : ((1 : Int) == 0) = false := rfl
  have b12 : ((1 : Int) == 2) = false := rfl
  have b20 : ((2 : Int) == 0) = false := rfl
  have b21 : ((2 : Int) == 1) = false := rfl
  have hand : M_logic_And [2, 1] = some 1 := by rw [and_eq _ (by simp)]; rfl
  obtain ⟨w1, w2, w3, w4, w5, w6, v1, v2, v3⟩ := w64_nums
  have row : ∀ (i : Int) (j : Int) (z o : A3_Bool), (i = 0 ∨ i = 1) → M_reject_both__logic_And.l1 (i, j, 0, ⟨false, false, true⟩, ⟨false, true, false⟩, z, o) = some o := by
    intro i j z o hi
    rcases hi with rfl | rfl <;>
    · rw [M_reject_both__logic_And.l1, if_pos (by rfl)]
      simp only [beq_self_eq_true, b01, b02, b10, b12, b20, b21, if_true, Bool.false_eq_true, if_false, w1, w2, w3, v1, v2, v3]
      rw [M_reject_both__logic_And.l1, if_pos (by rfl)]
      simp only [beq_self_eq_true, b01, b02, b10, b12, b20, b21, if_true, Bool.false_eq_true, if_false, w1, w2, w3, v1, v2, v3]
      rw [M_reject_both__logic_And.l1, if_pos (by rfl)]
      simp only [beq_self_eq_true, b01, b02, b10, b12, b20, b21, if_true, Bool.false_eq_true, if_false, w1, w2, w3, v1, v2, v3]
      rw [M_reject_both__logic_And.l1, if_neg (by simp)]
  have row2 : ∀ (j : Int) (z : A3_Bool), M_reject_both__logic_And.l1 (2, j, 0, ⟨false, false, true⟩, ⟨false, true, false⟩, z, ⟨false, false, false⟩) = some ⟨false, true, false⟩ := by
    intro j z
    rw [M_reject_both__logic_And.l1, if_pos (by rfl)]
    simp only [beq_self_eq_true, b01, b02, b10, b12, b20, b21, if_true, Bool.false_eq_true, if_false, w1, w2, w3, v1, v2, v3]
    rw [M_reject_both__logic_And.l1, if_pos (by rfl)]
    simp only [beq_self_eq_true, b01, b02, b10, b12, b20, b21, if_true, Bool.false_eq_true, if_false, w1, w2, w3, v1, v2, v3, hand, Option.bind_eq_bind, Option.bind_some]
    rw [M_reject_both__logic_And.l1, if_pos (by rfl)]
    simp only [beq_self_eq_true, b01, b02, b10, b12, b20, b21, if_true, Bool.false_eq_true, if_false, w1, w2, w3, v1, v2, v3]
    rw [M_reject_both__logic_And.l1, if_neg (by simp)]
  unfold M_reject_both__logic_And
  dsimp only
  rw [M_reject_both__logic_And.l0, if_pos (by rfl)]
  dsimp only
  rw [row 0 _ _ _ (.inl rfl)]
  simp -implicitDefEqProofs only [Option.bind_eq_bind, Option.bind_some]
  rw [w1, M_reject_both__logic_And.l0, if_pos (by rfl)]
  dsimp only
  rw [row 1 _ _ _ (.inr rfl)]
  simp -implicitDefEqProofs only [Option.bind_eq_bind, Option.bind_some]
  rw [w2, M_reject_both__logic_And.l0, if_pos (by rfl)]
  dsimp only
  rw [row2]
  simp -implicitDefEqProofs only [Option.bind_eq_bind, Option.bind_some]
  rw [w3, M_reject_both__logic_And.l0, if_neg (by simp)]
  rfl
theorem rejects_12 : M_reject_Rejects ([eqP 1 2], bitI 1) = some true := by
  unfold M_reject_Rejects
  dsimp only
  have hn : M_reject_isNull ((eqP 1 2).A, bitI 1) = some true := by
    unfold M_reject_isNull
    dsimp only
    rw [if_pos (by rfl), sets_Has_eq]; rfl
  have hc : M_reject_May (eqP 1 2, bitI 1) = some ⟨false, true, false⟩ := by
    rw [M_reject_May]
    dsimp only
    rw [if_neg (by simp [eqP]), if_pos (by simp [eqP])]
    unfold M_reject_compares
    dsimp only
    rw [if_neg (by simp [eqP]), if_neg (by simp [eqP]), hn]
    simp -implicitDefEqProofs only [Option.bind_eq_bind, Option.bind_some, if_true]
    rw [only_1]; rfl
  rw [M_reject_May]
  dsimp only
  rw [if_neg (by simp), if_neg (by simp), if_neg (by simp), if_pos (by simp), only_2]
  simp -implicitDefEqProofs only [Option.bind_eq_bind, Option.bind_some]
  rw [M_reject_May.l0, if_pos (by simp)]
  dsimp only
  have g : getI [eqP 1 2] 0 = some (eqP 1 2) := rfl
  rw [g]
  simp -implicitDefEqProofs only [Option.bind_eq_bind, Option.bind_some]
  rw [hc]
  simp -implicitDefEqProofs only [Option.bind_some]
  rw [both_21]
  simp -implicitDefEqProofs only [Option.bind_some]
  rw [w64_nums.1, M_reject_May.l0, if_neg (by simp)]
  rfl
theorem lefts_rot : M_ident_Do (2, leftsT) = some (onS (twoT 2) (leafT 0) (onS leftsT (leafT 1) (leafT 2)), true) := by
  rw [do_of_2 (parts_l (t := leftsT) (x := twoT 2) rfl rfl)]
  refine runK_go rfl ?_ (by rw [size_on, size_on]; simp [twoT, leftsT, eqP_size, leafT_size])
  have hs := leftsT_size
  have h0 := leafT_size 0
  have h1 := leafT_size 1
  unfold M_ident_changes_2
  dsimp only
  rw [on_eq]
  simp -implicitDefEqProofs only [Option.bind_eq_bind, Option.bind_some]
  rw [on_eq]
  simp -implicitDefEqProofs only [Option.bind_some]
  have hc : ctabs leftsT.Conj = bitI 1 ||| bitI 2 := by
    rw [show leftsT.Conj = [eqP 1 2] from rfl, ctabs_cons, eqP_tabs, show ctabs [] = 0#64 from rfl, BitVec.or_zero]
  rw [named_eq leftsT (leafT 0) (by omega) (by omega), hc, leafT_tabs, show ((bitI 1 ||| bitI 2) &&& bitI 0 != 0#64) = false from by rfl]
  simp -implicitDefEqProofs only [Option.bind_some]
  rw [if_neg (by decide)]
  unfold M_ident_rejects
  dsimp only
  rw [if_neg (by simp [twoT]), if_neg (by simp [leftsT]), names_eq leftsT (by omega), tree_Tables_eq (leafT 1) (by omega), hc, leafT_tabs]
  simp -implicitDefEqProofs only [Option.bind_eq_bind, Option.bind_some]
  rw [show (bitI 1 ||| bitI 2) &&& bitI 1 = bitI 1 from by rfl, show leftsT.Conj = [eqP 1 2] from rfl, rejects_12]
  rfl
theorem lefts_1 : M_ident_Do (1, leftsT) = some (z0, false) := by
  rw [do_of_1 (parts_1 (t := leftsT) rfl)]; exact runK_may rfl
theorem lefts_3 : M_ident_Do (3, leftsT) = some (z0, false) := by rw [do_of_3 (parts_r_none (t := leftsT) (y := leafT 2) rfl (by simp [leafT]))]; rfl
theorem lefts_5 : M_ident_Do (5, leftsT) = some (z0, false) := by rw [do_of_5 (parts_r_none (t := leftsT) (y := leafT 2) rfl (by simp [leafT]))]; rfl
theorem lefts_4 : M_ident_Do (4, leftsT) = some (z0, false) := by
  rw [do_of_4 (parts_l (t := leftsT) (x := twoT 2) rfl rfl)]
  have hs := leftsT_size
  have h1 := leafT_size 1
  refine runK_not (v := onS (twoT 2) (onS leftsT (leafT 0) (leafT 2)) (leafT 1)) (by rw [may_4]; rfl) ?_
  unfold M_ident_changes_4
  dsimp only
  rw [on_eq]
  simp -implicitDefEqProofs only [Option.bind_eq_bind, Option.bind_some]
  rw [on_eq]
  simp -implicitDefEqProofs only [Option.bind_some]
  have hc : ctabs leftsT.Conj = bitI 1 ||| bitI 2 := by
    rw [show leftsT.Conj = [eqP 1 2] from rfl, ctabs_cons, eqP_tabs, show ctabs [] = 0#64 from rfl, BitVec.or_zero]
  rw [named_eq leftsT (leafT 1) (by omega) (by omega), hc, leafT_tabs, show ((bitI 1 ||| bitI 2) &&& bitI 1 != 0#64) = true from by rfl]
  rfl
/-- No change. -/
theorem ways_l0_none {t : T_api_Tree} (h : M_ident_Do (1, t) = some (z0, false) ∧ M_ident_Do (2, t) = some (z0, false) ∧ M_ident_Do (3, t) = some (z0, false) ∧ M_ident_Do (4, t) = some (z0, false) ∧ M_ident_Do (5, t) = some (z0, false)) : M_ident_Ways.l0 ([], 1, t) = some [] := by
  obtain ⟨h1, h2, h3, h4, h5⟩ := h
  obtain ⟨w1, w2, w3, w4, w5, w6, v1, v2, v3⟩ := w64_nums
  rw [M_ident_Ways.l0, if_pos (by simp)]
  dsimp only
  rw [h1]
  simp -implicitDefEqProofs only [Option.bind_eq_bind, Option.bind_some]
  rw [if_neg (by decide), w2, M_ident_Ways.l0, if_pos (by simp)]
  dsimp only
  rw [h2]
  simp -implicitDefEqProofs only [Option.bind_eq_bind, Option.bind_some]
  rw [if_neg (by decide), w3, M_ident_Ways.l0, if_pos (by simp)]
  dsimp only
  rw [h3]
  simp -implicitDefEqProofs only [Option.bind_eq_bind, Option.bind_some]
  rw [if_neg (by decide), w4, M_ident_Ways.l0, if_pos (by simp)]
  dsimp only
  rw [h4]
  simp -implicitDefEqProofs only [Option.bind_eq_bind, Option.bind_some]
  rw [if_neg (by decide), w5, M_ident_Ways.l0, if_pos (by simp)]
  dsimp only
  rw [h5]
  simp -implicitDefEqProofs only [Option.bind_eq_bind, Option.bind_some]
  rw [if_neg (by decide), w6, M_ident_Ways.l0, if_neg (by simp)]
theorem ways_leaf (n : Int) : M_ident_Ways (leafT n) = some [] := by
  rw [M_ident_Ways, ways_l0_none (do_none (by simp [leafT]))]
  simp -implicitDefEqProofs only [Option.bind_eq_bind, Option.bind_some]
  rw [M_ident_Ways.l1, if_pos (by simp), if_neg (by simp [leafT])]
  rfl
theorem ways_l1 {t x y : T_api_Tree} (out : List T_api_Tree) (h : t.Kids = [x, y]) (hx : M_ident_Ways x = some []) (hy : M_ident_Ways y = some []) : M_ident_Ways.l1 (out, 0, t) = some out := by
  have g0 : getI [x, y] 0 = some x := rfl
  have g1 : getI [x, y] 1 = some y := rfl
  rw [M_ident_Ways.l1, if_pos (by simp)]
  dsimp only
  rw [h, if_pos (by simp), g0]
  simp -implicitDefEqProofs only [Option.bind_eq_bind, Option.bind_some]
  rw [hx]
  simp -implicitDefEqProofs only [Option.bind_some]
  rw [M_ident_Ways.l2, if_neg (by simp)]
  simp -implicitDefEqProofs only [Option.bind_some]
  rw [w64_nums.1, M_ident_Ways.l1, if_pos (by simp)]
  dsimp only
  rw [h, if_pos (by simp), g1]
  simp -implicitDefEqProofs only [Option.bind_eq_bind, Option.bind_some]
  rw [hy]
  simp -implicitDefEqProofs only [Option.bind_some]
  rw [M_ident_Ways.l2, if_neg (by simp)]
  simp -implicitDefEqProofs only [Option.bind_some]
  rw [w64_nums.2.1, M_ident_Ways.l1, if_neg (by simp)]
theorem ways_two : M_ident_Ways (twoT 2) = some [] := by
  have hd := do_flat (t := twoT 2) (x := leafT 0) (y := leafT 1) rfl (by simp [leafT]) (by simp [leafT])
  rw [M_ident_Ways, ways_l0_none ⟨turn_2, hd.1, hd.2.1, hd.2.2.1, hd.2.2.2⟩]
  simp -implicitDefEqProofs only [Option.bind_eq_bind, Option.bind_some]
  rw [ways_l1 (t := twoT 2) [] rfl (ways_leaf 0) (ways_leaf 1)]
  rfl
theorem ways_lefts : M_ident_Ways leftsT = some [onS (twoT 2) (leafT 0) (onS leftsT (leafT 1) (leafT 2))] := by
  obtain ⟨w1, w2, w3, w4, w5, w6, v1, v2, v3⟩ := w64_nums
  rw [M_ident_Ways, M_ident_Ways.l0, if_pos (by simp)]
  dsimp only
  rw [lefts_1]
  simp -implicitDefEqProofs only [Option.bind_eq_bind, Option.bind_some]
  rw [if_neg (by decide), w2, M_ident_Ways.l0, if_pos (by simp)]
  dsimp only
  rw [lefts_rot]
  simp -implicitDefEqProofs only [Option.bind_eq_bind, Option.bind_some]
  rw [if_pos (by trivial), room_of (by simp)]
  simp -implicitDefEqProofs only [Option.bind_some, List.nil_append]
  rw [w3, M_ident_Ways.l0, if_pos (by simp)]
  dsimp only
  rw [lefts_3]
  simp -implicitDefEqProofs only [Option.bind_eq_bind, Option.bind_some]
  rw [if_neg (by decide), w4, M_ident_Ways.l0, if_pos (by simp)]
  dsimp only
  rw [lefts_4]
  simp -implicitDefEqProofs only [Option.bind_eq_bind, Option.bind_some]
  rw [if_neg (by decide), w5, M_ident_Ways.l0, if_pos (by simp)]
  dsimp only
  rw [lefts_5]
  simp -implicitDefEqProofs only [Option.bind_eq_bind, Option.bind_some]
  rw [if_neg (by decide), w6, M_ident_Ways.l0, if_neg (by simp)]
  simp -implicitDefEqProofs only [Option.bind_some]
  rw [ways_l1 (t := leftsT) _ rfl ways_two (ways_leaf 2)]
  rfl
theorem law17_awake_plain : M_law17_awake () = some true := by
  unfold M_law17_awake
  have e1 : ∀ k, M_law10_Two k = some (twoT k) := fun k => rfl
  have e2 : M_ref10_LeafOf 2 = some (leafT 2) := rfl
  have e3 : M_law06_Equal (1, 2) = some (eqP 1 2) := rfl
  have e4 : M_ref10_On (2, twoT 2, leafT 2, [eqP 1 2]) = some leftsT := rfl
  rw [e1, e1, e2, e3]
  simp -implicitDefEqProofs only [Option.bind_eq_bind, Option.bind_some]
  rw [turn_1, turn_2, e4]
  simp -implicitDefEqProofs only [Option.bind_some]
  rw [lefts_rot]
  simp -implicitDefEqProofs only [Option.bind_some]
  rw [if_pos (by trivial)]
  have k0 : (onS (twoT 1) (leafT 1) (leafT 0)).Kids[0]? = some (leafT 1) := rfl
  have k1 : (onS (twoT 2) (leafT 0) (onS leftsT (leafT 1) (leafT 2))).Kids[0]? = some (leafT 0) := rfl
  have k2 : (onS (twoT 2) (leafT 0) (onS leftsT (leafT 1) (leafT 2))).Kids[1]? = some (onS leftsT (leafT 1) (leafT 2)) := rfl
  have k3 : (onS leftsT (leafT 1) (leafT 2)).Kids[0]? = some (leafT 1) := rfl
  rw [k0]
  simp -implicitDefEqProofs only [Option.bind_some]
  rw [if_pos (by rfl), if_neg (by decide), if_pos (by trivial), k1]
  simp -implicitDefEqProofs only [Option.bind_some]
  rw [if_pos (by rfl), k2]
  simp -implicitDefEqProofs only [Option.bind_some]
  rw [k3]
  simp -implicitDefEqProofs only [Option.bind_some]
  rw [if_pos (by rfl), may_4]
  simp -implicitDefEqProofs only [Option.bind_some]
  rw [if_pos (by rfl), may_2]
  simp -implicitDefEqProofs only [Option.bind_some]
  rw [if_neg (by decide)]
  rw [ways_lefts]; rfl
/-- A change and the one that undoes it give the tree back; each keeps the tables and what is seen. -/
theorem identBack_plain (q : T_api_Query) : M_law17_IdentBack q = some true := by
  have haw := law17_awake_plain
  unfold M_law17_IdentBack
  rw [law11_Few_eq]
  simp -implicitDefEqProofs only [Option.bind_eq_bind, Option.bind_some]
  by_cases hsz : q.Root.size ≤ 600
  · rw [if_pos (decide_eq_true hsz)]
    obtain ⟨b, h1, h2⟩ := ref11_Right_eq q hsz
    rw [h1]
    simp -implicitDefEqProofs only [Option.bind_some]
    by_cases hb : b = true
    · rw [if_pos hb]
      have R := h2 hb
      have step : ∀ (k u : Int), 1 ≤ k → k ≤ 5 → getI [0, 1, 3, 2, 4, 5] k = some u → Back k u q.Root → M_law17_IdentBack.l0 ([0, 1, 3, 2, 4, 5], k, q) = M_law17_IdentBack.l0 ([0, 1, 3, 2, 4, 5], k + 1, q) := by
        intro k u hk1 hk5 hu hback
        obtain ⟨v, hv, hg⟩ := hback
        rw [M_law17_IdentBack.l0, if_pos (decide_eq_true (by dsimp only; omega))]
        dsimp only
        rw [hv]
        simp -implicitDefEqProofs only [Option.bind_eq_bind, Option.bind_some]
        rw [w64_of (by omega) (by omega)]
        by_cases h3 : v.2 = true
        · have G := hg h3
          have gs := G.size
          rw [if_pos h3, hu]
          simp -implicitDefEqProofs only [Option.bind_some]
          rw [G.undo]
          simp -implicitDefEqProofs only [Option.bind_some]
          rw [if_pos (by trivial), ref10_Same_self _ (by omega)]
          simp -implicitDefEqProofs only [Option.bind_some]
          rw [if_pos (by trivial), ref10_Tables_eq _ (by omega), ref10_Tables_eq _ (by omega)]
          simp -implicitDefEqProofs only [Option.bind_some]
          rw [if_neg (by simp [G.tab]), ref10_Seen_eq _ (by omega), ref10_Seen_eq _ (by omega)]
          simp -implicitDefEqProofs only [Option.bind_some]
          rw [if_neg (by simp [G.see])]
        · rw [if_neg h3]
      have e : M_law17_IdentBack.l0 ([0, 1, 3, 2, 4, 5], 1, q) = some (.brk ()) := by
        rw [step 1 1 (by omega) (by omega) rfl (back_1 R.node R.nodup hsz), show (1 : Int) + 1 = 2 from rfl,
          step 2 3 (by omega) (by omega) rfl (back_2 R.node R.nodup hsz), show (2 : Int) + 1 = 3 from rfl,
          step 3 2 (by omega) (by omega) rfl (back_3 R.node R.nodup hsz), show (3 : Int) + 1 = 4 from rfl,
          step 4 4 (by omega) (by omega) rfl (back_4 R.node R.nodup hsz), show (4 : Int) + 1 = 5 from rfl,
          step 5 5 (by omega) (by omega) rfl (back_5 R.node R.nodup hsz), show (5 : Int) + 1 = 6 from rfl,
          M_law17_IdentBack.l0, if_neg (by simp)]
      rw [e]
      simp -implicitDefEqProofs only [Option.bind_some]
      rw [haw]; rfl
    · rw [if_neg hb, haw]; rfl
  · rw [if_neg (by simpa using hsz), haw]; rfl
end Go.Proofs.Ytcfekacmmfdggaa.G
set_option linter.unusedVariables false
set_option linter.unusedSimpArgs false
namespace Go.Proofs.Ytcfekacmmfdggaa.G
open Go.ChangeShapes Go.WideShapes Go.ChangeAt Go.RowKit

theorem memOk0 (μ : TypeId → Bool) (w : World) : MemOk gE (mE μ) w := by
  constructor <;> intros <;> simp_all [gE, mE]
theorem imm0 (b n : Nat) : Imm gE b n := ⟨fun l h => by simp [gE] at h, fun id h => by simp [gE] at h⟩

/-- **A law's function that tells true: a call's fact.** -/
theorem Fn.law {P : Program} {f : FuncId} {args : List AV} {vs : Array Value} {w : World} (h : Fn P f args (.bool true)) (hr : Reps gE w args vs) :
    Calls P f vs w fun e w' => e = .returned (.bool true) ∧ Below w.heap.size w w' := by
  have h0 := h (mE fun _ => false)
  refine (callsIn_wide.1 (h0.2.2 gE w vs ⟨fun _ _ _ => rfl, fun _ _ _ => rfl⟩ (memOk0 _ w) hr)).mono ?_
  rintro e w' ⟨v, g', rfl, hs, hm, hv⟩
  rw [hv.atom_inv]
  exact ⟨rfl, hs.os, hs.tape, hs.output, hs.size, fun b hb => hs.same b hb (fun l h => by simp [mE] at h) (fun l h => by simp [mE] at h)⟩

theorem Reps.nil {g : Gh} {w : World} : Reps g w [] #[] := ⟨rfl, fun j c v h => by cases h⟩
theorem Reps.cons {g : Gh} {w : World} {a : AV} {v : Value} {as_ : List AV} {vs : List Value} (h : Rep g w a v) (hs : Reps g w as_ vs.toArray) : Reps g w (a :: as_) (v :: vs).toArray := by
  refine ⟨by have := hs.1; simp at this ⊢; omega, fun j c x hc hx => ?_⟩
  cases j with
  | zero => simp at hc hx; subst hc hx; exact h
  | succ j => simp at hc hx; exact hs.2 j c x hc (by simpa using hx)

/-- A type's value out of its cells. -/
def ofCells (P : Program) (t : TypeId) (cs : List AV) : Option AV :=
  match aggT P t with
  | some true => some (.agg cs)
  | some false => match cs with
    | [c] => some c
    | _ => none
  | none => none
/-- Data of a type: numbers, truths, texts; rows and structs of these. -/
inductive Wt (P : Program) : TypeId → List AV → Prop
  | bool (t : TypeId) (b : Bool) (ht : P.underlying t = some .bool) : Wt P t [.atom (.bool b)]
  | int (t : TypeId) (k : IntKind) (n : Int) (ht : P.underlying t = some (.int k)) (h : k.min ≤ n ∧ n ≤ k.max) : Wt P t [.atom (.int k n)]
  | string (t : TypeId) (s : ByteArray) (ht : P.underlying t = some .string) (h : s.size ≤ maxLen) : Wt P t [.atom (.string s)]
  | slice (t e : TypeId) (es : List AV) (ht : P.underlying t = some (.slice e)) (hl : es.length ≤ maxLen) (h : ∀ x ∈ es, Wt P e x.cells) (hf : ∀ x ∈ es, ofCells P e x.cells = some x) : Wt P t [.slice .foreign es]
  | struct (t : TypeId) (fs : Array Field) (cs : List AV) (ht : P.underlying t = some (.struct fs)) (hl : cs.length = P.cellsOf t) (h : ∀ (i : Nat) (f : Field), fs[i]? = some f → Wt P f.type ((cs.drop f.offset).take (P.cellsOf f.type))) : Wt P t cs
  | array (t e : TypeId) (n : Nat) (cs : List AV) (ht : P.underlying t = some (.array n e)) (hl : cs.length = P.cellsOf t) (h : ∀ i, i < n → Wt P e ((cs.drop (i * P.cellsOf e)).take (P.cellsOf e))) : Wt P t cs

/-- Parts one behind the other. -/
def tiles : Nat → List (Nat × Nat) → Option Nat
  | k, [] => some k
  | k, (o, s) :: l => if o = k then tiles (k + s) l else none
/-- Types of data, and all that are within. -/
def plainT (P : Program) (S : List TypeId) : Bool := S.all fun t => match P.underlying t with
  | some .bool | some (.int _) | some .string => P.cellsOf t == 1
  | some (.slice e) => S.contains e && decide (0 < P.cellsOf e) && P.cellsOf t == 1
  | some (.struct fs) => (fs.all fun f => S.contains f.type) && tiles 0 (fs.toList.map fun f => (f.offset, P.cellsOf f.type)) == some (P.cellsOf t)
  | some (.array n e) => S.contains e && tiles 0 ((List.range n).map fun i => (i * P.cellsOf e, P.cellsOf e)) == some (P.cellsOf t)
  | _ => false

section
variable {H : Type} {enc : TypeId × Value → H} {P : Program} {W : World} {base b0 : Nat} {spare : Nat → Bool} {held : Bool} {r : Reach}

theorem cells?_get {w : World} {a : Addr} {n : Nat} {cs : List Value} (h : w.cells? base a n = some cs) : cs.length = n ∧ ∀ (j : Nat) (v : Value), cs[j]? = some v → w.cell? (a.add j) = some v := by
  unfold World.cells? at h
  split at h
  · have h1 := mapM_some_length h
    refine ⟨by simpa using h1, fun j v hj => ?_⟩
    have hlt : j < n := by rw [← List.length_range (n := n), ← h1]; exact (List.getElem?_eq_some_iff.1 hj).1
    rw [mapM_some_get h j j (by simp [hlt])]; exact hj
  · cases h

/-- Each part of cells that stand for values. -/
def CellsRep (w : World) (as_ : List AV) (cs : List Value) : Prop := as_.length = cs.length ∧ (∀ c ∈ as_, c.one = true) ∧ ∀ (j : Nat) (a : AV) (v : Value), as_[j]? = some a → cs[j]? = some v → Rep gE w a v

theorem tiles_le : ∀ {l : List (Nat × Nat)} {k n : Nat}, tiles k l = some n → k ≤ n := by
  intro l
  induction l with
  | nil => intro k n h; simp [tiles] at h; omega
  | cons x l ih =>
    intro k n h
    obtain ⟨o, s⟩ := x
    simp only [tiles] at h
    split at h
    · have := ih h; omega
    · cases h
theorem tile {w : World} {cs : List Value} {n : Nat} (hn : cs.length = n) : ∀ (l : List (Nat × Nat)) (k : Nat) (Q : Nat → List AV → Prop), tiles k l = some n → (∀ (i o s : Nat), l[i]? = some (o, s) → ∃ as_, CellsRep w as_ ((cs.drop o).take s) ∧ Q i as_) →
    ∃ as_, CellsRep w as_ (cs.drop k) ∧ ∀ (i o s : Nat), l[i]? = some (o, s) → k ≤ o ∧ Q i ((as_.drop (o - k)).take s) := by
  intro l
  induction l with
  | nil =>
    intro k Q h _
    simp [tiles] at h
    subst h
    exact ⟨[], ⟨by simp; omega, by simp, fun j a v h => by simp at h⟩, fun i o s h => by simp at h⟩
  | cons x l ih =>
    intro k Q h hp
    obtain ⟨o, s⟩ := x
    simp only [tiles] at h
    split at h
    · rename_i hok
      subst hok
      have hle := tiles_le h
      obtain ⟨as0, ⟨h1, h2, h3⟩, hq⟩ := hp 0 o s rfl
      obtain ⟨as1, ⟨h4, h5, h6⟩, hq1⟩ := ih (o + s) (fun i => Q (i + 1)) h (fun i o' s' hi => hp (i + 1) o' s' (by simpa using hi))
      have hl0 : as0.length = s := by rw [h1]; simp; omega
      refine ⟨as0 ++ as1, ⟨by simp [hl0, h4]; omega, fun c hc => (List.mem_append.1 hc).elim (h2 c) (h5 c), fun j a v ha hv => ?_⟩, fun i o' s' hi => ?_⟩
      · rw [List.getElem?_drop] at hv
        by_cases hj : j < s
        · rw [List.getElem?_append_left (by omega)] at ha
          exact h3 j a v ha (by rw [List.getElem?_take_of_lt hj, List.getElem?_drop]; exact hv)
        · rw [List.getElem?_append_right (by omega), hl0] at ha
          exact h6 (j - s) a v ha (by rw [List.getElem?_drop, ← hv]; congr 1; omega)
      · cases i with
        | zero =>
          simp at hi
          obtain ⟨rfl, rfl⟩ := hi
          refine ⟨Nat.le_refl _, ?_⟩
          rw [Nat.sub_self, List.drop_zero, List.take_append_of_le_length (by omega), List.take_of_length_le (by omega)]
          exact hq
        | succ i =>
          obtain ⟨h7, h8⟩ := hq1 i o' s' (by simpa using hi)
          refine ⟨by omega, ?_⟩
          have : o' - o = s + (o' - (o + s)) := by omega
          have hd : List.drop (s + (o' - (o + s))) as0 = [] := List.drop_eq_nil_of_le (by omega)
          rw [this, List.drop_append, hd, hl0, List.nil_append, show s + (o' - (o + s)) - s = o' - (o + s) from by omega]
          exact h8
    · cases h

theorem ofCells_cells {t : TypeId} {cs : List AV} {x : AV} (h : ofCells P t cs = some x) (ho : ∀ c ∈ cs, c.one = true) : x.cells = cs := by
  unfold ofCells at h
  split at h
  · injection h with h; subst h; rfl
  · split at h
    · injection h with h; subst h
      rename_i c
      have := ho c (by simp)
      cases c <;> first | rfl | (simp [AV.one] at this)
    · cases h
  · cases h

/-- **What the caller's data is.** -/
theorem reads {S : List TypeId} (hS : plainT P S = true) : ∀ (fuel : Nat) (t : TypeId) (cs : List Value) (x : DataW H × List MemPlace), t ∈ S → DataW.trod enc P W base spare held fuel t cs = some x → ∃ as_, CellsRep W as_ cs ∧ Wt P t as_ ∧ cs.length = P.cellsOf t := by
  intro fuel
  induction fuel with
  | zero => intro t cs x _ h; simp [DataW.trod] at h
  | succ fuel ih =>
    intro t cs x ht h
    have hp := List.all_eq_true.1 hS t ht
    have one1 : ∀ (a : AV) (v : Value), a.one = true → Rep gE W a v → CellsRep W [a] [v] := fun a v ho hr => ⟨rfl, by simpa using ho, fun j a' v' h1 h2 => by
      cases j with
      | zero => simp at h1 h2; subst h1 h2; exact hr
      | succ j => simp at h1⟩
    split at hp
    · rename_i hu
      obtain ⟨b, rfl, _⟩ := DataW.trod_bool hu h
      exact ⟨_, one1 _ _ rfl (.atom (.bool b) rfl), .bool t b hu, by simp at hp ⊢; exact hp.symm⟩
    · rename_i k hu
      obtain ⟨n, rfl, _, hw⟩ := DataW.trod_int hu h
      exact ⟨_, one1 _ _ rfl (.atom (.int k n) rfl), .int t k n hu (by simpa [Lit.wf] using hw), by simp at hp ⊢; exact hp.symm⟩
    · rename_i hu
      obtain ⟨s, rfl, _, hw⟩ := DataW.trod_string hu h
      exact ⟨_, one1 _ _ rfl (.atom (.string s) rfl), .string t s hu hw, by simp at hp ⊢; exact hp.symm⟩
    · rename_i e hu
      simp only [Bool.and_eq_true, decide_eq_true_eq, List.contains_iff_mem, beq_iff_eq] at hp
      obtain ⟨⟨he, hz⟩, hct⟩ := hp
      rcases DataW.trod_slice hu h with ⟨rfl, _⟩ | ⟨a, len, cap, elems, rest, n, hn, rfl, _, hb, hl, hm, hlen, hel, _, _⟩
      · exact ⟨_, one1 _ _ rfl (.nil .foreign none 0 (fun id h => by cases h) (fun h => by cases h)), .slice t e [] hu (by simp) (by simp) (by simp), by simp [hct]⟩
      · obtain rfl : fuel = n := by omega
        -- the elements
        have each : ∀ i, i < len → ∃ (cs : List Value) (as_ : List AV), W.cells? base (a.add (i * P.cellsOf e)) (P.cellsOf e) = some cs ∧ CellsRep W as_ cs ∧ Wt P e as_ ∧ cs.length = P.cellsOf e := by
          intro i hi
          have h1 := hel i hi
          obtain ⟨y, hy⟩ : ∃ y, elems[i]? = some y := ⟨_, List.getElem?_eq_getElem (by omega)⟩
          rw [hy, Option.bind_eq_some_iff] at h1
          obtain ⟨cs, h2, h3⟩ := h1
          obtain ⟨as_, h4, h5, h6⟩ := ih e cs y he h3
          exact ⟨cs, as_, h2, h4, h5, h6⟩
        have fm : ∀ cs, Wt P e cs → ∃ x, ofCells P e cs = some x := by
          intro cs hw
          unfold ofCells aggT
          cases hw with
          | bool t b ht => rw [ht]; exact ⟨_, rfl⟩
          | int t k n ht _ => rw [ht]; exact ⟨_, rfl⟩
          | string t s ht _ => rw [ht]; exact ⟨_, rfl⟩
          | slice t e es ht _ _ _ => rw [ht]; exact ⟨_, rfl⟩
          | struct t fs cs ht _ _ => rw [ht]; exact ⟨_, rfl⟩
          | array t e n cs ht _ _ => rw [ht]; exact ⟨_, rfl⟩
        have each2 : ∀ i, ∃ x : AV, i < len → ∃ cs, W.cells? base (a.add (i * P.cellsOf e)) (P.cellsOf e) = some cs ∧ CellsRep W x.cells cs ∧ Wt P e x.cells ∧ ofCells P e x.cells = some x ∧ x.cells.length = P.cellsOf e := by
          intro i
          by_cases hi : i < len
          · obtain ⟨cs, as_, h1, h2, h3, h4⟩ := each i hi
            obtain ⟨x, hx⟩ := fm as_ h3
            have hxc := ofCells_cells hx h2.2.1
            exact ⟨x, fun _ => ⟨cs, h1, by rw [hxc]; exact h2, by rw [hxc]; exact h3, by rw [hxc]; exact hx, by rw [hxc, h2.1, h4]⟩⟩
          · exact ⟨.undef, fun h => absurd h hi⟩
        obtain ⟨el, hel2⟩ := Classical.axiomOfChoice each2
        have hes : ∀ (i : Nat) (x : AV), ((List.range len).map el)[i]? = some x → i < len ∧ x = el i := by
          intro i x hx
          rw [List.getElem?_map] at hx
          cases hr : (List.range len)[i]? with
          | none => rw [hr] at hx; cases hx
          | some j =>
            rw [hr] at hx; injection hx with hx
            obtain ⟨h1, h2⟩ := List.getElem?_eq_some_iff.1 hr
            simp at h1 h2; subst h2; exact ⟨h1, hx.symm⟩
        have hmem : ∀ x ∈ (List.range len).map el, ∃ i, i < len ∧ x = el i := by
          intro x hx
          obtain ⟨i, hi, rfl⟩ := List.mem_map.1 hx
          exact ⟨i, by simpa using hi, rfl⟩
        refine ⟨[.slice .foreign ((List.range len).map el)], one1 _ _ rfl ?_, .slice t e _ hu (by simp; omega) (fun x hx => ?_) (fun x hx => ?_), by simp [hct]⟩
        · by_cases h0 : len = 0
          · subst h0; exact .nil .foreign _ _ (fun id h => by cases h) (fun h => by cases h)
          · have hspot : a.spot = none := by
              obtain ⟨cs, h1, h2, _, _, h3⟩ := hel2 0 (by omega)
              have hcl : 0 < cs.length := by rw [← h2.1, h3]; exact hz
              have h4 := (cells?_get h1).2 0 _ (List.getElem?_eq_getElem hcl)
              unfold World.cell? at h4
              split at h4
              · split at h4
                · cases h4
                · rename_i hs
                  obtain ⟨b, o, sp⟩ := a
                  cases sp with
                  | none => rfl
                  | some s => simp [Addr.add] at hs
              · cases h4
            obtain ⟨b, o, sp⟩ := a
            dsimp only at hspot
            subst hspot
            have hlm : ((List.range len).map el).length = len := by simp
            have key : Rep gE W (.slice .foreign ((List.range len).map el)) (.slice (some ⟨b, o, none⟩) ((List.range len).map el).length cap) := by
              refine Rep.slice_mk hz (fun x hx => ?_) (fun _ => imm0 _ _) (fun i x hx => ?_) (by rw [hlm]; exact hl) trivial
              · obtain ⟨i, hi, rfl⟩ := hmem x hx
                obtain ⟨cs, _, _, _, _, h3⟩ := hel2 i hi
                exact h3
              · obtain ⟨hi, rfl⟩ := hes i x hx
                obtain ⟨cs, h1, h2, _, _, h3⟩ := hel2 i hi
                refine ⟨h2.2.1, fun j c hj => ?_⟩
                have hlt : j < cs.length := by rw [← h2.1]; exact (List.getElem?_eq_some_iff.1 hj).1
                have h4 := (cells?_get h1).2 j _ (List.getElem?_eq_getElem hlt)
                rw [add_plain, add_plain] at h4
                exact ⟨_, h4, h2.2.2 j c _ hj (List.getElem?_eq_getElem hlt)⟩
            rw [hlm] at key
            exact key
        · obtain ⟨i, hi, rfl⟩ := hmem x hx
          obtain ⟨cs, _, _, h3, _, _⟩ := hel2 i hi
          exact h3
        · obtain ⟨i, hi, rfl⟩ := hmem x hx
          obtain ⟨cs, _, _, _, h3, _⟩ := hel2 i hi
          exact h3
    · rename_i fs hu
      simp only [Bool.and_eq_true, beq_iff_eq] at hp
      obtain ⟨hp1, hp2⟩ := hp
      obtain ⟨xs, n, hn, _, hl, hxl, hf⟩ := DataW.trod_struct hu h
      obtain rfl : fuel = n := by omega
      obtain ⟨as_, h1, h2⟩ := tile (w := W) hl _ 0 (fun i as_ => ∀ f, fs[i]? = some f → Wt P f.type as_) hp2 (fun i o s hi => by
        rw [List.getElem?_map] at hi
        cases hfi : fs.toList[i]? with
        | none => rw [hfi] at hi; cases hi
        | some f =>
          rw [hfi] at hi; injection hi with hi; injection hi with e1 e2; subst e1 e2
          have hfi' : fs[i]? = some f := by simpa using hfi
          have h3 := hf i f hfi'
          obtain ⟨y, hy⟩ : ∃ y, xs[i]? = some y := ⟨_, List.getElem?_eq_getElem (by rw [hxl]; exact (Array.getElem?_eq_some_iff.1 hfi').1)⟩
          rw [hy] at h3
          have hmem : f.type ∈ S := by
            rw [← Array.all_toList] at hp1
            simpa using List.all_eq_true.1 hp1 f (List.mem_of_getElem? hfi)
          obtain ⟨as_, h4, h5, h6⟩ := ih _ _ _ hmem h3
          exact ⟨as_, h4, fun f' hf' => by rw [hfi'] at hf'; injection hf' with hf'; subst hf'; exact h5⟩)
      refine ⟨as_, by simpa using h1, .struct t fs as_ hu (by rw [h1.1]; simpa using hl) (fun i f hfi => ?_), hl⟩
      have := (h2 i f.offset (P.cellsOf f.type) (by simp [hfi])).2 f hfi
      simpa using this
    · rename_i m e hu
      simp only [Bool.and_eq_true, beq_iff_eq, List.contains_iff_mem] at hp
      obtain ⟨hp1, hp2⟩ := hp
      obtain ⟨xs, n, hn, _, hl, hxl, hf⟩ := DataW.trod_array hu h
      obtain rfl : fuel = n := by omega
      obtain ⟨as_, h1, h2⟩ := tile (w := W) hl _ 0 (fun i as_ => Wt P e as_) hp2 (fun i o s hi => by
        rw [List.getElem?_map] at hi
        cases hfi : (List.range m)[i]? with
        | none => rw [hfi] at hi; cases hi
        | some j =>
          rw [hfi] at hi; injection hi with hi; injection hi with e1 e2; subst e1 e2
          obtain ⟨q1, q2⟩ := List.getElem?_eq_some_iff.1 hfi
          simp at q1 q2; subst q2
          have h3 := hf i q1
          obtain ⟨y, hy⟩ : ∃ y, xs[i]? = some y := ⟨_, List.getElem?_eq_getElem (by omega)⟩
          rw [hy] at h3
          obtain ⟨as_, h4, h5, h6⟩ := ih _ _ _ hp1 h3
          exact ⟨as_, h4, h5⟩)
      refine ⟨as_, by simpa using h1, .array t e m as_ hu (by rw [h1.1]; simpa using hl) (fun i hi => ?_), hl⟩
      have := (h2 i (i * P.cellsOf e) (P.cellsOf e) (by simp [hi])).2
      simpa using this
    · cases hp

/-- A parameter. -/
theorem reads_param {S : List TypeId} (hS : plainT P S = true) {t : TypeId} {v : Value} {d : DataW H} {ps : List MemPlace} (ht : t ∈ S) (hval : Value.okWide P W r b0 t v) (hd : DataW.Trod enc P W base spare held t v d ps) : ∃ a as_, Rep gE W a v ∧ Wt P t as_ ∧ ofCells P t as_ = some a := by
  obtain ⟨fuel, hf⟩ := hd
  obtain ⟨as_, ⟨h1, h2, h3⟩, h4, h5⟩ := reads hS fuel t _ _ ht hf
  have single : (∀ cs, v ≠ .agg cs) → (∀ cs, v ≠ .tuple cs) → v.cells = #[v] := by
    intro ha hb
    cases v <;> first | rfl | (exact absurd rfl (ha _)) | (exact absurd rfl (hb _))
  have hp := List.all_eq_true.1 hS t ht
  unfold Value.okWide at hval
  cases hu : P.underlying t with
  | none => rw [hu] at hp; cases hp
  | some dsc =>
    have agg : (∃ cs, v = .agg cs ∧ cs.size = P.cellsOf t ∧ Row.okWide P W r b0 t cs) → aggT P t = some true → ∃ a as_, Rep gE W a v ∧ Wt P t as_ ∧ ofCells P t as_ = some a := by
      rintro ⟨cs, rfl, hsz, _⟩ hag
      refine ⟨.agg as_, as_, .agg as_ cs (by rw [h1]; simp [Value.cells]) h2 (fun j c u hj hu => h3 j c u hj (by simpa [Value.cells] using hu)), h4, ?_⟩
      unfold ofCells
      rw [hag]
    have one1 : aggT P t = some false → P.cellsOf t = 1 → (∃ u, v.cells = #[u] ∧ u = v) → ∃ a as_, Rep gE W a v ∧ Wt P t as_ ∧ ofCells P t as_ = some a := by
      rintro hag hct ⟨u, hu, rfl⟩
      have hl : as_.length = 1 := by rw [h1, hu]; rfl
      obtain ⟨a, rfl⟩ : ∃ a, as_ = [a] := by
        match as_, hl with
        | [a], _ => exact ⟨a, rfl⟩
      refine ⟨a, [a], h3 0 a u rfl (by rw [hu]; rfl), h4, ?_⟩
      unfold ofCells
      rw [hag]
    have scal : aggT P t = some false → Cell.okWide P W r b0 t v → P.cellsOf t = 1 → ∃ a as_, Rep gE W a v ∧ Wt P t as_ ∧ ofCells P t as_ = some a := by
      intro hag hc hct
      have no : ∀ cs, v ≠ .agg cs ∧ v ≠ .tuple cs := by
        intro cs
        refine ⟨fun e => ?_, fun e => ?_⟩ <;>
        · subst e
          simp only [Cell.okWide, Cell.ok, hu] at hc
      exact one1 hag hct ⟨v, single (fun cs => (no cs).1) (fun cs => (no cs).2), rfl⟩
    rw [hu] at hval hp
    have hs : ∀ b, (match dsc with | .struct _ => true | .array _ _ => true | _ => false) = b → aggT P t = some b := by
      intro b hb
      unfold aggT
      simp only [hu]
      cases dsc <;> simp_all
    cases dsc <;> first | (cases hp; done) | (exact agg hval (hs _ rfl)) | skip
    · exact scal (hs _ rfl) hval (by simpa using hp)
    · exact scal (hs _ rfl) hval (by simpa using hp)
    · exact scal (hs _ rfl) hval (by simpa using hp)
    · simp only [Bool.and_eq_true, beq_iff_eq] at hp; exact scal (hs _ rfl) hval hp.2
end
end Go.Proofs.Ytcfekacmmfdggaa.G
set_option linter.unusedVariables false
set_option linter.unusedSimpArgs false
namespace Go.Proofs.Ytcfekacmmfdggaa.G

def structT (P : Program) (t : TypeId) : Option (List (TypeId × Nat × Nat)) := match P.underlying t with
  | some (.struct fs) => some (fs.toList.map fun f => (f.type, f.offset, P.cellsOf f.type))
  | _ => none
theorem Wt.int_inv {P : Program} {t : TypeId} {k : IntKind} {cs : List AV} (ht : P.underlying t = some (.int k)) (h : Wt P t cs) : ∃ n, cs = [.atom (.int k n)] ∧ k.min ≤ n ∧ n ≤ k.max := by
  cases h <;> rename_i h1 <;> simp_all
theorem Wt.bool_inv {P : Program} {t : TypeId} {cs : List AV} (ht : P.underlying t = some .bool) (h : Wt P t cs) : ∃ b, cs = [.bool b] := by
  cases h <;> rename_i h1 <;> simp_all
theorem Wt.slice_inv {P : Program} {t e : TypeId} {cs : List AV} (ht : P.underlying t = some (.slice e)) (h : Wt P t cs) : ∃ es, cs = [.slice .foreign es] ∧ es.length ≤ maxLen ∧ (∀ x ∈ es, Wt P e x.cells) ∧ ∀ x ∈ es, ofCells P e x.cells = some x := by
  cases h <;> rename_i h1 <;> simp_all
theorem Wt.struct_inv {P : Program} {t : TypeId} {cs : List AV} {l : List (TypeId × Nat × Nat)} (ht : structT P t = some l) (h : Wt P t cs) : cs.length = P.cellsOf t ∧ ∀ (i : Nat) (ty off sz : Nat), l[i]? = some (ty, off, sz) → Wt P ty ((cs.drop off).take sz) := by
  unfold structT at ht
  split at ht
  · rename_i fs hu
    injection ht with ht; subst ht
    cases h <;> rename_i h1 <;> simp_all
    rename_i h2
    intro i ty off sz x hx e1 e2 e3
    subst e1 e2 e3
    exact h2 i x hx
  · cases ht
theorem uncons {α : Type} {cs : List α} {n : Nat} (h : cs.length = n + 1) : ∃ c tl, cs = c :: tl ∧ tl.length = n := by
  cases cs with
  | nil => simp at h
  | cons c tl => exact ⟨c, tl, rfl, by simpa using h⟩
theorem Wt.i64 {P : Program} {t : TypeId} {c : AV} (ht : P.underlying t = some (.int .i64)) (h : Wt P t [c]) : ∃ n, c = .i64 n := by
  obtain ⟨n, hn, _⟩ := h.int_inv ht
  injection hn with hn; exact ⟨n, hn⟩
theorem Wt.b {P : Program} {t : TypeId} {c : AV} (ht : P.underlying t = some .bool) (h : Wt P t [c]) : ∃ n, c = .bool n := by
  obtain ⟨n, hn⟩ := h.bool_inv ht
  injection hn with hn; exact ⟨n, hn⟩
theorem rowsOf {P : Program} {e : TypeId} {α : Type} {f : α → AV} {G : α → Prop} (hagg : ∀ x, ofCells P e (f x).cells = some (f x)) {es : List AV} (h2 : ∀ x ∈ es, ∃ y, x.cells = (f y).cells ∧ G y) (h3 : ∀ x ∈ es, ofCells P e x.cells = some x) : ∃ l : List α, es = l.map f ∧ ∀ x ∈ l, G x := by
  induction es with
  | nil => exact ⟨[], rfl, by simp⟩
  | cons e es ih =>
    obtain ⟨l, rfl, hl⟩ := ih (fun x hx => h2 x (List.mem_cons_of_mem _ hx)) fun x hx => h3 x (List.mem_cons_of_mem _ hx)
    obtain ⟨x, hx, gx⟩ := h2 e (by simp)
    have := h3 e (by simp)
    rw [hx, hagg] at this
    injection this with this
    exact ⟨x :: l, by rw [← this]; rfl, fun y hy => (List.mem_cons.1 hy).elim (fun h => h ▸ gx) (hl y)⟩
theorem structT_field {P : Program} {t : TypeId} {fs : Array Field} {l : List (TypeId × Nat × Nat)} {i ty off sz : Nat} (ht : structT P t = some l) (hu : P.underlying t = some (.struct fs)) (hi : l[i]? = some (ty, off, sz)) : ∃ f, fs[i]? = some f ∧ f.type = ty ∧ f.offset = off ∧ P.cellsOf f.type = sz := by
  unfold structT at ht
  rw [hu] at ht
  injection ht with ht; subst ht
  simp at hi
  obtain ⟨f, hf, h1, h2, h3⟩ := hi
  exact ⟨f, hf, h1, h2, h3⟩
theorem structT_u {P : Program} {t : TypeId} {l : List (TypeId × Nat × Nat)} (ht : structT P t = some l) : ∃ fs, P.underlying t = some (.struct fs) := by
  unfold structT at ht
  split at ht
  · exact ⟨_, by assumption⟩
  · cases ht
theorem all_cells {P : Program} {t : TypeId} {cs : List AV} {a : AV} (h1 : aggT P t = some true) (h2 : ofCells P t cs = some a) : a = .agg cs := by
  unfold ofCells at h2
  rw [h1] at h2
  injection h2 with h2; exact h2.symm
theorem agg_of {P : Program} {t : TypeId} {cs : List AV} (h : aggT P t = some true) : ofCells P t (AV.agg cs).cells = some (.agg cs) := by
  unfold ofCells
  rw [h]; rfl
theorem one_of {P : Program} {t : TypeId} {a : AV} (h : aggT P t = some false) (hc : a.cells = [a]) : ofCells P t a.cells = some a := by
  unfold ofCells
  rw [h, hc]
end Go.Proofs.Ytcfekacmmfdggaa.G
set_option linter.unusedVariables false
set_option linter.unusedSimpArgs false
set_option maxRecDepth 100000
namespace Go.Proofs.Ytcfekacmmfdggaa.G
theorem wt_s45 {cs : List AV} (h : Wt Try.prog 45 cs) : ∃ l : List Int, cs = [.slice .foreign (l.map AV.i64)] ∧ l.length < 9223372036854775808 := by
  obtain ⟨es, hn, h1, h2, h3⟩ := h.slice_inv (show Try.prog.underlying 45 = some (.slice 3) by kernel_rfl)
  subst hn
  have hd : ∀ cs, Wt Try.prog 3 cs → ∃ y, cs = (AV.i64 y).cells ∧ True := fun cs hc => let ⟨x, hx, _⟩ := hc.int_inv (show Try.prog.underlying 3 = some (.int .i64) by kernel_rfl); ⟨x, hx, trivial⟩
  obtain ⟨l, rfl, _⟩ := rowsOf (P := Try.prog) (f := AV.i64) (G := fun _ => True) (fun x => one_of (by kernel_rfl) rfl) (fun x hx => hd _ (h2 x hx)) h3
  exact ⟨l, rfl, by simp [maxLen] at h1; omega⟩
theorem st_T_api_Value : structT Try.prog 62 = some [(4, 0, 1), (2, 1, 1)] := by kernel_rfl
theorem wt_T_api_Value {cs : List AV} (h : Wt Try.prog 62 cs) : ∃ x : T_api_Value, cs = x.C := by
  obtain ⟨hl, hf⟩ := h.struct_inv st_T_api_Value
  rw [show Try.prog.cellsOf 62 = 2 by kernel_rfl] at hl
  obtain ⟨c0, d0, rfl, hn0⟩ := uncons hl
  obtain ⟨c1, d1, rfl, hn1⟩ := uncons hn0
  obtain rfl := List.length_eq_zero_iff.1 hn1
  obtain ⟨v0, rfl⟩ := Wt.b (show Try.prog.underlying 4 = some (.bool) by kernel_rfl) (show Wt Try.prog 4 [c0] from hf 0 _ _ _ rfl)
  obtain ⟨v1, rfl⟩ := Wt.i64 (show Try.prog.underlying 2 = some (.int .i64) by kernel_rfl) (show Wt Try.prog 2 [c1] from hf 1 _ _ _ rfl)
  exact ⟨⟨v0, v1⟩, rfl⟩
theorem st_T_api_Term : structT Try.prog 64 = some [(3, 0, 1), (3, 1, 1), (3, 2, 1), (62, 3, 2)] := by kernel_rfl
theorem wt_T_api_Term {cs : List AV} (h : Wt Try.prog 64 cs) : ∃ x : T_api_Term, cs = x.C := by
  obtain ⟨hl, hf⟩ := h.struct_inv st_T_api_Term
  rw [show Try.prog.cellsOf 64 = 5 by kernel_rfl] at hl
  obtain ⟨c0, d0, rfl, hn0⟩ := uncons hl
  obtain ⟨c1, d1, rfl, hn1⟩ := uncons hn0
  obtain ⟨c2, d2, rfl, hn2⟩ := uncons hn1
  obtain ⟨c3, d3, rfl, hn3⟩ := uncons hn2
  obtain ⟨c4, d4, rfl, hn4⟩ := uncons hn3
  obtain rfl := List.length_eq_zero_iff.1 hn4
  obtain ⟨v0, rfl⟩ := Wt.i64 (show Try.prog.underlying 3 = some (.int .i64) by kernel_rfl) (show Wt Try.prog 3 [c0] from hf 0 _ _ _ rfl)
  obtain ⟨v1, rfl⟩ := Wt.i64 (show Try.prog.underlying 3 = some (.int .i64) by kernel_rfl) (show Wt Try.prog 3 [c1] from hf 1 _ _ _ rfl)
  obtain ⟨v2, rfl⟩ := Wt.i64 (show Try.prog.underlying 3 = some (.int .i64) by kernel_rfl) (show Wt Try.prog 3 [c2] from hf 2 _ _ _ rfl)
  obtain ⟨v3, hv3⟩ := wt_T_api_Value (show Wt Try.prog 62 [c3, c4] from hf 3 _ _ _ rfl); simp only [T_api_Value.C, List.cons.injEq, and_true] at hv3; obtain ⟨rfl, rfl⟩ := hv3
  exact ⟨⟨v0, v1, v2, v3⟩, rfl⟩
theorem st_T_api_Pred : structT Try.prog 66 = some [(3, 0, 1), (3, 1, 1), (3, 2, 1), (64, 3, 5), (64, 8, 5), (29, 13, 1)] := by kernel_rfl
theorem wt_T_api_Pred' {t : TypeId} {cs : List AV} (h : Wt Try.prog t cs) : (t = 66 → ∃ x : T_api_Pred, cs = x.C) ∧ (t = 29 → ∃ xs : List T_api_Pred, cs = [.slice .foreign (xs.map T_api_Pred.av)] ∧ xs.length < 9223372036854775808) := by
  obtain ⟨fs, hfs⟩ := structT_u st_T_api_Pred
  have hs29 : Try.prog.underlying 29 = some (.slice 66) := by kernel_rfl
  induction h with
  | bool t b ht => exact ⟨fun h => by (subst h; rw [hfs] at ht; cases ht), fun h => by (subst h; rw [hs29] at ht; cases ht)⟩
  | int t b n ht => exact ⟨fun h => by (subst h; rw [hfs] at ht; cases ht), fun h => by (subst h; rw [hs29] at ht; cases ht)⟩
  | string t b ht => exact ⟨fun h => by (subst h; rw [hfs] at ht; cases ht), fun h => by (subst h; rw [hs29] at ht; cases ht)⟩
  | array t b n cs ht => exact ⟨fun h => by (subst h; rw [hfs] at ht; cases ht), fun h => by (subst h; rw [hs29] at ht; cases ht)⟩
  | slice t e es ht hl h hf ih =>
    refine ⟨fun h => by (subst h; rw [hfs] at ht; cases ht), fun h => ?_⟩
    · subst h
      rw [hs29] at ht
      injection ht with ht; injection ht with ht; subst ht
      obtain ⟨l, rfl, _⟩ := rowsOf (P := Try.prog) (f := T_api_Pred.av) (G := fun _ => True) (fun x => by rw [T_api_Pred.av_eq]; exact agg_of (by kernel_rfl)) (fun x hx => let ⟨y, hy⟩ := (ih x hx).1 rfl; ⟨y, by rw [hy, T_api_Pred.av_eq]; rfl, trivial⟩) hf
      exact ⟨l, rfl, by simp [maxLen] at hl; omega⟩
  | struct t fs' cs ht hl h ih =>
    refine ⟨fun e => ?_, fun h => by (subst h; rw [hs29] at ht; cases ht)⟩
    subst e
    obtain ⟨_, hf⟩ := (Wt.struct _ _ _ ht hl h).struct_inv st_T_api_Pred
    obtain ⟨f5, g1, g2, g3, g4⟩ := structT_field (i := 5) st_T_api_Pred ht rfl
    have hr5 := (ih 5 f5 g1).2 g2
    rw [g3, g4] at hr5
    clear g1 g2 g3 g4
    clear ih h
    rw [show Try.prog.cellsOf 66 = 14 by kernel_rfl] at hl
    obtain ⟨c0, d0, rfl, hn0⟩ := uncons hl
    obtain ⟨c1, d1, rfl, hn1⟩ := uncons hn0
    obtain ⟨c2, d2, rfl, hn2⟩ := uncons hn1
    obtain ⟨c3, d3, rfl, hn3⟩ := uncons hn2
    obtain ⟨c4, d4, rfl, hn4⟩ := uncons hn3
    obtain ⟨c5, d5, rfl, hn5⟩ := uncons hn4
    obtain ⟨c6, d6, rfl, hn6⟩ := uncons hn5
    obtain ⟨c7, d7, rfl, hn7⟩ := uncons hn6
    obtain ⟨c8, d8, rfl, hn8⟩ := uncons hn7
    obtain ⟨c9, d9, rfl, hn9⟩ := uncons hn8
    obtain ⟨c10, d10, rfl, hn10⟩ := uncons hn9
    obtain ⟨c11, d11, rfl, hn11⟩ := uncons hn10
    obtain ⟨c12, d12, rfl, hn12⟩ := uncons hn11
    obtain ⟨c13, d13, rfl, hn13⟩ := uncons hn12
    obtain rfl := List.length_eq_zero_iff.1 hn13
    obtain ⟨v0, rfl⟩ := Wt.i64 (show Try.prog.underlying 3 = some (.int .i64) by kernel_rfl) (show Wt Try.prog 3 [c0] from hf 0 _ _ _ rfl)
    obtain ⟨v1, rfl⟩ := Wt.i64 (show Try.prog.underlying 3 = some (.int .i64) by kernel_rfl) (show Wt Try.prog 3 [c1] from hf 1 _ _ _ rfl)
    obtain ⟨v2, rfl⟩ := Wt.i64 (show Try.prog.underlying 3 = some (.int .i64) by kernel_rfl) (show Wt Try.prog 3 [c2] from hf 2 _ _ _ rfl)
    obtain ⟨v3, hv3⟩ := wt_T_api_Term (show Wt Try.prog 64 [c3, c4, c5, c6, c7] from hf 3 _ _ _ rfl); simp only [T_api_Term.C, List.cons.injEq, and_true] at hv3; obtain ⟨rfl, rfl, rfl, rfl, rfl⟩ := hv3
    obtain ⟨v4, hv4⟩ := wt_T_api_Term (show Wt Try.prog 64 [c8, c9, c10, c11, c12] from hf 4 _ _ _ rfl); simp only [T_api_Term.C, List.cons.injEq, and_true] at hv4; obtain ⟨rfl, rfl, rfl, rfl, rfl⟩ := hv4
    obtain ⟨v5, ev5, _⟩ := hr5
    have ev5 : [c13] = _ := ev5
    injection ev5 with ev5; subst ev5
    exact ⟨⟨v0, v1, v2, v3, v4, v5⟩, rfl⟩
theorem wt_s29 {cs : List AV} (h : Wt Try.prog 29 cs) : ∃ l : List T_api_Pred, cs = [.slice .foreign (l.map T_api_Pred.av)] ∧ l.length < 9223372036854775808 := (wt_T_api_Pred' h).2 rfl
theorem st_T_api_Tree : structT Try.prog 31 = some [(3, 0, 1), (3, 1, 1), (28, 2, 1), (29, 3, 1), (4, 4, 1)] := by kernel_rfl
theorem wt_T_api_Tree' {t : TypeId} {cs : List AV} (h : Wt Try.prog t cs) : (t = 31 → ∃ x : T_api_Tree, cs = x.C) ∧ (t = 28 → ∃ xs : List T_api_Tree, cs = [.slice .foreign (xs.map T_api_Tree.av)] ∧ xs.length < 9223372036854775808) := by
  obtain ⟨fs, hfs⟩ := structT_u st_T_api_Tree
  have hs28 : Try.prog.underlying 28 = some (.slice 31) := by kernel_rfl
  induction h with
  | bool t b ht => exact ⟨fun h => by (subst h; rw [hfs] at ht; cases ht), fun h => by (subst h; rw [hs28] at ht; cases ht)⟩
  | int t b n ht => exact ⟨fun h => by (subst h; rw [hfs] at ht; cases ht), fun h => by (subst h; rw [hs28] at ht; cases ht)⟩
  | string t b ht => exact ⟨fun h => by (subst h; rw [hfs] at ht; cases ht), fun h => by (subst h; rw [hs28] at ht; cases ht)⟩
  | array t b n cs ht => exact ⟨fun h => by (subst h; rw [hfs] at ht; cases ht), fun h => by (subst h; rw [hs28] at ht; cases ht)⟩
  | slice t e es ht hl h hf ih =>
    refine ⟨fun h => by (subst h; rw [hfs] at ht; cases ht), fun h => ?_⟩
    · subst h
      rw [hs28] at ht
      injection ht with ht; injection ht with ht; subst ht
      obtain ⟨l, rfl, _⟩ := rowsOf (P := Try.prog) (f := T_api_Tree.av) (G := fun _ => True) (fun x => by rw [T_api_Tree.av_eq]; exact agg_of (by kernel_rfl)) (fun x hx => let ⟨y, hy⟩ := (ih x hx).1 rfl; ⟨y, by rw [hy, T_api_Tree.av_eq]; rfl, trivial⟩) hf
      exact ⟨l, rfl, by simp [maxLen] at hl; omega⟩
  | struct t fs' cs ht hl h ih =>
    refine ⟨fun e => ?_, fun h => by (subst h; rw [hs28] at ht; cases ht)⟩
    subst e
    obtain ⟨_, hf⟩ := (Wt.struct _ _ _ ht hl h).struct_inv st_T_api_Tree
    obtain ⟨f2, g1, g2, g3, g4⟩ := structT_field (i := 2) st_T_api_Tree ht rfl
    have hr2 := (ih 2 f2 g1).2 g2
    rw [g3, g4] at hr2
    clear g1 g2 g3 g4
    clear ih h
    rw [show Try.prog.cellsOf 31 = 5 by kernel_rfl] at hl
    obtain ⟨c0, d0, rfl, hn0⟩ := uncons hl
    obtain ⟨c1, d1, rfl, hn1⟩ := uncons hn0
    obtain ⟨c2, d2, rfl, hn2⟩ := uncons hn1
    obtain ⟨c3, d3, rfl, hn3⟩ := uncons hn2
    obtain ⟨c4, d4, rfl, hn4⟩ := uncons hn3
    obtain rfl := List.length_eq_zero_iff.1 hn4
    obtain ⟨v0, rfl⟩ := Wt.i64 (show Try.prog.underlying 3 = some (.int .i64) by kernel_rfl) (show Wt Try.prog 3 [c0] from hf 0 _ _ _ rfl)
    obtain ⟨v1, rfl⟩ := Wt.i64 (show Try.prog.underlying 3 = some (.int .i64) by kernel_rfl) (show Wt Try.prog 3 [c1] from hf 1 _ _ _ rfl)
    obtain ⟨v2, ev2, _⟩ := hr2
    have ev2 : [c2] = _ := ev2
    injection ev2 with ev2; subst ev2
    obtain ⟨v3, e, _⟩ := wt_s29 (show Wt Try.prog 29 [c3] from hf 3 _ _ _ rfl); injection e with e; subst e
    obtain ⟨v4, rfl⟩ := Wt.b (show Try.prog.underlying 4 = some (.bool) by kernel_rfl) (show Wt Try.prog 4 [c4] from hf 4 _ _ _ rfl)
    exact ⟨⟨v0, v1, v2, v3, v4⟩, rfl⟩
theorem wt_T_api_Tree {cs : List AV} (h : Wt Try.prog 31 cs) : ∃ x : T_api_Tree, cs = x.C := (wt_T_api_Tree' h).1 rfl
theorem st_T_api_Query : structT Try.prog 47 = some [(45, 0, 1), (31, 1, 5)] := by kernel_rfl
theorem wt_T_api_Query {cs : List AV} (h : Wt Try.prog 47 cs) : ∃ x : T_api_Query, cs = x.C := by
  obtain ⟨hl, hf⟩ := h.struct_inv st_T_api_Query
  rw [show Try.prog.cellsOf 47 = 6 by kernel_rfl] at hl
  obtain ⟨c0, d0, rfl, hn0⟩ := uncons hl
  obtain ⟨c1, d1, rfl, hn1⟩ := uncons hn0
  obtain ⟨c2, d2, rfl, hn2⟩ := uncons hn1
  obtain ⟨c3, d3, rfl, hn3⟩ := uncons hn2
  obtain ⟨c4, d4, rfl, hn4⟩ := uncons hn3
  obtain ⟨c5, d5, rfl, hn5⟩ := uncons hn4
  obtain rfl := List.length_eq_zero_iff.1 hn5
  obtain ⟨v0, e, _⟩ := wt_s45 (show Wt Try.prog 45 [c0] from hf 0 _ _ _ rfl); injection e with e; subst e
  obtain ⟨v1, hv1⟩ := wt_T_api_Tree (show Wt Try.prog 31 [c1, c2, c3, c4, c5] from hf 1 _ _ _ rfl); simp only [T_api_Tree.C, List.cons.injEq, and_true] at hv1; obtain ⟨rfl, rfl, rfl, rfl, rfl⟩ := hv1
  exact ⟨⟨v0, v1⟩, rfl⟩
end Go.Proofs.Ytcfekacmmfdggaa.G
namespace Go.Proofs.Ytcfekacmmfdggaa.IdentBack
open Go.ChangeShapes Go.WideShapes Go.ChangeAt Go.RowKit Go.Proofs.Ytcfekacmmfdggaa.G
set_option linter.unusedVariables false
theorem own : ownKnob Try.prog.godebug = none := by kernel_rfl
theorem laidOut : laidOutB Try.prog = true := by kernel_rfl
set_option maxRecDepth 100000 in
theorem lifted (os : Os) (started : os.Started) (H : Type) (enc : TypeId × Value → H) :
    ReturnsInHanded {} Try.checked os 8 .any (Rows.identBackSpec.pre6 enc Try.prog Try.f8 Rows.identBackRow.domain false) (Rows.identBackSpec.post enc Try.prog Try.f8 false true false false) := by
  refine returnsInHanded_of_change_sized (C := Try.checked) own started (by kernel_rfl) Try.func8
    (ChangeSpec.witness6 (enc := enc) (C := Try.checked) false ⟨#[], #[.agg #[.slice none 0 0, .int .i64 0, .int .i64 0, .slice none 0 0, .slice none 0 0, .bool false]], []⟩ 30 (by kernel_rfl) (by kernel_rfl) (by kernel_rfl) (by kernel_rfl)) ?_
  intro W base args ds gs before hval0 hW hcnd hsz0 _
  have hval : ∀ (j : Nat) t v, Try.f8.params[j]? = some t → args[j]? = some v → Value.okWide Try.prog W .any base t v := hval0
  have hW' := hW
  obtain ⟨p, q, hA0, hV, rfl, hfz, hnd⟩ := hW
  have hA : DataW.TrodAll enc Try.prog W 0 (fun _ => true) true Try.f8.params.toList args.toList ds p := hA0
  rw [Try.params8] at hA hval
  obtain ⟨u0, vs0, d0, ds0, p0, q0, hargs, rfl, rfl, h0, r0⟩ := trodAll_cons hA
  obtain ⟨rfl, rfl, rfl⟩ := trodAll_nil r0
  obtain rfl : args = #[u0] := by cases args; simp_all
  obtain ⟨rfl, rfl⟩ := trodVars_none hV
  have lt0 : ∀ x ∈ p0, x.block < W.heap.size := by obtain ⟨m, hm⟩ := h0; exact DataW.trod_lt m _ _ _ hm
  have hS : plainT Try.prog [47, 45, 3, 31, 28, 29, 66, 64, 62, 4, 2] = true := by kernel_rfl
  obtain ⟨a0, as0, rep0, wt0, of0⟩ := reads_param hS (by simp) (hval 0 47 u0 rfl rfl) h0
  obtain rfl := all_cells (by kernel_rfl) of0
  obtain ⟨x0, rfl⟩ := wt_T_api_Query wt0
  refine ((M_law17_IdentBack.w x0 true (identBack_plain x0)).law (.cons rep0 .nil)).mono fun e W' ⟨he, bel⟩ => ?_
  subst he
  exact ⟨_, rfl, _, _, _, [], _, [], hW', trodAll_mk1 (shut_bool Try.underlying4 _), (trodAll_cons_mk (Below.trod laidOut (by kernel_rfl) (of_decide_eq_true (by kernel_rfl)) h0 bel lt0) trodAll_mk0), rfl, bel.frame _, fun h => by cases h⟩
theorem over : Rows.identBackRow.holds Try.pinned (OpenSpec.ofChange Rows.identBackSpec) :=
  OpenClaim.holds_of_wide 8 Try.f8 rfl rfl rfl rfl rfl rfl rfl ⟨rfl, rfl, rfl, rfl, rfl⟩ rfl rfl rfl rfl rfl (by kernel_rfl) Try.func8 (by kernel_rfl)
    (of_decide_eq_true (by kernel_rfl)) (by unfold Func.isWrapper; first | (rw [if_pos (by decide +kernel)]; kernel_rfl) | (rw [if_neg (by decide +kernel)]; exact ⟨rfl, rfl⟩))
    (fun os started H enc _ => lifted os started H enc)
end Go.Proofs.Ytcfekacmmfdggaa.IdentBack
namespace Go.Proofs.Ytcfekacmmfdggaa
/-- The row, under a short name, for the claim. -/
theorem identBack_holds : Rows.IdentBackSaid := IdentBack.over
end Go.Proofs.Ytcfekacmmfdggaa
