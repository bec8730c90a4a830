/-
LevelsWays: the law returns true whatever the input.
-/
import Derived.Test.YtakmilmckdllfaaLevelsWays5
import Derived.WalkKit
import Derived.ProofKit
import Derived.OpenShut
import Derived.ChangeOld
import Derived.Below
import Derived.Carry
import Derived.SizedLaws
import Derived.KernelRfl
import Derived.Test.YtakmilmckdllfaaRows
set_option linter.unusedVariables false
set_option linter.unusedSimpArgs false
set_option maxRecDepth 100000
namespace Go.Proofs.Ytakmilmckdllfaa.G
@[go_sem] theorem lrp_41_3 : lrp Try.prog 41 3 = (10, [5, 7]) := by kernel_rfl
@[go_sem] theorem lrp_41_8 : lrp Try.prog 41 8 = (30, []) := by kernel_rfl
@[go_sem] theorem lrp_41_9 : lrp Try.prog 41 9 = (13, []) := by kernel_rfl
@[go_sem] theorem lrp_41_10 : lrp Try.prog 41 10 = (30, []) := by kernel_rfl
@[go_sem] theorem lrp_41_11 : lrp Try.prog 41 11 = (13, []) := by kernel_rfl
@[go_sem] theorem lrp_41_12 : lrp Try.prog 41 12 = (21, []) := by kernel_rfl
@[go_sem] theorem lrp_41_13 : lrp Try.prog 41 13 = (13, []) := by kernel_rfl
@[go_sem] theorem lrp_41_14 : lrp Try.prog 41 14 = (21, []) := by kernel_rfl
@[go_sem] theorem lrp_41_15 : lrp Try.prog 41 15 = (13, []) := by kernel_rfl
theorem lok_41 : (Try.f41.body.isSome && !(Try.f41.name == "runtime.NumGoroutine") && okL (bodyF Try.f41) Try.f41.ntmps (bodyF Try.f41)) = true := by kernel_rfl
def M_ref17_Do (x : Int × T_api_Tree) : Option (T_api_Tree × Bool) :=
  if ((x.2.Kids.length : Int) != 2) = true then
    some ((⟨0, 0, [], [], false⟩ : T_api_Tree), false)
  else
    (x.2.Kids[0]?) >>= fun (e2 : T_api_Tree) =>
    (x.2.Kids[1]?) >>= fun (e4 : T_api_Tree) =>
    if (x.1 == 1) = true then
      M_ref17_May (1, x.2.Kind, 0) >>= fun r7 =>
      if r7 = true then
        M_ref17_with (x.2, e4, e2) >>= fun r10 =>
        some (r10, true)
      else
        some ((⟨0, 0, [], [], false⟩ : T_api_Tree), false)
    else
      if (x.1 == 2) = true then
        if ((e2.Kids.length : Int) == 2) = true then
          M_ref17_May (2, e2.Kind, x.2.Kind) >>= fun r18 =>
          if r18 = true then
            (e2.Kids[0]?) >>= fun (e21 : T_api_Tree) =>
            M_ref17_apart (x.2, e21) >>= fun r23 =>
            if r23 = true then
              (e2.Kids[1]?) >>= fun (e26 : T_api_Tree) =>
              M_ref17_firm (e2, x.2, e26) >>= fun r28 =>
              if r28 = true then
                M_ref17_with (x.2, e26, e4) >>= fun r31 =>
                M_ref17_with (e2, e21, r31) >>= fun r33 =>
                some (r33, true)
              else
                some ((⟨0, 0, [], [], false⟩ : T_api_Tree), false)
            else
              some ((⟨0, 0, [], [], false⟩ : T_api_Tree), false)
          else
            some ((⟨0, 0, [], [], false⟩ : T_api_Tree), false)
        else
          some ((⟨0, 0, [], [], false⟩ : T_api_Tree), false)
      else
        if (x.1 == 3) = true then
          if ((e4.Kids.length : Int) == 2) = true then
            M_ref17_May (3, x.2.Kind, e4.Kind) >>= fun r49 =>
            if r49 = true then
              (e4.Kids[1]?) >>= fun (e52 : T_api_Tree) =>
              M_ref17_apart (x.2, e52) >>= fun r54 =>
              if r54 = true then
                (e4.Kids[0]?) >>= fun (e57 : T_api_Tree) =>
                M_ref17_firm (x.2, e4, e57) >>= fun r59 =>
                if r59 = true then
                  M_ref17_with (x.2, e2, e57) >>= fun r62 =>
                  M_ref17_with (e4, r62, e52) >>= fun r64 =>
                  some (r64, true)
                else
                  some ((⟨0, 0, [], [], false⟩ : T_api_Tree), false)
              else
                some ((⟨0, 0, [], [], false⟩ : T_api_Tree), false)
            else
              some ((⟨0, 0, [], [], false⟩ : T_api_Tree), false)
          else
            some ((⟨0, 0, [], [], false⟩ : T_api_Tree), false)
        else
          if (x.1 == 4) = true then
            if ((e2.Kids.length : Int) == 2) = true then
              M_ref17_May (4, e2.Kind, x.2.Kind) >>= fun r76 =>
              if r76 = true then
                (e2.Kids[1]?) >>= fun (e79 : T_api_Tree) =>
                M_ref17_apart (x.2, e79) >>= fun r81 =>
                if r81 = true then
                  (e2.Kids[0]?) >>= fun (e84 : T_api_Tree) =>
                  M_ref17_with (x.2, e84, e4) >>= fun r86 =>
                  M_ref17_with (e2, r86, e79) >>= fun r88 =>
                  some (r88, true)
                else
                  some ((⟨0, 0, [], [], false⟩ : T_api_Tree), false)
              else
                some ((⟨0, 0, [], [], false⟩ : T_api_Tree), false)
            else
              some ((⟨0, 0, [], [], false⟩ : T_api_Tree), false)
          else
            if (x.1 == 5) = true then
              if ((e4.Kids.length : Int) == 2) = true then
                M_ref17_May (5, x.2.Kind, e4.Kind) >>= fun r95 =>
                if r95 = true then
                  (e4.Kids[0]?) >>= fun (e98 : T_api_Tree) =>
                  M_ref17_apart (x.2, e98) >>= fun r100 =>
                  if r100 = true then
                    (e4.Kids[1]?) >>= fun (e103 : T_api_Tree) =>
                    M_ref17_with (x.2, e2, e103) >>= fun r105 =>
                    M_ref17_with (e4, e98, r105) >>= fun r107 =>
                    some (r107, true)
                  else
                    some ((⟨0, 0, [], [], false⟩ : T_api_Tree), false)
                else
                  some ((⟨0, 0, [], [], false⟩ : T_api_Tree), false)
              else
                some ((⟨0, 0, [], [], false⟩ : T_api_Tree), false)
            else
              some ((⟨0, 0, [], [], false⟩ : T_api_Tree), false)
set_option maxHeartbeats 8000000 in
theorem M_ref17_Do.w : ∀ (x : Int × T_api_Tree) (r : T_api_Tree × Bool), M_ref17_Do x = some r → (fun (x : Int × T_api_Tree) (r : T_api_Tree × Bool) => Fn Try.prog 41 [.i64 x.1, .agg (T_api_Tree.C x.2)] (.tuple [.agg (T_api_Tree.C r.1), .bool r.2])) x r := by
  intro x r h
  rw [M_ref17_Do] at h
  try dsimp only
  refine Fn.of_lc mix fn_41 lok_41 (by rfl) (flC (.atom _) (flC (T_api_Tree.flatC _) (flN))) (.tuple _ (flC (T_api_Tree.flatC _) (flC (.atom _) (flN)))) ?_
  simp -implicitDefEqProofs only [go_sem, Try.f41]
  by_cases h1 : ((x.2.Kids.length : Int) != 2) = true
  · replace h := ite_some h h1
    try simp -implicitDefEqProofs only [go_sem, h1]
    injection h with h; subst h
    first | rfl | (simp -implicitDefEqProofs only [go_sem, h1] <;> rfl)
  · replace h := ite_none h h1; replace h1 := bfalse h1
    try simp -implicitDefEqProofs only [go_sem, h1]
    obtain ⟨e2, h3, h⟩ := bind_some' h
    try simp -implicitDefEqProofs only [go_sem, h1, h3]
    obtain ⟨e4, h5, h⟩ := bind_some' h
    try simp -implicitDefEqProofs only [go_sem, h1, h3, h5]
    by_cases h6 : (x.1 == 1) = true
    · replace h := ite_some h h6
      try simp -implicitDefEqProofs only [go_sem, h1, h3, h5, h6]
      obtain ⟨r7, h8, h⟩ := bind_some' h
      refine .plain _ _ rfl (M_ref17_May.w (1, x.2.Kind, 0) _ h8) ?_
      try simp -implicitDefEqProofs only [go_sem, h1, h3, h5, h6]
      by_cases h9 : r7 = true
      · replace h := ite_some h h9
        try simp -implicitDefEqProofs only [go_sem, h1, h3, h5, h6, h9]
        obtain ⟨r10, h11, h⟩ := bind_some' h
        refine .plain _ _ rfl (M_ref17_with.w (x.2, e4, e2) _ h11) ?_
        try simp -implicitDefEqProofs only [go_sem, h1, h3, h5, h6, h9]
        injection h with h; subst h
        first | rfl | (simp -implicitDefEqProofs only [go_sem, h1, h3, h5, h6, h9] <;> rfl)
      · replace h := ite_none h h9; replace h9 := bfalse h9
        try simp -implicitDefEqProofs only [go_sem, h1, h3, h5, h6, h9]
        have h12 : (x.1 == 2) = false := by rw [eqbI h6]; rfl
        try simp -implicitDefEqProofs only [go_sem, h1, h3, h5, h6, h9, h12]
        have h13 : (x.1 == 3) = false := by rw [eqbI h6]; rfl
        try simp -implicitDefEqProofs only [go_sem, h1, h3, h5, h6, h9, h12, h13]
        have h14 : (x.1 == 4) = false := by rw [eqbI h6]; rfl
        try simp -implicitDefEqProofs only [go_sem, h1, h3, h5, h6, h9, h12, h13, h14]
        have h15 : (x.1 == 5) = false := by rw [eqbI h6]; rfl
        try simp -implicitDefEqProofs only [go_sem, h1, h3, h5, h6, h9, h12, h13, h14, h15]
        injection h with h; subst h
        first | rfl | (simp -implicitDefEqProofs only [go_sem, h1, h3, h5, h6, h9, h12, h13, h14, h15] <;> rfl)
    · replace h := ite_none h h6; replace h6 := bfalse h6
      try simp -implicitDefEqProofs only [go_sem, h1, h3, h5, h6]
      by_cases h16 : (x.1 == 2) = true
      · replace h := ite_some h h16
        try simp -implicitDefEqProofs only [go_sem, h1, h3, h5, h6, h16]
        by_cases h17 : ((e2.Kids.length : Int) == 2) = true
        · replace h := ite_some h h17
          try simp -implicitDefEqProofs only [go_sem, h1, h3, h5, h6, h16, h17]
          obtain ⟨r18, h19, h⟩ := bind_some' h
          refine .plain _ _ rfl (M_ref17_May.w (2, e2.Kind, x.2.Kind) _ h19) ?_
          try simp -implicitDefEqProofs only [go_sem, h1, h3, h5, h6, h16, h17]
          by_cases h20 : r18 = true
          · replace h := ite_some h h20
            try simp -implicitDefEqProofs only [go_sem, h1, h3, h5, h6, h16, h17, h20]
            obtain ⟨e21, h22, h⟩ := bind_some' h
            try simp -implicitDefEqProofs only [go_sem, h1, h3, h5, h6, h16, h17, h20, h22]
            obtain ⟨r23, h24, h⟩ := bind_some' h
            refine .plain _ _ rfl (M_ref17_apart.w (x.2, e21) _ h24) ?_
            try simp -implicitDefEqProofs only [go_sem, h1, h3, h5, h6, h16, h17, h20, h22]
            by_cases h25 : r23 = true
            · replace h := ite_some h h25
              try simp -implicitDefEqProofs only [go_sem, h1, h3, h5, h6, h16, h17, h20, h22, h25]
              obtain ⟨e26, h27, h⟩ := bind_some' h
              try simp -implicitDefEqProofs only [go_sem, h1, h3, h5, h6, h16, h17, h20, h22, h25, h27]
              obtain ⟨r28, h29, h⟩ := bind_some' h
              refine .plain _ _ rfl (M_ref17_firm.w (e2, x.2, e26) _ h29) ?_
              try simp -implicitDefEqProofs only [go_sem, h1, h3, h5, h6, h16, h17, h20, h22, h25, h27]
              by_cases h30 : r28 = true
              · replace h := ite_some h h30
                try simp -implicitDefEqProofs only [go_sem, h1, h3, h5, h6, h16, h17, h20, h22, h25, h27, h30]
                obtain ⟨r31, h32, h⟩ := bind_some' h
                refine .plain _ _ rfl (M_ref17_with.w (x.2, e26, e4) _ h32) ?_
                try simp -implicitDefEqProofs only [go_sem, h1, h3, h5, h6, h16, h17, h20, h22, h25, h27, h30]
                obtain ⟨r33, h34, h⟩ := bind_some' h
                refine .plain _ _ rfl (M_ref17_with.w (e2, e21, r31) _ h34) ?_
                try simp -implicitDefEqProofs only [go_sem, h1, h3, h5, h6, h16, h17, h20, h22, h25, h27, h30]
                injection h with h; subst h
                first | rfl | (simp -implicitDefEqProofs only [go_sem, h1, h3, h5, h6, h16, h17, h20, h22, h25, h27, h30] <;> rfl)
              · replace h := ite_none h h30; replace h30 := bfalse h30
                try simp -implicitDefEqProofs only [go_sem, h1, h3, h5, h6, h16, h17, h20, h22, h25, h27, h30]
                have h35 : (x.1 == 3) = false := by rw [eqbI h16]; rfl
                try simp -implicitDefEqProofs only [go_sem, h1, h3, h5, h6, h16, h17, h20, h22, h25, h27, h30, h35]
                have h36 : (x.1 == 4) = false := by rw [eqbI h16]; rfl
                try simp -implicitDefEqProofs only [go_sem, h1, h3, h5, h6, h16, h17, h20, h22, h25, h27, h30, h35, h36]
                have h37 : (x.1 == 5) = false := by rw [eqbI h16]; rfl
                try simp -implicitDefEqProofs only [go_sem, h1, h3, h5, h6, h16, h17, h20, h22, h25, h27, h30, h35, h36, h37]
                injection h with h; subst h
                first | rfl | (simp -implicitDefEqProofs only [go_sem, h1, h3, h5, h6, h16, h17, h20, h22, h25, h27, h30, h35, h36, h37] <;> rfl)
            · replace h := ite_none h h25; replace h25 := bfalse h25
              try simp -implicitDefEqProofs only [go_sem, h1, h3, h5, h6, h16, h17, h20, h22, h25]
              have h38 : (x.1 == 3) = false := by rw [eqbI h16]; rfl
              try simp -implicitDefEqProofs only [go_sem, h1, h3, h5, h6, h16, h17, h20, h22, h25, h38]
              have h39 : (x.1 == 4) = false := by rw [eqbI h16]; rfl
              try simp -implicitDefEqProofs only [go_sem, h1, h3, h5, h6, h16, h17, h20, h22, h25, h38, h39]
              have h40 : (x.1 == 5) = false := by rw [eqbI h16]; rfl
              try simp -implicitDefEqProofs only [go_sem, h1, h3, h5, h6, h16, h17, h20, h22, h25, h38, h39, h40]
              injection h with h; subst h
              first | rfl | (simp -implicitDefEqProofs only [go_sem, h1, h3, h5, h6, h16, h17, h20, h22, h25, h38, h39, h40] <;> rfl)
          · replace h := ite_none h h20; replace h20 := bfalse h20
            try simp -implicitDefEqProofs only [go_sem, h1, h3, h5, h6, h16, h17, h20]
            have h41 : (x.1 == 3) = false := by rw [eqbI h16]; rfl
            try simp -implicitDefEqProofs only [go_sem, h1, h3, h5, h6, h16, h17, h20, h41]
            have h42 : (x.1 == 4) = false := by rw [eqbI h16]; rfl
            try simp -implicitDefEqProofs only [go_sem, h1, h3, h5, h6, h16, h17, h20, h41, h42]
            have h43 : (x.1 == 5) = false := by rw [eqbI h16]; rfl
            try simp -implicitDefEqProofs only [go_sem, h1, h3, h5, h6, h16, h17, h20, h41, h42, h43]
            injection h with h; subst h
            first | rfl | (simp -implicitDefEqProofs only [go_sem, h1, h3, h5, h6, h16, h17, h20, h41, h42, h43] <;> rfl)
        · replace h := ite_none h h17; replace h17 := bfalse h17
          try simp -implicitDefEqProofs only [go_sem, h1, h3, h5, h6, h16, h17]
          have h44 : (x.1 == 3) = false := by rw [eqbI h16]; rfl
          try simp -implicitDefEqProofs only [go_sem, h1, h3, h5, h6, h16, h17, h44]
          have h45 : (x.1 == 4) = false := by rw [eqbI h16]; rfl
          try simp -implicitDefEqProofs only [go_sem, h1, h3, h5, h6, h16, h17, h44, h45]
          have h46 : (x.1 == 5) = false := by rw [eqbI h16]; rfl
          try simp -implicitDefEqProofs only [go_sem, h1, h3, h5, h6, h16, h17, h44, h45, h46]
          injection h with h; subst h
          first | rfl | (simp -implicitDefEqProofs only [go_sem, h1, h3, h5, h6, h16, h17, h44, h45, h46] <;> rfl)
      · replace h := ite_none h h16; replace h16 := bfalse h16
        try simp -implicitDefEqProofs only [go_sem, h1, h3, h5, h6, h16]
        by_cases h47 : (x.1 == 3) = true
        · replace h := ite_some h h47
          try simp -implicitDefEqProofs only [go_sem, h1, h3, h5, h6, h16, h47]
          by_cases h48 : ((e4.Kids.length : Int) == 2) = true
          · replace h := ite_some h h48
            try simp -implicitDefEqProofs only [go_sem, h1, h3, h5, h6, h16, h47, h48]
            obtain ⟨r49, h50, h⟩ := bind_some' h
            refine .plain _ _ rfl (M_ref17_May.w (3, x.2.Kind, e4.Kind) _ h50) ?_
            try simp -implicitDefEqProofs only [go_sem, h1, h3, h5, h6, h16, h47, h48]
            by_cases h51 : r49 = true
            · replace h := ite_some h h51
              try simp -implicitDefEqProofs only [go_sem, h1, h3, h5, h6, h16, h47, h48, h51]
              obtain ⟨e52, h53, h⟩ := bind_some' h
              try simp -implicitDefEqProofs only [go_sem, h1, h3, h5, h6, h16, h47, h48, h51, h53]
              obtain ⟨r54, h55, h⟩ := bind_some' h
              refine .plain _ _ rfl (M_ref17_apart.w (x.2, e52) _ h55) ?_
              try simp -implicitDefEqProofs only [go_sem, h1, h3, h5, h6, h16, h47, h48, h51, h53]
              by_cases h56 : r54 = true
              · replace h := ite_some h h56
                try simp -implicitDefEqProofs only [go_sem, h1, h3, h5, h6, h16, h47, h48, h51, h53, h56]
                obtain ⟨e57, h58, h⟩ := bind_some' h
                try simp -implicitDefEqProofs only [go_sem, h1, h3, h5, h6, h16, h47, h48, h51, h53, h56, h58]
                obtain ⟨r59, h60, h⟩ := bind_some' h
                refine .plain _ _ rfl (M_ref17_firm.w (x.2, e4, e57) _ h60) ?_
                try simp -implicitDefEqProofs only [go_sem, h1, h3, h5, h6, h16, h47, h48, h51, h53, h56, h58]
                by_cases h61 : r59 = true
                · replace h := ite_some h h61
                  try simp -implicitDefEqProofs only [go_sem, h1, h3, h5, h6, h16, h47, h48, h51, h53, h56, h58, h61]
                  obtain ⟨r62, h63, h⟩ := bind_some' h
                  refine .plain _ _ rfl (M_ref17_with.w (x.2, e2, e57) _ h63) ?_
                  try simp -implicitDefEqProofs only [go_sem, h1, h3, h5, h6, h16, h47, h48, h51, h53, h56, h58, h61]
                  obtain ⟨r64, h65, h⟩ := bind_some' h
                  refine .plain _ _ rfl (M_ref17_with.w (e4, r62, e52) _ h65) ?_
                  try simp -implicitDefEqProofs only [go_sem, h1, h3, h5, h6, h16, h47, h48, h51, h53, h56, h58, h61]
                  injection h with h; subst h
                  first | rfl | (simp -implicitDefEqProofs only [go_sem, h1, h3, h5, h6, h16, h47, h48, h51, h53, h56, h58, h61] <;> rfl)
                · replace h := ite_none h h61; replace h61 := bfalse h61
                  try simp -implicitDefEqProofs only [go_sem, h1, h3, h5, h6, h16, h47, h48, h51, h53, h56, h58, h61]
                  have h66 : (x.1 == 4) = false := by rw [eqbI h47]; rfl
                  try simp -implicitDefEqProofs only [go_sem, h1, h3, h5, h6, h16, h47, h48, h51, h53, h56, h58, h61, h66]
                  have h67 : (x.1 == 5) = false := by rw [eqbI h47]; rfl
                  try simp -implicitDefEqProofs only [go_sem, h1, h3, h5, h6, h16, h47, h48, h51, h53, h56, h58, h61, h66, h67]
                  injection h with h; subst h
                  first | rfl | (simp -implicitDefEqProofs only [go_sem, h1, h3, h5, h6, h16, h47, h48, h51, h53, h56, h58, h61, h66, h67] <;> rfl)
              · replace h := ite_none h h56; replace h56 := bfalse h56
                try simp -implicitDefEqProofs only [go_sem, h1, h3, h5, h6, h16, h47, h48, h51, h53, h56]
                have h68 : (x.1 == 4) = false := by rw [eqbI h47]; rfl
                try simp -implicitDefEqProofs only [go_sem, h1, h3, h5, h6, h16, h47, h48, h51, h53, h56, h68]
                have h69 : (x.1 == 5) = false := by rw [eqbI h47]; rfl
                try simp -implicitDefEqProofs only [go_sem, h1, h3, h5, h6, h16, h47, h48, h51, h53, h56, h68, h69]
                injection h with h; subst h
                first | rfl | (simp -implicitDefEqProofs only [go_sem, h1, h3, h5, h6, h16, h47, h48, h51, h53, h56, h68, h69] <;> rfl)
            · replace h := ite_none h h51; replace h51 := bfalse h51
              try simp -implicitDefEqProofs only [go_sem, h1, h3, h5, h6, h16, h47, h48, h51]
              have h70 : (x.1 == 4) = false := by rw [eqbI h47]; rfl
              try simp -implicitDefEqProofs only [go_sem, h1, h3, h5, h6, h16, h47, h48, h51, h70]
              have h71 : (x.1 == 5) = false := by rw [eqbI h47]; rfl
              try simp -implicitDefEqProofs only [go_sem, h1, h3, h5, h6, h16, h47, h48, h51, h70, h71]
              injection h with h; subst h
              first | rfl | (simp -implicitDefEqProofs only [go_sem, h1, h3, h5, h6, h16, h47, h48, h51, h70, h71] <;> rfl)
          · replace h := ite_none h h48; replace h48 := bfalse h48
            try simp -implicitDefEqProofs only [go_sem, h1, h3, h5, h6, h16, h47, h48]
            have h72 : (x.1 == 4) = false := by rw [eqbI h47]; rfl
            try simp -implicitDefEqProofs only [go_sem, h1, h3, h5, h6, h16, h47, h48, h72]
            have h73 : (x.1 == 5) = false := by rw [eqbI h47]; rfl
            try simp -implicitDefEqProofs only [go_sem, h1, h3, h5, h6, h16, h47, h48, h72, h73]
            injection h with h; subst h
            first | rfl | (simp -implicitDefEqProofs only [go_sem, h1, h3, h5, h6, h16, h47, h48, h72, h73] <;> rfl)
        · replace h := ite_none h h47; replace h47 := bfalse h47
          try simp -implicitDefEqProofs only [go_sem, h1, h3, h5, h6, h16, h47]
          by_cases h74 : (x.1 == 4) = true
          · replace h := ite_some h h74
            try simp -implicitDefEqProofs only [go_sem, h1, h3, h5, h6, h16, h47, h74]
            by_cases h75 : ((e2.Kids.length : Int) == 2) = true
            · replace h := ite_some h h75
              try simp -implicitDefEqProofs only [go_sem, h1, h3, h5, h6, h16, h47, h74, h75]
              obtain ⟨r76, h77, h⟩ := bind_some' h
              refine .plain _ _ rfl (M_ref17_May.w (4, e2.Kind, x.2.Kind) _ h77) ?_
              try simp -implicitDefEqProofs only [go_sem, h1, h3, h5, h6, h16, h47, h74, h75]
              by_cases h78 : r76 = true
              · replace h := ite_some h h78
                try simp -implicitDefEqProofs only [go_sem, h1, h3, h5, h6, h16, h47, h74, h75, h78]
                obtain ⟨e79, h80, h⟩ := bind_some' h
                try simp -implicitDefEqProofs only [go_sem, h1, h3, h5, h6, h16, h47, h74, h75, h78, h80]
                obtain ⟨r81, h82, h⟩ := bind_some' h
                refine .plain _ _ rfl (M_ref17_apart.w (x.2, e79) _ h82) ?_
                try simp -implicitDefEqProofs only [go_sem, h1, h3, h5, h6, h16, h47, h74, h75, h78, h80]
                by_cases h83 : r81 = true
                · replace h := ite_some h h83
                  try simp -implicitDefEqProofs only [go_sem, h1, h3, h5, h6, h16, h47, h74, h75, h78, h80, h83]
                  obtain ⟨e84, h85, h⟩ := bind_some' h
                  try simp -implicitDefEqProofs only [go_sem, h1, h3, h5, h6, h16, h47, h74, h75, h78, h80, h83, h85]
                  obtain ⟨r86, h87, h⟩ := bind_some' h
                  refine .plain _ _ rfl (M_ref17_with.w (x.2, e84, e4) _ h87) ?_
                  try simp -implicitDefEqProofs only [go_sem, h1, h3, h5, h6, h16, h47, h74, h75, h78, h80, h83, h85]
                  obtain ⟨r88, h89, h⟩ := bind_some' h
                  refine .plain _ _ rfl (M_ref17_with.w (e2, r86, e79) _ h89) ?_
                  try simp -implicitDefEqProofs only [go_sem, h1, h3, h5, h6, h16, h47, h74, h75, h78, h80, h83, h85]
                  injection h with h; subst h
                  first | rfl | (simp -implicitDefEqProofs only [go_sem, h1, h3, h5, h6, h16, h47, h74, h75, h78, h80, h83, h85] <;> rfl)
                · replace h := ite_none h h83; replace h83 := bfalse h83
                  try simp -implicitDefEqProofs only [go_sem, h1, h3, h5, h6, h16, h47, h74, h75, h78, h80, h83]
                  have h90 : (x.1 == 5) = false := by rw [eqbI h74]; rfl
                  try simp -implicitDefEqProofs only [go_sem, h1, h3, h5, h6, h16, h47, h74, h75, h78, h80, h83, h90]
                  injection h with h; subst h
                  first | rfl | (simp -implicitDefEqProofs only [go_sem, h1, h3, h5, h6, h16, h47, h74, h75, h78, h80, h83, h90] <;> rfl)
              · replace h := ite_none h h78; replace h78 := bfalse h78
                try simp -implicitDefEqProofs only [go_sem, h1, h3, h5, h6, h16, h47, h74, h75, h78]
                have h91 : (x.1 == 5) = false := by rw [eqbI h74]; rfl
                try simp -implicitDefEqProofs only [go_sem, h1, h3, h5, h6, h16, h47, h74, h75, h78, h91]
                injection h with h; subst h
                first | rfl | (simp -implicitDefEqProofs only [go_sem, h1, h3, h5, h6, h16, h47, h74, h75, h78, h91] <;> rfl)
            · replace h := ite_none h h75; replace h75 := bfalse h75
              try simp -implicitDefEqProofs only [go_sem, h1, h3, h5, h6, h16, h47, h74, h75]
              have h92 : (x.1 == 5) = false := by rw [eqbI h74]; rfl
              try simp -implicitDefEqProofs only [go_sem, h1, h3, h5, h6, h16, h47, h74, h75, h92]
              injection h with h; subst h
              first | rfl | (simp -implicitDefEqProofs only [go_sem, h1, h3, h5, h6, h16, h47, h74, h75, h92] <;> rfl)
          · replace h := ite_none h h74; replace h74 := bfalse h74
            try simp -implicitDefEqProofs only [go_sem, h1, h3, h5, h6, h16, h47, h74]
            by_cases h93 : (x.1 == 5) = true
            · replace h := ite_some h h93
              try simp -implicitDefEqProofs only [go_sem, h1, h3, h5, h6, h16, h47, h74, h93]
              by_cases h94 : ((e4.Kids.length : Int) == 2) = true
              · replace h := ite_some h h94
                try simp -implicitDefEqProofs only [go_sem, h1, h3, h5, h6, h16, h47, h74, h93, h94]
                obtain ⟨r95, h96, h⟩ := bind_some' h
                refine .plain _ _ rfl (M_ref17_May.w (5, x.2.Kind, e4.Kind) _ h96) ?_
                try simp -implicitDefEqProofs only [go_sem, h1, h3, h5, h6, h16, h47, h74, h93, h94]
                by_cases h97 : r95 = true
                · replace h := ite_some h h97
                  try simp -implicitDefEqProofs only [go_sem, h1, h3, h5, h6, h16, h47, h74, h93, h94, h97]
                  obtain ⟨e98, h99, h⟩ := bind_some' h
                  try simp -implicitDefEqProofs only [go_sem, h1, h3, h5, h6, h16, h47, h74, h93, h94, h97, h99]
                  obtain ⟨r100, h101, h⟩ := bind_some' h
                  refine .plain _ _ rfl (M_ref17_apart.w (x.2, e98) _ h101) ?_
                  try simp -implicitDefEqProofs only [go_sem, h1, h3, h5, h6, h16, h47, h74, h93, h94, h97, h99]
                  by_cases h102 : r100 = true
                  · replace h := ite_some h h102
                    try simp -implicitDefEqProofs only [go_sem, h1, h3, h5, h6, h16, h47, h74, h93, h94, h97, h99, h102]
                    obtain ⟨e103, h104, h⟩ := bind_some' h
                    try simp -implicitDefEqProofs only [go_sem, h1, h3, h5, h6, h16, h47, h74, h93, h94, h97, h99, h102, h104]
                    obtain ⟨r105, h106, h⟩ := bind_some' h
                    refine .plain _ _ rfl (M_ref17_with.w (x.2, e2, e103) _ h106) ?_
                    try simp -implicitDefEqProofs only [go_sem, h1, h3, h5, h6, h16, h47, h74, h93, h94, h97, h99, h102, h104]
                    obtain ⟨r107, h108, h⟩ := bind_some' h
                    refine .plain _ _ rfl (M_ref17_with.w (e4, e98, r105) _ h108) ?_
                    try simp -implicitDefEqProofs only [go_sem, h1, h3, h5, h6, h16, h47, h74, h93, h94, h97, h99, h102, h104]
                    injection h with h; subst h
                    first | rfl | (simp -implicitDefEqProofs only [go_sem, h1, h3, h5, h6, h16, h47, h74, h93, h94, h97, h99, h102, h104] <;> rfl)
                  · replace h := ite_none h h102; replace h102 := bfalse h102
                    try simp -implicitDefEqProofs only [go_sem, h1, h3, h5, h6, h16, h47, h74, h93, h94, h97, h99, h102]
                    injection h with h; subst h
                    first | rfl | (simp -implicitDefEqProofs only [go_sem, h1, h3, h5, h6, h16, h47, h74, h93, h94, h97, h99, h102] <;> rfl)
                · replace h := ite_none h h97; replace h97 := bfalse h97
                  try simp -implicitDefEqProofs only [go_sem, h1, h3, h5, h6, h16, h47, h74, h93, h94, h97]
                  injection h with h; subst h
                  first | rfl | (simp -implicitDefEqProofs only [go_sem, h1, h3, h5, h6, h16, h47, h74, h93, h94, h97] <;> rfl)
              · replace h := ite_none h h94; replace h94 := bfalse h94
                try simp -implicitDefEqProofs only [go_sem, h1, h3, h5, h6, h16, h47, h74, h93, h94]
                injection h with h; subst h
                first | rfl | (simp -implicitDefEqProofs only [go_sem, h1, h3, h5, h6, h16, h47, h74, h93, h94] <;> rfl)
            · replace h := ite_none h h93; replace h93 := bfalse h93
              try simp -implicitDefEqProofs only [go_sem, h1, h3, h5, h6, h16, h47, h74, h93]
              injection h with h; subst h
              first | rfl | (simp -implicitDefEqProofs only [go_sem, h1, h3, h5, h6, h16, h47, h74, h93] <;> rfl)
end Go.Proofs.Ytakmilmckdllfaa.G
set_option linter.unusedVariables false
set_option linter.unusedSimpArgs false
set_option maxRecDepth 100000
namespace Go.Proofs.Ytakmilmckdllfaa.G
@[go_sem] theorem lrp_7_10 : lrp Try.prog 7 10 = (6, []) := by kernel_rfl
theorem lok_7 : (Try.f7.body.isSome && !(Try.f7.name == "runtime.NumGoroutine") && okL (bodyF Try.f7) Try.f7.ntmps (bodyF Try.f7)) = true := by kernel_rfl
def M_law18_LevelsWays.l0 (x : Int × T_api_Query × T_levels_Levels) : Option (Lp (Unit) (Bool)) :=
  if (decide (x.1 ≤ 5)) = true then
    M_ref17_Do (x.1, x.2.1.Root) >>= fun r10 =>
    if r10.2 = true then
      if (x.1 == 2) = true then
        (x.2.1.Root.Kids[0]?) >>= fun (e14 : T_api_Tree) =>
        if (e14.Kind == 2) = true then
          M_levels_Of r10.1 >>= fun r17 =>
          M_levels_Same (x.2.2, r17) >>= fun r19 =>
          if r19 = true then
            some (.ret false)
          else
            M_law18_LevelsWays.l0 ((w64 (x.1 + 1)), x.2.1, x.2.2)
        else
          M_levels_Of r10.1 >>= fun r23 =>
          M_levels_Same (x.2.2, r23) >>= fun r25 =>
          if r25 = true then
            M_law18_LevelsWays.l0 ((w64 (x.1 + 1)), x.2.1, x.2.2)
          else
            some (.ret false)
      else
        if (x.1 == 3) = true then
          M_levels_Of r10.1 >>= fun r29 =>
          M_levels_Same (x.2.2, r29) >>= fun r31 =>
          if r31 = true then
            if (x.2.1.Root.Kind == 2) = true then
              some (.ret false)
            else
              M_law18_LevelsWays.l0 ((w64 (x.1 + 1)), x.2.1, x.2.2)
          else
            if (x.2.1.Root.Kind == 2) = true then
              M_law18_LevelsWays.l0 ((w64 (x.1 + 1)), x.2.1, x.2.2)
            else
              some (.ret false)
        else
          M_levels_Of r10.1 >>= fun r36 =>
          M_levels_Same (x.2.2, r36) >>= fun r38 =>
          if r38 = true then
            M_law18_LevelsWays.l0 ((w64 (x.1 + 1)), x.2.1, x.2.2)
          else
            some (.ret false)
    else
      M_law18_LevelsWays.l0 ((w64 (x.1 + 1)), x.2.1, x.2.2)
  else
    some (.brk ())
  partial_fixpoint
theorem M_law18_LevelsWays.l0.ws : (∀ (x : Int × T_api_Query × T_levels_Levels) (o : Lp (Unit) (Bool)), M_law18_LevelsWays.l0 x = some o → (fun (x : Int × T_api_Query × T_levels_Levels) (o : Lp (Unit) (Bool)) => ∀ (lo : Option Nat) (c : LCtx) (Q : Exit → LEnv → Prop) (hb : ∀ s : Unit, o = Lp.brk s → Q (.exit 0) ⟨[], []⟩) (hr : ∀ (r : Bool) (L : LEnv), o = .ret r → LPostF Try.prog [.tmp 2] (.bool r) (fun _ => True) .ret L → Q .ret L), LLoop Try.prog 7 lo c 0 (VQ Q) ⟨[(1, .lref 1 0), (3, .lref 3 0), (4, .v (.i64 x.1))], [(1, [.v (.slice .foreign (x.2.1.Cols.map AV.i64)), .v (.i64 x.2.1.Root.Kind), .v (.i64 x.2.1.Root.Table), .v (.slice .foreign (x.2.1.Root.Kids.map T_api_Tree.av)), .v (.slice .foreign (x.2.1.Root.Conj.map T_api_Pred.av)), .v (.bool x.2.1.Root.Hash)]), (3, [.v (.slice .foreign (x.2.2.Joins.map T_levels_Join.av)), .v (.slice .foreign (x.2.2.Ops.map T_levels_Op.av))])]⟩) x o) := by
  refine M_law18_LevelsWays.l0.partial_correctness _ ?_
  · intro M_M_law18_LevelsWays_l0 ih_M_law18_LevelsWays_l0 x o h
    intro lo c Q hb hr
    refine LLoop.step mix fn_7 (by kernel_rfl) ?_
    simp -implicitDefEqProofs only [go_sem, Try.f7]
    by_cases h9 : (decide (x.1 ≤ 5)) = true
    · replace h := ite_some h h9
      try simp -implicitDefEqProofs only [go_sem, h9]
      obtain ⟨r10, h11, h⟩ := bind_some' h
      refine .plain _ _ rfl (M_ref17_Do.w (x.1, x.2.1.Root) _ h11) ?_
      try simp -implicitDefEqProofs only [go_sem, h9]
      by_cases h12 : r10.2 = true
      · replace h := ite_some h h12
        try simp -implicitDefEqProofs only [go_sem, h9, h12]
        by_cases h13 : (x.1 == 2) = true
        · replace h := ite_some h h13
          try simp -implicitDefEqProofs only [go_sem, h9, h12, h13]
          obtain ⟨e14, h15, h⟩ := bind_some' h
          try simp -implicitDefEqProofs only [go_sem, h9, h12, h13, h15]
          by_cases h16 : (e14.Kind == 2) = true
          · replace h := ite_some h h16
            try simp -implicitDefEqProofs only [go_sem, h9, h12, h13, h15, h16]
            obtain ⟨r17, h18, h⟩ := bind_some' h
            refine .plain _ _ rfl (M_levels_Of.w r10.1 _ h18) ?_
            try simp -implicitDefEqProofs only [go_sem, h9, h12, h13, h15, h16]
            obtain ⟨r19, h20, h⟩ := bind_some' h
            refine .plain _ _ rfl (M_levels_Same.w (x.2.2, r17) _ h20) ?_
            try simp -implicitDefEqProofs only [go_sem, h9, h12, h13, h15, h16]
            by_cases h21 : r19 = true
            · replace h := ite_some h h21
              try simp -implicitDefEqProofs only [go_sem, h9, h12, h13, h15, h16, h21]
              injection h with h; subst h
              exact .inl (hr _ _ rfl (by (first | rfl | (simp -implicitDefEqProofs only [go_sem, h9, h12, h13, h15, h16, h21] <;> rfl))))
            · replace h := ite_none h h21; replace h21 := bfalse h21
              try simp -implicitDefEqProofs only [go_sem, h9, h12, h13, h15, h16, h21]
              exact LLoop.view [] (by (first | rfl | (simp -implicitDefEqProofs only [go_sem, h9, h12, h13, h15, h16, h21] <;> rfl))) (ih_M_law18_LevelsWays_l0 _ _ h lo c Q hb hr)
          · replace h := ite_none h h16; replace h16 := bfalse h16
            try simp -implicitDefEqProofs only [go_sem, h9, h12, h13, h15, h16]
            have h22 : (x.1 == 3) = false := by rw [eqbI h13]; rfl
            try simp -implicitDefEqProofs only [go_sem, h9, h12, h13, h15, h16, h22]
            obtain ⟨r23, h24, h⟩ := bind_some' h
            refine .plain _ _ rfl (M_levels_Of.w r10.1 _ h24) ?_
            try simp -implicitDefEqProofs only [go_sem, h9, h12, h13, h15, h16, h22]
            obtain ⟨r25, h26, h⟩ := bind_some' h
            refine .plain _ _ rfl (M_levels_Same.w (x.2.2, r23) _ h26) ?_
            try simp -implicitDefEqProofs only [go_sem, h9, h12, h13, h15, h16, h22]
            by_cases h27 : r25 = true
            · replace h := ite_some h h27
              try simp -implicitDefEqProofs only [go_sem, h9, h12, h13, h15, h16, h22, h27]
              exact LLoop.view [] (by (first | rfl | (simp -implicitDefEqProofs only [go_sem, h9, h12, h13, h15, h16, h22, h27] <;> rfl))) (ih_M_law18_LevelsWays_l0 _ _ h lo c Q hb hr)
            · replace h := ite_none h h27; replace h27 := bfalse h27
              try simp -implicitDefEqProofs only [go_sem, h9, h12, h13, h15, h16, h22, h27]
              injection h with h; subst h
              exact .inl (hr _ _ rfl (by (first | rfl | (simp -implicitDefEqProofs only [go_sem, h9, h12, h13, h15, h16, h22, h27] <;> rfl))))
        · replace h := ite_none h h13; replace h13 := bfalse h13
          try simp -implicitDefEqProofs only [go_sem, h9, h12, h13]
          by_cases h28 : (x.1 == 3) = true
          · replace h := ite_some h h28
            try simp -implicitDefEqProofs only [go_sem, h9, h12, h13, h28]
            obtain ⟨r29, h30, h⟩ := bind_some' h
            refine .plain _ _ rfl (M_levels_Of.w r10.1 _ h30) ?_
            try simp -implicitDefEqProofs only [go_sem, h9, h12, h13, h28]
            obtain ⟨r31, h32, h⟩ := bind_some' h
            refine .plain _ _ rfl (M_levels_Same.w (x.2.2, r29) _ h32) ?_
            try simp -implicitDefEqProofs only [go_sem, h9, h12, h13, h28]
            by_cases h33 : r31 = true
            · replace h := ite_some h h33
              try simp -implicitDefEqProofs only [go_sem, h9, h12, h13, h28, h33]
              by_cases h34 : (x.2.1.Root.Kind == 2) = true
              · replace h := ite_some h h34
                try simp -implicitDefEqProofs only [go_sem, h9, h12, h13, h28, h33, h34]
                injection h with h; subst h
                exact .inl (hr _ _ rfl (by (first | rfl | (simp -implicitDefEqProofs only [go_sem, h9, h12, h13, h28, h33, h34] <;> rfl))))
              · replace h := ite_none h h34; replace h34 := bfalse h34
                try simp -implicitDefEqProofs only [go_sem, h9, h12, h13, h28, h33, h34]
                exact LLoop.view [] (by (first | rfl | (simp -implicitDefEqProofs only [go_sem, h9, h12, h13, h28, h33, h34] <;> rfl))) (ih_M_law18_LevelsWays_l0 _ _ h lo c Q hb hr)
            · replace h := ite_none h h33; replace h33 := bfalse h33
              try simp -implicitDefEqProofs only [go_sem, h9, h12, h13, h28, h33]
              by_cases h35 : (x.2.1.Root.Kind == 2) = true
              · replace h := ite_some h h35
                try simp -implicitDefEqProofs only [go_sem, h9, h12, h13, h28, h33, h35]
                exact LLoop.view [] (by (first | rfl | (simp -implicitDefEqProofs only [go_sem, h9, h12, h13, h28, h33, h35] <;> rfl))) (ih_M_law18_LevelsWays_l0 _ _ h lo c Q hb hr)
              · replace h := ite_none h h35; replace h35 := bfalse h35
                try simp -implicitDefEqProofs only [go_sem, h9, h12, h13, h28, h33, h35]
                injection h with h; subst h
                exact .inl (hr _ _ rfl (by (first | rfl | (simp -implicitDefEqProofs only [go_sem, h9, h12, h13, h28, h33, h35] <;> rfl))))
          · replace h := ite_none h h28; replace h28 := bfalse h28
            try simp -implicitDefEqProofs only [go_sem, h9, h12, h13, h28]
            obtain ⟨r36, h37, h⟩ := bind_some' h
            refine .plain _ _ rfl (M_levels_Of.w r10.1 _ h37) ?_
            try simp -implicitDefEqProofs only [go_sem, h9, h12, h13, h28]
            obtain ⟨r38, h39, h⟩ := bind_some' h
            refine .plain _ _ rfl (M_levels_Same.w (x.2.2, r36) _ h39) ?_
            try simp -implicitDefEqProofs only [go_sem, h9, h12, h13, h28]
            by_cases h40 : r38 = true
            · replace h := ite_some h h40
              try simp -implicitDefEqProofs only [go_sem, h9, h12, h13, h28, h40]
              exact LLoop.view [] (by (first | rfl | (simp -implicitDefEqProofs only [go_sem, h9, h12, h13, h28, h40] <;> rfl))) (ih_M_law18_LevelsWays_l0 _ _ h lo c Q hb hr)
            · replace h := ite_none h h40; replace h40 := bfalse h40
              try simp -implicitDefEqProofs only [go_sem, h9, h12, h13, h28, h40]
              injection h with h; subst h
              exact .inl (hr _ _ rfl (by (first | rfl | (simp -implicitDefEqProofs only [go_sem, h9, h12, h13, h28, h40] <;> rfl))))
      · replace h := ite_none h h12; replace h12 := bfalse h12
        try simp -implicitDefEqProofs only [go_sem, h9, h12]
        exact LLoop.view [] (by (first | rfl | (simp -implicitDefEqProofs only [go_sem, h9, h12] <;> rfl))) (ih_M_law18_LevelsWays_l0 _ _ h lo c Q hb hr)
    · replace h := ite_none h h9; replace h9 := bfalse h9
      try simp -implicitDefEqProofs only [go_sem, h9]
      injection h with h; subst h
      exact .inr ⟨[], _, by (simp -implicitDefEqProofs only [go_sem, h9] <;> first | done | rfl | trivial), hb _ rfl⟩
theorem M_law18_LevelsWays.l0.w : type_of% (M_law18_LevelsWays.l0.ws) := M_law18_LevelsWays.l0.ws
def M_law18_LevelsWays (x : T_api_Query) : Option (Bool) :=
  M_law11_Few x >>= fun r1 =>
  if r1 = true then
    M_ref11_Right x >>= fun r4 =>
    if r4 = true then
      M_levels_Of x.Root >>= fun r7 =>
      M_law18_LevelsWays.l0 (1, x, r7) >>= fun (o41 : Lp (Unit) (Bool)) => match o41 with
      | .brk s44 =>
        some true
      | .ret r43 =>
        some r43
    else
      some true
  else
    some true
theorem M_law18_LevelsWays.w : ∀ (x : T_api_Query) (r : Bool), M_law18_LevelsWays x = some r → (fun (x : T_api_Query) (r : Bool) => Fn Try.prog 7 [.agg (T_api_Query.C x)] (.bool r)) x r := by
  intro x r h
  rw [M_law18_LevelsWays] at h
  try dsimp only
  refine Fn.of_lc mix fn_7 lok_7 (by rfl) (flC (T_api_Query.flatC _) (flN)) (.atom _) ?_
  simp -implicitDefEqProofs only [go_sem, Try.f7]
  obtain ⟨r1, h2, h⟩ := bind_some' h
  refine .plain _ _ rfl (M_law11_Few.w x _ h2) ?_
  try simp -implicitDefEqProofs only [go_sem]
  by_cases h3 : r1 = true
  · replace h := ite_some h h3
    try simp -implicitDefEqProofs only [go_sem, h3]
    obtain ⟨r4, h5, h⟩ := bind_some' h
    refine .plain _ _ rfl (M_ref11_Right.w x _ h5) ?_
    try simp -implicitDefEqProofs only [go_sem, h3]
    by_cases h6 : r4 = true
    · replace h := ite_some h h6
      try simp -implicitDefEqProofs only [go_sem, h3, h6]
      obtain ⟨r7, h8, h⟩ := bind_some' h
      refine .plain _ _ rfl (M_levels_Of.w x.Root _ h8) ?_
      try simp -implicitDefEqProofs only [go_sem, h3, h6]
      obtain ⟨o41, h42, h⟩ := bind_some' h
      refine LLoop.viewQ (LLoop.view [] (by (first | rfl | (simp -implicitDefEqProofs only [go_sem, h3, h6] <;> rfl))) (M_law18_LevelsWays.l0.w (1, x, r7) _ h42 _ _ _ ?_ ?_))
      · intro s44 hs'; subst hs'
        try simp -implicitDefEqProofs only [go_sem, h3, h6]
        refine .plain _ _ rfl aw_law18 ?_
        try simp -implicitDefEqProofs only [go_sem, h3, h6]
        injection h with h; subst h
        first | rfl | (simp -implicitDefEqProofs only [go_sem, h3, h6] <;> rfl)
      · intro r43 L' hs' hL'; subst hs'
        injection h with h; subst h
        first | exact hL' | (simp -implicitDefEqProofs only [go_sem]; exact hL') | (simp -implicitDefEqProofs only [go_sem]; simp -implicitDefEqProofs only [go_sem] at hL'; exact hL')
    · replace h := ite_none h h6; replace h6 := bfalse h6
      try simp -implicitDefEqProofs only [go_sem, h3, h6]
      refine .plain _ _ rfl aw_law18 ?_
      try simp -implicitDefEqProofs only [go_sem, h3, h6]
      injection h with h; subst h
      first | rfl | (simp -implicitDefEqProofs only [go_sem, h3, h6] <;> rfl)
  · replace h := ite_none h h3; replace h3 := bfalse h3
    try simp -implicitDefEqProofs only [go_sem, h3]
    refine .plain _ _ rfl aw_law18 ?_
    try simp -implicitDefEqProofs only [go_sem, h3]
    injection h with h; subst h
    first | rfl | (simp -implicitDefEqProofs only [go_sem, h3] <;> rfl)
end Go.Proofs.Ytakmilmckdllfaa.G
set_option linter.unusedVariables false
set_option linter.unusedSimpArgs false
namespace Go.Proofs.Ytakmilmckdllfaa.G
open Classical

theorem ex_bind {α β : Type} {m : Option α} {f : α → Option β} (h : ∃ a, m = some a) (k : ∀ a, ∃ b, f a = some b) : ∃ b, (m >>= f) = some b := by
  obtain ⟨a, ha⟩ := h
  rw [ha]; exact k a
theorem ref03_Compare_some (x : Int × T_api_Value × T_api_Value) : ∃ b, M_ref03_Compare x = some b := by
  unfold M_ref03_Compare
  have ht : ∀ b, ∃ r, M_ref03_truth b = some r := by
    intro b; unfold M_ref03_truth
    repeat' first | exact ⟨_, rfl⟩ | apply ex_ite
  repeat' first | exact ⟨_, rfl⟩ | apply ex_ite | exact ex_bind (ht _) fun _ => ⟨_, rfl⟩
theorem ref07_sure_some (x : T_api_Term × Set64) : ∃ b, M_ref07_sure x = some b := by
  unfold M_ref07_sure
  rw [ref01_Has_eq]
  refine ex_ite (ex_bind ⟨_, rfl⟩ fun _ => ?_) ⟨_, rfl⟩
  exact ex_ite ⟨_, rfl⟩ ⟨_, rfl⟩
theorem ref07_all_of (l : List T_api_Pred) (hl : l.length ≤ 1000000) (s : Set64) (h : ∀ p ∈ l, ∀ t, ∃ b, M_ref07_Is (p, s, t) = some b) : ∃ b, M_ref07_all (l, s) = some b := by
  have key : ∀ n i, l.length - i = n → i ≤ l.length → ∃ o, M_ref07_all.l0 (l, s, (i : Int)) = some o := by
    intro n
    induction n with
    | zero => intro i h1 h2; rw [M_ref07_all.l0, if_neg (dge (by dsimp only; omega))]; exact ⟨_, rfl⟩
    | succ n ih =>
      intro i h1 h2
      have hi : i < l.length := by omega
      have hA : l.length - (i + 1) = n := by omega
      have hB : i + 1 ≤ l.length := by omega
      rw [M_ref07_all.l0, if_pos (dlt (by dsimp only; omega))]
      dsimp only
      rw [getI_nat hi, w64_succ (by omega)]
      simp -implicitDefEqProofs only [Option.bind_eq_bind, Option.bind_some]
      have hm := h _ (List.getElem_mem hi)
      exact ex_bind (hm 0) fun a => ex_ite (ih _ hA hB) (ex_bind (hm 1) fun a => ex_ite (ih _ hA hB) (ex_bind (hm 2) fun a => ex_ite (ih _ hA hB) ⟨_, rfl⟩))
  rw [M_ref07_all]
  obtain ⟨o, ho⟩ := key _ 0 rfl (Nat.zero_le _)
  rw [show ((0 : Nat) : Int) = 0 from rfl] at ho
  refine ex_bind ⟨o, ho⟩ fun o => ?_
  cases o <;> exact ⟨_, rfl⟩
theorem ref07_some_of (l : List T_api_Pred) (hl : l.length ≤ 1000000) (s : Set64) (t : Int) (h : ∀ p ∈ l, ∀ t, ∃ b, M_ref07_Is (p, s, t) = some b) : ∃ b, M_ref07_some (l, s, t) = some b := by
  have key : ∀ n i, l.length - i = n → i ≤ l.length → ∃ o, M_ref07_some.l0 (l, s, t, (i : Int)) = some o := by
    intro n
    induction n with
    | zero => intro i h1 h2; rw [M_ref07_some.l0, if_neg (dge (by dsimp only; omega))]; exact ⟨_, rfl⟩
    | succ n ih =>
      intro i h1 h2
      have hi : i < l.length := by omega
      have hA : l.length - (i + 1) = n := by omega
      have hB : i + 1 ≤ l.length := by omega
      rw [M_ref07_some.l0, if_pos (dlt (by dsimp only; omega))]
      dsimp only
      rw [getI_nat hi, w64_succ (by omega)]
      simp -implicitDefEqProofs only [Option.bind_eq_bind, Option.bind_some]
      have hm := h _ (List.getElem_mem hi)
      exact ex_bind (hm t) fun a => ex_ite ⟨_, rfl⟩ (ih _ hA hB)
  rw [M_ref07_some]
  obtain ⟨o, ho⟩ := key _ 0 rfl (Nat.zero_le _)
  rw [show ((0 : Nat) : Int) = 0 from rfl] at ho
  refine ex_bind ⟨o, ho⟩ fun o => ?_
  cases o <;> exact ⟨_, rfl⟩
theorem ref07_every_of (l : List T_api_Pred) (hl : l.length ≤ 1000000) (s : Set64) (t u : Int) (h : ∀ p ∈ l, ∀ t, ∃ b, M_ref07_Is (p, s, t) = some b) : ∃ b, M_ref07_every (l, s, t, u) = some b := by
  have key : ∀ n i, l.length - i = n → i ≤ l.length → ∃ o, M_ref07_every.l0 (l, s, t, u, (i : Int)) = some o := by
    intro n
    induction n with
    | zero => intro i h1 h2; rw [M_ref07_every.l0, if_neg (dge (by dsimp only; omega))]; exact ⟨_, rfl⟩
    | succ n ih =>
      intro i h1 h2
      have hi : i < l.length := by omega
      have hA : l.length - (i + 1) = n := by omega
      have hB : i + 1 ≤ l.length := by omega
      rw [M_ref07_every.l0, if_pos (dlt (by dsimp only; omega))]
      dsimp only
      rw [getI_nat hi, w64_succ (by omega)]
      simp -implicitDefEqProofs only [Option.bind_eq_bind, Option.bind_some]
      have hm := h _ (List.getElem_mem hi)
      exact ex_bind (hm t) fun a => ex_ite (ih _ hA hB) (ex_bind (hm u) fun a => ex_ite (ih _ hA hB) ⟨_, rfl⟩)
  rw [M_ref07_every]
  obtain ⟨o, ho⟩ := key _ 0 rfl (Nat.zero_le _)
  rw [show ((0 : Nat) : Int) = 0 from rfl] at ho
  refine ex_bind ⟨o, ho⟩ fun o => ?_
  cases o <;> exact ⟨_, rfl⟩
theorem ref07_many_of (l : List T_api_Pred) (hl : l.length ≤ 1000000) (s : Set64) (t u : Int) (h : ∀ p ∈ l, ∀ t, ∃ b, M_ref07_Is (p, s, t) = some b) : ∃ b, M_ref07_many (l, s, t, u) = some b := by
  rw [M_ref07_many]
  refine ex_bind (ref07_all_of l hl s h) fun a => ex_ite (ex_ite (ex_bind (ref07_every_of l hl s _ _ h) fun _ => ⟨_, rfl⟩) (ex_ite (ex_bind (ref07_some_of l hl s _ h) fun _ => ex_ite (ex_bind (ref07_every_of l hl s _ _ h) fun _ => ⟨_, rfl⟩) ⟨_, rfl⟩) (ex_bind (ref07_some_of l hl s _ h) fun _ => ⟨_, rfl⟩))) ⟨_, rfl⟩
theorem ref07_Is_some (p : T_api_Pred) : p.size ≤ 1000000 → ∀ s t, ∃ b, M_ref07_Is (p, s, t) = some b := by
  induction p using T_api_Pred.induct with
  | h p ih =>
    intro hsz s t
    have hpl := parts_len p
    have hp : ∀ x ∈ p.Parts, ∀ t, ∃ b, M_ref07_Is (x, s, t) = some b := fun x hx t => ih x hx (by have := part_size hx; omega) s t
    rw [M_ref07_Is]
    dsimp only
    refine ex_ite (ex_ite ⟨_, rfl⟩ (ex_ite (ex_ite ⟨_, rfl⟩ ⟨_, rfl⟩) ⟨_, rfl⟩)) (ex_ite (ex_ite ⟨_, rfl⟩ (ex_ite ⟨_, rfl⟩ (ex_bind (ref07_sure_some _) fun _ => ex_ite ⟨_, rfl⟩ (ex_bind (ref07_sure_some _) fun _ => ex_ite ⟨_, rfl⟩ (ex_ite ⟨_, rfl⟩ (ex_ite ⟨_, rfl⟩ (ex_bind (ref03_Compare_some _) fun _ => ⟨_, rfl⟩))))))) (ex_ite (ex_bind (ref07_sure_some _) fun _ => ex_ite ⟨_, rfl⟩ (ex_ite ⟨_, rfl⟩ (ex_ite ⟨_, rfl⟩ ⟨_, rfl⟩))) (ex_ite (ex_bind (ref07_many_of _ (by omega) _ _ _ hp) fun _ => ⟨_, rfl⟩) (ex_ite (ex_bind (ref07_many_of _ (by omega) _ _ _ hp) fun _ => ⟨_, rfl⟩) (ex_ite ?_ ⟨_, rfl⟩)))))
    by_cases h0 : 0 < p.Parts.length
    · rw [if_pos (by simp only [decide_eq_true_eq]; omega), List.getElem?_eq_getElem h0]
      simp -implicitDefEqProofs only [Option.bind_eq_bind, Option.bind_some]
      exact ex_bind (hp _ (List.getElem_mem h0) _) fun _ => ⟨_, rfl⟩
    · rw [if_neg (by simp only [decide_eq_true_eq]; omega)]; exact ⟨_, rfl⟩
theorem ref07_Rejects_some (l : List T_api_Pred) (hl : l.length ≤ 1000000) (hs : ∀ p ∈ l, p.size ≤ 1000000) (s : Set64) : ∃ b, M_ref07_Rejects (l, s) = some b := by
  unfold M_ref07_Rejects
  exact ex_bind (ref07_many_of l hl s _ _ fun p hp t => ref07_Is_some p (hs p hp) s t) fun _ => ⟨_, rfl⟩
theorem ref17_Named_some (t : T_api_Tree) (hsz : t.size ≤ 1000000) : ∃ s, M_ref17_Named t = some s := by
  have hcl := conj_len t
  have key : ∀ n i s, t.Conj.length - i = n → i ≤ t.Conj.length → ∃ o, M_ref17_Named.l0 (s, (i : Int), t) = some o := by
    intro n
    induction n with
    | zero => intro i s h1 h2; rw [M_ref17_Named.l0, if_neg (dge (by dsimp only; omega))]; exact ⟨_, rfl⟩
    | succ n ih =>
      intro i s h1 h2
      have hi : i < t.Conj.length := by omega
      rw [M_ref17_Named.l0, if_pos (dlt (by dsimp only; omega))]
      dsimp only
      have := conj_size (List.getElem_mem hi)
      rw [getI_nat hi, w64_succ (by omega)]
      simp -implicitDefEqProofs only [Option.bind_eq_bind, Option.bind_some]
      rw [ref06_Tables_eq _ (by omega)]
      exact ih (i + 1) _ (by omega) (by omega)
  unfold M_ref17_Named
  exact ex_bind (key _ 0 _ rfl (Nat.zero_le _)) fun _ => ⟨_, rfl⟩
theorem ref17_apart_some (t x : T_api_Tree) (h1 : t.size ≤ 1000000) (h2 : x.size ≤ 1000000) : ∃ b, M_ref17_apart (t, x) = some b := by
  unfold M_ref17_apart
  refine ex_bind (ref17_Named_some t h1) fun _ => ex_bind ⟨_, ref10_Tables_eq x (by omega)⟩ fun _ => ⟨_, rfl⟩
theorem ref17_firm_some (a b f : T_api_Tree) (h1 : b.size ≤ 1000000) (h2 : f.size ≤ 1000000) : ∃ r, M_ref17_firm (a, b, f) = some r := by
  unfold M_ref17_firm
  have hc := conj_len b
  refine ex_ite ⟨_, rfl⟩ (ex_ite ⟨_, rfl⟩ (ex_bind (ref17_Named_some b h1) fun _ => ex_bind ⟨_, ref10_Tables_eq f (by omega)⟩ fun _ => ex_bind (ref07_Rejects_some b.Conj (by omega) (fun p hp => by have := conj_size hp; omega) _) fun _ => ⟨_, rfl⟩))
theorem ref17_op_eq (k : Int) : M_ref17_op k = some (decide (1 ≤ k ∧ k ≤ 4)) := by
  unfold M_ref17_op
  by_cases h1 : k = 1
  · subst h1; rfl
  rw [if_neg (by simpa using h1)]
  by_cases h2 : k = 2
  · subst h2; rfl
  rw [if_neg (by simpa using h2)]
  by_cases h3 : k = 3
  · subst h3; rfl
  rw [if_neg (by simpa using h3)]
  by_cases h4 : k = 4
  · subst h4; rfl
  congr 1
  rw [Bool.eq_iff_iff, beq_iff_eq, decide_eq_true_eq]
  omega
/-- Which ways there may be. -/
def mayP (how a b : Int) : Prop := (how = 1 ∧ a = 1) ∨ ((how = 2 ∨ how = 3) ∧ (a = 1 ∧ 1 ≤ b ∧ b ≤ 4 ∨ a = 2 ∧ b = 2)) ∨ (how = 4 ∧ 1 ≤ a ∧ a ≤ 4 ∧ 1 ≤ b ∧ b ≤ 4) ∨ (how = 5 ∧ a = 1 ∧ b = 1)
theorem ref17_May_eq (how a b : Int) : M_ref17_May (how, a, b) = some (decide (mayP how a b)) := by
  unfold M_ref17_May
  dsimp only
  rw [ref17_op_eq, ref17_op_eq]
  simp -implicitDefEqProofs only [Option.bind_eq_bind, Option.bind_some, beq_iff_eq, decide_eq_true_eq]
  unfold mayP
  repeat' split
  all_goals (first | rfl | (congr 1; rw [Bool.eq_iff_iff]; simp only [decide_eq_true_eq, beq_iff_eq, Bool.false_eq_true, true_iff, false_iff, iff_true, iff_false]; omega))
/-- An operator with other kids. -/
def withK (t x y : T_api_Tree) : T_api_Tree := ⟨t.Kind, t.Table, [x, y], t.Conj, t.Hash⟩
theorem ref17_with_eq (t x y : T_api_Tree) : M_ref17_with (t, x, y) = some (withK t x y) := rfl
end Go.Proofs.Ytakmilmckdllfaa.G
set_option linter.unusedVariables false
set_option linter.unusedSimpArgs false
namespace Go.Proofs.Ytakmilmckdllfaa.G
open Classical

theorem size2 {t a b : T_api_Tree} (h : t.Kids = [a, b]) : t.size = 1 + (t.Conj.map T_api_Pred.size).sum + (a.size + b.size) := by
  rw [tsize_eq, h]; simp
theorem sizeW (t a b : T_api_Tree) : (withK t a b).size = 1 + (t.Conj.map T_api_Pred.size).sum + (a.size + b.size) := size2 (t := withK t a b) rfl
theorem okW {cols : List Int} {t a b : T_api_Tree} (h1 : 1 ≤ t.Kind) (h4 : t.Kind ≤ 4) (ha : OkT cols a) (hb : OkT cols b) : OkT cols (withK t a b) := by
  intro y hy
  rw [tour2 (show (withK t a b).Kids = [a, b] from rfl), List.mem_append, List.mem_append] at hy
  rcases hy with (hy | hy) | hy
  · exact ha y hy
  · exact hb y hy
  · have : y = withK t a b := by simpa using hy
    subst this
    exact .op a b h1 h4 rfl
theorem opsW (t a b : T_api_Tree) (hs : Set64) : opsK (taggedS (withK t a b) hs) = opsK (taggedS a hs) ++ opsK (taggedS b (if 1 < t.Kind then tabs b else hs)) ++ nodeO t b hs := opsK2 (t := withK t a b) rfl hs
theorem joinsW (t a b : T_api_Tree) (hs : Set64) : joinsK (taggedS (withK t a b) hs) = joinsK (taggedS a hs) ++ joinsK (taggedS b (if 1 < t.Kind then tabs b else hs)) ++ nodeJ t hs := joinsK2 (t := withK t a b) rfl hs
theorem ownsW {t a b : T_api_Tree} : ownsL (withK t a b).tour = ownsL a.tour ++ ownsL b.tour ++ if 1 < t.Kind then [tabs b] else [] := by
  rw [tour2 (show (withK t a b).Kids = [a, b] from rfl), ownsL_append, ownsL_append, ownsL1 (show (withK t a b).Kids = [a, b] from rfl)]; rfl
/-- Where a way must tell levels that differ. -/
def differs (i : Int) (t : T_api_Tree) : Prop := (i = 2 ∧ ∃ x, t.Kids[0]? = some x ∧ x.Kind = 2) ∨ (i = 3 ∧ t.Kind = 2)
structure GoodWay (cols : List Int) (i : Int) (t t' : T_api_Tree) : Prop where
  ok : OkT cols t'
  sz : t'.size ≤ 100000
  no : differs i t → ¬ sameG (levOf t) (levOf t')
  yes : ¬ differs i t → sameG (levOf t) (levOf t')
section
variable {cols : List Int} (hc : cols.length ≤ 64) {t x y : T_api_Tree} (ok : OkT cols t) (hnd : (leafTabs t.tour).Nodup) (hsz : t.size ≤ 600) (hk : t.Kids = [x, y]) (hk1 : 1 ≤ t.Kind) (hk4 : t.Kind ≤ 4)
include ok hk
theorem okx : OkT cols x := ok.kid (by rw [hk]; simp)
theorem oky : OkT cols y := ok.kid (by rw [hk]; simp)
include hsz hk1 hk4
theorem good1 (h : t.Kind = 1) : GoodWay cols 1 t (withK t y x) := by
  have oX := okx ok hk
  have oY := oky ok hk
  have o' : OkT cols (withK t y x) := okW hk1 hk4 oY oX
  have hs := size2 hk
  refine ⟨o', by rw [sizeW]; omega, fun hd => ?_, fun _ => ?_⟩
  · rcases hd with ⟨h, _⟩ | ⟨h, _⟩ <;> cases h
  · have n1 : ¬ 1 < t.Kind := by omega
    refine sameG_of ok o' ?_ ?_ ?_ ?_
    · rw [opsK2 hk, opsW, if_neg n1, if_neg n1]
      simp only [nodeO, if_neg n1, List.length_append, List.length_nil]; omega
    · intro k
      rw [opsK2 hk, opsW, if_neg n1, if_neg n1]
      simp only [nodeO, if_neg n1, List.mem_append, List.not_mem_nil, or_false]
      exact Or.symm
    · rw [joinsK2 hk, joinsW, if_neg n1, if_neg n1]
      simp only [List.length_append]; omega
    · intro k
      rw [joinsK2 hk, joinsW, if_neg n1, if_neg n1]
      simp only [List.countP_append]; omega
theorem good2i {x0 x1 : T_api_Tree} (hx : x.Kids = [x0, x1]) (h : x.Kind = 1) : GoodWay cols 2 t (withK x x0 (withK t x1 y)) := by
  have oX := okx ok hk
  have oY := oky ok hk
  have o0 := okx oX hx
  have o1 := oky oX hx
  have o' : OkT cols (withK x x0 (withK t x1 y)) := okW (by omega) (by omega) o0 (okW hk1 hk4 o1 oY)
  have hs := size2 hk
  have hs' := size2 hx
  refine ⟨o', by rw [sizeW, sizeW]; omega, fun hd => ?_, fun _ => ?_⟩
  · rcases hd with ⟨_, z, hz, h2⟩ | ⟨h, _⟩
    · rw [hk] at hz
      have : x = z := Option.some.inj hz
      subst this; omega
    · cases h
  · have n1 : ¬ 1 < x.Kind := by omega
    refine sameG_of ok o' ?_ ?_ ?_ ?_
    · rw [opsK2 hk, opsK2 hx, opsW, opsW, if_neg n1, if_neg n1]
      simp only [nodeO, if_neg n1, List.length_append, List.length_nil]; omega
    · intro k
      rw [opsK2 hk, opsK2 hx, opsW, opsW, if_neg n1, if_neg n1]
      have e1 : nodeO x x1 0#64 = [] := if_neg n1
      have e2 : nodeO x (withK t x1 y) 0#64 = [] := if_neg n1
      rw [e1, e2]
      simp only [List.append_nil, List.append_assoc]
      exact id
    · rw [joinsK2 hk, joinsK2 hx, joinsW, joinsW, if_neg n1, if_neg n1]
      simp only [List.length_append]; omega
    · intro k
      rw [joinsK2 hk, joinsK2 hx, joinsW, joinsW, if_neg n1, if_neg n1]
      simp only [List.countP_append]; omega
theorem good3i {y0 y1 : T_api_Tree} (hy : y.Kids = [y0, y1]) (h : t.Kind = 1) (hy1 : 1 ≤ y.Kind) (hy4 : y.Kind ≤ 4) : GoodWay cols 3 t (withK y (withK t x y0) y1) := by
  have oX := okx ok hk
  have oY := oky ok hk
  have o0 := okx oY hy
  have o1 := oky oY hy
  have o' : OkT cols (withK y (withK t x y0) y1) := okW hy1 hy4 (okW hk1 hk4 oX o0) o1
  have hs := size2 hk
  have hs' := size2 hy
  refine ⟨o', by rw [sizeW, sizeW]; omega, fun hd => ?_, fun _ => ?_⟩
  · rcases hd with ⟨h, _⟩ | ⟨_, h2⟩
    · cases h
    · omega
  · have n1 : ¬ 1 < t.Kind := by omega
    refine sameG_of ok o' ?_ ?_ ?_ ?_
    · rw [opsK2 hk, opsW, opsW, if_neg n1, if_neg n1, opsK2 hy]
      simp only [nodeO, if_neg n1, List.length_append, List.length_nil]; omega
    · intro k
      rw [opsK2 hk, opsW, opsW, if_neg n1, if_neg n1, opsK2 hy]
      have e1 : nodeO t y 0#64 = [] := if_neg n1
      have e2 : nodeO t y0 0#64 = [] := if_neg n1
      rw [e1, e2]
      simp only [List.append_nil, List.append_assoc]
      exact id
    · rw [joinsK2 hk, joinsW, joinsW, if_neg n1, if_neg n1, joinsK2 hy]
      simp only [List.length_append]; omega
    · intro k
      rw [joinsK2 hk, joinsW, joinsW, if_neg n1, if_neg n1, joinsK2 hy]
      simp only [List.countP_append]; omega
theorem good4 {x0 x1 : T_api_Tree} (hx : x.Kids = [x0, x1]) (hx1 : 1 ≤ x.Kind) (hx4 : x.Kind ≤ 4) : GoodWay cols 4 t (withK x (withK t x0 y) x1) := by
  have oX := okx ok hk
  have oY := oky ok hk
  have o0 := okx oX hx
  have o1 := oky oX hx
  have o' : OkT cols (withK x (withK t x0 y) x1) := okW hx1 hx4 (okW hk1 hk4 o0 oY) o1
  have hs := size2 hk
  have hs' := size2 hx
  refine ⟨o', by rw [sizeW, sizeW]; omega, fun hd => ?_, fun _ => ?_⟩
  · rcases hd with ⟨h, _⟩ | ⟨h, _⟩ <;> cases h
  · refine sameG_of ok o' ?_ ?_ ?_ ?_
    · rw [opsK2 hk, opsK2 hx, opsW, opsW]
      simp only [List.length_append]; omega
    · intro k
      rw [opsK2 hk, opsK2 hx, opsW, opsW]
      simp only [List.mem_append]
      rintro ((((h | h) | h) | h) | h)
      · exact .inl (.inl (.inl (.inl h)))
      · exact .inl (.inr h)
      · exact .inr h
      · exact .inl (.inl (.inl (.inr h)))
      · exact .inl (.inl (.inr h))
    · rw [joinsK2 hk, joinsK2 hx, joinsW, joinsW]
      simp only [List.length_append]; omega
    · intro k
      rw [joinsK2 hk, joinsK2 hx, joinsW, joinsW]
      simp only [List.countP_append]; omega
theorem good5 {y0 y1 : T_api_Tree} (hy : y.Kids = [y0, y1]) (h : t.Kind = 1) (h' : y.Kind = 1) : GoodWay cols 5 t (withK y y0 (withK t x y1)) := by
  have oX := okx ok hk
  have oY := oky ok hk
  have o0 := okx oY hy
  have o1 := oky oY hy
  have o' : OkT cols (withK y y0 (withK t x y1)) := okW (by omega) (by omega) o0 (okW hk1 hk4 oX o1)
  have hs := size2 hk
  have hs' := size2 hy
  refine ⟨o', by rw [sizeW, sizeW]; omega, fun hd => ?_, fun _ => ?_⟩
  · rcases hd with ⟨h, _⟩ | ⟨h, _⟩ <;> cases h
  · have n1 : ¬ 1 < t.Kind := by omega
    have n2 : ¬ 1 < y.Kind := by omega
    refine sameG_of ok o' ?_ ?_ ?_ ?_
    · rw [opsK2 hk, opsW, opsW, if_neg n1, if_neg n2, if_neg n1, opsK2 hy, if_neg n2]
      simp only [nodeO, if_neg n1, if_neg n2, List.length_append, List.length_nil]; omega
    · intro k
      rw [opsK2 hk, opsW, opsW, if_neg n1, if_neg n2, if_neg n1, opsK2 hy, if_neg n2]
      simp only [nodeO, if_neg n1, if_neg n2, List.mem_append, List.not_mem_nil, or_false]
      rintro (h | h | h)
      · exact .inr (.inl h)
      · exact .inl h
      · exact .inr (.inr h)
    · rw [joinsK2 hk, joinsW, joinsW, if_neg n1, if_neg n2, if_neg n1, joinsK2 hy, if_neg n2]
      simp only [List.length_append]; omega
    · intro k
      rw [joinsK2 hk, joinsW, joinsW, if_neg n1, if_neg n2, if_neg n1, joinsK2 hy, if_neg n2]
      simp only [List.countP_append]; omega
include hc hnd
theorem good2o {x0 x1 : T_api_Tree} (hx : x.Kids = [x0, x1]) (h : x.Kind = 2) (h' : t.Kind = 2) : GoodWay cols 2 t (withK x x0 (withK t x1 y)) := by
  have oX := okx ok hk
  have oY := oky ok hk
  have o0 := okx oX hx
  have o1 := oky oX hx
  have o' : OkT cols (withK x x0 (withK t x1 y)) := okW (by omega) (by omega) o0 (okW hk1 hk4 o1 oY)
  have hs := size2 hk
  have hs' := size2 hx
  refine ⟨o', by rw [sizeW, sizeW]; omega, fun _ => ?_, fun hd => absurd (.inl ⟨rfl, x, by rw [hk]; rfl, h⟩) hd⟩
  obtain ⟨nX, nY, dXY⟩ := nodup2 hk hk1 hnd
  obtain ⟨n0, n1, d01⟩ := nodup2 hx (by omega) nX
  have tX := tabs2 hx (by omega)
  obtain ⟨a1, h1⟩ := tabs_ne hc x1 o1
  obtain ⟨aY, hY⟩ := tabs_ne hc y oY
  have c01 : ∀ n, hasI (tabs x0) n = true → hasI (tabs x1) n = true → False := fun n p q => d01 n ((tabs_has hc o0 _).1 p) ((tabs_has hc o1 _).1 q)
  have c1Y : ∀ n, hasI (tabs x1) n = true → hasI (tabs y) n = true → False := fun n p q => dXY n ((tabs_has hc oX _).1 ((tX n).2 (.inr p))) ((tabs_has hc oY _).1 q)
  refine sameG_not ok o' (x.Kind, tabs x1, 0#64, x.Conj) ?_ fun hm => ?_
  · rw [opsK2 hk, opsK2 hx]
    have : nodeO x x1 0#64 = [(x.Kind, tabs x1, 0#64, x.Conj)] := if_pos (by omega)
    rw [this]; simp
  · have hm := opsK_own _ o' _ _ hm
    dsimp only at hm
    rw [ownsW, ownsW, if_pos (by omega), if_pos (by omega)] at hm
    simp only [List.mem_append, List.mem_singleton] at hm
    have tU := tabs2 (t := withK t x1 y) (a := x1) (b := y) rfl hk1
    rcases hm with (hm | (hm | hm) | hm) | hm
    · exact c01 a1 ((own_in hc x0 o0 n0 _ hm).1 a1 h1) h1
    · obtain ⟨n, p, q⟩ := (own_in hc x1 o1 n1 _ hm).2
      exact q p
    · exact c1Y a1 h1 ((own_in hc y oY nY _ hm).1 a1 h1)
    · rw [hm] at h1 c1Y
      exact c1Y aY hY hY
    · have : hasI (tabs x1) aY = true := by rw [hm]; exact (tU aY).2 (.inr hY)
      exact c1Y aY this hY
theorem good3o {y0 y1 : T_api_Tree} (hy : y.Kids = [y0, y1]) (h : t.Kind = 2) (h' : y.Kind = 2) : GoodWay cols 3 t (withK y (withK t x y0) y1) := by
  have oX := okx ok hk
  have oY := oky ok hk
  have o0 := okx oY hy
  have o1 := oky oY hy
  have o' : OkT cols (withK y (withK t x y0) y1) := okW (by omega) (by omega) (okW hk1 hk4 oX o0) o1
  have hs := size2 hk
  have hs' := size2 hy
  refine ⟨o', by rw [sizeW, sizeW]; omega, fun _ => ?_, fun hd => absurd (.inr ⟨rfl, h⟩) hd⟩
  obtain ⟨nX, nY, dXY⟩ := nodup2 hk hk1 hnd
  obtain ⟨n0, n1, d01⟩ := nodup2 hy (by omega) nY
  have tY := tabs2 hy (by omega)
  obtain ⟨a1, h1⟩ := tabs_ne hc y1 o1
  obtain ⟨a0, h0⟩ := tabs_ne hc y0 o0
  have c01 : ∀ n, hasI (tabs y0) n = true → hasI (tabs y1) n = true → False := fun n p q => d01 n ((tabs_has hc o0 _).1 p) ((tabs_has hc o1 _).1 q)
  have cXY : ∀ n, hasI (tabs x) n = true → hasI (tabs y) n = true → False := fun n p q => dXY n ((tabs_has hc oX _).1 p) ((tabs_has hc oY _).1 q)
  have y0' := (tY a0).2 (.inl h0)
  have y1' := (tY a1).2 (.inr h1)
  refine sameG_not ok o' (t.Kind, tabs y, 0#64, t.Conj) ?_ fun hm => ?_
  · rw [opsK2 hk]
    have : nodeO t y 0#64 = [(t.Kind, tabs y, 0#64, t.Conj)] := if_pos (by omega)
    rw [this]; simp
  · have hm := opsK_own _ o' _ _ hm
    dsimp only at hm
    rw [ownsW, ownsW, if_pos (by omega), if_pos (by omega)] at hm
    simp only [List.mem_append, List.mem_singleton] at hm
    rcases hm with (((hm | hm) | hm) | hm) | hm
    · exact cXY a0 ((own_in hc x oX nX _ hm).1 a0 y0') y0'
    · exact c01 a1 ((own_in hc y0 o0 n0 _ hm).1 a1 y1') h1
    · rw [hm] at y1'; exact c01 a1 y1' h1
    · exact c01 a0 h0 ((own_in hc y1 o1 n1 _ hm).1 a0 y0')
    · rw [hm] at y0'; exact c01 a0 h0 y0'
end
end Go.Proofs.Ytakmilmckdllfaa.G
set_option linter.unusedVariables false
set_option linter.unusedSimpArgs false
namespace Go.Proofs.Ytakmilmckdllfaa.G
open Classical

/-- An answer of a way: none, or a good tree. -/
def Ans (cols : List Int) (i : Int) (t : T_api_Tree) (r : Option (T_api_Tree × Bool)) : Prop := ∃ v, r = some v ∧ (v.2 = true → GoodWay cols i t v.1)
theorem Ans.no {cols : List Int} {i : Int} {t z : T_api_Tree} : Ans cols i t (some (z, false)) := ⟨_, rfl, fun h => by cases h⟩
theorem Ans.ite {cols : List Int} {i : Int} {t : T_api_Tree} {c : Prop} [Decidable c] {a b : Option (T_api_Tree × Bool)} (h : c → Ans cols i t a) (k : ¬ c → Ans cols i t b) : Ans cols i t (if c then a else b) := by
  split
  · exact h ‹_›
  · exact k ‹_›
theorem Ans.bind {cols : List Int} {i : Int} {t : T_api_Tree} {α : Type} {m : Option α} {f : α → Option (T_api_Tree × Bool)} (h : ∃ a, m = some a) (k : ∀ a, Ans cols i t (f a)) : Ans cols i t (m >>= f) := by
  obtain ⟨a, ha⟩ := h
  rw [ha]; exact k a
theorem two_of {cols : List Int} {x : T_api_Tree} (ok : OkT cols x) (h : ((x.Kids.length : Int) == 2) = true) : ∃ a b, x.Kids = [a, b] ∧ 1 ≤ x.Kind ∧ x.Kind ≤ 4 := by
  cases ok.self with
  | leaf hk hks => rw [hks] at h; cases h
  | op a b hk1 hk2 hks => exact ⟨a, b, hks, hk1, hk2⟩
theorem ref17_Do_ans {cols : List Int} (hc : cols.length ≤ 64) {t : T_api_Tree} (ok : OkT cols t) (hnd : (leafTabs t.tour).Nodup) (hsz : t.size ≤ 600) (i : Int) (hi1 : 1 ≤ i) (hi5 : i ≤ 5) : Ans cols i t (M_ref17_Do (i, t)) := by
  unfold M_ref17_Do
  dsimp only
  cases ok.self with
  | leaf hk hks => rw [hks, if_pos (by rfl)]; exact .no
  | op x y hk1 hk4 hk =>
    have oX := okx ok hk
    have oY := oky ok hk
    have hs := size2 hk
    have e0 : t.Kids[0]? = some x := by rw [hk]; rfl
    have e1 : t.Kids[1]? = some y := by rw [hk]; rfl
    have el : ¬ ((t.Kids.length : Int) != 2) = true := by rw [hk]; simp
    rw [if_neg el, e0, e1]
    simp -implicitDefEqProofs only [Option.bind_eq_bind, Option.bind_some, ref17_May_eq, ref17_with_eq, decide_eq_true_eq]
    by_cases i1 : i = 1
    · subst i1
      rw [if_pos (by rfl)]
      refine .ite (fun h => ⟨_, rfl, fun _ => good1 ok hsz hk hk1 hk4 ?_⟩) fun _ => .no
      unfold mayP at h; omega
    rw [if_neg (by simpa using i1)]
    by_cases i2 : i = 2
    · subst i2
      rw [if_pos (by rfl)]
      refine .ite (fun h => ?_) fun _ => .no
      obtain ⟨x0, x1, hx, hx1, hx4⟩ := two_of oX h
      have hs' := size2 hx
      have f0 : x.Kids[0]? = some x0 := by rw [hx]; rfl
      have f1 : x.Kids[1]? = some x1 := by rw [hx]; rfl
      rw [f0, f1]
      simp -implicitDefEqProofs only [Option.bind_some]
      refine .ite (fun hm => ?_) fun _ => .no
      refine Ans.bind (ref17_apart_some t x0 (by omega) (by omega)) fun b => .ite (fun _ => Ans.bind (ref17_firm_some x t x1 (by omega) (by omega)) fun b => .ite (fun _ => ⟨_, rfl, fun _ => ?_⟩) fun _ => .no) fun _ => .no
      unfold mayP at hm
      by_cases k : x.Kind = 1
      · exact good2i ok hsz hk hk1 hk4 hx k
      · exact good2o hc ok hnd hsz hk hk1 hk4 hx (by omega) (by omega)
    rw [if_neg (by simpa using i2)]
    by_cases i3 : i = 3
    · subst i3
      rw [if_pos (by rfl)]
      refine .ite (fun h => ?_) fun _ => .no
      obtain ⟨y0, y1, hy, hy1, hy4⟩ := two_of oY h
      have hs' := size2 hy
      have f0 : y.Kids[0]? = some y0 := by rw [hy]; rfl
      have f1 : y.Kids[1]? = some y1 := by rw [hy]; rfl
      rw [f0, f1]
      simp -implicitDefEqProofs only [Option.bind_some]
      refine .ite (fun hm => ?_) fun _ => .no
      refine Ans.bind (ref17_apart_some t y1 (by omega) (by omega)) fun b => .ite (fun _ => Ans.bind (ref17_firm_some t y y0 (by omega) (by omega)) fun b => .ite (fun _ => ⟨_, rfl, fun _ => ?_⟩) fun _ => .no) fun _ => .no
      unfold mayP at hm
      by_cases k : t.Kind = 1
      · exact good3i ok hsz hk hk1 hk4 hy k hy1 hy4
      · exact good3o hc ok hnd hsz hk hk1 hk4 hy (by omega) (by omega)
    rw [if_neg (by simpa using i3)]
    by_cases i4 : i = 4
    · subst i4
      rw [if_pos (by rfl)]
      refine .ite (fun h => ?_) fun _ => .no
      obtain ⟨x0, x1, hx, hx1, hx4⟩ := two_of oX h
      have hs' := size2 hx
      have f0 : x.Kids[0]? = some x0 := by rw [hx]; rfl
      have f1 : x.Kids[1]? = some x1 := by rw [hx]; rfl
      rw [f0, f1]
      simp -implicitDefEqProofs only [Option.bind_some]
      refine .ite (fun hm => ?_) fun _ => .no
      exact Ans.bind (ref17_apart_some t x1 (by omega) (by omega)) fun b => .ite (fun _ => ⟨_, rfl, fun _ => good4 ok hsz hk hk1 hk4 hx hx1 hx4⟩) fun _ => .no
    rw [if_neg (by simpa using i4)]
    by_cases i5 : i = 5
    · subst i5
      rw [if_pos (by rfl)]
      refine .ite (fun h => ?_) fun _ => .no
      obtain ⟨y0, y1, hy, hy1, hy4⟩ := two_of oY h
      have hs' := size2 hy
      have f0 : y.Kids[0]? = some y0 := by rw [hy]; rfl
      have f1 : y.Kids[1]? = some y1 := by rw [hy]; rfl
      rw [f0, f1]
      simp -implicitDefEqProofs only [Option.bind_some]
      refine .ite (fun hm => ?_) fun _ => .no
      refine Ans.bind (ref17_apart_some t y0 (by omega) (by omega)) fun b => .ite (fun _ => ⟨_, rfl, fun _ => ?_⟩) fun _ => .no
      unfold mayP at hm
      exact good5 ok hsz hk hk1 hk4 hy (by omega) (by omega)
    omega
theorem ways_l0 {q : T_api_Query} (R : RightQ q) (hsz : q.Root.size ≤ 600) : ∀ n (i : Int), (6 - i).toNat = n → 1 ≤ i → M_law18_LevelsWays.l0 (i, q, levOf q.Root) = some (.brk ()) := by
  have O := okT R.node
  have W := levOf_well O (show q.Root.size ≤ 100000 by omega)
  intro n
  induction n with
  | zero =>
    intro i hn h1
    rw [M_law18_LevelsWays.l0, if_neg (by simp only [decide_eq_true_eq]; omega)]
  | succ n ih =>
    intro i hn h1
    have next := ih (i + 1) (by omega) (by omega)
    have hw : w64 (i + 1) = i + 1 := w64_of (by omega) (by omega)
    rw [M_law18_LevelsWays.l0, if_pos (by simp only [decide_eq_true_eq]; omega)]
    dsimp only
    obtain ⟨⟨t', b⟩, hr, hg⟩ := ref17_Do_ans R.ncols O R.nodup hsz i h1 (by omega)
    rw [hr, hw, next]
    simp -implicitDefEqProofs only [Option.bind_eq_bind, Option.bind_some]
    cases b with
    | false => rfl
    | true =>
    have G := hg rfl
    dsimp only at G
    rw [if_pos rfl]
    have W' := levOf_well G.ok G.sz
    have e1 := levels_Of_eq G.ok G.sz
    have e2 := levels_Same_eq (levOf q.Root) (levOf t') W W'
    by_cases i2 : i = 2
    · subst i2
      rw [if_pos (by rfl)]
      cases O.self with
      | leaf hk hks =>
        exfalso
        unfold M_ref17_Do at hr
        dsimp only at hr
        rw [hks, if_pos (by rfl)] at hr
        injection hr with hr
        injection hr with _ hr
        cases hr
      | op x y hk1 hk4 hk =>
      have e0 : q.Root.Kids[0]? = some x := by rw [hk]; rfl
      rw [e0]
      simp -implicitDefEqProofs only [Option.bind_some]
      rw [e1]
      simp -implicitDefEqProofs only [Option.bind_some]
      rw [e2]
      simp -implicitDefEqProofs only [Option.bind_some, decide_eq_true_eq]
      by_cases k : x.Kind = 2
      · rw [if_pos (by simpa using k), if_neg (G.no (.inl ⟨rfl, x, e0, k⟩))]
      · rw [if_neg (by simpa using k), if_pos (G.yes ?_)]
        rintro (⟨_, z, hz, hk2⟩ | ⟨h, _⟩)
        · rw [e0] at hz
          exact k ((Option.some.inj hz) ▸ hk2)
        · cases h
    rw [if_neg (by simpa using i2), e1]
    simp -implicitDefEqProofs only [Option.bind_some]
    rw [e2]
    simp -implicitDefEqProofs only [Option.bind_some, decide_eq_true_eq]
    by_cases i3 : i = 3
    · subst i3
      rw [if_pos (by rfl)]
      by_cases k : q.Root.Kind = 2
      · rw [if_neg (G.no (.inr ⟨rfl, k⟩)), if_pos (by simpa using k)]
      · rw [if_pos (G.yes ?_), if_neg (by simpa using k)]
        rintro (⟨h, _⟩ | ⟨_, h⟩)
        · cases h
        · exact k h
    · rw [if_neg (by simpa using i3), if_pos (G.yes ?_)]
      rintro (⟨h, _⟩ | ⟨h, _⟩)
      · exact i2 h
      · exact i3 h
theorem levelsWays_plain (q : T_api_Query) : M_law18_LevelsWays q = some true := by
  unfold M_law18_LevelsWays
  rw [law11_Few_eq]
  simp -implicitDefEqProofs only [Option.bind_eq_bind, Option.bind_some, decide_eq_true_eq]
  by_cases s1 : q.Root.size ≤ 600
  case neg => rw [if_neg s1]
  rw [if_pos s1]
  obtain ⟨b1, r1, h1⟩ := ref11_Right_eq q s1
  rw [r1]
  simp -implicitDefEqProofs only [Option.bind_some]
  cases b1 with
  | false => rfl
  | true =>
  rw [if_pos rfl]
  have R1 := h1 rfl
  rw [levels_Of_eq (okT R1.node) (by omega)]
  simp -implicitDefEqProofs only [Option.bind_some]
  rw [ways_l0 R1 s1 _ 1 rfl (by omega)]
  rfl
end Go.Proofs.Ytakmilmckdllfaa.G
set_option linter.unusedVariables false
set_option linter.unusedSimpArgs false
namespace Go.Proofs.Ytakmilmckdllfaa.G
open Go.ChangeShapes Go.WideShapes Go.ChangeAt Go.RowKit

theorem memOk0 (μ : TypeId → Bool) (w : World) : MemOk gE (mE μ) w := by
  constructor <;> intros <;> simp_all [gE, mE]
theorem imm0 (b n : Nat) : Imm gE b n := ⟨fun l h => by simp [gE] at h, fun id h => by simp [gE] at h⟩

/-- **A law's function that tells true: a call's fact.** -/
theorem Fn.law {P : Program} {f : FuncId} {args : List AV} {vs : Array Value} {w : World} (h : Fn P f args (.bool true)) (hr : Reps gE w args vs) :
    Calls P f vs w fun e w' => e = .returned (.bool true) ∧ Below w.heap.size w w' := by
  have h0 := h (mE fun _ => false)
  refine (callsIn_wide.1 (h0.2.2 gE w vs ⟨fun _ _ _ => rfl, fun _ _ _ => rfl⟩ (memOk0 _ w) hr)).mono ?_
  rintro e w' ⟨v, g', rfl, hs, hm, hv⟩
  rw [hv.atom_inv]
  exact ⟨rfl, hs.os, hs.tape, hs.output, hs.size, fun b hb => hs.same b hb (fun l h => by simp [mE] at h) (fun l h => by simp [mE] at h)⟩

theorem Reps.nil {g : Gh} {w : World} : Reps g w [] #[] := ⟨rfl, fun j c v h => by cases h⟩
theorem Reps.cons {g : Gh} {w : World} {a : AV} {v : Value} {as_ : List AV} {vs : List Value} (h : Rep g w a v) (hs : Reps g w as_ vs.toArray) : Reps g w (a :: as_) (v :: vs).toArray := by
  refine ⟨by have := hs.1; simp at this ⊢; omega, fun j c x hc hx => ?_⟩
  cases j with
  | zero => simp at hc hx; subst hc hx; exact h
  | succ j => simp at hc hx; exact hs.2 j c x hc (by simpa using hx)

/-- A type's value out of its cells. -/
def ofCells (P : Program) (t : TypeId) (cs : List AV) : Option AV :=
  match aggT P t with
  | some true => some (.agg cs)
  | some false => match cs with
    | [c] => some c
    | _ => none
  | none => none
/-- Data of a type: numbers, truths, texts; rows and structs of these. -/
inductive Wt (P : Program) : TypeId → List AV → Prop
  | bool (t : TypeId) (b : Bool) (ht : P.underlying t = some .bool) : Wt P t [.atom (.bool b)]
  | int (t : TypeId) (k : IntKind) (n : Int) (ht : P.underlying t = some (.int k)) (h : k.min ≤ n ∧ n ≤ k.max) : Wt P t [.atom (.int k n)]
  | string (t : TypeId) (s : ByteArray) (ht : P.underlying t = some .string) (h : s.size ≤ maxLen) : Wt P t [.atom (.string s)]
  | slice (t e : TypeId) (es : List AV) (ht : P.underlying t = some (.slice e)) (hl : es.length ≤ maxLen) (h : ∀ x ∈ es, Wt P e x.cells) (hf : ∀ x ∈ es, ofCells P e x.cells = some x) : Wt P t [.slice .foreign es]
  | struct (t : TypeId) (fs : Array Field) (cs : List AV) (ht : P.underlying t = some (.struct fs)) (hl : cs.length = P.cellsOf t) (h : ∀ (i : Nat) (f : Field), fs[i]? = some f → Wt P f.type ((cs.drop f.offset).take (P.cellsOf f.type))) : Wt P t cs
  | array (t e : TypeId) (n : Nat) (cs : List AV) (ht : P.underlying t = some (.array n e)) (hl : cs.length = P.cellsOf t) (h : ∀ i, i < n → Wt P e ((cs.drop (i * P.cellsOf e)).take (P.cellsOf e))) : Wt P t cs

/-- Parts one behind the other. -/
def tiles : Nat → List (Nat × Nat) → Option Nat
  | k, [] => some k
  | k, (o, s) :: l => if o = k then tiles (k + s) l else none
/-- Types of data, and all that are within. -/
def plainT (P : Program) (S : List TypeId) : Bool := S.all fun t => match P.underlying t with
  | some .bool | some (.int _) | some .string => P.cellsOf t == 1
  | some (.slice e) => S.contains e && decide (0 < P.cellsOf e) && P.cellsOf t == 1
  | some (.struct fs) => (fs.all fun f => S.contains f.type) && tiles 0 (fs.toList.map fun f => (f.offset, P.cellsOf f.type)) == some (P.cellsOf t)
  | some (.array n e) => S.contains e && tiles 0 ((List.range n).map fun i => (i * P.cellsOf e, P.cellsOf e)) == some (P.cellsOf t)
  | _ => false

section
variable {H : Type} {enc : TypeId × Value → H} {P : Program} {W : World} {base b0 : Nat} {spare : Nat → Bool} {held : Bool} {r : Reach}

theorem cells?_get {w : World} {a : Addr} {n : Nat} {cs : List Value} (h : w.cells? base a n = some cs) : cs.length = n ∧ ∀ (j : Nat) (v : Value), cs[j]? = some v → w.cell? (a.add j) = some v := by
  unfold World.cells? at h
  split at h
  · have h1 := mapM_some_length h
    refine ⟨by simpa using h1, fun j v hj => ?_⟩
    have hlt : j < n := by rw [← List.length_range (n := n), ← h1]; exact (List.getElem?_eq_some_iff.1 hj).1
    rw [mapM_some_get h j j (by simp [hlt])]; exact hj
  · cases h

/-- Each part of cells that stand for values. -/
def CellsRep (w : World) (as_ : List AV) (cs : List Value) : Prop := as_.length = cs.length ∧ (∀ c ∈ as_, c.one = true) ∧ ∀ (j : Nat) (a : AV) (v : Value), as_[j]? = some a → cs[j]? = some v → Rep gE w a v

theorem tiles_le : ∀ {l : List (Nat × Nat)} {k n : Nat}, tiles k l = some n → k ≤ n := by
  intro l
  induction l with
  | nil => intro k n h; simp [tiles] at h; omega
  | cons x l ih =>
    intro k n h
    obtain ⟨o, s⟩ := x
    simp only [tiles] at h
    split at h
    · have := ih h; omega
    · cases h
theorem tile {w : World} {cs : List Value} {n : Nat} (hn : cs.length = n) : ∀ (l : List (Nat × Nat)) (k : Nat) (Q : Nat → List AV → Prop), tiles k l = some n → (∀ (i o s : Nat), l[i]? = some (o, s) → ∃ as_, CellsRep w as_ ((cs.drop o).take s) ∧ Q i as_) →
    ∃ as_, CellsRep w as_ (cs.drop k) ∧ ∀ (i o s : Nat), l[i]? = some (o, s) → k ≤ o ∧ Q i ((as_.drop (o - k)).take s) := by
  intro l
  induction l with
  | nil =>
    intro k Q h _
    simp [tiles] at h
    subst h
    exact ⟨[], ⟨by simp; omega, by simp, fun j a v h => by simp at h⟩, fun i o s h => by simp at h⟩
  | cons x l ih =>
    intro k Q h hp
    obtain ⟨o, s⟩ := x
    simp only [tiles] at h
    split at h
    · rename_i hok
      subst hok
      have hle := tiles_le h
      obtain ⟨as0, ⟨h1, h2, h3⟩, hq⟩ := hp 0 o s rfl
      obtain ⟨as1, ⟨h4, h5, h6⟩, hq1⟩ := ih (o + s) (fun i => Q (i + 1)) h (fun i o' s' hi => hp (i + 1) o' s' (by simpa using hi))
      have hl0 : as0.length = s := by rw [h1]; simp; omega
      refine ⟨as0 ++ as1, ⟨by simp [hl0, h4]; omega, fun c hc => (List.mem_append.1 hc).elim (h2 c) (h5 c), fun j a v ha hv => ?_⟩, fun i o' s' hi => ?_⟩
      · rw [List.getElem?_drop] at hv
        by_cases hj : j < s
        · rw [List.getElem?_append_left (by omega)] at ha
          exact h3 j a v ha (by rw [List.getElem?_take_of_lt hj, List.getElem?_drop]; exact hv)
        · rw [List.getElem?_append_right (by omega), hl0] at ha
          exact h6 (j - s) a v ha (by rw [List.getElem?_drop, ← hv]; congr 1; omega)
      · cases i with
        | zero =>
          simp at hi
          obtain ⟨rfl, rfl⟩ := hi
          refine ⟨Nat.le_refl _, ?_⟩
          rw [Nat.sub_self, List.drop_zero, List.take_append_of_le_length (by omega), List.take_of_length_le (by omega)]
          exact hq
        | succ i =>
          obtain ⟨h7, h8⟩ := hq1 i o' s' (by simpa using hi)
          refine ⟨by omega, ?_⟩
          have : o' - o = s + (o' - (o + s)) := by omega
          have hd : List.drop (s + (o' - (o + s))) as0 = [] := List.drop_eq_nil_of_le (by omega)
          rw [this, List.drop_append, hd, hl0, List.nil_append, show s + (o' - (o + s)) - s = o' - (o + s) from by omega]
          exact h8
    · cases h

theorem ofCells_cells {t : TypeId} {cs : List AV} {x : AV} (h : ofCells P t cs = some x) (ho : ∀ c ∈ cs, c.one = true) : x.cells = cs := by
  unfold ofCells at h
  split at h
  · injection h with h; subst h; rfl
  · split at h
    · injection h with h; subst h
      rename_i c
      have := ho c (by simp)
      cases c <;> first | rfl | (simp [AV.one] at this)
    · cases h
  · cases h

/-- **What the caller's data is.** -/
theorem reads {S : List TypeId} (hS : plainT P S = true) : ∀ (fuel : Nat) (t : TypeId) (cs : List Value) (x : DataW H × List MemPlace), t ∈ S → DataW.trod enc P W base spare held fuel t cs = some x → ∃ as_, CellsRep W as_ cs ∧ Wt P t as_ ∧ cs.length = P.cellsOf t := by
  intro fuel
  induction fuel with
  | zero => intro t cs x _ h; simp [DataW.trod] at h
  | succ fuel ih =>
    intro t cs x ht h
    have hp := List.all_eq_true.1 hS t ht
    have one1 : ∀ (a : AV) (v : Value), a.one = true → Rep gE W a v → CellsRep W [a] [v] := fun a v ho hr => ⟨rfl, by simpa using ho, fun j a' v' h1 h2 => by
      cases j with
      | zero => simp at h1 h2; subst h1 h2; exact hr
      | succ j => simp at h1⟩
    split at hp
    · rename_i hu
      obtain ⟨b, rfl, _⟩ := DataW.trod_bool hu h
      exact ⟨_, one1 _ _ rfl (.atom (.bool b) rfl), .bool t b hu, by simp at hp ⊢; exact hp.symm⟩
    · rename_i k hu
      obtain ⟨n, rfl, _, hw⟩ := DataW.trod_int hu h
      exact ⟨_, one1 _ _ rfl (.atom (.int k n) rfl), .int t k n hu (by simpa [Lit.wf] using hw), by simp at hp ⊢; exact hp.symm⟩
    · rename_i hu
      obtain ⟨s, rfl, _, hw⟩ := DataW.trod_string hu h
      exact ⟨_, one1 _ _ rfl (.atom (.string s) rfl), .string t s hu hw, by simp at hp ⊢; exact hp.symm⟩
    · rename_i e hu
      simp only [Bool.and_eq_true, decide_eq_true_eq, List.contains_iff_mem, beq_iff_eq] at hp
      obtain ⟨⟨he, hz⟩, hct⟩ := hp
      rcases DataW.trod_slice hu h with ⟨rfl, _⟩ | ⟨a, len, cap, elems, rest, n, hn, rfl, _, hb, hl, hm, hlen, hel, _, _⟩
      · exact ⟨_, one1 _ _ rfl (.nil .foreign none 0 (fun id h => by cases h) (fun h => by cases h)), .slice t e [] hu (by simp) (by simp) (by simp), by simp [hct]⟩
      · obtain rfl : fuel = n := by omega
        -- the elements
        have each : ∀ i, i < len → ∃ (cs : List Value) (as_ : List AV), W.cells? base (a.add (i * P.cellsOf e)) (P.cellsOf e) = some cs ∧ CellsRep W as_ cs ∧ Wt P e as_ ∧ cs.length = P.cellsOf e := by
          intro i hi
          have h1 := hel i hi
          obtain ⟨y, hy⟩ : ∃ y, elems[i]? = some y := ⟨_, List.getElem?_eq_getElem (by omega)⟩
          rw [hy, Option.bind_eq_some_iff] at h1
          obtain ⟨cs, h2, h3⟩ := h1
          obtain ⟨as_, h4, h5, h6⟩ := ih e cs y he h3
          exact ⟨cs, as_, h2, h4, h5, h6⟩
        have fm : ∀ cs, Wt P e cs → ∃ x, ofCells P e cs = some x := by
          intro cs hw
          unfold ofCells aggT
          cases hw with
          | bool t b ht => rw [ht]; exact ⟨_, rfl⟩
          | int t k n ht _ => rw [ht]; exact ⟨_, rfl⟩
          | string t s ht _ => rw [ht]; exact ⟨_, rfl⟩
          | slice t e es ht _ _ _ => rw [ht]; exact ⟨_, rfl⟩
          | struct t fs cs ht _ _ => rw [ht]; exact ⟨_, rfl⟩
          | array t e n cs ht _ _ => rw [ht]; exact ⟨_, rfl⟩
        have each2 : ∀ i, ∃ x : AV, i < len → ∃ cs, W.cells? base (a.add (i * P.cellsOf e)) (P.cellsOf e) = some cs ∧ CellsRep W x.cells cs ∧ Wt P e x.cells ∧ ofCells P e x.cells = some x ∧ x.cells.length = P.cellsOf e := by
          intro i
          by_cases hi : i < len
          · obtain ⟨cs, as_, h1, h2, h3, h4⟩ := each i hi
            obtain ⟨x, hx⟩ := fm as_ h3
            have hxc := ofCells_cells hx h2.2.1
            exact ⟨x, fun _ => ⟨cs, h1, by rw [hxc]; exact h2, by rw [hxc]; exact h3, by rw [hxc]; exact hx, by rw [hxc, h2.1, h4]⟩⟩
          · exact ⟨.undef, fun h => absurd h hi⟩
        obtain ⟨el, hel2⟩ := Classical.axiomOfChoice each2
        have hes : ∀ (i : Nat) (x : AV), ((List.range len).map el)[i]? = some x → i < len ∧ x = el i := by
          intro i x hx
          rw [List.getElem?_map] at hx
          cases hr : (List.range len)[i]? with
          | none => rw [hr] at hx; cases hx
          | some j =>
            rw [hr] at hx; injection hx with hx
            obtain ⟨h1, h2⟩ := List.getElem?_eq_some_iff.1 hr
            simp at h1 h2; subst h2; exact ⟨h1, hx.symm⟩
        have hmem : ∀ x ∈ (List.range len).map el, ∃ i, i < len ∧ x = el i := by
          intro x hx
          obtain ⟨i, hi, rfl⟩ := List.mem_map.1 hx
          exact ⟨i, by simpa using hi, rfl⟩
        refine ⟨[.slice .foreign ((List.range len).map el)], one1 _ _ rfl ?_, .slice t e _ hu (by simp; omega) (fun x hx => ?_) (fun x hx => ?_), by simp [hct]⟩
        · by_cases h0 : len = 0
          · subst h0; exact .nil .foreign _ _ (fun id h => by cases h) (fun h => by cases h)
          · have hspot : a.spot = none := by
              obtain ⟨cs, h1, h2, _, _, h3⟩ := hel2 0 (by omega)
              have hcl : 0 < cs.length := by rw [← h2.1, h3]; exact hz
              have h4 := (cells?_get h1).2 0 _ (List.getElem?_eq_getElem hcl)
              unfold World.cell? at h4
              split at h4
              · split at h4
                · cases h4
                · rename_i hs
                  obtain ⟨b, o, sp⟩ := a
                  cases sp with
                  | none => rfl
                  | some s => simp [Addr.add] at hs
              · cases h4
            obtain ⟨b, o, sp⟩ := a
            dsimp only at hspot
            subst hspot
            have hlm : ((List.range len).map el).length = len := by simp
            have key : Rep gE W (.slice .foreign ((List.range len).map el)) (.slice (some ⟨b, o, none⟩) ((List.range len).map el).length cap) := by
              refine Rep.slice_mk hz (fun x hx => ?_) (fun _ => imm0 _ _) (fun i x hx => ?_) (by rw [hlm]; exact hl) trivial
              · obtain ⟨i, hi, rfl⟩ := hmem x hx
                obtain ⟨cs, _, _, _, _, h3⟩ := hel2 i hi
                exact h3
              · obtain ⟨hi, rfl⟩ := hes i x hx
                obtain ⟨cs, h1, h2, _, _, h3⟩ := hel2 i hi
                refine ⟨h2.2.1, fun j c hj => ?_⟩
                have hlt : j < cs.length := by rw [← h2.1]; exact (List.getElem?_eq_some_iff.1 hj).1
                have h4 := (cells?_get h1).2 j _ (List.getElem?_eq_getElem hlt)
                rw [add_plain, add_plain] at h4
                exact ⟨_, h4, h2.2.2 j c _ hj (List.getElem?_eq_getElem hlt)⟩
            rw [hlm] at key
            exact key
        · obtain ⟨i, hi, rfl⟩ := hmem x hx
          obtain ⟨cs, _, _, h3, _, _⟩ := hel2 i hi
          exact h3
        · obtain ⟨i, hi, rfl⟩ := hmem x hx
          obtain ⟨cs, _, _, _, h3, _⟩ := hel2 i hi
          exact h3
    · rename_i fs hu
      simp only [Bool.and_eq_true, beq_iff_eq] at hp
      obtain ⟨hp1, hp2⟩ := hp
      obtain ⟨xs, n, hn, _, hl, hxl, hf⟩ := DataW.trod_struct hu h
      obtain rfl : fuel = n := by omega
      obtain ⟨as_, h1, h2⟩ := tile (w := W) hl _ 0 (fun i as_ => ∀ f, fs[i]? = some f → Wt P f.type as_) hp2 (fun i o s hi => by
        rw [List.getElem?_map] at hi
        cases hfi : fs.toList[i]? with
        | none => rw [hfi] at hi; cases hi
        | some f =>
          rw [hfi] at hi; injection hi with hi; injection hi with e1 e2; subst e1 e2
          have hfi' : fs[i]? = some f := by simpa using hfi
          have h3 := hf i f hfi'
          obtain ⟨y, hy⟩ : ∃ y, xs[i]? = some y := ⟨_, List.getElem?_eq_getElem (by rw [hxl]; exact (Array.getElem?_eq_some_iff.1 hfi').1)⟩
          rw [hy] at h3
          have hmem : f.type ∈ S := by
            rw [← Array.all_toList] at hp1
            simpa using List.all_eq_true.1 hp1 f (List.mem_of_getElem? hfi)
          obtain ⟨as_, h4, h5, h6⟩ := ih _ _ _ hmem h3
          exact ⟨as_, h4, fun f' hf' => by rw [hfi'] at hf'; injection hf' with hf'; subst hf'; exact h5⟩)
      refine ⟨as_, by simpa using h1, .struct t fs as_ hu (by rw [h1.1]; simpa using hl) (fun i f hfi => ?_), hl⟩
      have := (h2 i f.offset (P.cellsOf f.type) (by simp [hfi])).2 f hfi
      simpa using this
    · rename_i m e hu
      simp only [Bool.and_eq_true, beq_iff_eq, List.contains_iff_mem] at hp
      obtain ⟨hp1, hp2⟩ := hp
      obtain ⟨xs, n, hn, _, hl, hxl, hf⟩ := DataW.trod_array hu h
      obtain rfl : fuel = n := by omega
      obtain ⟨as_, h1, h2⟩ := tile (w := W) hl _ 0 (fun i as_ => Wt P e as_) hp2 (fun i o s hi => by
        rw [List.getElem?_map] at hi
        cases hfi : (List.range m)[i]? with
        | none => rw [hfi] at hi; cases hi
        | some j =>
          rw [hfi] at hi; injection hi with hi; injection hi with e1 e2; subst e1 e2
          obtain ⟨q1, q2⟩ := List.getElem?_eq_some_iff.1 hfi
          simp at q1 q2; subst q2
          have h3 := hf i q1
          obtain ⟨y, hy⟩ : ∃ y, xs[i]? = some y := ⟨_, List.getElem?_eq_getElem (by omega)⟩
          rw [hy] at h3
          obtain ⟨as_, h4, h5, h6⟩ := ih _ _ _ hp1 h3
          exact ⟨as_, h4, h5⟩)
      refine ⟨as_, by simpa using h1, .array t e m as_ hu (by rw [h1.1]; simpa using hl) (fun i hi => ?_), hl⟩
      have := (h2 i (i * P.cellsOf e) (P.cellsOf e) (by simp [hi])).2
      simpa using this
    · cases hp

/-- A parameter. -/
theorem reads_param {S : List TypeId} (hS : plainT P S = true) {t : TypeId} {v : Value} {d : DataW H} {ps : List MemPlace} (ht : t ∈ S) (hval : Value.okWide P W r b0 t v) (hd : DataW.Trod enc P W base spare held t v d ps) : ∃ a as_, Rep gE W a v ∧ Wt P t as_ ∧ ofCells P t as_ = some a := by
  obtain ⟨fuel, hf⟩ := hd
  obtain ⟨as_, ⟨h1, h2, h3⟩, h4, h5⟩ := reads hS fuel t _ _ ht hf
  have single : (∀ cs, v ≠ .agg cs) → (∀ cs, v ≠ .tuple cs) → v.cells = #[v] := by
    intro ha hb
    cases v <;> first | rfl | (exact absurd rfl (ha _)) | (exact absurd rfl (hb _))
  have hp := List.all_eq_true.1 hS t ht
  unfold Value.okWide at hval
  cases hu : P.underlying t with
  | none => rw [hu] at hp; cases hp
  | some dsc =>
    have agg : (∃ cs, v = .agg cs ∧ cs.size = P.cellsOf t ∧ Row.okWide P W r b0 t cs) → aggT P t = some true → ∃ a as_, Rep gE W a v ∧ Wt P t as_ ∧ ofCells P t as_ = some a := by
      rintro ⟨cs, rfl, hsz, _⟩ hag
      refine ⟨.agg as_, as_, .agg as_ cs (by rw [h1]; simp [Value.cells]) h2 (fun j c u hj hu => h3 j c u hj (by simpa [Value.cells] using hu)), h4, ?_⟩
      unfold ofCells
      rw [hag]
    have one1 : aggT P t = some false → P.cellsOf t = 1 → (∃ u, v.cells = #[u] ∧ u = v) → ∃ a as_, Rep gE W a v ∧ Wt P t as_ ∧ ofCells P t as_ = some a := by
      rintro hag hct ⟨u, hu, rfl⟩
      have hl : as_.length = 1 := by rw [h1, hu]; rfl
      obtain ⟨a, rfl⟩ : ∃ a, as_ = [a] := by
        match as_, hl with
        | [a], _ => exact ⟨a, rfl⟩
      refine ⟨a, [a], h3 0 a u rfl (by rw [hu]; rfl), h4, ?_⟩
      unfold ofCells
      rw [hag]
    have scal : aggT P t = some false → Cell.okWide P W r b0 t v → P.cellsOf t = 1 → ∃ a as_, Rep gE W a v ∧ Wt P t as_ ∧ ofCells P t as_ = some a := by
      intro hag hc hct
      have no : ∀ cs, v ≠ .agg cs ∧ v ≠ .tuple cs := by
        intro cs
        refine ⟨fun e => ?_, fun e => ?_⟩ <;>
        · subst e
          simp only [Cell.okWide, Cell.ok, hu] at hc
      exact one1 hag hct ⟨v, single (fun cs => (no cs).1) (fun cs => (no cs).2), rfl⟩
    rw [hu] at hval hp
    have hs : ∀ b, (match dsc with | .struct _ => true | .array _ _ => true | _ => false) = b → aggT P t = some b := by
      intro b hb
      unfold aggT
      simp only [hu]
      cases dsc <;> simp_all
    cases dsc <;> first | (cases hp; done) | (exact agg hval (hs _ rfl)) | skip
    · exact scal (hs _ rfl) hval (by simpa using hp)
    · exact scal (hs _ rfl) hval (by simpa using hp)
    · exact scal (hs _ rfl) hval (by simpa using hp)
    · simp only [Bool.and_eq_true, beq_iff_eq] at hp; exact scal (hs _ rfl) hval hp.2
end
end Go.Proofs.Ytakmilmckdllfaa.G
set_option linter.unusedVariables false
set_option linter.unusedSimpArgs false
namespace Go.Proofs.Ytakmilmckdllfaa.G

def structT (P : Program) (t : TypeId) : Option (List (TypeId × Nat × Nat)) := match P.underlying t with
  | some (.struct fs) => some (fs.toList.map fun f => (f.type, f.offset, P.cellsOf f.type))
  | _ => none
theorem Wt.int_inv {P : Program} {t : TypeId} {k : IntKind} {cs : List AV} (ht : P.underlying t = some (.int k)) (h : Wt P t cs) : ∃ n, cs = [.atom (.int k n)] ∧ k.min ≤ n ∧ n ≤ k.max := by
  cases h <;> rename_i h1 <;> simp_all
theorem Wt.bool_inv {P : Program} {t : TypeId} {cs : List AV} (ht : P.underlying t = some .bool) (h : Wt P t cs) : ∃ b, cs = [.bool b] := by
  cases h <;> rename_i h1 <;> simp_all
theorem Wt.slice_inv {P : Program} {t e : TypeId} {cs : List AV} (ht : P.underlying t = some (.slice e)) (h : Wt P t cs) : ∃ es, cs = [.slice .foreign es] ∧ es.length ≤ maxLen ∧ (∀ x ∈ es, Wt P e x.cells) ∧ ∀ x ∈ es, ofCells P e x.cells = some x := by
  cases h <;> rename_i h1 <;> simp_all
theorem Wt.struct_inv {P : Program} {t : TypeId} {cs : List AV} {l : List (TypeId × Nat × Nat)} (ht : structT P t = some l) (h : Wt P t cs) : cs.length = P.cellsOf t ∧ ∀ (i : Nat) (ty off sz : Nat), l[i]? = some (ty, off, sz) → Wt P ty ((cs.drop off).take sz) := by
  unfold structT at ht
  split at ht
  · rename_i fs hu
    injection ht with ht; subst ht
    cases h <;> rename_i h1 <;> simp_all
    rename_i h2
    intro i ty off sz x hx e1 e2 e3
    subst e1 e2 e3
    exact h2 i x hx
  · cases ht
theorem uncons {α : Type} {cs : List α} {n : Nat} (h : cs.length = n + 1) : ∃ c tl, cs = c :: tl ∧ tl.length = n := by
  cases cs with
  | nil => simp at h
  | cons c tl => exact ⟨c, tl, rfl, by simpa using h⟩
theorem Wt.i64 {P : Program} {t : TypeId} {c : AV} (ht : P.underlying t = some (.int .i64)) (h : Wt P t [c]) : ∃ n, c = .i64 n := by
  obtain ⟨n, hn, _⟩ := h.int_inv ht
  injection hn with hn; exact ⟨n, hn⟩
theorem Wt.b {P : Program} {t : TypeId} {c : AV} (ht : P.underlying t = some .bool) (h : Wt P t [c]) : ∃ n, c = .bool n := by
  obtain ⟨n, hn⟩ := h.bool_inv ht
  injection hn with hn; exact ⟨n, hn⟩
theorem rowsOf {P : Program} {e : TypeId} {α : Type} {f : α → AV} {G : α → Prop} (hagg : ∀ x, ofCells P e (f x).cells = some (f x)) {es : List AV} (h2 : ∀ x ∈ es, ∃ y, x.cells = (f y).cells ∧ G y) (h3 : ∀ x ∈ es, ofCells P e x.cells = some x) : ∃ l : List α, es = l.map f ∧ ∀ x ∈ l, G x := by
  induction es with
  | nil => exact ⟨[], rfl, by simp⟩
  | cons e es ih =>
    obtain ⟨l, rfl, hl⟩ := ih (fun x hx => h2 x (List.mem_cons_of_mem _ hx)) fun x hx => h3 x (List.mem_cons_of_mem _ hx)
    obtain ⟨x, hx, gx⟩ := h2 e (by simp)
    have := h3 e (by simp)
    rw [hx, hagg] at this
    injection this with this
    exact ⟨x :: l, by rw [← this]; rfl, fun y hy => (List.mem_cons.1 hy).elim (fun h => h ▸ gx) (hl y)⟩
theorem structT_field {P : Program} {t : TypeId} {fs : Array Field} {l : List (TypeId × Nat × Nat)} {i ty off sz : Nat} (ht : structT P t = some l) (hu : P.underlying t = some (.struct fs)) (hi : l[i]? = some (ty, off, sz)) : ∃ f, fs[i]? = some f ∧ f.type = ty ∧ f.offset = off ∧ P.cellsOf f.type = sz := by
  unfold structT at ht
  rw [hu] at ht
  injection ht with ht; subst ht
  simp at hi
  obtain ⟨f, hf, h1, h2, h3⟩ := hi
  exact ⟨f, hf, h1, h2, h3⟩
theorem structT_u {P : Program} {t : TypeId} {l : List (TypeId × Nat × Nat)} (ht : structT P t = some l) : ∃ fs, P.underlying t = some (.struct fs) := by
  unfold structT at ht
  split at ht
  · exact ⟨_, by assumption⟩
  · cases ht
theorem all_cells {P : Program} {t : TypeId} {cs : List AV} {a : AV} (h1 : aggT P t = some true) (h2 : ofCells P t cs = some a) : a = .agg cs := by
  unfold ofCells at h2
  rw [h1] at h2
  injection h2 with h2; exact h2.symm
theorem agg_of {P : Program} {t : TypeId} {cs : List AV} (h : aggT P t = some true) : ofCells P t (AV.agg cs).cells = some (.agg cs) := by
  unfold ofCells
  rw [h]; rfl
theorem one_of {P : Program} {t : TypeId} {a : AV} (h : aggT P t = some false) (hc : a.cells = [a]) : ofCells P t a.cells = some a := by
  unfold ofCells
  rw [h, hc]
end Go.Proofs.Ytakmilmckdllfaa.G
set_option linter.unusedVariables false
set_option linter.unusedSimpArgs false
set_option maxRecDepth 100000
namespace Go.Proofs.Ytakmilmckdllfaa.G
theorem wt_s22 {cs : List AV} (h : Wt Try.prog 22 cs) : ∃ l : List Int, cs = [.slice .foreign (l.map AV.i64)] ∧ l.length < 9223372036854775808 := by
  obtain ⟨es, hn, h1, h2, h3⟩ := h.slice_inv (show Try.prog.underlying 22 = some (.slice 3) by kernel_rfl)
  subst hn
  have hd : ∀ cs, Wt Try.prog 3 cs → ∃ y, cs = (AV.i64 y).cells ∧ True := fun cs hc => let ⟨x, hx, _⟩ := hc.int_inv (show Try.prog.underlying 3 = some (.int .i64) by kernel_rfl); ⟨x, hx, trivial⟩
  obtain ⟨l, rfl, _⟩ := rowsOf (P := Try.prog) (f := AV.i64) (G := fun _ => True) (fun x => one_of (by kernel_rfl) rfl) (fun x hx => hd _ (h2 x hx)) h3
  exact ⟨l, rfl, by simp [maxLen] at h1; omega⟩
theorem st_T_api_Value : structT Try.prog 38 = some [(4, 0, 1), (2, 1, 1)] := by kernel_rfl
theorem wt_T_api_Value {cs : List AV} (h : Wt Try.prog 38 cs) : ∃ x : T_api_Value, cs = x.C := by
  obtain ⟨hl, hf⟩ := h.struct_inv st_T_api_Value
  rw [show Try.prog.cellsOf 38 = 2 by kernel_rfl] at hl
  obtain ⟨c0, d0, rfl, hn0⟩ := uncons hl
  obtain ⟨c1, d1, rfl, hn1⟩ := uncons hn0
  obtain rfl := List.length_eq_zero_iff.1 hn1
  obtain ⟨v0, rfl⟩ := Wt.b (show Try.prog.underlying 4 = some (.bool) by kernel_rfl) (show Wt Try.prog 4 [c0] from hf 0 _ _ _ rfl)
  obtain ⟨v1, rfl⟩ := Wt.i64 (show Try.prog.underlying 2 = some (.int .i64) by kernel_rfl) (show Wt Try.prog 2 [c1] from hf 1 _ _ _ rfl)
  exact ⟨⟨v0, v1⟩, rfl⟩
theorem st_T_api_Term : structT Try.prog 40 = some [(3, 0, 1), (3, 1, 1), (3, 2, 1), (38, 3, 2)] := by kernel_rfl
theorem wt_T_api_Term {cs : List AV} (h : Wt Try.prog 40 cs) : ∃ x : T_api_Term, cs = x.C := by
  obtain ⟨hl, hf⟩ := h.struct_inv st_T_api_Term
  rw [show Try.prog.cellsOf 40 = 5 by kernel_rfl] at hl
  obtain ⟨c0, d0, rfl, hn0⟩ := uncons hl
  obtain ⟨c1, d1, rfl, hn1⟩ := uncons hn0
  obtain ⟨c2, d2, rfl, hn2⟩ := uncons hn1
  obtain ⟨c3, d3, rfl, hn3⟩ := uncons hn2
  obtain ⟨c4, d4, rfl, hn4⟩ := uncons hn3
  obtain rfl := List.length_eq_zero_iff.1 hn4
  obtain ⟨v0, rfl⟩ := Wt.i64 (show Try.prog.underlying 3 = some (.int .i64) by kernel_rfl) (show Wt Try.prog 3 [c0] from hf 0 _ _ _ rfl)
  obtain ⟨v1, rfl⟩ := Wt.i64 (show Try.prog.underlying 3 = some (.int .i64) by kernel_rfl) (show Wt Try.prog 3 [c1] from hf 1 _ _ _ rfl)
  obtain ⟨v2, rfl⟩ := Wt.i64 (show Try.prog.underlying 3 = some (.int .i64) by kernel_rfl) (show Wt Try.prog 3 [c2] from hf 2 _ _ _ rfl)
  obtain ⟨v3, hv3⟩ := wt_T_api_Value (show Wt Try.prog 38 [c3, c4] from hf 3 _ _ _ rfl); simp only [T_api_Value.C, List.cons.injEq, and_true] at hv3; obtain ⟨rfl, rfl⟩ := hv3
  exact ⟨⟨v0, v1, v2, v3⟩, rfl⟩
theorem st_T_api_Pred : structT Try.prog 42 = some [(3, 0, 1), (3, 1, 1), (3, 2, 1), (40, 3, 5), (40, 8, 5), (33, 13, 1)] := by kernel_rfl
theorem wt_T_api_Pred' {t : TypeId} {cs : List AV} (h : Wt Try.prog t cs) : (t = 42 → ∃ x : T_api_Pred, cs = x.C) ∧ (t = 33 → ∃ xs : List T_api_Pred, cs = [.slice .foreign (xs.map T_api_Pred.av)] ∧ xs.length < 9223372036854775808) := by
  obtain ⟨fs, hfs⟩ := structT_u st_T_api_Pred
  have hs33 : Try.prog.underlying 33 = some (.slice 42) := by kernel_rfl
  induction h with
  | bool t b ht => exact ⟨fun h => by (subst h; rw [hfs] at ht; cases ht), fun h => by (subst h; rw [hs33] at ht; cases ht)⟩
  | int t b n ht => exact ⟨fun h => by (subst h; rw [hfs] at ht; cases ht), fun h => by (subst h; rw [hs33] at ht; cases ht)⟩
  | string t b ht => exact ⟨fun h => by (subst h; rw [hfs] at ht; cases ht), fun h => by (subst h; rw [hs33] at ht; cases ht)⟩
  | array t b n cs ht => exact ⟨fun h => by (subst h; rw [hfs] at ht; cases ht), fun h => by (subst h; rw [hs33] at ht; cases ht)⟩
  | slice t e es ht hl h hf ih =>
    refine ⟨fun h => by (subst h; rw [hfs] at ht; cases ht), fun h => ?_⟩
    · subst h
      rw [hs33] at ht
      injection ht with ht; injection ht with ht; subst ht
      obtain ⟨l, rfl, _⟩ := rowsOf (P := Try.prog) (f := T_api_Pred.av) (G := fun _ => True) (fun x => by rw [T_api_Pred.av_eq]; exact agg_of (by kernel_rfl)) (fun x hx => let ⟨y, hy⟩ := (ih x hx).1 rfl; ⟨y, by rw [hy, T_api_Pred.av_eq]; rfl, trivial⟩) hf
      exact ⟨l, rfl, by simp [maxLen] at hl; omega⟩
  | struct t fs' cs ht hl h ih =>
    refine ⟨fun e => ?_, fun h => by (subst h; rw [hs33] at ht; cases ht)⟩
    subst e
    obtain ⟨_, hf⟩ := (Wt.struct _ _ _ ht hl h).struct_inv st_T_api_Pred
    obtain ⟨f5, g1, g2, g3, g4⟩ := structT_field (i := 5) st_T_api_Pred ht rfl
    have hr5 := (ih 5 f5 g1).2 g2
    rw [g3, g4] at hr5
    clear g1 g2 g3 g4
    clear ih h
    rw [show Try.prog.cellsOf 42 = 14 by kernel_rfl] at hl
    obtain ⟨c0, d0, rfl, hn0⟩ := uncons hl
    obtain ⟨c1, d1, rfl, hn1⟩ := uncons hn0
    obtain ⟨c2, d2, rfl, hn2⟩ := uncons hn1
    obtain ⟨c3, d3, rfl, hn3⟩ := uncons hn2
    obtain ⟨c4, d4, rfl, hn4⟩ := uncons hn3
    obtain ⟨c5, d5, rfl, hn5⟩ := uncons hn4
    obtain ⟨c6, d6, rfl, hn6⟩ := uncons hn5
    obtain ⟨c7, d7, rfl, hn7⟩ := uncons hn6
    obtain ⟨c8, d8, rfl, hn8⟩ := uncons hn7
    obtain ⟨c9, d9, rfl, hn9⟩ := uncons hn8
    obtain ⟨c10, d10, rfl, hn10⟩ := uncons hn9
    obtain ⟨c11, d11, rfl, hn11⟩ := uncons hn10
    obtain ⟨c12, d12, rfl, hn12⟩ := uncons hn11
    obtain ⟨c13, d13, rfl, hn13⟩ := uncons hn12
    obtain rfl := List.length_eq_zero_iff.1 hn13
    obtain ⟨v0, rfl⟩ := Wt.i64 (show Try.prog.underlying 3 = some (.int .i64) by kernel_rfl) (show Wt Try.prog 3 [c0] from hf 0 _ _ _ rfl)
    obtain ⟨v1, rfl⟩ := Wt.i64 (show Try.prog.underlying 3 = some (.int .i64) by kernel_rfl) (show Wt Try.prog 3 [c1] from hf 1 _ _ _ rfl)
    obtain ⟨v2, rfl⟩ := Wt.i64 (show Try.prog.underlying 3 = some (.int .i64) by kernel_rfl) (show Wt Try.prog 3 [c2] from hf 2 _ _ _ rfl)
    obtain ⟨v3, hv3⟩ := wt_T_api_Term (show Wt Try.prog 40 [c3, c4, c5, c6, c7] from hf 3 _ _ _ rfl); simp only [T_api_Term.C, List.cons.injEq, and_true] at hv3; obtain ⟨rfl, rfl, rfl, rfl, rfl⟩ := hv3
    obtain ⟨v4, hv4⟩ := wt_T_api_Term (show Wt Try.prog 40 [c8, c9, c10, c11, c12] from hf 4 _ _ _ rfl); simp only [T_api_Term.C, List.cons.injEq, and_true] at hv4; obtain ⟨rfl, rfl, rfl, rfl, rfl⟩ := hv4
    obtain ⟨v5, ev5, _⟩ := hr5
    have ev5 : [c13] = _ := ev5
    injection ev5 with ev5; subst ev5
    exact ⟨⟨v0, v1, v2, v3, v4, v5⟩, rfl⟩
theorem wt_s33 {cs : List AV} (h : Wt Try.prog 33 cs) : ∃ l : List T_api_Pred, cs = [.slice .foreign (l.map T_api_Pred.av)] ∧ l.length < 9223372036854775808 := (wt_T_api_Pred' h).2 rfl
theorem st_T_api_Tree : structT Try.prog 55 = some [(3, 0, 1), (3, 1, 1), (53, 2, 1), (33, 3, 1), (4, 4, 1)] := by kernel_rfl
theorem wt_T_api_Tree' {t : TypeId} {cs : List AV} (h : Wt Try.prog t cs) : (t = 55 → ∃ x : T_api_Tree, cs = x.C) ∧ (t = 53 → ∃ xs : List T_api_Tree, cs = [.slice .foreign (xs.map T_api_Tree.av)] ∧ xs.length < 9223372036854775808) := by
  obtain ⟨fs, hfs⟩ := structT_u st_T_api_Tree
  have hs53 : Try.prog.underlying 53 = some (.slice 55) := by kernel_rfl
  induction h with
  | bool t b ht => exact ⟨fun h => by (subst h; rw [hfs] at ht; cases ht), fun h => by (subst h; rw [hs53] at ht; cases ht)⟩
  | int t b n ht => exact ⟨fun h => by (subst h; rw [hfs] at ht; cases ht), fun h => by (subst h; rw [hs53] at ht; cases ht)⟩
  | string t b ht => exact ⟨fun h => by (subst h; rw [hfs] at ht; cases ht), fun h => by (subst h; rw [hs53] at ht; cases ht)⟩
  | array t b n cs ht => exact ⟨fun h => by (subst h; rw [hfs] at ht; cases ht), fun h => by (subst h; rw [hs53] at ht; cases ht)⟩
  | slice t e es ht hl h hf ih =>
    refine ⟨fun h => by (subst h; rw [hfs] at ht; cases ht), fun h => ?_⟩
    · subst h
      rw [hs53] at ht
      injection ht with ht; injection ht with ht; subst ht
      obtain ⟨l, rfl, _⟩ := rowsOf (P := Try.prog) (f := T_api_Tree.av) (G := fun _ => True) (fun x => by rw [T_api_Tree.av_eq]; exact agg_of (by kernel_rfl)) (fun x hx => let ⟨y, hy⟩ := (ih x hx).1 rfl; ⟨y, by rw [hy, T_api_Tree.av_eq]; rfl, trivial⟩) hf
      exact ⟨l, rfl, by simp [maxLen] at hl; omega⟩
  | struct t fs' cs ht hl h ih =>
    refine ⟨fun e => ?_, fun h => by (subst h; rw [hs53] at ht; cases ht)⟩
    subst e
    obtain ⟨_, hf⟩ := (Wt.struct _ _ _ ht hl h).struct_inv st_T_api_Tree
    obtain ⟨f2, g1, g2, g3, g4⟩ := structT_field (i := 2) st_T_api_Tree ht rfl
    have hr2 := (ih 2 f2 g1).2 g2
    rw [g3, g4] at hr2
    clear g1 g2 g3 g4
    clear ih h
    rw [show Try.prog.cellsOf 55 = 5 by kernel_rfl] at hl
    obtain ⟨c0, d0, rfl, hn0⟩ := uncons hl
    obtain ⟨c1, d1, rfl, hn1⟩ := uncons hn0
    obtain ⟨c2, d2, rfl, hn2⟩ := uncons hn1
    obtain ⟨c3, d3, rfl, hn3⟩ := uncons hn2
    obtain ⟨c4, d4, rfl, hn4⟩ := uncons hn3
    obtain rfl := List.length_eq_zero_iff.1 hn4
    obtain ⟨v0, rfl⟩ := Wt.i64 (show Try.prog.underlying 3 = some (.int .i64) by kernel_rfl) (show Wt Try.prog 3 [c0] from hf 0 _ _ _ rfl)
    obtain ⟨v1, rfl⟩ := Wt.i64 (show Try.prog.underlying 3 = some (.int .i64) by kernel_rfl) (show Wt Try.prog 3 [c1] from hf 1 _ _ _ rfl)
    obtain ⟨v2, ev2, _⟩ := hr2
    have ev2 : [c2] = _ := ev2
    injection ev2 with ev2; subst ev2
    obtain ⟨v3, e, _⟩ := wt_s33 (show Wt Try.prog 33 [c3] from hf 3 _ _ _ rfl); injection e with e; subst e
    obtain ⟨v4, rfl⟩ := Wt.b (show Try.prog.underlying 4 = some (.bool) by kernel_rfl) (show Wt Try.prog 4 [c4] from hf 4 _ _ _ rfl)
    exact ⟨⟨v0, v1, v2, v3, v4⟩, rfl⟩
theorem wt_T_api_Tree {cs : List AV} (h : Wt Try.prog 55 cs) : ∃ x : T_api_Tree, cs = x.C := (wt_T_api_Tree' h).1 rfl
theorem st_T_api_Query : structT Try.prog 57 = some [(22, 0, 1), (55, 1, 5)] := by kernel_rfl
theorem wt_T_api_Query {cs : List AV} (h : Wt Try.prog 57 cs) : ∃ x : T_api_Query, cs = x.C := by
  obtain ⟨hl, hf⟩ := h.struct_inv st_T_api_Query
  rw [show Try.prog.cellsOf 57 = 6 by kernel_rfl] at hl
  obtain ⟨c0, d0, rfl, hn0⟩ := uncons hl
  obtain ⟨c1, d1, rfl, hn1⟩ := uncons hn0
  obtain ⟨c2, d2, rfl, hn2⟩ := uncons hn1
  obtain ⟨c3, d3, rfl, hn3⟩ := uncons hn2
  obtain ⟨c4, d4, rfl, hn4⟩ := uncons hn3
  obtain ⟨c5, d5, rfl, hn5⟩ := uncons hn4
  obtain rfl := List.length_eq_zero_iff.1 hn5
  obtain ⟨v0, e, _⟩ := wt_s22 (show Wt Try.prog 22 [c0] from hf 0 _ _ _ rfl); injection e with e; subst e
  obtain ⟨v1, hv1⟩ := wt_T_api_Tree (show Wt Try.prog 55 [c1, c2, c3, c4, c5] from hf 1 _ _ _ rfl); simp only [T_api_Tree.C, List.cons.injEq, and_true] at hv1; obtain ⟨rfl, rfl, rfl, rfl, rfl⟩ := hv1
  exact ⟨⟨v0, v1⟩, rfl⟩
end Go.Proofs.Ytakmilmckdllfaa.G
namespace Go.Proofs.Ytakmilmckdllfaa.LevelsWays
open Go.ChangeShapes Go.WideShapes Go.ChangeAt Go.RowKit Go.Proofs.Ytakmilmckdllfaa.G
set_option linter.unusedVariables false
theorem own : ownKnob Try.prog.godebug = none := by kernel_rfl
theorem laidOut : laidOutB Try.prog = true := by kernel_rfl
set_option maxRecDepth 100000 in
theorem lifted (os : Os) (started : os.Started) (H : Type) (enc : TypeId × Value → H) :
    ReturnsInHanded {} Try.checked os 7 .any (Rows.levelsWaysSpec.pre6 enc Try.prog Try.f7 Rows.levelsWaysRow.domain false) (Rows.levelsWaysSpec.post enc Try.prog Try.f7 false true false false) := by
  refine returnsInHanded_of_change_sized (C := Try.checked) own started (by kernel_rfl) Try.func7
    (ChangeSpec.witness6 (enc := enc) (C := Try.checked) false ⟨#[], #[.agg #[.slice none 0 0, .int .i64 0, .int .i64 0, .slice none 0 0, .slice none 0 0, .bool false]], []⟩ 30 (by kernel_rfl) (by kernel_rfl) (by kernel_rfl) (by kernel_rfl)) ?_
  intro W base args ds gs before hval0 hW hcnd hsz0 _
  have hval : ∀ (j : Nat) t v, Try.f7.params[j]? = some t → args[j]? = some v → Value.okWide Try.prog W .any base t v := hval0
  have hW' := hW
  obtain ⟨p, q, hA0, hV, rfl, hfz, hnd⟩ := hW
  have hA : DataW.TrodAll enc Try.prog W 0 (fun _ => true) true Try.f7.params.toList args.toList ds p := hA0
  rw [Try.params7] at hA hval
  obtain ⟨u0, vs0, d0, ds0, p0, q0, hargs, rfl, rfl, h0, r0⟩ := trodAll_cons hA
  obtain ⟨rfl, rfl, rfl⟩ := trodAll_nil r0
  obtain rfl : args = #[u0] := by cases args; simp_all
  obtain ⟨rfl, rfl⟩ := trodVars_none hV
  have lt0 : ∀ x ∈ p0, x.block < W.heap.size := by obtain ⟨m, hm⟩ := h0; exact DataW.trod_lt m _ _ _ hm
  have hS : plainT Try.prog [57, 22, 3, 55, 53, 33, 42, 40, 38, 4, 2] = true := by kernel_rfl
  obtain ⟨a0, as0, rep0, wt0, of0⟩ := reads_param hS (by simp) (hval 0 57 u0 rfl rfl) h0
  obtain rfl := all_cells (by kernel_rfl) of0
  obtain ⟨x0, rfl⟩ := wt_T_api_Query wt0
  refine ((M_law18_LevelsWays.w x0 true (levelsWays_plain x0)).law (.cons rep0 .nil)).mono fun e W' ⟨he, bel⟩ => ?_
  subst he
  exact ⟨_, rfl, _, _, _, [], _, [], hW', trodAll_mk1 (shut_bool Try.underlying4 _), (trodAll_cons_mk (Below.trod laidOut (by kernel_rfl) (of_decide_eq_true (by kernel_rfl)) h0 bel lt0) trodAll_mk0), rfl, bel.frame _, fun h => by cases h⟩
theorem over : Rows.levelsWaysRow.holds Try.pinned (OpenSpec.ofChange Rows.levelsWaysSpec) :=
  OpenClaim.holds_of_wide 7 Try.f7 rfl rfl rfl rfl rfl rfl rfl ⟨rfl, rfl, rfl, rfl, rfl⟩ rfl rfl rfl rfl rfl (by kernel_rfl) Try.func7 (by kernel_rfl)
    (of_decide_eq_true (by kernel_rfl)) (by unfold Func.isWrapper; first | (rw [if_pos (by decide +kernel)]; kernel_rfl) | (rw [if_neg (by decide +kernel)]; exact ⟨rfl, rfl⟩))
    (fun os started H enc _ => lifted os started H enc)
end Go.Proofs.Ytakmilmckdllfaa.LevelsWays
namespace Go.Proofs.Ytakmilmckdllfaa
/-- The row, under a short name, for the claim. -/
theorem levelsWays_holds : Rows.LevelsWaysSaid := LevelsWays.over
end Go.Proofs.Ytakmilmckdllfaa
