/-
Which tables may be joined, and with which edges, is as the document says: the law returns true whatever the input.
-/
import Derived.Test.YtakmilmckdllfaaL9
import Derived.Test.YtakmilmckdllfaaD2
import Derived.Test.YtakmilmckdllfaaRows
namespace Go.Proofs.Ytakmilmckdllfaa.AdmitTells
open Go.ChangeShapes Go.WideShapes Go.ChangeAt Go.RowKit Go.Proofs.Ytakmilmckdllfaa.G
set_option linter.unusedVariables false
theorem own : ownKnob Try.prog.godebug = none := by kernel_rfl
theorem laidOut : laidOutB Try.prog = true := by kernel_rfl
set_option maxRecDepth 100000 in
theorem lifted (os : Os) (started : os.Started) (H : Type) (enc : TypeId × Value → H) :
    ReturnsInHanded {} Try.checked os 5 .any (Rows.admitTellsSpec.pre6 enc Try.prog Try.f5 Rows.admitTellsRow.domain false) (Rows.admitTellsSpec.post enc Try.prog Try.f5 false true false false) := by
  refine returnsInHanded_of_change_sized (C := Try.checked) own started (by kernel_rfl) Try.func5
    (ChangeSpec.witness6 (enc := enc) (C := Try.checked) false ⟨#[], #[.slice none 0 0, .int .u64 0, .int .u64 0], []⟩ 8 (by kernel_rfl) (by kernel_rfl) (by kernel_rfl) (by kernel_rfl)) ?_
  intro W base args ds gs before hval0 hW hcnd hsz0 _
  have hval : ∀ (j : Nat) t v, Try.f5.params[j]? = some t → args[j]? = some v → Value.okWide Try.prog W .any base t v := hval0
  have hW' := hW
  obtain ⟨p, q, hA0, hV, rfl, hfz, hnd⟩ := hW
  have hA : DataW.TrodAll enc Try.prog W 0 (fun _ => true) true Try.f5.params.toList args.toList ds p := hA0
  rw [Try.params5] at hA hval
  obtain ⟨v0, vs0, d0, ds0, p0, q0, hargs, rfl, rfl, h0, r0⟩ := trodAll_cons hA
  obtain ⟨v1, vs1, d1, ds1, p1, q1, rfl, rfl, rfl, h1, r1⟩ := trodAll_cons r0
  obtain ⟨v2, vs2, d2, ds2, p2, q2, rfl, rfl, rfl, h2, r2⟩ := trodAll_cons r1
  obtain ⟨rfl, rfl, rfl⟩ := trodAll_nil r2
  obtain rfl : args = #[v0, v1, v2] := by cases args; simp_all
  obtain ⟨rfl, rfl⟩ := trodVars_none hV
  have lt0 : ∀ x ∈ p0, x.block < W.heap.size := by obtain ⟨m, hm⟩ := h0; exact DataW.trod_lt m _ _ _ hm
  have lt1 : ∀ x ∈ p1, x.block < W.heap.size := by obtain ⟨m, hm⟩ := h1; exact DataW.trod_lt m _ _ _ hm
  have lt2 : ∀ x ∈ p2, x.block < W.heap.size := by obtain ⟨m, hm⟩ := h2; exact DataW.trod_lt m _ _ _ hm
  have hS : plainT Try.prog [31, 35, 3, 33, 42, 40, 38, 4, 2, 32] = true := by kernel_rfl
  obtain ⟨a0, as0, rep0, wt0, of0⟩ := reads_param hS (by simp) (hval 0 31 v0 rfl rfl) h0
  obtain ⟨a1, as1, rep1, wt1, of1⟩ := reads_param hS (by simp) (hval 1 32 v1 rfl rfl) h1
  obtain ⟨a2, as2, rep2, wt2, of2⟩ := reads_param hS (by simp) (hval 2 32 v2 rfl rfl) h2
  have one : ∀ {t : TypeId} {cs : List AV} {a : AV}, aggT Try.prog t = some false → ofCells Try.prog t cs = some a → cs = [a] := fun h1 h2 => by
    unfold ofCells at h2
    rw [h1] at h2
    simp only at h2
    split at h2
    · injection h2 with h2; rw [h2]
    · cases h2
  obtain rfl := one t31_agg of0
  obtain rfl := one t32_agg of1
  obtain rfl := one t32_agg of2
  obtain ⟨l, rfl, hl, hpl⟩ := wt_edgs wt0
  obtain ⟨a, rfl⟩ := Wt.set t32_u wt1
  obtain ⟨b, rfl⟩ := Wt.set t32_u wt2
  refine ((law_AdmitTells l a b hl hpl).law (.cons rep0 (.cons rep1 (.cons rep2 .nil)))).mono fun e W' ⟨he, bel⟩ => ?_
  subst he
  exact ⟨_, rfl, _, _, _, [], _, [], hW', trodAll_mk1 (shut_bool Try.underlying4 _), (trodAll_cons_mk (Below.trod laidOut (by kernel_rfl) (of_decide_eq_true (by kernel_rfl)) h0 bel lt0) (trodAll_cons_mk (Below.trod laidOut (by kernel_rfl) (of_decide_eq_true (by kernel_rfl)) h1 bel lt1) (trodAll_cons_mk (Below.trod laidOut (by kernel_rfl) (of_decide_eq_true (by kernel_rfl)) h2 bel lt2) trodAll_mk0))), rfl, bel.frame _, fun h => by cases h⟩
theorem over : Rows.admitTellsRow.holds Try.pinned (OpenSpec.ofChange Rows.admitTellsSpec) :=
  OpenClaim.holds_of_wide 5 Try.f5 rfl rfl rfl rfl rfl rfl rfl ⟨rfl, rfl, rfl, rfl, rfl⟩ rfl rfl rfl rfl rfl (by kernel_rfl) Try.func5 (by kernel_rfl)
    (of_decide_eq_true (by kernel_rfl)) (by unfold Func.isWrapper; first | (rw [if_pos (by decide +kernel)]; kernel_rfl) | (rw [if_neg (by decide +kernel)]; exact ⟨rfl, rfl⟩))
    (fun os started H enc _ => lifted os started H enc)
end Go.Proofs.Ytakmilmckdllfaa.AdmitTells
namespace Go.Proofs.Ytakmilmckdllfaa
/-- The row, under a short name, for the claim. -/
theorem admitTells_holds : Rows.AdmitTellsSaid := AdmitTells.over
end Go.Proofs.Ytakmilmckdllfaa
