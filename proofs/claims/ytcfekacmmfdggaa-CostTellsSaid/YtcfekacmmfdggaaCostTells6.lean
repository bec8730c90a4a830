/-
CostTells: the law returns true whatever the input.
-/
import Derived.Test.YtcfekacmmfdggaaCostTells5
import Derived.WalkKit
import Derived.ProofKit
import Derived.OpenShut
import Derived.ChangeOld
import Derived.Below
import Derived.Carry
import Derived.SizedLaws
import Derived.KernelRfl
import Derived.Test.YtcfekacmmfdggaaRows
set_option linter.unusedVariables false
set_option linter.unusedSimpArgs false
set_option maxRecDepth 100000
namespace Go.Proofs.Ytcfekacmmfdggaa.G

abbrev μT : TypeId → Bool := fun t => t == 31
/-- A slice of trees that grows in place. -/
def VecK (R : Rows) (l : List T_api_Tree) (v : AV) (ids : List Nat) : Prop :=
  (l = [] ∧ v = .slice .full [] ∧ ids = []) ∨ ∃ id cells ids', l ≠ [] ∧ v = .vec id 0 l.length 5 .opn ∧ R[id]? = some (some (0, cells)) ∧ ids = id :: ids' ∧ InL R l cells ids'
theorem InT.lt {R : Rows} (t : T_api_Tree) : ∀ {c : List AV} {i : List Nat}, InT R t c i → ∀ id ∈ i, id < R.length := by
  induction t using T_api_Tree.induct with
  | h t ih =>
    intro c i h id hid
    obtain ⟨kv, _, hk⟩ := InT_eq.1 h
    have hl : ∀ (l : List T_api_Tree), (∀ y ∈ l, y ∈ t.Kids) → ∀ {c : List AV} {i : List Nat}, InL R l c i → ∀ id ∈ i, id < R.length := by
      intro l
      induction l with
      | nil => intro _ c i h id hid; rw [(InL_nil.1 h).2] at hid; cases hid
      | cons y l ih2 =>
        intro hs c i h id hid
        obtain ⟨c1, c2, i1, i2, rfl, rfl, g1, g2⟩ := InL_cons.1 h
        rcases List.mem_append.1 hid with hid | hid
        · exact ih y (hs y List.mem_cons_self) g1 id hid
        · exact ih2 (fun z hz => hs z (List.mem_cons_of_mem _ hz)) g2 id hid
    rcases hk with ⟨_, _, rfl⟩ | ⟨id0, cells, ids', _, _, h3, rfl, h5⟩
    · cases hid
    · rcases List.mem_cons.1 hid with rfl | hid
      · exact (List.getElem?_eq_some_iff.1 h3).1
      · exact hl t.Kids (fun y hy => hy) h5 id hid
theorem InL.lt {R : Rows} : ∀ {l : List T_api_Tree} {c : List AV} {i : List Nat}, InL R l c i → ∀ id ∈ i, id < R.length := by
  intro l
  induction l with
  | nil => intro c i h id hid; rw [(InL_nil.1 h).2] at hid; cases hid
  | cons y l ih2 =>
    intro c i h id hid
    obtain ⟨c1, c2, i1, i2, rfl, rfl, g1, g2⟩ := InL_cons.1 h
    rcases List.mem_append.1 hid with hid | hid
    · exact g1.lt _ id hid
    · exact ih2 g2 id hid
theorem VecK.lt {R : Rows} {l : List T_api_Tree} {v : AV} {ids : List Nat} (h : VecK R l v ids) : ∀ id ∈ ids, id < R.length := by
  rcases h with ⟨_, _, rfl⟩ | ⟨id0, cells, ids', _, _, h2, rfl, h4⟩
  · intro id hid; cases hid
  · intro id hid
    rcases List.mem_cons.1 hid with rfl | hid
    · exact (List.getElem?_eq_some_iff.1 h2).1
    · exact h4.lt id hid
theorem VecK.frame {R R' : Rows} {l : List T_api_Tree} {v : AV} {ids : List Nat} (h : VecK R l v ids) (hr : ∀ id ∈ ids, R'[id]? = R[id]?) : VecK R' l v ids := by
  rcases h with h | ⟨id0, cells, ids', h0, h1, h2, rfl, h4⟩
  · exact .inl h
  · exact .inr ⟨id0, cells, ids', h0, h1, by rw [hr id0 List.mem_cons_self]; exact h2, rfl, h4.frame fun id hid => hr id (List.mem_cons_of_mem _ hid)⟩
theorem append_tree {P : Program} {B : List ABox} {R : Rows} {μ : TypeId → Bool} {t el b : Nat} {v : AV} {cs : List AV} {o : Own} {l : List T_api_Tree} {x : T_api_Tree} {ids i2 : List Nat} (h1 : elemT P t = some el) (h3 : sizeT P el = some 5) (h4 : bytesT P el = some b) (h5 : zsizeT P el = some 5) (hμ : μ el = true)
    (hb : 0 < b) (hv : VecK R l v ids) (hx : InT R x cs i2) (hnd : (ids ++ i2).Nodup) (hlen : (l.length + 1) * b ≤ 140737488355328) :
    ∃ R' v' ids', aappend P ⟨B, R, μ⟩ t t v (.slice o [.agg cs]) = some (v', ⟨B, R', μ⟩) ∧ VecK R' (l ++ [x]) v' ids' ∧ ids'.Nodup ∧ (∀ id ∈ ids', id ∈ ids ∨ id ∈ i2 ∨ R.length ≤ id) ∧ R'.length = R.length + 1 ∧ (∀ id, id ∉ ids → ∀ y, R[id]? = some y → R'[id]? = some y) := by
  have hcy : ∀ m, cellsIn m 5 (.slice o [.agg cs]) = some (cs, 1) := by
    intro m
    simp [cellsIn, hx.len, flatC, AV.cells]
  have hidlt : ∀ (t : T_api_Tree) (c : List AV) (i : List Nat), InT R t c i → ∀ id ∈ i, id < R.length := by
    intro t
    induction t using T_api_Tree.induct with
    | h t ih =>
      intro c i h id hid
      obtain ⟨kv, _, hk⟩ := InT_eq.1 h
      have hl : ∀ (l : List T_api_Tree), (∀ y ∈ l, y ∈ t.Kids) → ∀ {c : List AV} {i : List Nat}, InL R l c i → ∀ id ∈ i, id < R.length := by
        intro l
        induction l with
        | nil => intro _ c i h id hid; rw [(InL_nil.1 h).2] at hid; cases hid
        | cons y l ih2 =>
          intro hs c i h id hid
          obtain ⟨c1, c2, i1, i2, rfl, rfl, g1, g2⟩ := InL_cons.1 h
          rcases List.mem_append.1 hid with hid | hid
          · exact ih y (hs y List.mem_cons_self) _ _ g1 id hid
          · exact ih2 (fun z hz => hs z (List.mem_cons_of_mem _ hz)) g2 id hid
      rcases hk with ⟨_, _, rfl⟩ | ⟨id0, cells, ids', _, _, h3, rfl, h5⟩
      · cases hid
      · rcases List.mem_cons.1 hid with rfl | hid
        · exact (List.getElem?_eq_some_iff.1 h3).1
        · exact hl t.Kids (fun y hy => hy) h5 id hid
  have hi2 := hidlt x cs i2 hx
  rcases hv with ⟨rfl, rfl, rfl⟩ | ⟨id, cells, ids', _, rfl, hr, rfl, hL⟩
  · have hcx : ∀ m, cellsIn m 5 (.slice .full []) = some ([], 0) := by intro m; simp [cellsIn, flatC]
    have hcond : 0 < 5 ∧ 0 < b ∧ zsizeT P el = some 5 ∧ (0 + 1) * b ≤ roomBytes' := ⟨by omega, hb, h5, hlen⟩
    refine ⟨R ++ [some (0, cs)], .vec R.length 0 1 5 .opn, R.length :: i2, ?_, .inr ⟨R.length, cs, i2, by simp, rfl, by simp, rfl, (InL.one hx).frame fun id hid => ?_⟩, ?_, fun id hid => ?_, by simp, fun id _ y hy => by rw [List.getElem?_append_left (List.getElem?_eq_some_iff.1 hy).1]; exact hy⟩
    · simp only [aappend, h1, hμ, if_true, aappendV, h3, h4, hcx, hcy]
      rw [if_pos hcond, if_neg (by omega)]
      simp [avec, Mem.pushRow]
    · rw [List.getElem?_append_left (hi2 id hid)]
    · rw [List.nodup_cons]; exact ⟨fun h => by have := hi2 _ h; omega, by simpa using hnd⟩
    · rcases List.mem_cons.1 hid with rfl | hid
      · exact .inr (.inr (Nat.le_refl _))
      · exact .inr (.inl hid)
  · have hlt : id < R.length := (List.getElem?_eq_some_iff.1 hr).1
    have hl := hL.len
    have hcx : cellsIn ⟨B, R, μ⟩ 5 (.vec id 0 l.length 5 .opn) = some (cells, l.length) := by
      simp only [cellsIn, hr]
      rw [if_pos ⟨trivial, by omega⟩]
      simp [← hl]
    have hcond : 0 < 5 ∧ 0 < b ∧ zsizeT P el = some 5 ∧ (l.length + 1) * b ≤ roomBytes' := ⟨by omega, hb, h5, hlen⟩
    rw [List.cons_append, List.nodup_cons] at hnd
    have hR : ∀ id' , id' ≠ id → id' < R.length → ((R.set id none) ++ [some (0, cells ++ cs)])[id']? = R[id']? := by
      intro id' hne hlt'
      rw [List.getElem?_append_left (by rw [List.length_set]; exact hlt'), List.getElem?_set_ne (fun e => hne e.symm)]
    have hids' : ∀ z ∈ ids', z < R.length := by
      have hl2 : ∀ (l : List T_api_Tree) {c : List AV} {i : List Nat}, InL R l c i → ∀ id ∈ i, id < R.length := by
        intro l
        induction l with
        | nil => intro c i h id hid; rw [(InL_nil.1 h).2] at hid; cases hid
        | cons y l ih2 =>
          intro c i h id hid
          obtain ⟨c1, c2, i1, i2, rfl, rfl, g1, g2⟩ := InL_cons.1 h
          rcases List.mem_append.1 hid with hid | hid
          · exact hidlt y _ _ g1 id hid
          · exact ih2 g2 id hid
      exact hl2 l hL
    refine ⟨(R.set id none) ++ [some (0, cells ++ cs)], .vec R.length 0 (l.length + 1) 5 .opn, R.length :: (ids' ++ i2), ?_, .inr ⟨R.length, cells ++ cs, ids' ++ i2, by simp, by simp, by simp, rfl, ?_⟩, ?_, fun z hz => ?_, by simp, fun z hz y hy => ?_⟩
    · simp only [aappend, aappendV, h1, h3, h4, hcx, hcy]
      rw [if_pos hcond, if_neg (by omega)]
      simp only [avec, hr]
      rw [if_neg (by rw [hl, Nat.add_mul]; omega), if_pos trivial]
      simp [Mem.pushRow, Mem.retire]
    · refine (hL.frame fun z hz => hR z (fun e => hnd.1 (List.mem_append_left _ (e ▸ hz))) (hids' z hz)).append ((InL.one hx).frame fun z hz => hR z (fun e => hnd.1 (List.mem_append_right _ (e ▸ hz))) (hi2 z hz))
    · rw [List.nodup_cons]
      refine ⟨fun h => ?_, hnd.2⟩
      rcases List.mem_append.1 h with h | h
      · have := hids' _ h; omega
      · have := hi2 _ h; omega
    · rcases List.mem_cons.1 hz with rfl | hz
      · exact .inr (.inr (Nat.le_refl _))
      · rcases List.mem_append.1 hz with hz | hz
        · exact .inl (List.mem_cons_of_mem _ hz)
        · exact .inr (.inl hz)
    · rw [hR z (fun e => hz (e ▸ List.mem_cons_self)) (List.getElem?_eq_some_iff.1 hy).1]; exact hy
end Go.Proofs.Ytcfekacmmfdggaa.G
set_option linter.unusedVariables false
set_option linter.unusedSimpArgs false
set_option maxRecDepth 100000
namespace Go.Proofs.Ytcfekacmmfdggaa.G

/-- What stays of a memory. -/
structure Kept (B : List ABox) (R : Rows) (B' : List ABox) (R' : Rows) : Prop where
  box : ∀ (l : Nat), l < B.length → B'[l]? = B[l]?
  blen : B.length ≤ B'.length
  row : ∀ (id : Nat) (x : Option (Nat × List AV)), R[id]? = some x → R'[id]? = some x
  rlen : R.length ≤ R'.length
def zeroTree : List AV := [.i64 0, .i64 0, .slice .full [], .slice .full [], .bool false]
theorem copy_walk (t : T_api_Tree) : t.size ≤ 1000000 → ∀ (B : List ABox) (R : Rows), Does Try.prog 54 [.agg t.C] ⟨B, R, μT⟩ fun r m1 => ∃ cs ids B' R', r = .agg cs ∧ m1 = ⟨B', R', μT⟩ ∧ InT R' t cs ids ∧ ids.Nodup ∧ (∀ id ∈ ids, R.length ≤ id) ∧ Kept B R B' R' := by
  induction t using T_api_Tree.induct with
  | h t ih =>
    intro hsz B R
    have hcl := conj_len t
    have hkl := kids_len t
    refine Does.of_slim mix fn_54 ok_54 (by rfl) ?_; simp -implicitDefEqProofs only [go_sem, Try.f54]
    refine SLoop.induct mix fn_54 (by kernel_rfl) (fun n e m' => ∃ (j : Nat) (own : Own) (B' : List ABox) (R' : Rows), e = [(1, .ptr B.length 0), (2, .ptr (B.length + 1) 0), (3, .slice own ((t.Conj.take j).map T_api_Pred.av)), (10, .slice .foreign (t.Conj.map T_api_Pred.av)), (11, .i64 t.Conj.length), (12, .i64 j)] ∧ m' = ⟨B', R', μT⟩ ∧
      Kept B R B' R' ∧ B'[B.length]? = some (.cells t.C) ∧ B'[B.length + 1]? = some (.cells zeroTree) ∧ Mine R' own j 14 ∧ (∀ id, own = .row id → R.length ≤ id) ∧ j ≤ t.Conj.length ∧ n = t.Conj.length - j) t.Conj.length ⟨0, .full, _, R, rfl, rfl, ⟨fun l hl => by simp [List.getElem?_append_left, hl], by simp, fun _ _ h => h, Nat.le_refl _⟩, ?_, ?_, .full, fun _ h => (by cases h), by omega, by omega⟩ (by simp -implicitDefEqProofs only [go_sem] <;> repeat' (first | rfl | apply And.intro)) ?_
    · rw [List.getElem?_append_right (Nat.le_refl _), Nat.sub_self]; rfl
    · rw [List.getElem?_append_right (by omega), Nat.add_sub_cancel_left]; rfl
    rintro n e m' ⟨j, own, B', R', rfl, rfl, hk, b1, b2, hm, hown, hj, hn⟩ ih2
    have hlb : B.length + 1 < B'.length := (List.getElem?_eq_some_iff.1 b2).1
    simp -implicitDefEqProofs only [go_sem, Try.f54]
    refine SCond_dec (fun h => ?_) fun h => ?_
    · have hj' : j < t.Conj.length := by omega
      simp -implicitDefEqProofs only [go_sem, getL hj']
      have hps : (t.Conj[j]).size ≤ 1000000 := by have := conj_size (List.getElem_mem hj'); omega
      have hw := M_pred_Copy.w _ _ (pred_Copy_eq _ hps)
      simp -implicitDefEqProofs only [go_sem] at hw
      refine DoesV.fn hw ?_
      obtain ⟨own', R2, ha, hm', hel, how, hRl⟩ := append_map (P := Try.prog) (f := T_api_Pred.av) (B := B' ++ [.cells (T_api_Pred.C t.Conj[j])]) (R := R') (μ := μT) (o := .full) (l := t.Conj.take j) (ys := [t.Conj[j]]) t29_elem t66_size t66_bytes t66_zsize rfl rfl T_api_Pred.len (by simpa [Nat.min_eq_left hj] using hm) (by simp; omega)
      simp only [List.map_cons, List.map_nil] at ha
      rw [List.take_append_getElem hj'] at ha hm'
      simp -implicitDefEqProofs only [go_sem] at ha
      simp -implicitDefEqProofs only [go_sem, ha, inc64 j (by omega)]
      refine ih2 (t.Conj.length - (j + 1)) _ _ _ (by omega) ⟨j + 1, own', _, R2, rfl, rfl, ⟨fun l hl => by rw [List.getElem?_append_left (by omega)]; exact hk.box l hl, by have := hk.blen; simp; omega, fun id x hx => hel id (fun e => by have := hown id e; have := (List.getElem?_eq_some_iff.1 hx).1; omega) x (hk.row id x hx), Nat.le_trans hk.rlen hRl⟩, app_old b1 _, app_old b2 _, by simpa [Nat.min_eq_left (show j + 1 ≤ t.Conj.length from hj')] using hm', fun id he => ?_, hj', rfl⟩ (by simp -implicitDefEqProofs only [go_sem] <;> repeat' (first | rfl | apply And.intro))
      rcases how with how | how
      · exact hown id (how ▸ he)
      · rw [how] at he; injection he with he; have := hk.rlen; omega
    · have hjj : j = t.Conj.length := by omega
      subst hjj
      rw [List.take_length]
      clear ih2
      simp -implicitDefEqProofs only [go_sem, b1]
      refine SLoop.induct mix fn_54 (by kernel_rfl) (fun n e m' => ∃ (i : Nat) (v : AV) (ids : List Nat) (B2 : List ABox) (R2 : Rows), e = [(1, .ptr B.length 0), (2, .ptr (B.length + 1) 0), (3, .slice own (t.Conj.map T_api_Pred.av)), (6, v), (23, .slice .foreign (t.Kids.map T_api_Tree.av)), (24, .i64 t.Kids.length), (25, .i64 i)] ∧ m' = ⟨B2, R2, μT⟩ ∧
        Kept B R B2 R2 ∧ B2[B.length]? = some (.cells t.C) ∧ B2[B.length + 1]? = some (.cells zeroTree) ∧ VecK R2 (t.Kids.take i) v ids ∧ ids.Nodup ∧ (∀ id ∈ ids, R.length ≤ id) ∧ i ≤ t.Kids.length ∧ n = t.Kids.length - i) t.Kids.length ⟨0, .slice .full [], [], B', R', rfl, rfl, hk, b1, b2, .inl ⟨rfl, rfl, rfl⟩, List.nodup_nil, fun _ h => (by cases h), by omega, by omega⟩ (by simp -implicitDefEqProofs only [go_sem] <;> repeat' (first | rfl | apply And.intro)) ?_
      rintro n e m' ⟨i, v, ids, B2, R2, rfl, rfl, hk2, c1, c2, hv, hnd, hge, hi, hn⟩ ih3
      have hlb2 : B.length + 1 < B2.length := (List.getElem?_eq_some_iff.1 c2).1
      simp -implicitDefEqProofs only [go_sem, Try.f54]
      refine SCond_dec (fun h => ?_) fun h => ?_
      · have hi' : i < t.Kids.length := by omega
        simp -implicitDefEqProofs only [go_sem, getL hi']
        have hks : (t.Kids[i]).size ≤ 1000000 := by have := kid_size (List.getElem_mem hi'); omega
        refine DoesV.named (ih _ (List.getElem_mem hi') hks _ R2) ?_
        rintro r m2 ⟨cs, ids2, B3, R3, rfl, rfl, hin, hnd2, hge2, hk3⟩
        refine ⟨False.elim, ?_⟩
        have hrow : ∀ id, id < R2.length → R3[id]? = R2[id]? := fun id hid => by rw [List.getElem?_eq_getElem hid]; exact hk3.row id _ (List.getElem?_eq_getElem hid)
        have hlt := hv.lt
        have hv3 := hv.frame (R' := R3) (fun id hid => hrow id (hlt id hid))
        have hnd3 : (ids ++ ids2).Nodup := List.nodup_append.2 ⟨hnd, hnd2, fun a ha b hb e => by have := hlt a ha; have := hge2 b hb; omega⟩
        obtain ⟨R4, v', ids', ha, hv', hnd', hmem', hlen4, hrow4⟩ := append_tree (P := Try.prog) (B := B3) (R := R3) (μ := μT) (o := .full) t28_elem t31_size t31_bytes t31_zsize rfl (by decide) hv3 hin hnd3 (by simp; omega)
        rw [List.take_append_getElem hi'] at hv'
        obtain ⟨kv, rfl, hkv⟩ := InT_eq.1 hin
        have s1 : kv.strip1 = kv := by rcases hkv with ⟨_, rfl, _⟩ | ⟨_, _, _, _, rfl, _⟩ <;> rfl
        unfold treeC at ha
        simp -implicitDefEqProofs only [go_sem, treeC, s1, ha, inc64 i (by omega)]
        refine ih3 (t.Kids.length - (i + 1)) _ _ _ (by omega) ⟨i + 1, v', ids', B3, R4, rfl, rfl, ⟨fun l hl => ?_, by have := hk2.blen; have := hk3.blen; simp at this; omega, fun id x hx => ?_, by have := hk2.rlen; have := hk3.rlen; omega⟩, (hk3.box _ (by simp; omega)).trans (app_old c1 _), (hk3.box _ (by simp; omega)).trans (app_old c2 _), hv', hnd', fun id hid => ?_, hi', rfl⟩ (by simp -implicitDefEqProofs only [go_sem] <;> repeat' (first | rfl | apply And.intro))
        · rw [hk3.box l (by have := hk2.blen; simp; omega), List.getElem?_append_left (by have := hk2.blen; omega)]; exact hk2.box l hl
        · refine hrow4 id (fun hid => ?_) x (hk3.row id x (hk2.row id x hx))
          have := hge id hid
          have := (List.getElem?_eq_some_iff.1 hx).1
          omega
        · have := hk2.rlen
          have := hk3.rlen
          rcases hmem' id hid with h | h | h
          · exact hge id h
          · have := hge2 id h; omega
          · omega
      · have hii : i = t.Kids.length := by omega
        subst hii
        rw [List.take_length] at hv
        have f1 : ∀ c, (B2.set B.length c)[B.length]? = some c := fun c => List.getElem?_set_self (by omega)
        have f3 : ∀ c, (B2.set B.length c)[B.length + 1]? = some (.cells zeroTree) := fun c => by rw [List.getElem?_set_ne (by omega)]; exact c2
        have f4 : ∀ c d, ((B2.set B.length c).set (B.length + 1) d)[B.length + 1]? = some d := fun c d => List.getElem?_set_self (by rw [List.length_set]; omega)
        unfold zeroTree at f3
        have hkept : ∀ c d, Kept B R ((B2.set B.length c).set (B.length + 1) d) R2 := fun c d =>
          ⟨fun l hl => by rw [List.getElem?_set_ne (by omega), List.getElem?_set_ne (by omega)]; exact hk2.box l hl, by simp only [List.length_set]; exact hk2.blen, hk2.row, hk2.rlen⟩
        rcases hv with ⟨h1, rfl, rfl⟩ | ⟨id, cells, ids', h0, rfl, h2, rfl, h4⟩
        · simp -implicitDefEqProofs only [go_sem, c1, c2, List.set_set, f1, f3, f4]
          exact ⟨_, [], _, R2, rfl, rfl, InT_eq.2 ⟨.slice .foreign [], rfl, .inl ⟨h1, rfl, rfl⟩⟩, List.nodup_nil, fun _ h => (by cases h), hkept _ _⟩
        · simp -implicitDefEqProofs only [go_sem, c1, c2, List.set_set, f1, f3, f4]
          exact ⟨_, id :: ids', _, R2, rfl, rfl, InT_eq.2 ⟨.vec id 0 t.Kids.length 5 .opn, rfl, .inr ⟨id, cells, ids', h0, rfl, h2, rfl, h4⟩⟩, hnd, hge, hkept _ _⟩
end Go.Proofs.Ytcfekacmmfdggaa.G
set_option linter.unusedVariables false
set_option linter.unusedSimpArgs false
set_option maxRecDepth 100000
namespace Go.Proofs.Ytcfekacmmfdggaa.G

/-- A tree, marked. -/
def hashL (m : T_cost_Model) (ks : List T_api_Tree) (cj : List T_api_Pred) : Bool := match ks with | [a, b] => keyedS m.Kind m.Edges (tabs a) (tabs b) cj | _ => false
def markS (m : T_cost_Model) : T_api_Tree → T_api_Tree
  | ⟨k, n, ks, cj, _⟩ => ⟨k, n, markL ks, cj, hashL m ks cj⟩
where markL : List T_api_Tree → List T_api_Tree
  | [] => []
  | t :: l => markS m t :: markL l
theorem markL_eq (m : T_cost_Model) (l : List T_api_Tree) : markS.markL m l = l.map (markS m) := by
  induction l with
  | nil => simp [markS.markL]
  | cons x l ih => simp [markS.markL, ih]
theorem markS_eq (m : T_cost_Model) (t : T_api_Tree) : markS m t = ⟨t.Kind, t.Table, t.Kids.map (markS m), t.Conj, hashL m t.Kids t.Conj⟩ := by
  obtain ⟨k, n, ks, cj, h⟩ := t
  rw [markS, markL_eq]
theorem keyed_fn (m : T_cost_Model) (hE : m.Edges.length < 9223372036854775808) (a b : Set64) (cj : List T_api_Pred) (hl : cj.length ≤ 1000000000) : Fn Try.prog 12 [.agg m.C, .w a, .w b, .slice .foreign (cj.map T_api_Pred.av)] (.bool (keyedS m.Kind m.Edges a b cj)) :=
  M_cost_Model_Keyed.w (m, a, b, cj) _ (cost_Keyed_eq _ _ _ _ hE hl)
theorem tables_fn (t : T_api_Tree) (h : t.size < 9223372036854775808) : Fn Try.prog 52 [.agg t.C] (.w (tabs t)) := M_tree_Tables.w t _ (tree_Tables_eq t h)
/-- A tree's cells, its Hash apart. -/
def treeH (t : T_api_Tree) (kv b : AV) : List AV := [.i64 t.Kind, .i64 t.Table, kv, .slice .foreign (t.Conj.map T_api_Pred.av), b]
theorem treeC_H (t : T_api_Tree) (kv : AV) : treeC t kv = treeH t kv (.bool t.Hash) := rfl
theorem row_2 {pre post : List AV} {off : Nat} (ho : pre.length = off) (t : T_api_Tree) (kv : AV) (b : AV) : (pre ++ (treeH t kv b ++ post))[off + 2]? = some kv := by subst ho; rw [List.getElem?_append_right (by omega), Nat.add_sub_cancel_left]; rfl
theorem row_3 {pre post : List AV} {off : Nat} (ho : pre.length = off) (t : T_api_Tree) (kv : AV) (b : AV) : (pre ++ (treeH t kv b ++ post))[off + 3]? = some (.slice .foreign (t.Conj.map T_api_Pred.av)) := by subst ho; rw [List.getElem?_append_right (by omega), Nat.add_sub_cancel_left]; rfl
theorem row_l {pre post : List AV} {off : Nat} (ho : pre.length = off) (t : T_api_Tree) (kv : AV) (b : AV) : off + 4 + 1 ≤ pre.length + ((treeH t kv b).length + post.length) := by subst ho; simp [treeH]; omega
theorem row_s {pre post : List AV} {off : Nat} (ho : pre.length = off) (t : T_api_Tree) (kv : AV) (b c : AV) : List.take (off + 4) (pre ++ (treeH t kv b ++ post)) ++ c :: List.drop (off + 4 + 1) (pre ++ (treeH t kv b ++ post)) = pre ++ (treeH t kv c ++ post) := by
  subst ho
  rw [List.take_append, List.drop_append, List.take_of_length_le (by omega), List.drop_eq_nil_of_le (by omega), show pre.length + 4 - pre.length = 4 by omega, show pre.length + 4 + 1 - pre.length = 5 by omega]
  simp [treeH]
/-- What is asked of the closure at a tree that stands in a row. -/
def MarkC (m : T_cost_Model) (B : List ABox) (lm lk : Nat) (t : T_api_Tree) : Prop := ∀ (R : Rows) (id0 off : Nat) (pre post cs : List AV) (ids : List Nat),
    R[id0]? = some (some (0, pre ++ (cs ++ post))) → pre.length = off → InT R t cs ids → (id0 :: ids).Nodup →
    Does Try.prog 55 [.vptr id0 off, .ptr lm 0, .ptr lk 0] ⟨B, R, μT⟩ fun r m1 => ∃ cs' R', m1 = ⟨B, R', μT⟩ ∧ R'[id0]? = some (some (0, pre ++ (cs' ++ post))) ∧ InT R' (markS m t) cs' ids ∧ R'.length = R.length ∧ ∀ id, id ≠ id0 → id ∉ ids → R'[id]? = R[id]?
theorem mark_loopR {Q : Exit → SEnv → Mem → Prop} {env : SEnv} (m : T_cost_Model) (B : List ABox) (lm lk : Nat) (hlk : B[lk]? = some (.cells [.func 55 [] [.ptr lm 0, .ptr lk 0]])) (ks : List T_api_Tree) (ih : ∀ y ∈ ks, MarkC m B lm lk y) (hlen : ks.length ≤ 1000000)
    (R : Rows) (id id0 off : Nat) (cells row0 : List AV) (ids : List Nat) (hr0 : R[id0]? = some (some (0, row0))) (hr : R[id]? = some (some (0, cells))) (hL : InL R ks cells ids) (hnd : (id0 :: id :: ids).Nodup) (h2 : row0[off + 2]? = some (.vec id 0 ks.length 5 .opn))
    (henv : ∀ p ∈ ([(0, .vptr id0 off), (1, .ptr lm 0), (2, .ptr lk 0), (40, .i64 ks.length), (41, .i64 0)] : SEnv), sget env p.1 = some p.2)
    (hQ : ∀ R' cells' b, R'[id0]? = some (some (0, row0)) → R'[id]? = some (some (0, cells')) → InL R' (ks.map (markS m)) cells' ids → R'.length = R.length → (∀ z, z ≠ id → z ∉ ids → R'[z]? = R[z]?) → Q (.exit 0) [(42, .bool b), (0, .vptr id0 off), (1, .ptr lm 0), (2, .ptr lk 0), (40, .i64 ks.length), (41, .i64 ks.length)] ⟨B, R', μT⟩) :
    SLoop Try.prog 55 none 0 Q env ⟨B, R, μT⟩ := by
  refine SLoop.induct mix fn_55 (by kernel_rfl) (fun n e m' => ∃ (j : Nat) (R' : Rows) (cells' : List AV), e = [(0, .vptr id0 off), (1, .ptr lm 0), (2, .ptr lk 0), (40, .i64 ks.length), (41, .i64 j)] ∧ m' = ⟨B, R', μT⟩ ∧ R'[id]? = some (some (0, cells')) ∧ InL R' ((ks.take j).map (markS m) ++ ks.drop j) cells' ids ∧ R'.length = R.length ∧ (∀ z, z ≠ id → z ∉ ids → R'[z]? = R[z]?) ∧ j ≤ ks.length ∧ n = ks.length - j) ks.length ⟨0, R, cells, rfl, rfl, hr, by simpa using hL, rfl, fun _ _ _ => rfl, by omega, by omega⟩ henv ?_
  rintro n e m' ⟨j, R', cells', rfl, rfl, hr', hL', hl', ho', hj, hn⟩ ih2
  have hr0' : R'[id0]? = some (some (0, row0)) := by rw [ho' id0 (fun e => (List.nodup_cons.1 hnd).1 (e ▸ List.mem_cons_self)) (fun e => (List.nodup_cons.1 hnd).1 (List.mem_cons_of_mem _ e))]; exact hr0
  simp -implicitDefEqProofs only [go_sem, Try.f55]
  refine SCond_dec (fun h => ?_) fun h => ?_
  · have hj' : j < ks.length := by omega
    rw [List.drop_eq_getElem_cons hj'] at hL'
    obtain ⟨c1, c2, i1, i2, rfl, rfl, g1, g2⟩ := hL'.split
    obtain ⟨cx, c3, ix, i3, rfl, rfl, g3, g4⟩ := InL_cons.1 g2
    have hc1 : c1.length = j * 5 := by rw [g1.len, List.length_map, List.length_take, Nat.min_eq_left hj]
    have hjl : (j : Int) < (ks.length : Int) := by omega
    simp -implicitDefEqProofs only [go_sem, hlk, hr0', h2, eq_true hjl]
    have hnd2 : (id :: (i1 ++ (ix ++ i3))).Nodup := (List.nodup_cons.1 hnd).2
    have hni := (List.nodup_cons.1 hnd2).1
    have hnn := (List.nodup_cons.1 hnd2).2
    have hixn : (id :: ix).Nodup := List.nodup_cons.2 ⟨fun h => hni (List.mem_append_right _ (List.mem_append_left _ h)), ((List.nodup_append.1 (List.nodup_append.1 hnn).2.1)).1⟩
    refine (DoesV.func (first := []) (args := [.vptr id (j * 5)]) (cap := [.ptr lm 0, .ptr lk 0]) (ih _ (List.getElem_mem hj') R' id (j * 5) c1 c3 cx ix hr' hc1 g3 hixn)).mono ?_
    rintro r m2 ⟨cs', R3, rfl, hr3, hin3, hl3, ho3⟩
    refine ⟨False.elim, ?_⟩
    simp -implicitDefEqProofs only [go_sem, inc64 j (by omega)]
    have hd1 : ∀ z ∈ i1, z ≠ id ∧ z ∉ ix := fun z hz => ⟨fun e => hni (e ▸ List.mem_append_left _ hz), fun h => (List.nodup_append.1 hnn).2.2 z hz z (List.mem_append_left _ h) rfl⟩
    have hd3 : ∀ z ∈ i3, z ≠ id ∧ z ∉ ix := fun z hz => ⟨fun e => hni (e ▸ List.mem_append_right _ (List.mem_append_right _ hz)), fun h => (List.nodup_append.1 (List.nodup_append.1 hnn).2.1).2.2 z h z hz rfl⟩
    refine ih2 (ks.length - (j + 1)) _ _ _ (by omega) ⟨j + 1, R3, c1 ++ (cs' ++ c3), rfl, rfl, hr3, ?_, hl3.trans hl', fun z h1 h2 => ?_, hj', rfl⟩ (by simp -implicitDefEqProofs only [go_sem] <;> repeat' (first | rfl | apply And.intro))
    · rw [List.take_succ_eq_append_getElem hj', List.map_append, List.append_assoc]
      exact (g1.frame fun z hz => ho3 z (hd1 z hz).1 (hd1 z hz).2).append (InL_cons.2 ⟨cs', c3, ix, i3, rfl, rfl, hin3, g4.frame fun z hz => ho3 z (hd3 z hz).1 (hd3 z hz).2⟩)
    · rw [ho3 z h1 (fun h => h2 (List.mem_append_right _ (List.mem_append_left _ h)))]
      exact ho' z h1 h2
  · simp -implicitDefEqProofs only [go_sem]
    have hjj : j = ks.length := by omega
    subst hjj
    rw [List.take_length, List.drop_length, List.append_nil] at hL'
    exact hQ R' cells' _ hr0' hr' hL' hl' ho'
end Go.Proofs.Ytcfekacmmfdggaa.G
set_option linter.unusedVariables false
set_option linter.unusedSimpArgs false
set_option maxRecDepth 100000
namespace Go.Proofs.Ytcfekacmmfdggaa.G

theorem treeC_mark (m : T_cost_Model) (t : T_api_Tree) (kv : AV) : treeC (markS m t) kv = treeH t kv (.bool (hashL m t.Kids t.Conj)) := by
  rw [markS_eq]; rfl
theorem InT.strip {R : Rows} {t : T_api_Tree} {cs : List AV} {ids : List Nat} (h : InT R t cs ids) : cs.map AV.strip1 = cs := by
  obtain ⟨kv, rfl, hk⟩ := InT_eq.1 h
  have s1 : kv.strip1 = kv := by rcases hk with ⟨_, rfl, _⟩ | ⟨_, _, _, _, rfl, _⟩ <;> rfl
  show [AV.i64 t.Kind, AV.i64 t.Table, kv.strip1, AV.slice .foreign (t.Conj.map T_api_Pred.av), AV.bool t.Hash] = _
  rw [s1]; rfl
theorem InT.read {B : List ABox} {R : Rows} {t : T_api_Tree} {cs : List AV} {ids : List Nat} (h : InT R t cs ids) : ∀ (j : Nat) (a a' : AV), [AV.agg cs][j]? = some a → [AV.agg t.C][j]? = some a' → Frz ⟨B, R, μT⟩ a a' := by
  intro j a a' h1 h2
  match j with
  | 0 => simp at h1 h2; subst h1 h2; exact h.frzA
  | j + 1 => simp at h1
theorem markS_kids (m : T_cost_Model) (t : T_api_Tree) : (markS m t).Kids = t.Kids.map (markS m) := by rw [markS_eq]
theorem mark_walk (m : T_cost_Model) (hE : m.Edges.length < 9223372036854775808) (B : List ABox) (lm lk : Nat) (hm : B[lm]? = some (.cells m.C)) (hk : B[lk]? = some (.cells [.func 55 [] [.ptr lm 0, .ptr lk 0]])) (t : T_api_Tree) : t.size ≤ 1000000 → MarkC m B lm lk t := by
  induction t using T_api_Tree.induct with
  | h t ih =>
    intro hsz R id0 off pre post cs ids hr ho hin hnd
    have hcl := conj_len t
    have hkl := kids_len t
    obtain ⟨kv, rfl, hkv⟩ := InT_eq.1 hin
    rw [treeC_H] at hr
    have hlt : id0 < R.length := (List.getElem?_eq_some_iff.1 hr).1
    have q2 := fun b => row_2 (post := post) ho t kv b
    have q3 := fun b => row_3 (post := post) ho t kv b
    have ql := eq_true (row_l (post := post) ho t kv (.bool t.Hash))
    have qs := fun c => row_s (post := post) ho t kv (.bool t.Hash) c
    have rs : ∀ c, (List.set R id0 c)[id0]? = some c := fun c => List.getElem?_set_self hlt
    rcases hkv with ⟨h1, rfl, rfl⟩ | ⟨id, cells, ids', h0, rfl, h2, rfl, h4⟩
    · refine Does.of_slim mix fn_55 ok_55 (by rfl) ?_; simp -implicitDefEqProofs only [go_sem, Try.f55]
      simp -implicitDefEqProofs only [go_sem, hm, hk, hr, q2, q3, ql, qs, rs]
      refine SLoop.induct mix fn_55 (by kernel_rfl) (fun n e m' => e = [(0, .vptr id0 off), (1, .ptr lm 0), (2, .ptr lk 0), (40, .i64 0), (41, .i64 0)] ∧ m' = ⟨B, R.set id0 (some (0, pre ++ (treeH t (.slice .foreign []) (.bool false) ++ post))), μT⟩) 0 ⟨rfl, rfl⟩ (by simp -implicitDefEqProofs only [go_sem] <;> repeat' (first | rfl | apply And.intro)) ?_
      rintro n e m' ⟨rfl, rfl⟩ ih2
      simp -implicitDefEqProofs only [go_sem, Try.f55]
      refine ⟨treeH t (.slice .foreign []) (.bool false), _, rfl, List.getElem?_set_self hlt, InT_eq.2 ⟨.slice .foreign [], ?_, .inl ⟨?_, rfl, rfl⟩⟩, by simp, fun z hz => List.getElem?_set_ne (fun e => hz e.symm)⟩
      · rw [treeC_mark, h1]; rfl
      · rw [markS_eq, h1]; rfl
    · have hlt2 : id < R.length := (List.getElem?_eq_some_iff.1 h2).1
      have hne : id ≠ id0 := fun e => (List.nodup_cons.1 hnd).1 (e ▸ List.mem_cons_self)
      by_cases hn : t.Kids.length = 2
      · obtain ⟨a, b, hab⟩ := two_kids hn
        have h5 := h4
        rw [hab] at h5
        obtain ⟨ca, cb, ia, i2, rfl, rfl, g1, g2⟩ := InL_cons.1 h5
        obtain ⟨cb, cc, ib, ic, rfl, rfl, g3, g4⟩ := InL_cons.1 g2
        obtain ⟨rfl, rfl⟩ := InL_nil.1 g4
        have e2 : ((t.Kids.length : Int) == 2) = true := by simp [hn]
        have e3 : decide ((t.Kids.length : Int) = 2) = true := decide_eq_true (by omega)
        have i0 := eq_true (show (0 : Int) < (t.Kids.length : Int) by omega)
        have i1 := eq_true (show (1 : Int) < (t.Kids.length : Int) by omega)
        refine Does.of_slim mix fn_55 ok_55 (by rfl) ?_; simp -implicitDefEqProofs only [go_sem, Try.f55]
        have la := g1.len
        have lb := g3.len
        have ta : List.take 5 (ca ++ cb) = ca := by rw [← la, List.take_left]
        have tb : List.drop 5 (ca ++ cb) = cb := by rw [← la, List.drop_left]
        have tc : List.take 5 cb = cb := List.take_of_length_le (by omega)
        have l5 := eq_true (show 5 ≤ ca.length + cb.length by omega)
        have l10 := eq_true (show 5 + 5 ≤ ca.length + cb.length by omega)
        have sa := g1.strip
        have sb := g3.strip
        have hsa : a.size < 1000000 := by have := kid_size (show a ∈ t.Kids by rw [hab]; simp); omega
        have hsb : b.size < 1000000 := by have := kid_size (show b ∈ t.Kids by rw [hab]; simp); omega
        simp -implicitDefEqProofs only [go_sem, hm, hk, hr, h2, q2, q3, ql, qs, rs, e2, e3, i0, i1, ta, tb, tc, l5, l10, sa, sb]
        refine DoesV.read (tables_fn a (by omega)) (.atom _) rfl g1.read ?_
        simp -implicitDefEqProofs only [go_sem, hm, hk, hr, h2, q2, q3, ql, qs, rs, e2, e3, i0, i1, ta, tb, tc, l5, l10, sa, sb]
        refine DoesV.read (tables_fn b (by omega)) (.atom _) rfl g3.read ?_
        simp -implicitDefEqProofs only [go_sem, hm, hk, hr, h2, q2, q3, ql, qs, rs, e2, e3, i0, i1, ta, tb, tc, l5, l10, sa, sb]
        have hw := keyed_fn m hE (tabs a) (tabs b) t.Conj (by omega)
        simp -implicitDefEqProofs only [go_sem] at hw
        refine DoesV.fn hw ?_
        simp -implicitDefEqProofs only [go_sem, hm, hk, hr, h2, q2, q3, ql, qs, rs, e2, e3, i0, i1, ta, tb, tc, l5, l10, sa, sb]
        refine mark_loopR m B lm lk hk t.Kids (fun y hy => ih y hy (by have := kid_size hy; omega)) (by omega) _ id id0 off _ _ _ (rs _) ((List.getElem?_set_ne (fun e => hne e.symm)).trans h2) (h4.frame fun z hz => List.getElem?_set_ne (fun e => (List.nodup_cons.1 hnd).1 (by rw [e]; exact List.mem_cons_of_mem _ hz))) hnd (q2 _) (by simp -implicitDefEqProofs only [go_sem] <;> repeat' (first | rfl | apply And.intro)) ?_
        intro R' cells' b0 hr0 hr1 hL' hl' ho'
        simp -implicitDefEqProofs only [go_sem]
        refine ⟨_, R', rfl, hr0, InT_eq.2 ⟨.vec id 0 t.Kids.length 5 .opn, ?_, .inr ⟨id, cells', _, ?_, ?_, hr1, rfl, ?_⟩⟩, ?_, ?_⟩
        · rw [treeC_mark]; unfold hashL; rw [hab]
        · rw [markS_kids]; simpa using h0
        · rw [markS_kids, List.length_map]
        · rw [markS_kids]; simpa using hL'
        · rw [hl', List.length_set]
        · intro z hz hz2
          rw [ho' z (fun e => hz2 (.inl e)) (fun e => by first | exact hz2 (.inr e) | exact hz2 (.inr (by simpa using e)))]
          exact List.getElem?_set_ne (fun e => hz e.symm)
      · have e2 : ((t.Kids.length : Int) == 2) = false := by simp; omega
        have e3 : decide ((t.Kids.length : Int) = 2) = false := decide_eq_false (by omega)
        refine Does.of_slim mix fn_55 ok_55 (by rfl) ?_; simp -implicitDefEqProofs only [go_sem, Try.f55]
        simp -implicitDefEqProofs only [go_sem, hm, hk, hr, h2, q2, q3, ql, qs, rs, e2, e3]
        refine mark_loopR m B lm lk hk t.Kids (fun y hy => ih y hy (by have := kid_size hy; omega)) (by omega) _ id id0 off _ _ _ (rs _) ((List.getElem?_set_ne (fun e => hne e.symm)).trans h2) (h4.frame fun z hz => List.getElem?_set_ne (fun e => (List.nodup_cons.1 hnd).1 (by rw [e]; exact List.mem_cons_of_mem _ hz))) hnd (q2 _) (by simp -implicitDefEqProofs only [go_sem] <;> repeat' (first | rfl | apply And.intro)) ?_
        intro R' cells' b0 hr0 hr1 hL' hl' ho'
        simp -implicitDefEqProofs only [go_sem]
        refine ⟨_, R', rfl, hr0, InT_eq.2 ⟨.vec id 0 t.Kids.length 5 .opn, ?_, .inr ⟨id, cells', _, ?_, ?_, hr1, rfl, ?_⟩⟩, ?_, ?_⟩
        · rw [treeC_mark]; have : hashL m t.Kids t.Conj = false := by
            unfold hashL
            split
            · rename_i x y heq; rw [heq] at hn; exact absurd rfl hn
            · rfl
          rw [this]
        · rw [markS_kids]; simpa using h0
        · rw [markS_kids, List.length_map]
        · rw [markS_kids]; simpa using hL'
        · rw [hl', List.length_set]
        · intro z hz hz2
          rw [ho' z (fun e => hz2 (.inl e)) (fun e => by first | exact hz2 (.inr e) | exact hz2 (.inr (by simpa using e)))]
          exact List.getElem?_set_ne (fun e => hz e.symm)
end Go.Proofs.Ytcfekacmmfdggaa.G
set_option linter.unusedVariables false
set_option linter.unusedSimpArgs false
set_option maxRecDepth 100000
namespace Go.Proofs.Ytcfekacmmfdggaa.G

theorem mark_loopB {Q : Exit → SEnv → Mem → Prop} {env : SEnv} (m : T_cost_Model) (B : List ABox) (lm lk : Nat) (hlk : B[lk]? = some (.cells [.func 55 [] [.ptr lm 0, .ptr lk 0]])) (ks : List T_api_Tree) (ih : ∀ y ∈ ks, MarkC m B lm lk y) (hlen : ks.length ≤ 1000000)
    (R : Rows) (id l : Nat) (cells row0 : List AV) (ids : List Nat) (hr0 : B[l]? = some (.cells row0)) (hr : R[id]? = some (some (0, cells))) (hL : InL R ks cells ids) (hnd : (id :: ids).Nodup) (h2 : row0[2]? = some (.vec id 0 ks.length 5 .opn))
    (henv : ∀ p ∈ ([(0, .ptr l 0), (1, .ptr lm 0), (2, .ptr lk 0), (40, .i64 ks.length), (41, .i64 0)] : SEnv), sget env p.1 = some p.2)
    (hQ : ∀ R' cells' b, R'[id]? = some (some (0, cells')) → InL R' (ks.map (markS m)) cells' ids → R'.length = R.length → (∀ z, z ≠ id → z ∉ ids → R'[z]? = R[z]?) → Q (.exit 0) [(42, .bool b), (0, .ptr l 0), (1, .ptr lm 0), (2, .ptr lk 0), (40, .i64 ks.length), (41, .i64 ks.length)] ⟨B, R', μT⟩) :
    SLoop Try.prog 55 none 0 Q env ⟨B, R, μT⟩ := by
  refine SLoop.induct mix fn_55 (by kernel_rfl) (fun n e m' => ∃ (j : Nat) (R' : Rows) (cells' : List AV), e = [(0, .ptr l 0), (1, .ptr lm 0), (2, .ptr lk 0), (40, .i64 ks.length), (41, .i64 j)] ∧ m' = ⟨B, R', μT⟩ ∧ R'[id]? = some (some (0, cells')) ∧ InL R' ((ks.take j).map (markS m) ++ ks.drop j) cells' ids ∧ R'.length = R.length ∧ (∀ z, z ≠ id → z ∉ ids → R'[z]? = R[z]?) ∧ j ≤ ks.length ∧ n = ks.length - j) ks.length ⟨0, R, cells, rfl, rfl, hr, by simpa using hL, rfl, fun _ _ _ => rfl, by omega, by omega⟩ henv ?_
  rintro n e m' ⟨j, R', cells', rfl, rfl, hr', hL', hl', ho', hj, hn⟩ ih2
  simp -implicitDefEqProofs only [go_sem, Try.f55]
  refine SCond_dec (fun h => ?_) fun h => ?_
  · have hj' : j < ks.length := by omega
    rw [List.drop_eq_getElem_cons hj'] at hL'
    obtain ⟨c1, c2, i1, i2, rfl, rfl, g1, g2⟩ := hL'.split
    obtain ⟨cx, c3, ix, i3, rfl, rfl, g3, g4⟩ := InL_cons.1 g2
    have hc1 : c1.length = j * 5 := by rw [g1.len, List.length_map, List.length_take, Nat.min_eq_left hj]
    have hjl : (j : Int) < (ks.length : Int) := by omega
    simp -implicitDefEqProofs only [go_sem, hlk, hr0, h2, eq_true hjl]
    have hnd2 : (id :: (i1 ++ (ix ++ i3))).Nodup := hnd
    have hni := (List.nodup_cons.1 hnd2).1
    have hnn := (List.nodup_cons.1 hnd2).2
    have hixn : (id :: ix).Nodup := List.nodup_cons.2 ⟨fun h => hni (List.mem_append_right _ (List.mem_append_left _ h)), ((List.nodup_append.1 (List.nodup_append.1 hnn).2.1)).1⟩
    refine (DoesV.func (first := []) (args := [.vptr id (j * 5)]) (cap := [.ptr lm 0, .ptr lk 0]) (ih _ (List.getElem_mem hj') R' id (j * 5) c1 c3 cx ix hr' hc1 g3 hixn)).mono ?_
    rintro r m2 ⟨cs', R3, rfl, hr3, hin3, hl3, ho3⟩
    refine ⟨False.elim, ?_⟩
    simp -implicitDefEqProofs only [go_sem, inc64 j (by omega)]
    have hd1 : ∀ z ∈ i1, z ≠ id ∧ z ∉ ix := fun z hz => ⟨fun e => hni (e ▸ List.mem_append_left _ hz), fun h => (List.nodup_append.1 hnn).2.2 z hz z (List.mem_append_left _ h) rfl⟩
    have hd3 : ∀ z ∈ i3, z ≠ id ∧ z ∉ ix := fun z hz => ⟨fun e => hni (e ▸ List.mem_append_right _ (List.mem_append_right _ hz)), fun h => (List.nodup_append.1 (List.nodup_append.1 hnn).2.1).2.2 z h z hz rfl⟩
    refine ih2 (ks.length - (j + 1)) _ _ _ (by omega) ⟨j + 1, R3, c1 ++ (cs' ++ c3), rfl, rfl, hr3, ?_, hl3.trans hl', fun z h1 h2 => ?_, hj', rfl⟩ (by simp -implicitDefEqProofs only [go_sem] <;> repeat' (first | rfl | apply And.intro))
    · rw [List.take_succ_eq_append_getElem hj', List.map_append, List.append_assoc]
      exact (g1.frame fun z hz => ho3 z (hd1 z hz).1 (hd1 z hz).2).append (InL_cons.2 ⟨cs', c3, ix, i3, rfl, rfl, hin3, g4.frame fun z hz => ho3 z (hd3 z hz).1 (hd3 z hz).2⟩)
    · rw [ho3 z h1 (fun h => h2 (List.mem_append_right _ (List.mem_append_left _ h)))]
      exact ho' z h1 h2
  · simp -implicitDefEqProofs only [go_sem]
    have hjj : j = ks.length := by omega
    subst hjj
    rw [List.take_length, List.drop_length, List.append_nil] at hL'
    exact hQ R' cells' _ hr' hL' hl' ho'

theorem mark_top (m : T_cost_Model) (hE : m.Edges.length < 9223372036854775808) (B : List ABox) (R : Rows) (l lm lk : Nat) (h1 : l ≠ lm) (h2 : l ≠ lk) (hm : B[lm]? = some (.cells m.C)) (hk : B[lk]? = some (.cells [.func 55 [] [.ptr lm 0, .ptr lk 0]])) (t : T_api_Tree) (hsz : t.size ≤ 1000000)
    (cs : List AV) (ids : List Nat) (hb : B[l]? = some (.cells cs)) (hin : InT R t cs ids) (hnd : ids.Nodup) :
    Does Try.prog 55 [.ptr l 0, .ptr lm 0, .ptr lk 0] ⟨B, R, μT⟩ fun r m1 => ∃ cs' R', m1 = ⟨B.set l (.cells cs'), R', μT⟩ ∧ InT R' (markS m t) cs' ids := by
  have hcl := conj_len t
  have hkl := kids_len t
  obtain ⟨kv, rfl, hkv⟩ := InT_eq.1 hin
  have hlt : l < B.length := (List.getElem?_eq_some_iff.1 hb).1
  have fB : ∀ c, (List.set B l c)[l]? = some c := fun c => List.getElem?_set_self hlt
  have fk : ∀ c, (List.set B l c)[lk]? = some (.cells [.func 55 [] [.ptr lm 0, .ptr lk 0]]) := fun c => by rw [List.getElem?_set_ne h2]; exact hk
  have fm : ∀ c, (List.set B l c)[lm]? = some (.cells m.C) := fun c => by rw [List.getElem?_set_ne h1]; exact hm
  unfold treeC at hb
  rcases hkv with ⟨h1, rfl, rfl⟩ | ⟨id, cells, ids', h0, rfl, h2, rfl, h4⟩
  · refine Does.of_slim mix fn_55 ok_55 (by rfl) ?_; simp -implicitDefEqProofs only [go_sem, Try.f55]
    simp -implicitDefEqProofs only [go_sem, hm, hk, hb, fB]
    refine SLoop.induct mix fn_55 (by kernel_rfl) (fun n e m' => e = [(0, .ptr l 0), (1, .ptr lm 0), (2, .ptr lk 0), (40, .i64 0), (41, .i64 0)] ∧ m' = ⟨B.set l (.cells (treeH t (.slice .foreign []) (.bool false))), R, μT⟩) 0 ⟨rfl, rfl⟩ (by simp -implicitDefEqProofs only [go_sem] <;> repeat' (first | rfl | apply And.intro)) ?_
    rintro n e m' ⟨rfl, rfl⟩ ih2
    simp -implicitDefEqProofs only [go_sem, Try.f55]
    refine ⟨_, _, rfl, InT_eq.2 ⟨.slice .foreign [], ?_, .inl ⟨?_, rfl, rfl⟩⟩⟩
    · rw [treeC_mark, h1]; rfl
    · rw [markS_eq, h1]; rfl
  · by_cases hn : t.Kids.length = 2
    · obtain ⟨a, b, hab⟩ := two_kids hn
      have h5 := h4
      rw [hab] at h5
      obtain ⟨ca, cb, ia, i2, rfl, rfl, g1, g2⟩ := InL_cons.1 h5
      obtain ⟨cb, cc, ib, ic, rfl, rfl, g3, g4⟩ := InL_cons.1 g2
      obtain ⟨rfl, rfl⟩ := InL_nil.1 g4
      have e2 : ((t.Kids.length : Int) == 2) = true := by simp [hn]
      have e3 : decide ((t.Kids.length : Int) = 2) = true := decide_eq_true (by omega)
      have i0 := eq_true (show (0 : Int) < (t.Kids.length : Int) by omega)
      have i1 := eq_true (show (1 : Int) < (t.Kids.length : Int) by omega)
      have la := g1.len
      have lb := g3.len
      have ta : List.take 5 (ca ++ cb) = ca := by rw [← la, List.take_left]
      have tb : List.drop 5 (ca ++ cb) = cb := by rw [← la, List.drop_left]
      have tc : List.take 5 cb = cb := List.take_of_length_le (by omega)
      have l5 := eq_true (show 5 ≤ ca.length + cb.length by omega)
      have l10 := eq_true (show 5 + 5 ≤ ca.length + cb.length by omega)
      have sa := g1.strip
      have sb := g3.strip
      have hsa : a.size < 1000000 := by have := kid_size (show a ∈ t.Kids by rw [hab]; simp); omega
      have hsb : b.size < 1000000 := by have := kid_size (show b ∈ t.Kids by rw [hab]; simp); omega
      refine Does.of_slim mix fn_55 ok_55 (by rfl) ?_; simp -implicitDefEqProofs only [go_sem, Try.f55]
      simp -implicitDefEqProofs only [go_sem, hm, hk, hb, h2, fB, e2, e3, i0, i1, ta, tb, tc, l5, l10, sa, sb]
      refine DoesV.read (tables_fn a (by omega)) (.atom _) rfl g1.read ?_
      simp -implicitDefEqProofs only [go_sem, hm, hk, hb, h2, fB, e2, e3, i0, i1, ta, tb, tc, l5, l10, sa, sb]
      refine DoesV.read (tables_fn b (by omega)) (.atom _) rfl g3.read ?_
      simp -implicitDefEqProofs only [go_sem, hm, hk, hb, h2, fB, e2, e3, i0, i1, ta, tb, tc, l5, l10, sa, sb]
      have hw := keyed_fn m hE (tabs a) (tabs b) t.Conj (by omega)
      simp -implicitDefEqProofs only [go_sem] at hw
      refine DoesV.fn hw ?_
      simp -implicitDefEqProofs only [go_sem, hm, hk, hb, h2, fB, e2, e3, i0, i1, ta, tb, tc, l5, l10, sa, sb]
      refine mark_loopB m _ lm lk (fk _) t.Kids (fun y hy => mark_walk m hE _ lm lk (fm _) (fk _) y (by have := kid_size hy; omega)) (by omega) R id l _ _ _ (fB _) h2 h4 hnd rfl (by simp -implicitDefEqProofs only [go_sem] <;> repeat' (first | rfl | apply And.intro)) ?_
      intro R' cells' b0 hr1 hL' hl' ho'
      simp -implicitDefEqProofs only [go_sem]
      refine ⟨_, R', rfl, InT_eq.2 ⟨.vec id 0 t.Kids.length 5 .opn, ?_, .inr ⟨id, cells', _, ?_, ?_, hr1, rfl, ?_⟩⟩⟩
      · rw [treeC_mark]; unfold hashL; rw [hab]; rfl
      · rw [markS_kids]; simpa using h0
      · rw [markS_kids, List.length_map]
      · rw [markS_kids]; simpa using hL'
    · have e2 : ((t.Kids.length : Int) == 2) = false := by simp; omega
      have e3 : decide ((t.Kids.length : Int) = 2) = false := decide_eq_false (by omega)
      refine Does.of_slim mix fn_55 ok_55 (by rfl) ?_; simp -implicitDefEqProofs only [go_sem, Try.f55]
      simp -implicitDefEqProofs only [go_sem, hm, hk, hb, h2, fB, e2, e3]
      refine mark_loopB m _ lm lk (fk _) t.Kids (fun y hy => mark_walk m hE _ lm lk (fm _) (fk _) y (by have := kid_size hy; omega)) (by omega) R id l _ _ _ (fB _) h2 h4 hnd rfl (by simp -implicitDefEqProofs only [go_sem] <;> repeat' (first | rfl | apply And.intro)) ?_
      intro R' cells' b0 hr1 hL' hl' ho'
      simp -implicitDefEqProofs only [go_sem]
      refine ⟨_, R', rfl, InT_eq.2 ⟨.vec id 0 t.Kids.length 5 .opn, ?_, .inr ⟨id, cells', _, ?_, ?_, hr1, rfl, ?_⟩⟩⟩
      · rw [treeC_mark]; have : hashL m t.Kids t.Conj = false := by
          unfold hashL
          split
          · rename_i x y heq; rw [heq] at hn; exact absurd rfl hn
          · rfl
        rw [this]; rfl
      · rw [markS_kids]; simpa using h0
      · rw [markS_kids, List.length_map]
      · rw [markS_kids]; simpa using hL'
end Go.Proofs.Ytcfekacmmfdggaa.G
set_option linter.unusedVariables false
set_option linter.unusedSimpArgs false
set_option maxRecDepth 100000
namespace Go.Proofs.Ytcfekacmmfdggaa.G

theorem marked_fn (m : T_cost_Model) (hE : m.Edges.length < 9223372036854775808) (t : T_api_Tree) (hsz : t.size ≤ 1000000) : Fn Try.prog 19 [.agg m.C, .agg t.C] (.agg (T_api_Tree.C (markS m t))) := by
  refine Does.fn μT (flC (T_cost_Model.flatC _) (flC (T_api_Tree.flatC _) flN)) ?_
  have z : zeroT Try.prog 77 = some [.atom .nilFunc] := by kernel_rfl
  refine Does.of_slim mix fn_19 ok_19 (by rfl) ?_; simp -implicitDefEqProofs only [go_sem, Try.f19]
  refine DoesV.named (copy_walk t hsz _ []) ?_
  rintro r m2 ⟨cs, ids, B3, R3, rfl, rfl, hin, hnd, hge, hk3⟩
  refine ⟨False.elim, ?_⟩
  have b0 := hk3.box 0 (by simp)
  have b2 := hk3.box 2 (by simp)
  have hbl := hk3.blen
  simp at b0 b2 hbl
  have s1 := hin.strip
  have hl := hin.len
  simp -implicitDefEqProofs only [go_sem, b0, b2, s1, hl, z]
  refine (DoesV.func (first := []) (args := [.ptr B3.length 0]) (cap := [.ptr 0 0, .ptr (B3.length + 1) 0]) (mark_top m hE (B3 ++ [.cells cs, .cells [.func 55 [] [.ptr 0 0, .ptr (B3.length + 1) 0]]]) R3 B3.length 0 (B3.length + 1) (by omega) (by omega) (app_old b0 _) (by rw [List.getElem?_append_right (by omega), Nat.add_sub_cancel_left]; rfl) t hsz cs ids (by rw [List.getElem?_append_right (Nat.le_refl _), Nat.sub_self]; rfl) hin hnd)).mono ?_
  rintro r m2 ⟨cs', R4, rfl, hin'⟩
  refine ⟨False.elim, ?_⟩
  generalize hB4 : B3 ++ [.cells cs, .cells [.func 55 [] [.ptr 0 0, .ptr (B3.length + 1) 0]]] = B4
  have hlen4 : B4.length = B3.length + 2 := by rw [← hB4]; simp
  have c2 := app_old b2 [.cells cs, .cells [.func 55 [] [.ptr 0 0, .ptr (B3.length + 1) 0]]]
  rw [hB4] at c2
  have f1 : ∀ c, (List.set B4 B3.length c)[B3.length]? = some c := fun c => List.getElem?_set_self (by omega)
  have f2 := fun c => (List.getElem?_set_ne (l := B4) (i := B3.length) (j := 2) (a := c) (by omega)).trans c2
  have f3 : ∀ c d, (List.set (List.set B4 B3.length c) 2 d)[2]? = some d := fun c d => List.getElem?_set_self (by rw [List.length_set]; omega)
  have s2 := hin'.strip
  have hl2 := hin'.len
  have tk : List.take 5 cs' = cs' := List.take_of_length_le (by omega)
  simp -implicitDefEqProofs only [go_sem, f1, f2, f3, s2, hl2, tk]
  exact hin'.frzA
end Go.Proofs.Ytcfekacmmfdggaa.G
set_option linter.unusedVariables false
set_option linter.unusedSimpArgs false
namespace Go.Proofs.Ytcfekacmmfdggaa.G

def M_cost_Model_Marked (x : T_cost_Model × T_api_Tree) : Option T_api_Tree := if x.1.Edges.length < 9223372036854775808 ∧ x.2.size ≤ 1000000 then some (markS x.1 x.2) else none
theorem M_cost_Model_Marked.w (x : T_cost_Model × T_api_Tree) (r : T_api_Tree) (h : M_cost_Model_Marked x = some r) : Fn Try.prog 19 [.agg (T_cost_Model.C x.1), .agg (T_api_Tree.C x.2)] (.agg (T_api_Tree.C r)) := by
  unfold M_cost_Model_Marked at h
  split at h
  · rename_i hc
    injection h with h; subst h
    exact marked_fn x.1 hc.1 x.2 hc.2
  · cases h
theorem marked_eq (m : T_cost_Model) (t : T_api_Tree) (h1 : m.Edges.length < 9223372036854775808) (h2 : t.size ≤ 1000000) : M_cost_Model_Marked (m, t) = some (markS m t) := if_pos ⟨h1, h2⟩
end Go.Proofs.Ytcfekacmmfdggaa.G
set_option linter.unusedVariables false
set_option linter.unusedSimpArgs false
set_option maxRecDepth 100000
namespace Go.Proofs.Ytcfekacmmfdggaa.G
theorem lok_9 : (Try.f9.body.isSome && !(Try.f9.name == "runtime.NumGoroutine") && okL (bodyF Try.f9) Try.f9.ntmps (bodyF Try.f9)) = true := by kernel_rfl
def M_law28_Few (x : T_cost_Model) : Option (Bool) :=
  if (decide ((x.Edges.length : Int) ≤ 60)) = true then
    if (decide ((x.Stats.Rows.length : Int) ≤ 100)) = true then
      some (decide ((x.Stats.Sel.length : Int) ≤ 100))
    else
      some false
  else
    some false
set_option maxHeartbeats 8000000 in
theorem M_law28_Few.w : ∀ (x : T_cost_Model) (r : Bool), M_law28_Few x = some r → (fun (x : T_cost_Model) (r : Bool) => Fn Try.prog 9 [.agg (T_cost_Model.C x)] (.bool r)) x r := by
  intro x r h
  rw [M_law28_Few] at h
  try dsimp only
  refine Fn.of_lc mix fn_9 lok_9 (by rfl) (flC (T_cost_Model.flatC _) (flN)) (.atom _) ?_
  simp -implicitDefEqProofs only [go_sem, Try.f9]
  by_cases h1 : (decide ((x.Edges.length : Int) ≤ 60)) = true
  · replace h := ite_some h h1
    try simp -implicitDefEqProofs only [go_sem, h1]
    by_cases h2 : (decide ((x.Stats.Rows.length : Int) ≤ 100)) = true
    · replace h := ite_some h h2
      try simp -implicitDefEqProofs only [go_sem, h1, h2]
      injection h with h; subst h
      first | rfl | simp -implicitDefEqProofs only [go_sem, h1, h2] <;> rfl
    · replace h := ite_none h h2; replace h2 := bfalse h2
      try simp -implicitDefEqProofs only [go_sem, h1, h2]
      injection h with h; subst h
      first | rfl | simp -implicitDefEqProofs only [go_sem, h1, h2] <;> rfl
  · replace h := ite_none h h1; replace h1 := bfalse h1
    try simp -implicitDefEqProofs only [go_sem, h1]
    injection h with h; subst h
    first | rfl | simp -implicitDefEqProofs only [go_sem, h1] <;> rfl
end Go.Proofs.Ytcfekacmmfdggaa.G
set_option linter.unusedVariables false
set_option linter.unusedSimpArgs false
set_option maxRecDepth 100000
namespace Go.Proofs.Ytcfekacmmfdggaa.G
@[go_sem] theorem lrp_11_2 : lrp Try.prog 11 2 = (38, []) := by kernel_rfl
theorem lok_11 : (Try.f11.body.isSome && !(Try.f11.name == "runtime.NumGoroutine") && okL (bodyF Try.f11) Try.f11.ntmps (bodyF Try.f11)) = true := by kernel_rfl
def M_law28_awake (x : Unit) : Option (Bool) :=
  M_law10_Two 1 >>= fun r1 =>
  M_law28_Two 1 >>= fun r3 =>
  M_cost_Model_Tree (r3, r1) >>= fun r5 =>
  if (r5 == 100#64) = true then
    M_law28_Two 2 >>= fun r8 =>
    M_cost_Model_Tree (r8, r1) >>= fun r10 =>
    if (r10 == 130#64) = true then
      M_law28_Two 2 >>= fun r13 =>
      M_cost_Model_Node (r13, 1#64, 2#64, ([] : List T_api_Pred)) >>= fun r15 =>
      if (r15 == 300#64) = true then
        M_law28_Two 2 >>= fun r18 =>
        M_cost_Model_Marked (r18, r1) >>= fun r20 =>
        if r20.Hash = true then
          M_law28_Two 1 >>= fun r23 =>
          M_cost_Model_Marked (r23, r1) >>= fun r25 =>
          if r25.Hash = true then
            some false
          else
            M_law28_Two 2 >>= fun r28 =>
            (r1.Kids[0]?) >>= fun (e30 : T_api_Tree) =>
            M_cost_Model_Tree (r28, e30) >>= fun r32 =>
            some (r32 == 0#64)
        else
          some false
      else
        some false
    else
      some false
  else
    some false
set_option maxHeartbeats 8000000 in
theorem M_law28_awake.w : ∀ (x : Unit) (r : Bool), M_law28_awake x = some r → (fun (x : Unit) (r : Bool) => Fn Try.prog 11 [] (.bool r)) x r := by
  intro x r h
  rw [M_law28_awake] at h
  try dsimp only
  refine Fn.of_lc mix fn_11 lok_11 (by rfl) (flN) (.atom _) ?_
  simp -implicitDefEqProofs only [go_sem, Try.f11]
  obtain ⟨r1, h2, h⟩ := bind_some' h
  refine .plain _ _ rfl (M_law10_Two.w 1 _ h2) ?_
  try simp -implicitDefEqProofs only [go_sem]
  obtain ⟨r3, h4, h⟩ := bind_some' h
  refine .plain _ _ rfl (M_law28_Two.w 1 _ h4) ?_
  try simp -implicitDefEqProofs only [go_sem]
  obtain ⟨r5, h6, h⟩ := bind_some' h
  refine .plain _ _ rfl (M_cost_Model_Tree.w (r3, r1) _ h6) ?_
  try simp -implicitDefEqProofs only [go_sem]
  by_cases h7 : (r5 == 100#64) = true
  · replace h := ite_some h h7
    try simp -implicitDefEqProofs only [go_sem, h7]
    obtain ⟨r8, h9, h⟩ := bind_some' h
    refine .plain _ _ rfl (M_law28_Two.w 2 _ h9) ?_
    try simp -implicitDefEqProofs only [go_sem, h7]
    obtain ⟨r10, h11, h⟩ := bind_some' h
    refine .plain _ _ rfl (M_cost_Model_Tree.w (r8, r1) _ h11) ?_
    try simp -implicitDefEqProofs only [go_sem, h7]
    by_cases h12 : (r10 == 130#64) = true
    · replace h := ite_some h h12
      try simp -implicitDefEqProofs only [go_sem, h7, h12]
      obtain ⟨r13, h14, h⟩ := bind_some' h
      refine .plain _ _ rfl (M_law28_Two.w 2 _ h14) ?_
      try simp -implicitDefEqProofs only [go_sem, h7, h12]
      obtain ⟨r15, h16, h⟩ := bind_some' h
      refine .plain _ _ rfl (M_cost_Model_Node.w (r13, 1#64, 2#64, ([] : List T_api_Pred)) _ h16) ?_
      try simp -implicitDefEqProofs only [go_sem, h7, h12]
      by_cases h17 : (r15 == 300#64) = true
      · replace h := ite_some h h17
        try simp -implicitDefEqProofs only [go_sem, h7, h12, h17]
        obtain ⟨r18, h19, h⟩ := bind_some' h
        refine .plain _ _ rfl (M_law28_Two.w 2 _ h19) ?_
        try simp -implicitDefEqProofs only [go_sem, h7, h12, h17]
        obtain ⟨r20, h21, h⟩ := bind_some' h
        refine .plain _ _ rfl (M_cost_Model_Marked.w (r18, r1) _ h21) ?_
        try simp -implicitDefEqProofs only [go_sem, h7, h12, h17]
        by_cases h22 : r20.Hash = true
        · replace h := ite_some h h22
          try simp -implicitDefEqProofs only [go_sem, h7, h12, h17, h22]
          obtain ⟨r23, h24, h⟩ := bind_some' h
          refine .plain _ _ rfl (M_law28_Two.w 1 _ h24) ?_
          try simp -implicitDefEqProofs only [go_sem, h7, h12, h17, h22]
          obtain ⟨r25, h26, h⟩ := bind_some' h
          refine .plain _ _ rfl (M_cost_Model_Marked.w (r23, r1) _ h26) ?_
          try simp -implicitDefEqProofs only [go_sem, h7, h12, h17, h22]
          by_cases h27 : r25.Hash = true
          · replace h := ite_some h h27
            try simp -implicitDefEqProofs only [go_sem, h7, h12, h17, h22, h27]
            injection h with h; subst h
            first | rfl | simp -implicitDefEqProofs only [go_sem, h7, h12, h17, h22, h27] <;> rfl
          · replace h := ite_none h h27; replace h27 := bfalse h27
            try simp -implicitDefEqProofs only [go_sem, h7, h12, h17, h22, h27]
            obtain ⟨r28, h29, h⟩ := bind_some' h
            refine .plain _ _ rfl (M_law28_Two.w 2 _ h29) ?_
            try simp -implicitDefEqProofs only [go_sem, h7, h12, h17, h22, h27]
            obtain ⟨e30, h31, h⟩ := bind_some' h
            try simp -implicitDefEqProofs only [go_sem, h7, h12, h17, h22, h27, h31]
            obtain ⟨r32, h33, h⟩ := bind_some' h
            refine .plain _ _ rfl (M_cost_Model_Tree.w (r28, e30) _ h33) ?_
            try simp -implicitDefEqProofs only [go_sem, h7, h12, h17, h22, h27, h31]
            injection h with h; subst h
            first | rfl | simp -implicitDefEqProofs only [go_sem, h7, h12, h17, h22, h27, h31] <;> rfl
        · replace h := ite_none h h22; replace h22 := bfalse h22
          try simp -implicitDefEqProofs only [go_sem, h7, h12, h17, h22]
          injection h with h; subst h
          first | rfl | simp -implicitDefEqProofs only [go_sem, h7, h12, h17, h22] <;> rfl
      · replace h := ite_none h h17; replace h17 := bfalse h17
        try simp -implicitDefEqProofs only [go_sem, h7, h12, h17]
        injection h with h; subst h
        first | rfl | simp -implicitDefEqProofs only [go_sem, h7, h12, h17] <;> rfl
    · replace h := ite_none h h12; replace h12 := bfalse h12
      try simp -implicitDefEqProofs only [go_sem, h7, h12]
      injection h with h; subst h
      first | rfl | simp -implicitDefEqProofs only [go_sem, h7, h12] <;> rfl
  · replace h := ite_none h h7; replace h7 := bfalse h7
    try simp -implicitDefEqProofs only [go_sem, h7]
    injection h with h; subst h
    first | rfl | simp -implicitDefEqProofs only [go_sem, h7] <;> rfl
end Go.Proofs.Ytcfekacmmfdggaa.G
set_option linter.unusedVariables false
set_option linter.unusedSimpArgs false
set_option maxRecDepth 100000
namespace Go.Proofs.Ytcfekacmmfdggaa.G
@[go_sem] theorem lrp_20_5 : lrp Try.prog 20 5 = (10, []) := by kernel_rfl
@[go_sem] theorem lrp_20_7 : lrp Try.prog 20 7 = (15, []) := by kernel_rfl
theorem lok_20 : (Try.f20.body.isSome && !(Try.f20.name == "runtime.NumGoroutine") && okL (bodyF Try.f20) Try.f20.ntmps (bodyF Try.f20)) = true := by kernel_rfl
mutual
def M_ref28_Model_Marked.l0 (x : Int × T_ref28_Model × T_api_Tree × T_api_Tree × T_api_Tree) : Option (T_api_Tree) :=
  if (decide (x.1 < (x.2.2.1.Kids.length : Int))) = true then
    (getI x.2.2.1.Kids x.1) >>= fun (e2 : T_api_Tree) =>
    M_ref28_Model_Marked (x.2.1, e2) >>= fun r4 =>
    (room 72 x.2.2.2.2.Kids ([r4])) >>= fun (z6 : List T_api_Tree) =>
    M_ref28_Model_Marked.l0 ((w64 (x.1 + 1)), x.2.1, x.2.2.1, x.2.2.2.1, (⟨x.2.2.2.2.Kind, x.2.2.2.2.Table, z6, x.2.2.2.2.Conj, x.2.2.2.2.Hash⟩ : T_api_Tree))
  else
    some x.2.2.2.2
  partial_fixpoint
def M_ref28_Model_Marked (x : T_ref28_Model × T_api_Tree) : Option (T_api_Tree) :=
  M_ref28_Model_Marked.l0 (0, x.1, x.2, (⟨0, 0, [], [], false⟩ : T_api_Tree), (⟨x.2.Kind, x.2.Table, [], x.2.Conj, false⟩ : T_api_Tree)) >>= fun (o8 : T_api_Tree) =>
  if ((x.2.Kids.length : Int) == 2) = true then
    (x.2.Kids[0]?) >>= fun (e11 : T_api_Tree) =>
    M_ref10_Tables e11 >>= fun r13 =>
    (x.2.Kids[1]?) >>= fun (e15 : T_api_Tree) =>
    M_ref10_Tables e15 >>= fun r17 =>
    M_ref28_Model_Keyed (x.1, r13, r17, x.2.Conj) >>= fun r19 =>
    some (⟨o8.Kind, o8.Table, o8.Kids, o8.Conj, r19⟩ : T_api_Tree)
  else
    some o8
  partial_fixpoint
end
theorem M_ref28_Model_Marked.l0.ws : (∀ (x : Int × T_ref28_Model × T_api_Tree × T_api_Tree × T_api_Tree) (o : T_api_Tree), M_ref28_Model_Marked.l0 x = some o → (fun (x : Int × T_ref28_Model × T_api_Tree × T_api_Tree × T_api_Tree) (o : T_api_Tree) => ∀ (lo : Option Nat) (c : LCtx) (Q : Exit → LEnv → Prop) (hb : ∀ s : T_api_Tree, o = s → Q (.exit 0) ⟨[(2, .lref 2 0), (3, .lref 3 0), (4, .lref 4 0), (5, .lref 5 0)], [(2, [.v (.i64 x.2.1.Kind), .v (.slice .foreign (x.2.1.Edges.map T_api_Edge.av)), .v (.slice .foreign (x.2.1.Stats.Rows.map AV.w)), .v (.slice .foreign (x.2.1.Stats.Sel.map AV.w))]), (3, [.v (.i64 x.2.2.1.Kind), .v (.i64 x.2.2.1.Table), .v (.slice .foreign (x.2.2.1.Kids.map T_api_Tree.av)), .v (.slice .foreign (x.2.2.1.Conj.map T_api_Pred.av)), .v (.bool x.2.2.1.Hash)]), (4, [.v (.i64 x.2.2.2.1.Kind), .v (.i64 x.2.2.2.1.Table), .own 20000402 5 (x.2.2.2.1.Kids.map T_api_Tree.av), .own 20000403 14 (x.2.2.2.1.Conj.map T_api_Pred.av), .v (.bool x.2.2.2.1.Hash)]), (5, [.v (.i64 s.Kind), .v (.i64 s.Table), .own 20000502 5 (s.Kids.map T_api_Tree.av), .v (.slice .foreign (s.Conj.map T_api_Pred.av)), .v (.bool s.Hash)])]⟩), LLoop Try.prog 20 lo c 0 (VQ Q) ⟨[(2, .lref 2 0), (3, .lref 3 0), (4, .lref 4 0), (5, .lref 5 0), (6, .v (.i64 x.1))], [(2, [.v (.i64 x.2.1.Kind), .v (.slice .foreign (x.2.1.Edges.map T_api_Edge.av)), .v (.slice .foreign (x.2.1.Stats.Rows.map AV.w)), .v (.slice .foreign (x.2.1.Stats.Sel.map AV.w))]), (3, [.v (.i64 x.2.2.1.Kind), .v (.i64 x.2.2.1.Table), .v (.slice .foreign (x.2.2.1.Kids.map T_api_Tree.av)), .v (.slice .foreign (x.2.2.1.Conj.map T_api_Pred.av)), .v (.bool x.2.2.1.Hash)]), (4, [.v (.i64 x.2.2.2.1.Kind), .v (.i64 x.2.2.2.1.Table), .own 20000402 5 (x.2.2.2.1.Kids.map T_api_Tree.av), .own 20000403 14 (x.2.2.2.1.Conj.map T_api_Pred.av), .v (.bool x.2.2.2.1.Hash)]), (5, [.v (.i64 x.2.2.2.2.Kind), .v (.i64 x.2.2.2.2.Table), .own 20000502 5 (x.2.2.2.2.Kids.map T_api_Tree.av), .v (.slice .foreign (x.2.2.2.2.Conj.map T_api_Pred.av)), .v (.bool x.2.2.2.2.Hash)])]⟩) x o) ∧ (∀ (x : T_ref28_Model × T_api_Tree) (o : T_api_Tree), M_ref28_Model_Marked x = some o → (fun (x : T_ref28_Model × T_api_Tree) (r : T_api_Tree) => Fn Try.prog 20 [.agg (T_ref28_Model.C x.1), .agg (T_api_Tree.C x.2)] (.agg (T_api_Tree.C r))) x o) := by
  refine M_ref28_Model_Marked.l0.mutual_partial_correctness _ _ ?_ ?_
  · intro M_M_ref28_Model_Marked_l0 M_M_ref28_Model_Marked ih_M_ref28_Model_Marked_l0 ih_M_ref28_Model_Marked x o h
    intro lo c Q hb
    refine LLoop.step mix fn_20 (by kernel_rfl) ?_
    simp -implicitDefEqProofs only [go_sem, Try.f20]
    by_cases h1 : (decide (x.1 < (x.2.2.1.Kids.length : Int))) = true
    · replace h := ite_some h h1
      try simp -implicitDefEqProofs only [go_sem, h1]
      obtain ⟨e2, h3, h⟩ := bind_some' h; replace h3 := getI_some h3; obtain ⟨h3', h3⟩ := h3
      try simp -implicitDefEqProofs only [go_sem, h1, h3, h3']
      obtain ⟨r4, h5, h⟩ := bind_some' h
      refine .plain _ _ rfl (ih_M_ref28_Model_Marked (x.2.1, e2) _ h5) ?_
      try simp -implicitDefEqProofs only [go_sem, h1, h3, h3']
      obtain ⟨z6, h7, h⟩ := bind_some' h; replace h7 := room_some h7; obtain ⟨h7', rfl⟩ := h7
      refine LApp.map (F := T_api_Tree.av) (xs := x.2.2.2.2.Kids) (ys := [r4]) t28_elem t31_size t31_bytes t31_zsize rfl T_api_Tree.len (by (first | rfl | simp -implicitDefEqProofs only [go_sem, h1, h3, h3'] <;> rfl)) (by (first | rfl | simp -implicitDefEqProofs only [go_sem, h1, h3, h3'] <;> rfl)) h7' ?_
      try simp -implicitDefEqProofs only [go_sem, h1, h3, h3']
      exact LLoop.view [(20000402, some 20000402), (20000403, some 20000403), (20000502, some 31)] (by (first | rfl | simp -implicitDefEqProofs only [go_sem, h1, h3, h3'] <;> rfl)) (ih_M_ref28_Model_Marked_l0 _ _ h lo c Q hb)
    · replace h := ite_none h h1; replace h1 := bfalse h1
      try simp -implicitDefEqProofs only [go_sem, h1]
      injection h with h; subst h
      exact .inr ⟨[(20000402, some 20000402), (20000403, some 20000403), (20000502, some 20000502)], _, by (simp -implicitDefEqProofs only [go_sem, h1] <;> first | done | rfl | trivial), hb _ rfl⟩
  · intro M_M_ref28_Model_Marked_l0 ih_M_ref28_Model_Marked_l0 x r h
    refine Fn.of_lc mix fn_20 lok_20 (by rfl) (flC (T_ref28_Model.flatC _) (flC (T_api_Tree.flatC _) (flN))) (T_api_Tree.flatC _) ?_
    simp -implicitDefEqProofs only [go_sem, Try.f20]
    obtain ⟨o8, h9, h⟩ := bind_some' h
    refine LLoop.viewQ (LLoop.view [(20000402, none), (20000403, none), (20000502, none)] (by (first | rfl | simp -implicitDefEqProofs only [go_sem] <;> rfl)) (ih_M_ref28_Model_Marked_l0 (0, x.1, x.2, (⟨0, 0, [], [], false⟩ : T_api_Tree), (⟨x.2.Kind, x.2.Table, [], x.2.Conj, false⟩ : T_api_Tree)) _ h9 _ _ _ ?_))
    intro s' hs'; subst hs'
    try simp -implicitDefEqProofs only [go_sem]
    by_cases h10 : ((x.2.Kids.length : Int) == 2) = true
    · replace h := ite_some h h10
      try simp -implicitDefEqProofs only [go_sem, h10]
      obtain ⟨e11, h12, h⟩ := bind_some' h
      try simp -implicitDefEqProofs only [go_sem, h10, h12]
      obtain ⟨r13, h14, h⟩ := bind_some' h
      refine .plain _ _ rfl (M_ref10_Tables.w e11 _ h14) ?_
      try simp -implicitDefEqProofs only [go_sem, h10, h12]
      obtain ⟨e15, h16, h⟩ := bind_some' h
      try simp -implicitDefEqProofs only [go_sem, h10, h12, h16]
      obtain ⟨r17, h18, h⟩ := bind_some' h
      refine .plain _ _ rfl (M_ref10_Tables.w e15 _ h18) ?_
      try simp -implicitDefEqProofs only [go_sem, h10, h12, h16]
      obtain ⟨r19, h20, h⟩ := bind_some' h
      refine .plain _ _ rfl (M_ref28_Model_Keyed.w (x.1, r13, r17, x.2.Conj) _ h20) ?_
      try simp -implicitDefEqProofs only [go_sem, h10, h12, h16]
      injection h with h; subst h
      first | rfl | simp -implicitDefEqProofs only [go_sem, h10, h12, h16] <;> rfl
    · replace h := ite_none h h10; replace h10 := bfalse h10
      try simp -implicitDefEqProofs only [go_sem, h10]
      injection h with h; subst h
      first | rfl | simp -implicitDefEqProofs only [go_sem, h10] <;> rfl
theorem M_ref28_Model_Marked.w : type_of% (M_ref28_Model_Marked.l0.ws.2) := (M_ref28_Model_Marked.l0.ws.2)
end Go.Proofs.Ytcfekacmmfdggaa.G
set_option linter.unusedVariables false
set_option linter.unusedSimpArgs false
set_option maxRecDepth 100000
namespace Go.Proofs.Ytcfekacmmfdggaa.G
@[go_sem] theorem lrp_3_4 : lrp Try.prog 3 4 = (58, []) := by kernel_rfl
theorem lok_3 : (Try.f3.body.isSome && !(Try.f3.name == "runtime.NumGoroutine") && okL (bodyF Try.f3) Try.f3.ntmps (bodyF Try.f3)) = true := by kernel_rfl
def M_law28_CostTells (x : T_cost_Model × T_api_Tree × A2_Set64) : Option (Bool) :=
  M_law28_Few x.1 >>= fun r1 =>
  if r1 = true then
    M_ref10_Size (x.2.1, 301) >>= fun r4 =>
    if (decide (r4 > 300)) = true then
      M_law28_awake () >>= fun r7 =>
      some r7
    else
      M_cost_Model_Keyed (x.1, x.2.2.e0, x.2.2.e1, x.2.1.Conj) >>= fun r9 =>
      M_ref28_Model_Keyed ((⟨x.1.Kind, x.1.Edges, x.1.Stats⟩ : T_ref28_Model), x.2.2.e0, x.2.2.e1, x.2.1.Conj) >>= fun r11 =>
      if r9 = true then
        if r11 = true then
          M_cost_Model_Node (x.1, x.2.2.e0, x.2.2.e1, x.2.1.Conj) >>= fun r15 =>
          M_ref28_Model_Node ((⟨x.1.Kind, x.1.Edges, x.1.Stats⟩ : T_ref28_Model), x.2.2.e0, x.2.2.e1, x.2.1.Conj) >>= fun r17 =>
          if (r15 == r17) = true then
            M_cost_Model_Tree (x.1, x.2.1) >>= fun r20 =>
            M_ref28_Model_Tree ((⟨x.1.Kind, x.1.Edges, x.1.Stats⟩ : T_ref28_Model), x.2.1) >>= fun r22 =>
            if (r20 == r22) = true then
              M_cost_Model_Marked (x.1, x.2.1) >>= fun r25 =>
              M_ref28_Model_Marked ((⟨x.1.Kind, x.1.Edges, x.1.Stats⟩ : T_ref28_Model), x.2.1) >>= fun r27 =>
              M_ref10_Same (r25, r27) >>= fun r29 =>
              if r29 = true then
                M_law28_awake () >>= fun r32 =>
                some r32
              else
                some false
            else
              some false
          else
            some false
        else
          some false
      else
        if r11 = true then
          some false
        else
          M_cost_Model_Node (x.1, x.2.2.e0, x.2.2.e1, x.2.1.Conj) >>= fun r35 =>
          M_ref28_Model_Node ((⟨x.1.Kind, x.1.Edges, x.1.Stats⟩ : T_ref28_Model), x.2.2.e0, x.2.2.e1, x.2.1.Conj) >>= fun r37 =>
          if (r35 == r37) = true then
            M_cost_Model_Tree (x.1, x.2.1) >>= fun r40 =>
            M_ref28_Model_Tree ((⟨x.1.Kind, x.1.Edges, x.1.Stats⟩ : T_ref28_Model), x.2.1) >>= fun r42 =>
            if (r40 == r42) = true then
              M_cost_Model_Marked (x.1, x.2.1) >>= fun r45 =>
              M_ref28_Model_Marked ((⟨x.1.Kind, x.1.Edges, x.1.Stats⟩ : T_ref28_Model), x.2.1) >>= fun r47 =>
              M_ref10_Same (r45, r47) >>= fun r49 =>
              if r49 = true then
                M_law28_awake () >>= fun r52 =>
                some r52
              else
                some false
            else
              some false
          else
            some false
  else
    M_law28_awake () >>= fun r54 =>
    some r54
set_option maxHeartbeats 8000000 in
theorem M_law28_CostTells.w : ∀ (x : T_cost_Model × T_api_Tree × A2_Set64) (r : Bool), M_law28_CostTells x = some r → (fun (x : T_cost_Model × T_api_Tree × A2_Set64) (r : Bool) => Fn Try.prog 3 [.agg (T_cost_Model.C x.1), .agg (T_api_Tree.C x.2.1), .agg (A2_Set64.C x.2.2)] (.bool r)) x r := by
  intro x r h
  rw [M_law28_CostTells] at h
  try dsimp only
  refine Fn.of_lc mix fn_3 lok_3 (by rfl) (flC (T_cost_Model.flatC _) (flC (T_api_Tree.flatC _) (flC (A2_Set64.flatC _) (flN)))) (.atom _) ?_
  simp -implicitDefEqProofs only [go_sem, Try.f3]
  obtain ⟨r1, h2, h⟩ := bind_some' h
  refine .plain _ _ rfl (M_law28_Few.w x.1 _ h2) ?_
  try simp -implicitDefEqProofs only [go_sem]
  by_cases h3 : r1 = true
  · replace h := ite_some h h3
    try simp -implicitDefEqProofs only [go_sem, h3]
    obtain ⟨r4, h5, h⟩ := bind_some' h
    refine .plain _ _ rfl (M_ref10_Size.w (x.2.1, 301) _ h5) ?_
    try simp -implicitDefEqProofs only [go_sem, h3]
    by_cases h6 : (decide (r4 > 300)) = true
    · replace h := ite_some h h6
      try simp -implicitDefEqProofs only [go_sem, h3, h6]
      obtain ⟨r7, h8, h⟩ := bind_some' h
      refine .plain _ _ rfl (M_law28_awake.w () _ h8) ?_
      try simp -implicitDefEqProofs only [go_sem, h3, h6]
      injection h with h; subst h
      first | rfl | simp -implicitDefEqProofs only [go_sem, h3, h6] <;> rfl
    · replace h := ite_none h h6; replace h6 := bfalse h6
      try simp -implicitDefEqProofs only [go_sem, h3, h6]
      obtain ⟨r9, h10, h⟩ := bind_some' h
      refine .plain _ _ rfl (M_cost_Model_Keyed.w (x.1, x.2.2.e0, x.2.2.e1, x.2.1.Conj) _ h10) ?_
      try simp -implicitDefEqProofs only [go_sem, h3, h6]
      obtain ⟨r11, h12, h⟩ := bind_some' h
      refine .plain _ _ rfl (M_ref28_Model_Keyed.w ((⟨x.1.Kind, x.1.Edges, x.1.Stats⟩ : T_ref28_Model), x.2.2.e0, x.2.2.e1, x.2.1.Conj) _ h12) ?_
      try simp -implicitDefEqProofs only [go_sem, h3, h6]
      by_cases h13 : r9 = true
      · replace h := ite_some h h13
        try simp -implicitDefEqProofs only [go_sem, h3, h6, h13]
        by_cases h14 : r11 = true
        · replace h := ite_some h h14
          try simp -implicitDefEqProofs only [go_sem, h3, h6, h13, h14]
          obtain ⟨r15, h16, h⟩ := bind_some' h
          refine .plain _ _ rfl (M_cost_Model_Node.w (x.1, x.2.2.e0, x.2.2.e1, x.2.1.Conj) _ h16) ?_
          try simp -implicitDefEqProofs only [go_sem, h3, h6, h13, h14]
          obtain ⟨r17, h18, h⟩ := bind_some' h
          refine .plain _ _ rfl (M_ref28_Model_Node.w ((⟨x.1.Kind, x.1.Edges, x.1.Stats⟩ : T_ref28_Model), x.2.2.e0, x.2.2.e1, x.2.1.Conj) _ h18) ?_
          try simp -implicitDefEqProofs only [go_sem, h3, h6, h13, h14]
          by_cases h19 : (r15 == r17) = true
          · replace h := ite_some h h19
            try simp -implicitDefEqProofs only [go_sem, h3, h6, h13, h14, h19]
            obtain ⟨r20, h21, h⟩ := bind_some' h
            refine .plain _ _ rfl (M_cost_Model_Tree.w (x.1, x.2.1) _ h21) ?_
            try simp -implicitDefEqProofs only [go_sem, h3, h6, h13, h14, h19]
            obtain ⟨r22, h23, h⟩ := bind_some' h
            refine .plain _ _ rfl (M_ref28_Model_Tree.w ((⟨x.1.Kind, x.1.Edges, x.1.Stats⟩ : T_ref28_Model), x.2.1) _ h23) ?_
            try simp -implicitDefEqProofs only [go_sem, h3, h6, h13, h14, h19]
            by_cases h24 : (r20 == r22) = true
            · replace h := ite_some h h24
              try simp -implicitDefEqProofs only [go_sem, h3, h6, h13, h14, h19, h24]
              obtain ⟨r25, h26, h⟩ := bind_some' h
              refine .plain _ _ rfl (M_cost_Model_Marked.w (x.1, x.2.1) _ h26) ?_
              try simp -implicitDefEqProofs only [go_sem, h3, h6, h13, h14, h19, h24]
              obtain ⟨r27, h28, h⟩ := bind_some' h
              refine .plain _ _ rfl (M_ref28_Model_Marked.w ((⟨x.1.Kind, x.1.Edges, x.1.Stats⟩ : T_ref28_Model), x.2.1) _ h28) ?_
              try simp -implicitDefEqProofs only [go_sem, h3, h6, h13, h14, h19, h24]
              obtain ⟨r29, h30, h⟩ := bind_some' h
              refine .plain _ _ rfl (M_ref10_Same.w (r25, r27) _ h30) ?_
              try simp -implicitDefEqProofs only [go_sem, h3, h6, h13, h14, h19, h24]
              by_cases h31 : r29 = true
              · replace h := ite_some h h31
                try simp -implicitDefEqProofs only [go_sem, h3, h6, h13, h14, h19, h24, h31]
                obtain ⟨r32, h33, h⟩ := bind_some' h
                refine .plain _ _ rfl (M_law28_awake.w () _ h33) ?_
                try simp -implicitDefEqProofs only [go_sem, h3, h6, h13, h14, h19, h24, h31]
                injection h with h; subst h
                first | rfl | simp -implicitDefEqProofs only [go_sem, h3, h6, h13, h14, h19, h24, h31] <;> rfl
              · replace h := ite_none h h31; replace h31 := bfalse h31
                try simp -implicitDefEqProofs only [go_sem, h3, h6, h13, h14, h19, h24, h31]
                injection h with h; subst h
                first | rfl | simp -implicitDefEqProofs only [go_sem, h3, h6, h13, h14, h19, h24, h31] <;> rfl
            · replace h := ite_none h h24; replace h24 := bfalse h24
              try simp -implicitDefEqProofs only [go_sem, h3, h6, h13, h14, h19, h24]
              injection h with h; subst h
              first | rfl | simp -implicitDefEqProofs only [go_sem, h3, h6, h13, h14, h19, h24] <;> rfl
          · replace h := ite_none h h19; replace h19 := bfalse h19
            try simp -implicitDefEqProofs only [go_sem, h3, h6, h13, h14, h19]
            injection h with h; subst h
            first | rfl | simp -implicitDefEqProofs only [go_sem, h3, h6, h13, h14, h19] <;> rfl
        · replace h := ite_none h h14; replace h14 := bfalse h14
          try simp -implicitDefEqProofs only [go_sem, h3, h6, h13, h14]
          injection h with h; subst h
          first | rfl | simp -implicitDefEqProofs only [go_sem, h3, h6, h13, h14] <;> rfl
      · replace h := ite_none h h13; replace h13 := bfalse h13
        try simp -implicitDefEqProofs only [go_sem, h3, h6, h13]
        by_cases h34 : r11 = true
        · replace h := ite_some h h34
          try simp -implicitDefEqProofs only [go_sem, h3, h6, h13, h34]
          injection h with h; subst h
          first | rfl | simp -implicitDefEqProofs only [go_sem, h3, h6, h13, h34] <;> rfl
        · replace h := ite_none h h34; replace h34 := bfalse h34
          try simp -implicitDefEqProofs only [go_sem, h3, h6, h13, h34]
          obtain ⟨r35, h36, h⟩ := bind_some' h
          refine .plain _ _ rfl (M_cost_Model_Node.w (x.1, x.2.2.e0, x.2.2.e1, x.2.1.Conj) _ h36) ?_
          try simp -implicitDefEqProofs only [go_sem, h3, h6, h13, h34]
          obtain ⟨r37, h38, h⟩ := bind_some' h
          refine .plain _ _ rfl (M_ref28_Model_Node.w ((⟨x.1.Kind, x.1.Edges, x.1.Stats⟩ : T_ref28_Model), x.2.2.e0, x.2.2.e1, x.2.1.Conj) _ h38) ?_
          try simp -implicitDefEqProofs only [go_sem, h3, h6, h13, h34]
          by_cases h39 : (r35 == r37) = true
          · replace h := ite_some h h39
            try simp -implicitDefEqProofs only [go_sem, h3, h6, h13, h34, h39]
            obtain ⟨r40, h41, h⟩ := bind_some' h
            refine .plain _ _ rfl (M_cost_Model_Tree.w (x.1, x.2.1) _ h41) ?_
            try simp -implicitDefEqProofs only [go_sem, h3, h6, h13, h34, h39]
            obtain ⟨r42, h43, h⟩ := bind_some' h
            refine .plain _ _ rfl (M_ref28_Model_Tree.w ((⟨x.1.Kind, x.1.Edges, x.1.Stats⟩ : T_ref28_Model), x.2.1) _ h43) ?_
            try simp -implicitDefEqProofs only [go_sem, h3, h6, h13, h34, h39]
            by_cases h44 : (r40 == r42) = true
            · replace h := ite_some h h44
              try simp -implicitDefEqProofs only [go_sem, h3, h6, h13, h34, h39, h44]
              obtain ⟨r45, h46, h⟩ := bind_some' h
              refine .plain _ _ rfl (M_cost_Model_Marked.w (x.1, x.2.1) _ h46) ?_
              try simp -implicitDefEqProofs only [go_sem, h3, h6, h13, h34, h39, h44]
              obtain ⟨r47, h48, h⟩ := bind_some' h
              refine .plain _ _ rfl (M_ref28_Model_Marked.w ((⟨x.1.Kind, x.1.Edges, x.1.Stats⟩ : T_ref28_Model), x.2.1) _ h48) ?_
              try simp -implicitDefEqProofs only [go_sem, h3, h6, h13, h34, h39, h44]
              obtain ⟨r49, h50, h⟩ := bind_some' h
              refine .plain _ _ rfl (M_ref10_Same.w (r45, r47) _ h50) ?_
              try simp -implicitDefEqProofs only [go_sem, h3, h6, h13, h34, h39, h44]
              by_cases h51 : r49 = true
              · replace h := ite_some h h51
                try simp -implicitDefEqProofs only [go_sem, h3, h6, h13, h34, h39, h44, h51]
                obtain ⟨r52, h53, h⟩ := bind_some' h
                refine .plain _ _ rfl (M_law28_awake.w () _ h53) ?_
                try simp -implicitDefEqProofs only [go_sem, h3, h6, h13, h34, h39, h44, h51]
                injection h with h; subst h
                first | rfl | simp -implicitDefEqProofs only [go_sem, h3, h6, h13, h34, h39, h44, h51] <;> rfl
              · replace h := ite_none h h51; replace h51 := bfalse h51
                try simp -implicitDefEqProofs only [go_sem, h3, h6, h13, h34, h39, h44, h51]
                injection h with h; subst h
                first | rfl | simp -implicitDefEqProofs only [go_sem, h3, h6, h13, h34, h39, h44, h51] <;> rfl
            · replace h := ite_none h h44; replace h44 := bfalse h44
              try simp -implicitDefEqProofs only [go_sem, h3, h6, h13, h34, h39, h44]
              injection h with h; subst h
              first | rfl | simp -implicitDefEqProofs only [go_sem, h3, h6, h13, h34, h39, h44] <;> rfl
          · replace h := ite_none h h39; replace h39 := bfalse h39
            try simp -implicitDefEqProofs only [go_sem, h3, h6, h13, h34, h39]
            injection h with h; subst h
            first | rfl | simp -implicitDefEqProofs only [go_sem, h3, h6, h13, h34, h39] <;> rfl
  · replace h := ite_none h h3; replace h3 := bfalse h3
    try simp -implicitDefEqProofs only [go_sem, h3]
    obtain ⟨r54, h55, h⟩ := bind_some' h
    refine .plain _ _ rfl (M_law28_awake.w () _ h55) ?_
    try simp -implicitDefEqProofs only [go_sem, h3]
    injection h with h; subst h
    first | rfl | simp -implicitDefEqProofs only [go_sem, h3] <;> rfl
end Go.Proofs.Ytcfekacmmfdggaa.G
set_option linter.unusedVariables false
set_option linter.unusedSimpArgs false
namespace Go.Proofs.Ytcfekacmmfdggaa.G

theorem mark_size (m : T_cost_Model) (t : T_api_Tree) : (markS m t).size = t.size := by
  induction t using T_api_Tree.induct with
  | h t ih =>
    rw [markS_eq, tsize_eq, tsize_eq t]
    dsimp only
    rw [List.map_map]
    congr 2
    exact List.map_congr_left fun y hy => ih y hy
theorem ref28_Marked_eq (m : T_cost_Model) (hE : m.Edges.length < 9223372036854775808) (t : T_api_Tree) : t.size ≤ 1000000 → M_ref28_Model_Marked ((⟨m.Kind, m.Edges, m.Stats⟩ : T_ref28_Model), t) = some (markS m t) := by
  induction t using T_api_Tree.induct with
  | h t ih =>
    intro hsz
    have hcl := conj_len t
    have hkl := kids_len t
    have key : ∀ (z : T_api_Tree) (post pre : List T_api_Tree), t.Kids = pre ++ post →
        M_ref28_Model_Marked.l0 ((pre.length : Int), (⟨m.Kind, m.Edges, m.Stats⟩ : T_ref28_Model), t, z, (⟨t.Kind, t.Table, pre.map (markS m), t.Conj, false⟩ : T_api_Tree)) = some ⟨t.Kind, t.Table, t.Kids.map (markS m), t.Conj, false⟩ := by
      intro z post
      induction post with
      | nil =>
        intro pre h
        rw [List.append_nil] at h
        subst h
        rw [M_ref28_Model_Marked.l0, if_neg (dge (by dsimp only; omega))]
      | cons y post ih2 =>
        intro pre h
        have hlen : t.Kids.length = pre.length + (post.length + 1) := by rw [h, List.length_append]; rfl
        have hy : y ∈ t.Kids := by rw [h]; simp
        have hys := kid_size hy
        have h0 := ih2 (pre ++ [y]) (by rw [h, List.append_assoc]; rfl)
        rw [snoc_ln, List.map_append] at h0
        have g : getI t.Kids (pre.length : Int) = some y := by rw [h]; exact getI_md pre y post
        rw [M_ref28_Model_Marked.l0, if_pos (dlt (by dsimp only; omega))]
        dsimp only
        rw [g]
        simp -implicitDefEqProofs only [Option.bind_eq_bind, Option.bind_some]
        rw [ih y hy (by omega)]
        simp -implicitDefEqProofs only [Option.bind_some]
        rw [room_of (by simp only [List.length_map, List.length_cons, List.length_nil]; omega), w64_succ (by omega)]
        exact h0
    have h0 := key ⟨0, 0, [], [], false⟩ t.Kids [] rfl
    rw [show (([] : List T_api_Tree).length : Int) = 0 from rfl, List.map_nil] at h0
    rw [M_ref28_Model_Marked]
    dsimp only
    rw [h0]
    simp -implicitDefEqProofs only [Option.bind_eq_bind, Option.bind_some]
    by_cases hn : t.Kids.length = 2
    · obtain ⟨a, b, hab⟩ := two_kids hn
      have ha : a.size < t.size := kid_size (by rw [hab]; simp)
      have hb : b.size < t.size := kid_size (by rw [hab]; simp)
      have k0 : t.Kids[0]? = some a := by rw [hab]; rfl
      have k1 : t.Kids[1]? = some b := by rw [hab]; rfl
      rw [if_pos (by simp [hn]), k0, k1]
      simp -implicitDefEqProofs only [Option.bind_some]
      rw [ref10_Tables_eq a (by omega), ref10_Tables_eq b (by omega)]
      simp -implicitDefEqProofs only [Option.bind_some]
      rw [ref28_Keyed_eq _ _ _ _ hE (by omega)]
      simp -implicitDefEqProofs only [Option.bind_some]
      rw [markS_eq]
      unfold hashL
      rw [hab]
    · rw [if_neg (by simp; omega), markS_eq]
      have : hashL m t.Kids t.Conj = false := by
        unfold hashL
        split
        · rename_i x y heq; rw [heq] at hn; exact absurd rfl hn
        · rfl
      rw [this]
/- What is always asked. -/
def kMod (k : Int) : T_cost_Model := ⟨k, [⟨1, [eq01], 3#64, 1#64, 2#64⟩], ⟨[10#64, 20#64], [32768#64]⟩⟩
theorem kMod_eq (k : Int) : M_law28_Two k = some (kMod k) := law28_Two_eq k
theorem cost_k1 : costS (nodeS (kMod 1).Kind (kMod 1).Edges (kMod 1).Stats) (two 1 0 1) = 100#64 := by kernel_rfl
theorem cost_k2 : costS (nodeS (kMod 2).Kind (kMod 2).Edges (kMod 2).Stats) (two 1 0 1) = 130#64 := by kernel_rfl
theorem node_k2 : nodeS (kMod 2).Kind (kMod 2).Edges (kMod 2).Stats 1#64 2#64 [] = 300#64 := by kernel_rfl
theorem hash_k2 : (markS (kMod 2) (two 1 0 1)).Hash = true := by rw [markS_eq]; kernel_rfl
theorem hash_k1 : (markS (kMod 1) (two 1 0 1)).Hash = false := by rw [markS_eq]; kernel_rfl
theorem law28_awake_tells : M_law28_awake () = some true := by
  unfold M_law28_awake
  have s1 : (two 1 0 1).size ≤ 1000000 := by rw [two_size]; omega
  have s0 : (lf 0).size ≤ 1000000000 := by rw [lf_size]; omega
  have hE : ∀ k, (kMod k).Edges.length < 9223372036854775808 := fun k => by simp [kMod]
  rw [law10_Two_eq, kMod_eq, kMod_eq]
  simp -implicitDefEqProofs only [Option.bind_eq_bind, Option.bind_some]
  rw [cost_Tree_eq _ (hE 1) _ (by omega), cost_k1]
  simp -implicitDefEqProofs only [Option.bind_some]
  rw [if_pos (by rfl), cost_Tree_eq _ (hE 2) _ (by omega), cost_k2]
  simp -implicitDefEqProofs only [Option.bind_some]
  rw [if_pos (by rfl), cost_Node_eq _ _ _ _ (hE 2) (by simp), node_k2]
  simp -implicitDefEqProofs only [Option.bind_some]
  rw [if_pos (by rfl), marked_eq _ _ (hE 2) s1]
  simp -implicitDefEqProofs only [Option.bind_some]
  rw [if_pos hash_k2, marked_eq _ _ (hE 1) s1]
  simp -implicitDefEqProofs only [Option.bind_some]
  rw [if_neg (by rw [hash_k1]; simp)]
  have k0 : (two 1 0 1).Kids[0]? = some (lf 0) := rfl
  rw [k0]
  simp -implicitDefEqProofs only [Option.bind_some]
  rw [cost_Tree_eq _ (hE 2) _ s0, costS_else _ (by simp [lf])]
  rfl
theorem few_eq (m : T_cost_Model) : ∃ b, M_law28_Few m = some b ∧ (b = true → m.Edges.length ≤ 60) := by
  unfold M_law28_Few
  by_cases h : m.Edges.length ≤ 60
  · rw [if_pos (decide_eq_true (by omega))]
    split
    · exact ⟨_, rfl, fun _ => h⟩
    · exact ⟨_, rfl, fun _ => h⟩
  · rw [if_neg (by simp; omega)]; exact ⟨_, rfl, fun h => by cases h⟩
/-- What joining two sets costs, and what any tree costs, by whichever model, is as_ the document says. -/
theorem costTells_plain (m : T_cost_Model) (t : T_api_Tree) (s : A2_Set64) : M_law28_CostTells (m, t, s) = some true := by
  have haw := law28_awake_tells
  unfold M_law28_CostTells
  dsimp only
  obtain ⟨b, h1, h2⟩ := few_eq m
  rw [h1]
  simp -implicitDefEqProofs only [Option.bind_eq_bind, Option.bind_some]
  by_cases hb : b = true
  · rw [if_pos hb]
    have hE : m.Edges.length < 9223372036854775808 := by have := h2 hb; omega
    have e1 := ref10_Size_eq t 301 (by omega) (by omega)
    rw [show ((301 : Nat) : Int) = 301 from rfl] at e1
    rw [e1]
    simp -implicitDefEqProofs only [Option.bind_some]
    by_cases ht : t.size ≤ 300
    · rw [if_neg (by simp; omega)]
      have hcl := conj_len t
      have hN := cost_Node_eq m s.e0 s.e1 t.Conj hE (by omega)
      have hN2 := ref28_Node_eq (⟨m.Kind, m.Edges, m.Stats⟩ : T_ref28_Model) s.e0 s.e1 t.Conj hE (by omega)
      have hT := cost_Tree_eq m hE t (by omega)
      have hT2 := ref28_Tree_eq (⟨m.Kind, m.Edges, m.Stats⟩ : T_ref28_Model) hE t (by omega)
      have hM := marked_eq m t hE (by omega)
      have hM2 := ref28_Marked_eq m hE t (by omega)
      have hS := ref10_Same_self (markS m t) (by rw [mark_size]; omega)
      rw [cost_Keyed_eq m s.e0 s.e1 t.Conj hE (by omega), ref28_Keyed_eq (⟨m.Kind, m.Edges, m.Stats⟩ : T_ref28_Model) s.e0 s.e1 t.Conj hE (by omega)]
      simp -implicitDefEqProofs only [Option.bind_some]
      rw [hN, hN2]
      simp -implicitDefEqProofs only [Option.bind_some]
      rw [hT, hT2]
      simp -implicitDefEqProofs only [Option.bind_some]
      rw [hM, hM2]
      simp -implicitDefEqProofs only [Option.bind_some]
      rw [hS, haw]
      simp -implicitDefEqProofs only [Option.bind_some]
      cases hk : keyedS m.Kind m.Edges s.e0 s.e1 t.Conj <;> simp
    · rw [if_pos (by simp; omega), haw]; rfl
  · rw [if_neg hb, haw]; rfl
end Go.Proofs.Ytcfekacmmfdggaa.G
set_option linter.unusedVariables false
set_option linter.unusedSimpArgs false
namespace Go.Proofs.Ytcfekacmmfdggaa.G
open Go.ChangeShapes Go.WideShapes Go.ChangeAt Go.RowKit

theorem memOk0 (μ : TypeId → Bool) (w : World) : MemOk gE (mE μ) w := by
  constructor <;> intros <;> simp_all [gE, mE]
theorem imm0 (b n : Nat) : Imm gE b n := ⟨fun l h => by simp [gE] at h, fun id h => by simp [gE] at h⟩

/-- **A law's function that tells true: a call's fact.** -/
theorem Fn.law {P : Program} {f : FuncId} {args : List AV} {vs : Array Value} {w : World} (h : Fn P f args (.bool true)) (hr : Reps gE w args vs) :
    Calls P f vs w fun e w' => e = .returned (.bool true) ∧ Below w.heap.size w w' := by
  have h0 := h (mE fun _ => false)
  refine (callsIn_wide.1 (h0.2.2 gE w vs ⟨fun _ _ _ => rfl, fun _ _ _ => rfl⟩ (memOk0 _ w) hr)).mono ?_
  rintro e w' ⟨v, g', rfl, hs, hm, hv⟩
  rw [hv.atom_inv]
  exact ⟨rfl, hs.os, hs.tape, hs.output, hs.size, fun b hb => hs.same b hb (fun l h => by simp [mE] at h) (fun l h => by simp [mE] at h)⟩

theorem Reps.nil {g : Gh} {w : World} : Reps g w [] #[] := ⟨rfl, fun j c v h => by cases h⟩
theorem Reps.cons {g : Gh} {w : World} {a : AV} {v : Value} {as_ : List AV} {vs : List Value} (h : Rep g w a v) (hs : Reps g w as_ vs.toArray) : Reps g w (a :: as_) (v :: vs).toArray := by
  refine ⟨by have := hs.1; simp at this ⊢; omega, fun j c x hc hx => ?_⟩
  cases j with
  | zero => simp at hc hx; subst hc hx; exact h
  | succ j => simp at hc hx; exact hs.2 j c x hc (by simpa using hx)

/-- A type's value out of its cells. -/
def ofCells (P : Program) (t : TypeId) (cs : List AV) : Option AV :=
  match aggT P t with
  | some true => some (.agg cs)
  | some false => match cs with
    | [c] => some c
    | _ => none
  | none => none
/-- Data of a type: numbers, truths, texts; rows and structs of these. -/
inductive Wt (P : Program) : TypeId → List AV → Prop
  | bool (t : TypeId) (b : Bool) (ht : P.underlying t = some .bool) : Wt P t [.atom (.bool b)]
  | int (t : TypeId) (k : IntKind) (n : Int) (ht : P.underlying t = some (.int k)) (h : k.min ≤ n ∧ n ≤ k.max) : Wt P t [.atom (.int k n)]
  | string (t : TypeId) (s : ByteArray) (ht : P.underlying t = some .string) (h : s.size ≤ maxLen) : Wt P t [.atom (.string s)]
  | slice (t e : TypeId) (es : List AV) (ht : P.underlying t = some (.slice e)) (hl : es.length ≤ maxLen) (h : ∀ x ∈ es, Wt P e x.cells) (hf : ∀ x ∈ es, ofCells P e x.cells = some x) : Wt P t [.slice .foreign es]
  | struct (t : TypeId) (fs : Array Field) (cs : List AV) (ht : P.underlying t = some (.struct fs)) (hl : cs.length = P.cellsOf t) (h : ∀ (i : Nat) (f : Field), fs[i]? = some f → Wt P f.type ((cs.drop f.offset).take (P.cellsOf f.type))) : Wt P t cs
  | array (t e : TypeId) (n : Nat) (cs : List AV) (ht : P.underlying t = some (.array n e)) (hl : cs.length = P.cellsOf t) (h : ∀ i, i < n → Wt P e ((cs.drop (i * P.cellsOf e)).take (P.cellsOf e))) : Wt P t cs

/-- Parts one behind the other. -/
def tiles : Nat → List (Nat × Nat) → Option Nat
  | k, [] => some k
  | k, (o, s) :: l => if o = k then tiles (k + s) l else none
/-- Types of data, and all that are within. -/
def plainT (P : Program) (S : List TypeId) : Bool := S.all fun t => match P.underlying t with
  | some .bool | some (.int _) | some .string => P.cellsOf t == 1
  | some (.slice e) => S.contains e && decide (0 < P.cellsOf e) && P.cellsOf t == 1
  | some (.struct fs) => (fs.all fun f => S.contains f.type) && tiles 0 (fs.toList.map fun f => (f.offset, P.cellsOf f.type)) == some (P.cellsOf t)
  | some (.array n e) => S.contains e && tiles 0 ((List.range n).map fun i => (i * P.cellsOf e, P.cellsOf e)) == some (P.cellsOf t)
  | _ => false

section
variable {H : Type} {enc : TypeId × Value → H} {P : Program} {W : World} {base b0 : Nat} {spare : Nat → Bool} {held : Bool} {r : Reach}

theorem cells?_get {w : World} {a : Addr} {n : Nat} {cs : List Value} (h : w.cells? base a n = some cs) : cs.length = n ∧ ∀ (j : Nat) (v : Value), cs[j]? = some v → w.cell? (a.add j) = some v := by
  unfold World.cells? at h
  split at h
  · have h1 := mapM_some_length h
    refine ⟨by simpa using h1, fun j v hj => ?_⟩
    have hlt : j < n := by rw [← List.length_range (n := n), ← h1]; exact (List.getElem?_eq_some_iff.1 hj).1
    rw [mapM_some_get h j j (by simp [hlt])]; exact hj
  · cases h

/-- Each part of cells that stand for values. -/
def CellsRep (w : World) (as_ : List AV) (cs : List Value) : Prop := as_.length = cs.length ∧ (∀ c ∈ as_, c.one = true) ∧ ∀ (j : Nat) (a : AV) (v : Value), as_[j]? = some a → cs[j]? = some v → Rep gE w a v

theorem tiles_le : ∀ {l : List (Nat × Nat)} {k n : Nat}, tiles k l = some n → k ≤ n := by
  intro l
  induction l with
  | nil => intro k n h; simp [tiles] at h; omega
  | cons x l ih =>
    intro k n h
    obtain ⟨o, s⟩ := x
    simp only [tiles] at h
    split at h
    · have := ih h; omega
    · cases h
theorem tile {w : World} {cs : List Value} {n : Nat} (hn : cs.length = n) : ∀ (l : List (Nat × Nat)) (k : Nat) (Q : Nat → List AV → Prop), tiles k l = some n → (∀ (i o s : Nat), l[i]? = some (o, s) → ∃ as_, CellsRep w as_ ((cs.drop o).take s) ∧ Q i as_) →
    ∃ as_, CellsRep w as_ (cs.drop k) ∧ ∀ (i o s : Nat), l[i]? = some (o, s) → k ≤ o ∧ Q i ((as_.drop (o - k)).take s) := by
  intro l
  induction l with
  | nil =>
    intro k Q h _
    simp [tiles] at h
    subst h
    exact ⟨[], ⟨by simp; omega, by simp, fun j a v h => by simp at h⟩, fun i o s h => by simp at h⟩
  | cons x l ih =>
    intro k Q h hp
    obtain ⟨o, s⟩ := x
    simp only [tiles] at h
    split at h
    · rename_i hok
      subst hok
      have hle := tiles_le h
      obtain ⟨as0, ⟨h1, h2, h3⟩, hq⟩ := hp 0 o s rfl
      obtain ⟨as1, ⟨h4, h5, h6⟩, hq1⟩ := ih (o + s) (fun i => Q (i + 1)) h (fun i o' s' hi => hp (i + 1) o' s' (by simpa using hi))
      have hl0 : as0.length = s := by rw [h1]; simp; omega
      refine ⟨as0 ++ as1, ⟨by simp [hl0, h4]; omega, fun c hc => (List.mem_append.1 hc).elim (h2 c) (h5 c), fun j a v ha hv => ?_⟩, fun i o' s' hi => ?_⟩
      · rw [List.getElem?_drop] at hv
        by_cases hj : j < s
        · rw [List.getElem?_append_left (by omega)] at ha
          exact h3 j a v ha (by rw [List.getElem?_take_of_lt hj, List.getElem?_drop]; exact hv)
        · rw [List.getElem?_append_right (by omega), hl0] at ha
          exact h6 (j - s) a v ha (by rw [List.getElem?_drop, ← hv]; congr 1; omega)
      · cases i with
        | zero =>
          simp at hi
          obtain ⟨rfl, rfl⟩ := hi
          refine ⟨Nat.le_refl _, ?_⟩
          rw [Nat.sub_self, List.drop_zero, List.take_append_of_le_length (by omega), List.take_of_length_le (by omega)]
          exact hq
        | succ i =>
          obtain ⟨h7, h8⟩ := hq1 i o' s' (by simpa using hi)
          refine ⟨by omega, ?_⟩
          have : o' - o = s + (o' - (o + s)) := by omega
          have hd : List.drop (s + (o' - (o + s))) as0 = [] := List.drop_eq_nil_of_le (by omega)
          rw [this, List.drop_append, hd, hl0, List.nil_append, show s + (o' - (o + s)) - s = o' - (o + s) from by omega]
          exact h8
    · cases h

theorem ofCells_cells {t : TypeId} {cs : List AV} {x : AV} (h : ofCells P t cs = some x) (ho : ∀ c ∈ cs, c.one = true) : x.cells = cs := by
  unfold ofCells at h
  split at h
  · injection h with h; subst h; rfl
  · split at h
    · injection h with h; subst h
      rename_i c
      have := ho c (by simp)
      cases c <;> first | rfl | (simp [AV.one] at this)
    · cases h
  · cases h

/-- **What the caller's data is.** -/
theorem reads {S : List TypeId} (hS : plainT P S = true) : ∀ (fuel : Nat) (t : TypeId) (cs : List Value) (x : DataW H × List MemPlace), t ∈ S → DataW.trod enc P W base spare held fuel t cs = some x → ∃ as_, CellsRep W as_ cs ∧ Wt P t as_ ∧ cs.length = P.cellsOf t := by
  intro fuel
  induction fuel with
  | zero => intro t cs x _ h; simp [DataW.trod] at h
  | succ fuel ih =>
    intro t cs x ht h
    have hp := List.all_eq_true.1 hS t ht
    have one1 : ∀ (a : AV) (v : Value), a.one = true → Rep gE W a v → CellsRep W [a] [v] := fun a v ho hr => ⟨rfl, by simpa using ho, fun j a' v' h1 h2 => by
      cases j with
      | zero => simp at h1 h2; subst h1 h2; exact hr
      | succ j => simp at h1⟩
    split at hp
    · rename_i hu
      obtain ⟨b, rfl, _⟩ := DataW.trod_bool hu h
      exact ⟨_, one1 _ _ rfl (.atom (.bool b) rfl), .bool t b hu, by simp at hp ⊢; exact hp.symm⟩
    · rename_i k hu
      obtain ⟨n, rfl, _, hw⟩ := DataW.trod_int hu h
      exact ⟨_, one1 _ _ rfl (.atom (.int k n) rfl), .int t k n hu (by simpa [Lit.wf] using hw), by simp at hp ⊢; exact hp.symm⟩
    · rename_i hu
      obtain ⟨s, rfl, _, hw⟩ := DataW.trod_string hu h
      exact ⟨_, one1 _ _ rfl (.atom (.string s) rfl), .string t s hu hw, by simp at hp ⊢; exact hp.symm⟩
    · rename_i e hu
      simp only [Bool.and_eq_true, decide_eq_true_eq, List.contains_iff_mem, beq_iff_eq] at hp
      obtain ⟨⟨he, hz⟩, hct⟩ := hp
      rcases DataW.trod_slice hu h with ⟨rfl, _⟩ | ⟨a, len, cap, elems, rest, n, hn, rfl, _, hb, hl, hm, hlen, hel, _, _⟩
      · exact ⟨_, one1 _ _ rfl (.nil .foreign none 0 (fun id h => by cases h) (fun h => by cases h)), .slice t e [] hu (by simp) (by simp) (by simp), by simp [hct]⟩
      · obtain rfl : fuel = n := by omega
        -- the elements
        have each : ∀ i, i < len → ∃ (cs : List Value) (as_ : List AV), W.cells? base (a.add (i * P.cellsOf e)) (P.cellsOf e) = some cs ∧ CellsRep W as_ cs ∧ Wt P e as_ ∧ cs.length = P.cellsOf e := by
          intro i hi
          have h1 := hel i hi
          obtain ⟨y, hy⟩ : ∃ y, elems[i]? = some y := ⟨_, List.getElem?_eq_getElem (by omega)⟩
          rw [hy, Option.bind_eq_some_iff] at h1
          obtain ⟨cs, h2, h3⟩ := h1
          obtain ⟨as_, h4, h5, h6⟩ := ih e cs y he h3
          exact ⟨cs, as_, h2, h4, h5, h6⟩
        have fm : ∀ cs, Wt P e cs → ∃ x, ofCells P e cs = some x := by
          intro cs hw
          unfold ofCells aggT
          cases hw with
          | bool t b ht => rw [ht]; exact ⟨_, rfl⟩
          | int t k n ht _ => rw [ht]; exact ⟨_, rfl⟩
          | string t s ht _ => rw [ht]; exact ⟨_, rfl⟩
          | slice t e es ht _ _ _ => rw [ht]; exact ⟨_, rfl⟩
          | struct t fs cs ht _ _ => rw [ht]; exact ⟨_, rfl⟩
          | array t e n cs ht _ _ => rw [ht]; exact ⟨_, rfl⟩
        have each2 : ∀ i, ∃ x : AV, i < len → ∃ cs, W.cells? base (a.add (i * P.cellsOf e)) (P.cellsOf e) = some cs ∧ CellsRep W x.cells cs ∧ Wt P e x.cells ∧ ofCells P e x.cells = some x ∧ x.cells.length = P.cellsOf e := by
          intro i
          by_cases hi : i < len
          · obtain ⟨cs, as_, h1, h2, h3, h4⟩ := each i hi
            obtain ⟨x, hx⟩ := fm as_ h3
            have hxc := ofCells_cells hx h2.2.1
            exact ⟨x, fun _ => ⟨cs, h1, by rw [hxc]; exact h2, by rw [hxc]; exact h3, by rw [hxc]; exact hx, by rw [hxc, h2.1, h4]⟩⟩
          · exact ⟨.undef, fun h => absurd h hi⟩
        obtain ⟨el, hel2⟩ := Classical.axiomOfChoice each2
        have hes : ∀ (i : Nat) (x : AV), ((List.range len).map el)[i]? = some x → i < len ∧ x = el i := by
          intro i x hx
          rw [List.getElem?_map] at hx
          cases hr : (List.range len)[i]? with
          | none => rw [hr] at hx; cases hx
          | some j =>
            rw [hr] at hx; injection hx with hx
            obtain ⟨h1, h2⟩ := List.getElem?_eq_some_iff.1 hr
            simp at h1 h2; subst h2; exact ⟨h1, hx.symm⟩
        have hmem : ∀ x ∈ (List.range len).map el, ∃ i, i < len ∧ x = el i := by
          intro x hx
          obtain ⟨i, hi, rfl⟩ := List.mem_map.1 hx
          exact ⟨i, by simpa using hi, rfl⟩
        refine ⟨[.slice .foreign ((List.range len).map el)], one1 _ _ rfl ?_, .slice t e _ hu (by simp; omega) (fun x hx => ?_) (fun x hx => ?_), by simp [hct]⟩
        · by_cases h0 : len = 0
          · subst h0; exact .nil .foreign _ _ (fun id h => by cases h) (fun h => by cases h)
          · have hspot : a.spot = none := by
              obtain ⟨cs, h1, h2, _, _, h3⟩ := hel2 0 (by omega)
              have hcl : 0 < cs.length := by rw [← h2.1, h3]; exact hz
              have h4 := (cells?_get h1).2 0 _ (List.getElem?_eq_getElem hcl)
              unfold World.cell? at h4
              split at h4
              · split at h4
                · cases h4
                · rename_i hs
                  obtain ⟨b, o, sp⟩ := a
                  cases sp with
                  | none => rfl
                  | some s => simp [Addr.add] at hs
              · cases h4
            obtain ⟨b, o, sp⟩ := a
            dsimp only at hspot
            subst hspot
            have hlm : ((List.range len).map el).length = len := by simp
            have key : Rep gE W (.slice .foreign ((List.range len).map el)) (.slice (some ⟨b, o, none⟩) ((List.range len).map el).length cap) := by
              refine Rep.slice_mk hz (fun x hx => ?_) (fun _ => imm0 _ _) (fun i x hx => ?_) (by rw [hlm]; exact hl) trivial
              · obtain ⟨i, hi, rfl⟩ := hmem x hx
                obtain ⟨cs, _, _, _, _, h3⟩ := hel2 i hi
                exact h3
              · obtain ⟨hi, rfl⟩ := hes i x hx
                obtain ⟨cs, h1, h2, _, _, h3⟩ := hel2 i hi
                refine ⟨h2.2.1, fun j c hj => ?_⟩
                have hlt : j < cs.length := by rw [← h2.1]; exact (List.getElem?_eq_some_iff.1 hj).1
                have h4 := (cells?_get h1).2 j _ (List.getElem?_eq_getElem hlt)
                rw [add_plain, add_plain] at h4
                exact ⟨_, h4, h2.2.2 j c _ hj (List.getElem?_eq_getElem hlt)⟩
            rw [hlm] at key
            exact key
        · obtain ⟨i, hi, rfl⟩ := hmem x hx
          obtain ⟨cs, _, _, h3, _, _⟩ := hel2 i hi
          exact h3
        · obtain ⟨i, hi, rfl⟩ := hmem x hx
          obtain ⟨cs, _, _, _, h3, _⟩ := hel2 i hi
          exact h3
    · rename_i fs hu
      simp only [Bool.and_eq_true, beq_iff_eq] at hp
      obtain ⟨hp1, hp2⟩ := hp
      obtain ⟨xs, n, hn, _, hl, hxl, hf⟩ := DataW.trod_struct hu h
      obtain rfl : fuel = n := by omega
      obtain ⟨as_, h1, h2⟩ := tile (w := W) hl _ 0 (fun i as_ => ∀ f, fs[i]? = some f → Wt P f.type as_) hp2 (fun i o s hi => by
        rw [List.getElem?_map] at hi
        cases hfi : fs.toList[i]? with
        | none => rw [hfi] at hi; cases hi
        | some f =>
          rw [hfi] at hi; injection hi with hi; injection hi with e1 e2; subst e1 e2
          have hfi' : fs[i]? = some f := by simpa using hfi
          have h3 := hf i f hfi'
          obtain ⟨y, hy⟩ : ∃ y, xs[i]? = some y := ⟨_, List.getElem?_eq_getElem (by rw [hxl]; exact (Array.getElem?_eq_some_iff.1 hfi').1)⟩
          rw [hy] at h3
          have hmem : f.type ∈ S := by
            rw [← Array.all_toList] at hp1
            simpa using List.all_eq_true.1 hp1 f (List.mem_of_getElem? hfi)
          obtain ⟨as_, h4, h5, h6⟩ := ih _ _ _ hmem h3
          exact ⟨as_, h4, fun f' hf' => by rw [hfi'] at hf'; injection hf' with hf'; subst hf'; exact h5⟩)
      refine ⟨as_, by simpa using h1, .struct t fs as_ hu (by rw [h1.1]; simpa using hl) (fun i f hfi => ?_), hl⟩
      have := (h2 i f.offset (P.cellsOf f.type) (by simp [hfi])).2 f hfi
      simpa using this
    · rename_i m e hu
      simp only [Bool.and_eq_true, beq_iff_eq, List.contains_iff_mem] at hp
      obtain ⟨hp1, hp2⟩ := hp
      obtain ⟨xs, n, hn, _, hl, hxl, hf⟩ := DataW.trod_array hu h
      obtain rfl : fuel = n := by omega
      obtain ⟨as_, h1, h2⟩ := tile (w := W) hl _ 0 (fun i as_ => Wt P e as_) hp2 (fun i o s hi => by
        rw [List.getElem?_map] at hi
        cases hfi : (List.range m)[i]? with
        | none => rw [hfi] at hi; cases hi
        | some j =>
          rw [hfi] at hi; injection hi with hi; injection hi with e1 e2; subst e1 e2
          obtain ⟨q1, q2⟩ := List.getElem?_eq_some_iff.1 hfi
          simp at q1 q2; subst q2
          have h3 := hf i q1
          obtain ⟨y, hy⟩ : ∃ y, xs[i]? = some y := ⟨_, List.getElem?_eq_getElem (by omega)⟩
          rw [hy] at h3
          obtain ⟨as_, h4, h5, h6⟩ := ih _ _ _ hp1 h3
          exact ⟨as_, h4, h5⟩)
      refine ⟨as_, by simpa using h1, .array t e m as_ hu (by rw [h1.1]; simpa using hl) (fun i hi => ?_), hl⟩
      have := (h2 i (i * P.cellsOf e) (P.cellsOf e) (by simp [hi])).2
      simpa using this
    · cases hp

/-- A parameter. -/
theorem reads_param {S : List TypeId} (hS : plainT P S = true) {t : TypeId} {v : Value} {d : DataW H} {ps : List MemPlace} (ht : t ∈ S) (hval : Value.okWide P W r b0 t v) (hd : DataW.Trod enc P W base spare held t v d ps) : ∃ a as_, Rep gE W a v ∧ Wt P t as_ ∧ ofCells P t as_ = some a := by
  obtain ⟨fuel, hf⟩ := hd
  obtain ⟨as_, ⟨h1, h2, h3⟩, h4, h5⟩ := reads hS fuel t _ _ ht hf
  have single : (∀ cs, v ≠ .agg cs) → (∀ cs, v ≠ .tuple cs) → v.cells = #[v] := by
    intro ha hb
    cases v <;> first | rfl | (exact absurd rfl (ha _)) | (exact absurd rfl (hb _))
  have hp := List.all_eq_true.1 hS t ht
  unfold Value.okWide at hval
  cases hu : P.underlying t with
  | none => rw [hu] at hp; cases hp
  | some dsc =>
    have agg : (∃ cs, v = .agg cs ∧ cs.size = P.cellsOf t ∧ Row.okWide P W r b0 t cs) → aggT P t = some true → ∃ a as_, Rep gE W a v ∧ Wt P t as_ ∧ ofCells P t as_ = some a := by
      rintro ⟨cs, rfl, hsz, _⟩ hag
      refine ⟨.agg as_, as_, .agg as_ cs (by rw [h1]; simp [Value.cells]) h2 (fun j c u hj hu => h3 j c u hj (by simpa [Value.cells] using hu)), h4, ?_⟩
      unfold ofCells
      rw [hag]
    have one1 : aggT P t = some false → P.cellsOf t = 1 → (∃ u, v.cells = #[u] ∧ u = v) → ∃ a as_, Rep gE W a v ∧ Wt P t as_ ∧ ofCells P t as_ = some a := by
      rintro hag hct ⟨u, hu, rfl⟩
      have hl : as_.length = 1 := by rw [h1, hu]; rfl
      obtain ⟨a, rfl⟩ : ∃ a, as_ = [a] := by
        match as_, hl with
        | [a], _ => exact ⟨a, rfl⟩
      refine ⟨a, [a], h3 0 a u rfl (by rw [hu]; rfl), h4, ?_⟩
      unfold ofCells
      rw [hag]
    have scal : aggT P t = some false → Cell.okWide P W r b0 t v → P.cellsOf t = 1 → ∃ a as_, Rep gE W a v ∧ Wt P t as_ ∧ ofCells P t as_ = some a := by
      intro hag hc hct
      have no : ∀ cs, v ≠ .agg cs ∧ v ≠ .tuple cs := by
        intro cs
        refine ⟨fun e => ?_, fun e => ?_⟩ <;>
        · subst e
          simp only [Cell.okWide, Cell.ok, hu] at hc
      exact one1 hag hct ⟨v, single (fun cs => (no cs).1) (fun cs => (no cs).2), rfl⟩
    rw [hu] at hval hp
    have hs : ∀ b, (match dsc with | .struct _ => true | .array _ _ => true | _ => false) = b → aggT P t = some b := by
      intro b hb
      unfold aggT
      simp only [hu]
      cases dsc <;> simp_all
    cases dsc <;> first | (cases hp; done) | (exact agg hval (hs _ rfl)) | skip
    · exact scal (hs _ rfl) hval (by simpa using hp)
    · exact scal (hs _ rfl) hval (by simpa using hp)
    · exact scal (hs _ rfl) hval (by simpa using hp)
    · simp only [Bool.and_eq_true, beq_iff_eq] at hp; exact scal (hs _ rfl) hval hp.2
end
end Go.Proofs.Ytcfekacmmfdggaa.G
set_option linter.unusedVariables false
set_option linter.unusedSimpArgs false
namespace Go.Proofs.Ytcfekacmmfdggaa.G

def structT (P : Program) (t : TypeId) : Option (List (TypeId × Nat × Nat)) := match P.underlying t with
  | some (.struct fs) => some (fs.toList.map fun f => (f.type, f.offset, P.cellsOf f.type))
  | _ => none
theorem Wt.int_inv {P : Program} {t : TypeId} {k : IntKind} {cs : List AV} (ht : P.underlying t = some (.int k)) (h : Wt P t cs) : ∃ n, cs = [.atom (.int k n)] ∧ k.min ≤ n ∧ n ≤ k.max := by
  cases h <;> rename_i h1 <;> simp_all
theorem Wt.bool_inv {P : Program} {t : TypeId} {cs : List AV} (ht : P.underlying t = some .bool) (h : Wt P t cs) : ∃ b, cs = [.bool b] := by
  cases h <;> rename_i h1 <;> simp_all
theorem Wt.slice_inv {P : Program} {t e : TypeId} {cs : List AV} (ht : P.underlying t = some (.slice e)) (h : Wt P t cs) : ∃ es, cs = [.slice .foreign es] ∧ es.length ≤ maxLen ∧ (∀ x ∈ es, Wt P e x.cells) ∧ ∀ x ∈ es, ofCells P e x.cells = some x := by
  cases h <;> rename_i h1 <;> simp_all
theorem Wt.struct_inv {P : Program} {t : TypeId} {cs : List AV} {l : List (TypeId × Nat × Nat)} (ht : structT P t = some l) (h : Wt P t cs) : cs.length = P.cellsOf t ∧ ∀ (i : Nat) (ty off sz : Nat), l[i]? = some (ty, off, sz) → Wt P ty ((cs.drop off).take sz) := by
  unfold structT at ht
  split at ht
  · rename_i fs hu
    injection ht with ht; subst ht
    cases h <;> rename_i h1 <;> simp_all
    rename_i h2
    intro i ty off sz x hx e1 e2 e3
    subst e1 e2 e3
    exact h2 i x hx
  · cases ht
theorem uncons {α : Type} {cs : List α} {n : Nat} (h : cs.length = n + 1) : ∃ c tl, cs = c :: tl ∧ tl.length = n := by
  cases cs with
  | nil => simp at h
  | cons c tl => exact ⟨c, tl, rfl, by simpa using h⟩
theorem Wt.i64 {P : Program} {t : TypeId} {c : AV} (ht : P.underlying t = some (.int .i64)) (h : Wt P t [c]) : ∃ n, c = .i64 n := by
  obtain ⟨n, hn, _⟩ := h.int_inv ht
  injection hn with hn; exact ⟨n, hn⟩
theorem Wt.b {P : Program} {t : TypeId} {c : AV} (ht : P.underlying t = some .bool) (h : Wt P t [c]) : ∃ n, c = .bool n := by
  obtain ⟨n, hn⟩ := h.bool_inv ht
  injection hn with hn; exact ⟨n, hn⟩
theorem rowsOf {P : Program} {e : TypeId} {α : Type} {f : α → AV} {G : α → Prop} (hagg : ∀ x, ofCells P e (f x).cells = some (f x)) {es : List AV} (h2 : ∀ x ∈ es, ∃ y, x.cells = (f y).cells ∧ G y) (h3 : ∀ x ∈ es, ofCells P e x.cells = some x) : ∃ l : List α, es = l.map f ∧ ∀ x ∈ l, G x := by
  induction es with
  | nil => exact ⟨[], rfl, by simp⟩
  | cons e es ih =>
    obtain ⟨l, rfl, hl⟩ := ih (fun x hx => h2 x (List.mem_cons_of_mem _ hx)) fun x hx => h3 x (List.mem_cons_of_mem _ hx)
    obtain ⟨x, hx, gx⟩ := h2 e (by simp)
    have := h3 e (by simp)
    rw [hx, hagg] at this
    injection this with this
    exact ⟨x :: l, by rw [← this]; rfl, fun y hy => (List.mem_cons.1 hy).elim (fun h => h ▸ gx) (hl y)⟩
theorem structT_field {P : Program} {t : TypeId} {fs : Array Field} {l : List (TypeId × Nat × Nat)} {i ty off sz : Nat} (ht : structT P t = some l) (hu : P.underlying t = some (.struct fs)) (hi : l[i]? = some (ty, off, sz)) : ∃ f, fs[i]? = some f ∧ f.type = ty ∧ f.offset = off ∧ P.cellsOf f.type = sz := by
  unfold structT at ht
  rw [hu] at ht
  injection ht with ht; subst ht
  simp at hi
  obtain ⟨f, hf, h1, h2, h3⟩ := hi
  exact ⟨f, hf, h1, h2, h3⟩
theorem structT_u {P : Program} {t : TypeId} {l : List (TypeId × Nat × Nat)} (ht : structT P t = some l) : ∃ fs, P.underlying t = some (.struct fs) := by
  unfold structT at ht
  split at ht
  · exact ⟨_, by assumption⟩
  · cases ht
theorem u64_mk {n : Int} (h1 : IntKind.u64.min ≤ n) (h2 : n ≤ IntKind.u64.max) : AV.u64 n = .w (BitVec.ofNat 64 n.toNat) := by
  have e1 : IntKind.u64.min = 0 := by decide
  have e2 : IntKind.u64.max = 18446744073709551615 := by decide
  rw [e1] at h1; rw [e2] at h2
  simp only [AV.w, BitVec.toNat_ofNat]
  congr 2; omega
theorem Wt.w {P : Program} {t : TypeId} {c : AV} (ht : P.underlying t = some (.int .u64)) (h : Wt P t [c]) : ∃ s, c = .w s := by
  obtain ⟨n, hn, h1, h2⟩ := h.int_inv ht
  injection hn with hn; subst hn
  exact ⟨_, u64_mk h1 h2⟩
theorem all_cells {P : Program} {t : TypeId} {cs : List AV} {a : AV} (h1 : aggT P t = some true) (h2 : ofCells P t cs = some a) : a = .agg cs := by
  unfold ofCells at h2
  rw [h1] at h2
  injection h2 with h2; exact h2.symm
theorem agg_of {P : Program} {t : TypeId} {cs : List AV} (h : aggT P t = some true) : ofCells P t (AV.agg cs).cells = some (.agg cs) := by
  unfold ofCells
  rw [h]; rfl
theorem one_of {P : Program} {t : TypeId} {a : AV} (h : aggT P t = some false) (hc : a.cells = [a]) : ofCells P t a.cells = some a := by
  unfold ofCells
  rw [h, hc]
def arrayT (P : Program) (t : TypeId) : Option (TypeId × Nat × Nat) := match P.underlying t with
  | some (.array n e) => some (e, n, P.cellsOf e)
  | _ => none
theorem Wt.array_inv {P : Program} {t e : TypeId} {cs : List AV} {n s : Nat} (ht : arrayT P t = some (e, n, s)) (h : Wt P t cs) : cs.length = P.cellsOf t ∧ ∀ i, i < n → Wt P e ((cs.drop (i * s)).take s) := by
  unfold arrayT at ht
  split at ht
  · rename_i n' e' hu
    injection ht with ht; injection ht with h1 h2; injection h2 with h2 h3; subst h1 h2 h3
    cases h <;> rename_i g1 <;> simp_all
  · cases ht
end Go.Proofs.Ytcfekacmmfdggaa.G
set_option linter.unusedVariables false
set_option linter.unusedSimpArgs false
set_option maxRecDepth 100000
namespace Go.Proofs.Ytcfekacmmfdggaa.G
theorem st_T_api_Value : structT Try.prog 62 = some [(4, 0, 1), (2, 1, 1)] := by kernel_rfl
theorem wt_T_api_Value {cs : List AV} (h : Wt Try.prog 62 cs) : ∃ x : T_api_Value, cs = x.C := by
  obtain ⟨hl, hf⟩ := h.struct_inv st_T_api_Value
  rw [show Try.prog.cellsOf 62 = 2 by kernel_rfl] at hl
  obtain ⟨c0, d0, rfl, hn0⟩ := uncons hl
  obtain ⟨c1, d1, rfl, hn1⟩ := uncons hn0
  obtain rfl := List.length_eq_zero_iff.1 hn1
  obtain ⟨v0, rfl⟩ := Wt.b (show Try.prog.underlying 4 = some (.bool) by kernel_rfl) (show Wt Try.prog 4 [c0] from hf 0 _ _ _ rfl)
  obtain ⟨v1, rfl⟩ := Wt.i64 (show Try.prog.underlying 2 = some (.int .i64) by kernel_rfl) (show Wt Try.prog 2 [c1] from hf 1 _ _ _ rfl)
  exact ⟨⟨v0, v1⟩, rfl⟩
theorem st_T_api_Term : structT Try.prog 64 = some [(3, 0, 1), (3, 1, 1), (3, 2, 1), (62, 3, 2)] := by kernel_rfl
theorem wt_T_api_Term {cs : List AV} (h : Wt Try.prog 64 cs) : ∃ x : T_api_Term, cs = x.C := by
  obtain ⟨hl, hf⟩ := h.struct_inv st_T_api_Term
  rw [show Try.prog.cellsOf 64 = 5 by kernel_rfl] at hl
  obtain ⟨c0, d0, rfl, hn0⟩ := uncons hl
  obtain ⟨c1, d1, rfl, hn1⟩ := uncons hn0
  obtain ⟨c2, d2, rfl, hn2⟩ := uncons hn1
  obtain ⟨c3, d3, rfl, hn3⟩ := uncons hn2
  obtain ⟨c4, d4, rfl, hn4⟩ := uncons hn3
  obtain rfl := List.length_eq_zero_iff.1 hn4
  obtain ⟨v0, rfl⟩ := Wt.i64 (show Try.prog.underlying 3 = some (.int .i64) by kernel_rfl) (show Wt Try.prog 3 [c0] from hf 0 _ _ _ rfl)
  obtain ⟨v1, rfl⟩ := Wt.i64 (show Try.prog.underlying 3 = some (.int .i64) by kernel_rfl) (show Wt Try.prog 3 [c1] from hf 1 _ _ _ rfl)
  obtain ⟨v2, rfl⟩ := Wt.i64 (show Try.prog.underlying 3 = some (.int .i64) by kernel_rfl) (show Wt Try.prog 3 [c2] from hf 2 _ _ _ rfl)
  obtain ⟨v3, hv3⟩ := wt_T_api_Value (show Wt Try.prog 62 [c3, c4] from hf 3 _ _ _ rfl); simp only [T_api_Value.C, List.cons.injEq, and_true] at hv3; obtain ⟨rfl, rfl⟩ := hv3
  exact ⟨⟨v0, v1, v2, v3⟩, rfl⟩
theorem st_T_api_Pred : structT Try.prog 66 = some [(3, 0, 1), (3, 1, 1), (3, 2, 1), (64, 3, 5), (64, 8, 5), (29, 13, 1)] := by kernel_rfl
theorem wt_T_api_Pred' {t : TypeId} {cs : List AV} (h : Wt Try.prog t cs) : (t = 66 → ∃ x : T_api_Pred, cs = x.C) ∧ (t = 29 → ∃ xs : List T_api_Pred, cs = [.slice .foreign (xs.map T_api_Pred.av)] ∧ xs.length < 9223372036854775808) := by
  obtain ⟨fs, hfs⟩ := structT_u st_T_api_Pred
  have hs29 : Try.prog.underlying 29 = some (.slice 66) := by kernel_rfl
  induction h with
  | bool t b ht => exact ⟨fun h => by (subst h; rw [hfs] at ht; cases ht), fun h => by (subst h; rw [hs29] at ht; cases ht)⟩
  | int t b n ht => exact ⟨fun h => by (subst h; rw [hfs] at ht; cases ht), fun h => by (subst h; rw [hs29] at ht; cases ht)⟩
  | string t b ht => exact ⟨fun h => by (subst h; rw [hfs] at ht; cases ht), fun h => by (subst h; rw [hs29] at ht; cases ht)⟩
  | array t b n cs ht => exact ⟨fun h => by (subst h; rw [hfs] at ht; cases ht), fun h => by (subst h; rw [hs29] at ht; cases ht)⟩
  | slice t e es ht hl h hf ih =>
    refine ⟨fun h => by (subst h; rw [hfs] at ht; cases ht), fun h => ?_⟩
    · subst h
      rw [hs29] at ht
      injection ht with ht; injection ht with ht; subst ht
      obtain ⟨l, rfl, _⟩ := rowsOf (P := Try.prog) (f := T_api_Pred.av) (G := fun _ => True) (fun x => by rw [T_api_Pred.av_eq]; exact agg_of (by kernel_rfl)) (fun x hx => let ⟨y, hy⟩ := (ih x hx).1 rfl; ⟨y, by rw [hy, T_api_Pred.av_eq]; rfl, trivial⟩) hf
      exact ⟨l, rfl, by simp [maxLen] at hl; omega⟩
  | struct t fs' cs ht hl h ih =>
    refine ⟨fun e => ?_, fun h => by (subst h; rw [hs29] at ht; cases ht)⟩
    subst e
    obtain ⟨_, hf⟩ := (Wt.struct _ _ _ ht hl h).struct_inv st_T_api_Pred
    obtain ⟨f5, g1, g2, g3, g4⟩ := structT_field (i := 5) st_T_api_Pred ht rfl
    have hr5 := (ih 5 f5 g1).2 g2
    rw [g3, g4] at hr5
    clear g1 g2 g3 g4
    clear ih h
    rw [show Try.prog.cellsOf 66 = 14 by kernel_rfl] at hl
    obtain ⟨c0, d0, rfl, hn0⟩ := uncons hl
    obtain ⟨c1, d1, rfl, hn1⟩ := uncons hn0
    obtain ⟨c2, d2, rfl, hn2⟩ := uncons hn1
    obtain ⟨c3, d3, rfl, hn3⟩ := uncons hn2
    obtain ⟨c4, d4, rfl, hn4⟩ := uncons hn3
    obtain ⟨c5, d5, rfl, hn5⟩ := uncons hn4
    obtain ⟨c6, d6, rfl, hn6⟩ := uncons hn5
    obtain ⟨c7, d7, rfl, hn7⟩ := uncons hn6
    obtain ⟨c8, d8, rfl, hn8⟩ := uncons hn7
    obtain ⟨c9, d9, rfl, hn9⟩ := uncons hn8
    obtain ⟨c10, d10, rfl, hn10⟩ := uncons hn9
    obtain ⟨c11, d11, rfl, hn11⟩ := uncons hn10
    obtain ⟨c12, d12, rfl, hn12⟩ := uncons hn11
    obtain ⟨c13, d13, rfl, hn13⟩ := uncons hn12
    obtain rfl := List.length_eq_zero_iff.1 hn13
    obtain ⟨v0, rfl⟩ := Wt.i64 (show Try.prog.underlying 3 = some (.int .i64) by kernel_rfl) (show Wt Try.prog 3 [c0] from hf 0 _ _ _ rfl)
    obtain ⟨v1, rfl⟩ := Wt.i64 (show Try.prog.underlying 3 = some (.int .i64) by kernel_rfl) (show Wt Try.prog 3 [c1] from hf 1 _ _ _ rfl)
    obtain ⟨v2, rfl⟩ := Wt.i64 (show Try.prog.underlying 3 = some (.int .i64) by kernel_rfl) (show Wt Try.prog 3 [c2] from hf 2 _ _ _ rfl)
    obtain ⟨v3, hv3⟩ := wt_T_api_Term (show Wt Try.prog 64 [c3, c4, c5, c6, c7] from hf 3 _ _ _ rfl); simp only [T_api_Term.C, List.cons.injEq, and_true] at hv3; obtain ⟨rfl, rfl, rfl, rfl, rfl⟩ := hv3
    obtain ⟨v4, hv4⟩ := wt_T_api_Term (show Wt Try.prog 64 [c8, c9, c10, c11, c12] from hf 4 _ _ _ rfl); simp only [T_api_Term.C, List.cons.injEq, and_true] at hv4; obtain ⟨rfl, rfl, rfl, rfl, rfl⟩ := hv4
    obtain ⟨v5, ev5, _⟩ := hr5
    have ev5 : [c13] = _ := ev5
    injection ev5 with ev5; subst ev5
    exact ⟨⟨v0, v1, v2, v3, v4, v5⟩, rfl⟩
theorem wt_s29 {cs : List AV} (h : Wt Try.prog 29 cs) : ∃ l : List T_api_Pred, cs = [.slice .foreign (l.map T_api_Pred.av)] ∧ l.length < 9223372036854775808 := (wt_T_api_Pred' h).2 rfl
theorem st_T_api_Edge : structT Try.prog 93 = some [(3, 0, 1), (29, 1, 1), (32, 2, 1), (32, 3, 1), (32, 4, 1)] := by kernel_rfl
theorem wt_T_api_Edge {cs : List AV} (h : Wt Try.prog 93 cs) : ∃ x : T_api_Edge, cs = x.C := by
  obtain ⟨hl, hf⟩ := h.struct_inv st_T_api_Edge
  rw [show Try.prog.cellsOf 93 = 5 by kernel_rfl] at hl
  obtain ⟨c0, d0, rfl, hn0⟩ := uncons hl
  obtain ⟨c1, d1, rfl, hn1⟩ := uncons hn0
  obtain ⟨c2, d2, rfl, hn2⟩ := uncons hn1
  obtain ⟨c3, d3, rfl, hn3⟩ := uncons hn2
  obtain ⟨c4, d4, rfl, hn4⟩ := uncons hn3
  obtain rfl := List.length_eq_zero_iff.1 hn4
  obtain ⟨v0, rfl⟩ := Wt.i64 (show Try.prog.underlying 3 = some (.int .i64) by kernel_rfl) (show Wt Try.prog 3 [c0] from hf 0 _ _ _ rfl)
  obtain ⟨v1, e, _⟩ := wt_s29 (show Wt Try.prog 29 [c1] from hf 1 _ _ _ rfl); injection e with e; subst e
  obtain ⟨v2, rfl⟩ := Wt.w (show Try.prog.underlying 32 = some (.int .u64) by kernel_rfl) (show Wt Try.prog 32 [c2] from hf 2 _ _ _ rfl)
  obtain ⟨v3, rfl⟩ := Wt.w (show Try.prog.underlying 32 = some (.int .u64) by kernel_rfl) (show Wt Try.prog 32 [c3] from hf 3 _ _ _ rfl)
  obtain ⟨v4, rfl⟩ := Wt.w (show Try.prog.underlying 32 = some (.int .u64) by kernel_rfl) (show Wt Try.prog 32 [c4] from hf 4 _ _ _ rfl)
  exact ⟨⟨v0, v1, v2, v3, v4⟩, rfl⟩
theorem wt_s22 {cs : List AV} (h : Wt Try.prog 22 cs) : ∃ l : List T_api_Edge, cs = [.slice .foreign (l.map T_api_Edge.av)] ∧ l.length < 9223372036854775808 := by
  obtain ⟨es, hn, h1, h2, h3⟩ := h.slice_inv (show Try.prog.underlying 22 = some (.slice 93) by kernel_rfl)
  subst hn
  have hd : ∀ cs, Wt Try.prog 93 cs → ∃ y, cs = (T_api_Edge.av y).cells ∧ True := fun cs hc => let ⟨x, hx⟩ := wt_T_api_Edge hc; ⟨x, by first | (rw [hx, T_api_Edge.av_eq]; rfl) | (rw [hx]; rfl), trivial⟩
  obtain ⟨l, rfl, _⟩ := rowsOf (P := Try.prog) (f := T_api_Edge.av) (G := fun _ => True) (fun x => by first | (rw [T_api_Edge.av_eq]; exact agg_of (by kernel_rfl)) | exact agg_of (cs := T_api_Edge.C x) (by kernel_rfl)) (fun x hx => hd _ (h2 x hx)) h3
  exact ⟨l, rfl, by simp [maxLen] at h1; omega⟩
theorem wt_s23 {cs : List AV} (h : Wt Try.prog 23 cs) : ∃ l : List Set64, cs = [.slice .foreign (l.map AV.w)] ∧ l.length < 9223372036854775808 := by
  obtain ⟨es, hn, h1, h2, h3⟩ := h.slice_inv (show Try.prog.underlying 23 = some (.slice 32) by kernel_rfl)
  subst hn
  have hd : ∀ cs, Wt Try.prog 32 cs → ∃ y, cs = (AV.w y).cells ∧ True := fun cs hc => let ⟨n, hx, h1, h2⟩ := hc.int_inv (show Try.prog.underlying 32 = some (.int .u64) by kernel_rfl); ⟨BitVec.ofNat 64 n.toNat, by rw [hx, ← u64_mk h1 h2]; rfl, trivial⟩
  obtain ⟨l, rfl, _⟩ := rowsOf (P := Try.prog) (f := AV.w) (G := fun _ => True) (fun x => one_of (by kernel_rfl) rfl) (fun x hx => hd _ (h2 x hx)) h3
  exact ⟨l, rfl, by simp [maxLen] at h1; omega⟩
theorem st_T_api_Stats : structT Try.prog 25 = some [(23, 0, 1), (23, 1, 1)] := by kernel_rfl
theorem wt_T_api_Stats {cs : List AV} (h : Wt Try.prog 25 cs) : ∃ x : T_api_Stats, cs = x.C := by
  obtain ⟨hl, hf⟩ := h.struct_inv st_T_api_Stats
  rw [show Try.prog.cellsOf 25 = 2 by kernel_rfl] at hl
  obtain ⟨c0, d0, rfl, hn0⟩ := uncons hl
  obtain ⟨c1, d1, rfl, hn1⟩ := uncons hn0
  obtain rfl := List.length_eq_zero_iff.1 hn1
  obtain ⟨v0, e, _⟩ := wt_s23 (show Wt Try.prog 23 [c0] from hf 0 _ _ _ rfl); injection e with e; subst e
  obtain ⟨v1, e, _⟩ := wt_s23 (show Wt Try.prog 23 [c1] from hf 1 _ _ _ rfl); injection e with e; subst e
  exact ⟨⟨v0, v1⟩, rfl⟩
theorem st_T_cost_Model : structT Try.prog 27 = some [(3, 0, 1), (22, 1, 1), (25, 2, 2)] := by kernel_rfl
theorem wt_T_cost_Model {cs : List AV} (h : Wt Try.prog 27 cs) : ∃ x : T_cost_Model, cs = x.C := by
  obtain ⟨hl, hf⟩ := h.struct_inv st_T_cost_Model
  rw [show Try.prog.cellsOf 27 = 4 by kernel_rfl] at hl
  obtain ⟨c0, d0, rfl, hn0⟩ := uncons hl
  obtain ⟨c1, d1, rfl, hn1⟩ := uncons hn0
  obtain ⟨c2, d2, rfl, hn2⟩ := uncons hn1
  obtain ⟨c3, d3, rfl, hn3⟩ := uncons hn2
  obtain rfl := List.length_eq_zero_iff.1 hn3
  obtain ⟨v0, rfl⟩ := Wt.i64 (show Try.prog.underlying 3 = some (.int .i64) by kernel_rfl) (show Wt Try.prog 3 [c0] from hf 0 _ _ _ rfl)
  obtain ⟨v1, e, _⟩ := wt_s22 (show Wt Try.prog 22 [c1] from hf 1 _ _ _ rfl); injection e with e; subst e
  obtain ⟨v2, hv2⟩ := wt_T_api_Stats (show Wt Try.prog 25 [c2, c3] from hf 2 _ _ _ rfl); simp only [T_api_Stats.C, List.cons.injEq, and_true] at hv2; obtain ⟨rfl, rfl⟩ := hv2
  exact ⟨⟨v0, v1, v2⟩, rfl⟩
theorem st_T_api_Tree : structT Try.prog 31 = some [(3, 0, 1), (3, 1, 1), (28, 2, 1), (29, 3, 1), (4, 4, 1)] := by kernel_rfl
theorem wt_T_api_Tree' {t : TypeId} {cs : List AV} (h : Wt Try.prog t cs) : (t = 31 → ∃ x : T_api_Tree, cs = x.C) ∧ (t = 28 → ∃ xs : List T_api_Tree, cs = [.slice .foreign (xs.map T_api_Tree.av)] ∧ xs.length < 9223372036854775808) := by
  obtain ⟨fs, hfs⟩ := structT_u st_T_api_Tree
  have hs28 : Try.prog.underlying 28 = some (.slice 31) := by kernel_rfl
  induction h with
  | bool t b ht => exact ⟨fun h => by (subst h; rw [hfs] at ht; cases ht), fun h => by (subst h; rw [hs28] at ht; cases ht)⟩
  | int t b n ht => exact ⟨fun h => by (subst h; rw [hfs] at ht; cases ht), fun h => by (subst h; rw [hs28] at ht; cases ht)⟩
  | string t b ht => exact ⟨fun h => by (subst h; rw [hfs] at ht; cases ht), fun h => by (subst h; rw [hs28] at ht; cases ht)⟩
  | array t b n cs ht => exact ⟨fun h => by (subst h; rw [hfs] at ht; cases ht), fun h => by (subst h; rw [hs28] at ht; cases ht)⟩
  | slice t e es ht hl h hf ih =>
    refine ⟨fun h => by (subst h; rw [hfs] at ht; cases ht), fun h => ?_⟩
    · subst h
      rw [hs28] at ht
      injection ht with ht; injection ht with ht; subst ht
      obtain ⟨l, rfl, _⟩ := rowsOf (P := Try.prog) (f := T_api_Tree.av) (G := fun _ => True) (fun x => by rw [T_api_Tree.av_eq]; exact agg_of (by kernel_rfl)) (fun x hx => let ⟨y, hy⟩ := (ih x hx).1 rfl; ⟨y, by rw [hy, T_api_Tree.av_eq]; rfl, trivial⟩) hf
      exact ⟨l, rfl, by simp [maxLen] at hl; omega⟩
  | struct t fs' cs ht hl h ih =>
    refine ⟨fun e => ?_, fun h => by (subst h; rw [hs28] at ht; cases ht)⟩
    subst e
    obtain ⟨_, hf⟩ := (Wt.struct _ _ _ ht hl h).struct_inv st_T_api_Tree
    obtain ⟨f2, g1, g2, g3, g4⟩ := structT_field (i := 2) st_T_api_Tree ht rfl
    have hr2 := (ih 2 f2 g1).2 g2
    rw [g3, g4] at hr2
    clear g1 g2 g3 g4
    clear ih h
    rw [show Try.prog.cellsOf 31 = 5 by kernel_rfl] at hl
    obtain ⟨c0, d0, rfl, hn0⟩ := uncons hl
    obtain ⟨c1, d1, rfl, hn1⟩ := uncons hn0
    obtain ⟨c2, d2, rfl, hn2⟩ := uncons hn1
    obtain ⟨c3, d3, rfl, hn3⟩ := uncons hn2
    obtain ⟨c4, d4, rfl, hn4⟩ := uncons hn3
    obtain rfl := List.length_eq_zero_iff.1 hn4
    obtain ⟨v0, rfl⟩ := Wt.i64 (show Try.prog.underlying 3 = some (.int .i64) by kernel_rfl) (show Wt Try.prog 3 [c0] from hf 0 _ _ _ rfl)
    obtain ⟨v1, rfl⟩ := Wt.i64 (show Try.prog.underlying 3 = some (.int .i64) by kernel_rfl) (show Wt Try.prog 3 [c1] from hf 1 _ _ _ rfl)
    obtain ⟨v2, ev2, _⟩ := hr2
    have ev2 : [c2] = _ := ev2
    injection ev2 with ev2; subst ev2
    obtain ⟨v3, e, _⟩ := wt_s29 (show Wt Try.prog 29 [c3] from hf 3 _ _ _ rfl); injection e with e; subst e
    obtain ⟨v4, rfl⟩ := Wt.b (show Try.prog.underlying 4 = some (.bool) by kernel_rfl) (show Wt Try.prog 4 [c4] from hf 4 _ _ _ rfl)
    exact ⟨⟨v0, v1, v2, v3, v4⟩, rfl⟩
theorem wt_T_api_Tree {cs : List AV} (h : Wt Try.prog 31 cs) : ∃ x : T_api_Tree, cs = x.C := (wt_T_api_Tree' h).1 rfl
theorem wt_A2_Set64 {cs : List AV} (h : Wt Try.prog 33 cs) : ∃ x : A2_Set64, cs = x.C := by
  obtain ⟨hl, hf⟩ := h.array_inv (show arrayT Try.prog 33 = some (32, 2, 1) by kernel_rfl)
  rw [show Try.prog.cellsOf 33 = 2 by kernel_rfl] at hl
  obtain ⟨c0, d0, rfl, hn0⟩ := uncons hl
  obtain ⟨c1, d1, rfl, hn1⟩ := uncons hn0
  obtain rfl := List.length_eq_zero_iff.1 hn1
  obtain ⟨v0, rfl⟩ := Wt.w (show Try.prog.underlying 32 = some (.int .u64) by kernel_rfl) (show Wt Try.prog 32 [c0] from hf 0 (by omega))
  obtain ⟨v1, rfl⟩ := Wt.w (show Try.prog.underlying 32 = some (.int .u64) by kernel_rfl) (show Wt Try.prog 32 [c1] from hf 1 (by omega))
  exact ⟨⟨v0, v1⟩, rfl⟩
end Go.Proofs.Ytcfekacmmfdggaa.G
namespace Go.Proofs.Ytcfekacmmfdggaa.CostTells
open Go.ChangeShapes Go.WideShapes Go.ChangeAt Go.RowKit Go.Proofs.Ytcfekacmmfdggaa.G
set_option linter.unusedVariables false
theorem own : ownKnob Try.prog.godebug = none := by kernel_rfl
theorem laidOut : laidOutB Try.prog = true := by kernel_rfl
set_option maxRecDepth 100000 in
theorem lifted (os : Os) (started : os.Started) (H : Type) (enc : TypeId × Value → H) :
    ReturnsInHanded {} Try.checked os 3 .any (Rows.costTellsSpec.pre6 enc Try.prog Try.f3 Rows.costTellsRow.domain false) (Rows.costTellsSpec.post enc Try.prog Try.f3 false true false false) := by
  refine returnsInHanded_of_change_sized (C := Try.checked) own started (by kernel_rfl) Try.func3
    (ChangeSpec.witness6 (enc := enc) (C := Try.checked) false ⟨#[], #[.agg #[.int .i64 0, .slice none 0 0, .slice none 0 0, .slice none 0 0], .agg #[.int .i64 0, .int .i64 0, .slice none 0 0, .slice none 0 0, .bool false], .agg #[.int .u64 0, .int .u64 0]], []⟩ 30 (by kernel_rfl) (by kernel_rfl) (by kernel_rfl) (by kernel_rfl)) ?_
  intro W base args ds gs before hval0 hW hcnd hsz0 _
  have hval : ∀ (j : Nat) t v, Try.f3.params[j]? = some t → args[j]? = some v → Value.okWide Try.prog W .any base t v := hval0
  have hW' := hW
  obtain ⟨p, q, hA0, hV, rfl, hfz, hnd⟩ := hW
  have hA : DataW.TrodAll enc Try.prog W 0 (fun _ => true) true Try.f3.params.toList args.toList ds p := hA0
  rw [Try.params3] at hA hval
  obtain ⟨u0, vs0, d0, ds0, p0, q0, hargs, rfl, rfl, h0, r0⟩ := trodAll_cons hA
  obtain ⟨u1, vs1, d1, ds1, p1, q1, rfl, rfl, rfl, h1, r1⟩ := trodAll_cons r0
  obtain ⟨u2, vs2, d2, ds2, p2, q2, rfl, rfl, rfl, h2, r2⟩ := trodAll_cons r1
  obtain ⟨rfl, rfl, rfl⟩ := trodAll_nil r2
  obtain rfl : args = #[u0, u1, u2] := by cases args; simp_all
  obtain ⟨rfl, rfl⟩ := trodVars_none hV
  have lt0 : ∀ x ∈ p0, x.block < W.heap.size := by obtain ⟨m, hm⟩ := h0; exact DataW.trod_lt m _ _ _ hm
  have lt1 : ∀ x ∈ p1, x.block < W.heap.size := by obtain ⟨m, hm⟩ := h1; exact DataW.trod_lt m _ _ _ hm
  have lt2 : ∀ x ∈ p2, x.block < W.heap.size := by obtain ⟨m, hm⟩ := h2; exact DataW.trod_lt m _ _ _ hm
  have hS : plainT Try.prog [27, 3, 22, 93, 29, 66, 64, 62, 4, 2, 32, 25, 23, 31, 28, 33] = true := by kernel_rfl
  obtain ⟨a0, as0, rep0, wt0, of0⟩ := reads_param hS (by simp) (hval 0 27 u0 rfl rfl) h0
  obtain ⟨a1, as1, rep1, wt1, of1⟩ := reads_param hS (by simp) (hval 1 31 u1 rfl rfl) h1
  obtain ⟨a2, as2, rep2, wt2, of2⟩ := reads_param hS (by simp) (hval 2 33 u2 rfl rfl) h2
  obtain rfl := all_cells (by kernel_rfl) of0
  obtain ⟨x0, rfl⟩ := wt_T_cost_Model wt0
  obtain rfl := all_cells (by kernel_rfl) of1
  obtain ⟨x1, rfl⟩ := wt_T_api_Tree wt1
  obtain rfl := all_cells (by kernel_rfl) of2
  obtain ⟨x2, rfl⟩ := wt_A2_Set64 wt2
  refine ((M_law28_CostTells.w (x0, x1, x2) true (costTells_plain x0 x1 x2)).law (.cons rep0 (.cons rep1 (.cons rep2 .nil)))).mono fun e W' ⟨he, bel⟩ => ?_
  subst he
  exact ⟨_, rfl, _, _, _, [], _, [], hW', trodAll_mk1 (shut_bool Try.underlying4 _), (trodAll_cons_mk (Below.trod laidOut (by kernel_rfl) (of_decide_eq_true (by kernel_rfl)) h0 bel lt0) (trodAll_cons_mk (Below.trod laidOut (by kernel_rfl) (of_decide_eq_true (by kernel_rfl)) h1 bel lt1) (trodAll_cons_mk (Below.trod laidOut (by kernel_rfl) (of_decide_eq_true (by kernel_rfl)) h2 bel lt2) trodAll_mk0))), rfl, bel.frame _, fun h => by cases h⟩
theorem over : Rows.costTellsRow.holds Try.pinned (OpenSpec.ofChange Rows.costTellsSpec) :=
  OpenClaim.holds_of_wide 3 Try.f3 rfl rfl rfl rfl rfl rfl rfl ⟨rfl, rfl, rfl, rfl, rfl⟩ rfl rfl rfl rfl rfl (by kernel_rfl) Try.func3 (by kernel_rfl)
    (of_decide_eq_true (by kernel_rfl)) (by unfold Func.isWrapper; first | (rw [if_pos (by decide +kernel)]; kernel_rfl) | (rw [if_neg (by decide +kernel)]; exact ⟨rfl, rfl⟩))
    (fun os started H enc _ => lifted os started H enc)
end Go.Proofs.Ytcfekacmmfdggaa.CostTells
namespace Go.Proofs.Ytcfekacmmfdggaa
/-- The row, under a short name, for the claim. -/
theorem costTells_holds : Rows.CostTellsSaid := CostTells.over
end Go.Proofs.Ytcfekacmmfdggaa
