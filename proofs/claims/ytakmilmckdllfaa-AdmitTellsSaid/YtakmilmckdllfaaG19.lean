/-
Slices that a frame has made itself, and appends to.
-/
import Derived.Test.YtakmilmckdllfaaG18
set_option linter.unusedVariables false
set_option linter.unusedSimpArgs false
namespace Go.Proofs.Ytakmilmckdllfaa.G

/-- A slice of n elements of s cells that the frame may append to; of rows R. -/
def Mine (R : List (Option (Nat × List AV))) (own : Own) (n s : Nat) : Prop := own = .full ∨ ∃ id cs, own = .row id ∧ R[id]? = some (some (n * s, cs)) ∧ n ≠ 0
theorem Mine.full {R : List (Option (Nat × List AV))} {n s : Nat} : Mine R .full n s := .inl rfl
/-- What an append leaves of the other rows. -/
def Else (own : Own) (R R' : List (Option (Nat × List AV))) : Prop := ∀ id, own ≠ .row id → ∀ x, R[id]? = some x → R'[id]? = some x
theorem Mine.else {R R' : List (Option (Nat × List AV))} {own own' : Own} {n s : Nat} (h : Mine R own n s) (e : Else own' R R') (hne : own = .full ∨ own' ≠ own) : Mine R' own n s := by
  rcases h with h | ⟨id, cs, h1, h2, h3⟩
  · exact .inl h
  · rcases hne with hne | hne
    · exact .inl hne
    · exact .inr ⟨id, cs, h1, e id (by rw [← h1]; exact hne) _ h2, h3⟩
theorem hwOf_mk {b : List ABox} {R : List (Option (Nat × List AV))} {μ : TypeId → Bool} {id n : Nat} {cs : List AV} (h : R[id]? = some (some (n, cs))) : hwOf ⟨b, R, μ⟩ id = some n := by
  simp [hwOf, h]

/-- **An append to one's own.** -/
theorem append_own {P : Program} {B : List ABox} {R : List (Option (Nat × List AV))} {μ : TypeId → Bool} {t xt el el' s b : Nat} {own o : Own} {es ys : List AV} (h1 : elemT P t = some el) (h2 : elemT P xt = some el') (h3 : sizeT P el = some s) (h4 : bytesT P el = some b) (h5 : zsizeT P el = some s) (hμ : μ el = false)
    (hc : (decide (0 < s) && decide (0 < b)) = true) (hm : Mine R own es.length s) (hlen : (es.length + ys.length) * b ≤ 140737488355328) (hes : ∀ e ∈ es, e.cells.length = s) (hys : ∀ e ∈ ys, e.cells.length = s) :
    ∃ own' R', aappend P ⟨B, R, μ⟩ t xt (.slice own es) (.slice o ys) = some (.slice own' (es ++ ys), ⟨B, R', μ⟩) ∧ Mine R' own' (es ++ ys).length s ∧ Else own R R' ∧ (own' = own ∨ own' = .row R.length) ∧ R.length ≤ R'.length := by
  simp only [Bool.and_eq_true, decide_eq_true_eq] at hc
  obtain ⟨hs, hb⟩ := hc
  have hcond : 0 < s ∧ 0 < b ∧ zsizeT P el = some s ∧ (es.length + ys.length) * b ≤ roomBytes' ∧ (∀ e ∈ es, e.cells.length = s) ∧ (∀ e ∈ ys, e.cells.length = s) := ⟨hs, hb, h5, hlen, hes, hys⟩
  have e0 : aappend P ⟨B, R, μ⟩ t xt (.slice own es) (.slice o ys) = aappendS P ⟨B, R, μ⟩ t xt (.slice own es) (.slice o ys) := by
    cases own <;> simp [aappend, h1, hμ]
  rw [e0]
  unfold aappendS
  simp only [h1, h2, h3, h4]
  rw [if_pos hcond]
  by_cases hy : ys = []
  · subst hy
    rw [if_pos rfl]
    exact ⟨own, R, by simp, by simpa using hm, fun _ _ _ h => h, .inl rfl, Nat.le_refl _⟩
  · rw [if_neg hy]
    have hpos : 0 < ys.length := List.length_pos_iff.2 hy
    rcases hm with hm | ⟨id, cs, hm, hrow, hn⟩
    · subst hm
      refine ⟨_, _, rfl, .inr ⟨R.length, [], rfl, by simp [Nat.add_mul], by rw [List.length_append]; omega⟩, fun id _ x hx => ?_, .inr rfl, by simp⟩
      rw [List.getElem?_append_left (List.getElem?_eq_some_iff.1 hx).1]; exact hx
    · subst hm
      have hne : es ≠ [] := by intro h; subst h; exact hn rfl
      dsimp only
      rw [if_pos ⟨hwOf_mk hrow, hne⟩]
      have hlt : id < R.length := (List.getElem?_eq_some_iff.1 hrow).1
      refine ⟨_, _, rfl, .inr ⟨R.length, [], rfl, by simp [Mem.retire], by rw [List.length_append]; omega⟩, fun id' hne' x hx => ?_, .inr rfl, by simp [Mem.retire]⟩
      simp only [Mem.retire]
      have hd : id ≠ id' := fun h => hne' (by rw [h])
      rw [List.getElem?_append_left (by rw [List.length_set]; exact (List.getElem?_eq_some_iff.1 hx).1), List.getElem?_set_ne hd]; exact hx
theorem append_map {P : Program} {α : Type} {f : α → AV} {B : List ABox} {R : List (Option (Nat × List AV))} {μ : TypeId → Bool} {t el s b : Nat} {own o : Own} {l ys : List α} (h1 : elemT P t = some el) (h3 : sizeT P el = some s) (h4 : bytesT P el = some b) (h5 : zsizeT P el = some s) (hμ : μ el = false)
    (hc : (decide (0 < s) && decide (0 < b)) = true) (hf : ∀ x, (f x).cells.length = s) (hm : Mine R own l.length s) (hlen : (l.length + ys.length) * b ≤ 140737488355328) :
    ∃ own' R', aappend P ⟨B, R, μ⟩ t t (.slice own (l.map f)) (.slice o (ys.map f)) = some (.slice own' ((l ++ ys).map f), ⟨B, R', μ⟩) ∧ Mine R' own' (l ++ ys).length s ∧ Else own R R' ∧ (own' = own ∨ own' = .row R.length) ∧ R.length ≤ R'.length := by
  have h := append_own (P := P) (B := B) (R := R) (μ := μ) (o := o) (es := l.map f) (ys := ys.map f) h1 h1 h3 h4 h5 hμ hc (by simpa using hm) (by simpa using hlen) (fun e he => by obtain ⟨x, _, rfl⟩ := List.mem_map.1 he; exact hf x) (fun e he => by obtain ⟨x, _, rfl⟩ := List.mem_map.1 he; exact hf x)
  simpa using h
end Go.Proofs.Ytakmilmckdllfaa.G
