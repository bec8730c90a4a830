/-
Slices that a frame has made itself, and appends to.
-/
import Derived.Test.YtakmilmckdllfaaG18
set_option linter.unusedVariables false
set_option linter.unusedSimpArgs false
namespace Go.Proofs.Ytakmilmckdllfaa.G

/-- A slice of n elements of s cells that was made since m0. -/
def Mine (m0 m : Mem) (own : Own) (n s : Nat) : Prop := own = .full ∨ ∃ id, own = .row id ∧ m0.rows.length ≤ id ∧ m.rows[id]? = some (some (n * s)) ∧ n ≠ 0
theorem Mine.full {m0 m : Mem} {n s : Nat} : Mine m0 m .full n s := .inl rfl
theorem Mine.ext {m0 m m1 : Mem} {own : Own} {n s : Nat} (h : Mine m0 m own n s) (e : Ext m m1) : Mine m0 m1 own n s := by
  rcases h with h | ⟨id, h1, h2, h3, h4⟩
  · exact .inl h
  · exact .inr ⟨id, h1, h2, e.getRow h3, h4⟩
/-- What an append leaves of the other slices. -/
def Else (own : Own) (m m1 : Mem) : Prop := m1.boxes = m.boxes ∧ ∀ id, own ≠ .row id → ∀ x, m.rows[id]? = some x → m1.rows[id]? = some x
theorem Mine.else {m0 m m1 : Mem} {own own' : Own} {n s : Nat} (h : Mine m0 m own n s) (e : Else own' m m1) (hne : own = .full ∨ own' ≠ own) : Mine m0 m1 own n s := by
  rcases h with h | ⟨id, h1, h2, h3, h4⟩
  · exact .inl h
  · rcases hne with hne | hne
    · exact .inl hne
    · exact .inr ⟨id, h1, h2, e.2 id (by rw [← h1]; exact hne) _ h3, h4⟩

theorem Ext.pushRow {m0 m : Mem} (e : Ext m0 m) (n : Nat) : Ext m0 (m.pushRow n) := by
  obtain ⟨h1, y, hy⟩ := e
  exact ⟨h1, y ++ [some n], by simp [Mem.pushRow, hy]⟩
theorem Ext.retire {m0 m : Mem} (e : Ext m0 m) {id : Nat} (h : m0.rows.length ≤ id) : Ext m0 (m.retire id) := by
  obtain ⟨h1, y, hy⟩ := e
  exact ⟨h1, y.set (id - m0.rows.length) none, by simp [Mem.retire, hy, List.set_append_right _ _ h]⟩

theorem aappend_mine {P : Program} {m0 m : Mem} {t xt el el' s b : Nat} {own o : Own} {es ys : List AV} (h1 : elemT P t = some el) (h2 : elemT P xt = some el') (h3 : sizeT P el = some s) (h4 : bytesT P el = some b) (h5 : zsizeT P el = some s) (hs : 0 < s) (hb : 0 < b)
    (he : Ext m0 m) (hm : Mine m0 m own es.length s) (hlen : (es.length + ys.length) * b ≤ 140737488355328) (hes : ∀ e ∈ es, e.cells.length = s) (hys : ∀ e ∈ ys, e.cells.length = s) :
    ∃ own' m', aappend P m t xt (.slice own es) (.slice o ys) = some (.slice own' (es ++ ys), m') ∧ Ext m0 m' ∧ Mine m0 m' own' (es ++ ys).length s ∧ Else own m m' ∧ (own' = own ∨ own' = .row m.rows.length) := by
  have hc : 0 < s ∧ 0 < b ∧ zsizeT P el = some s ∧ (es.length + ys.length) * b ≤ roomBytes' ∧ (∀ e ∈ es, e.cells.length = s) ∧ (∀ e ∈ ys, e.cells.length = s) := ⟨hs, hb, h5, hlen, hes, hys⟩
  unfold aappend
  simp only [h1, h2, h3, h4]
  rw [if_pos hc]
  by_cases hy : ys = []
  · subst hy
    rw [if_pos rfl]
    exact ⟨own, m, by simp, he, by simpa using hm, ⟨rfl, fun _ _ _ h => h⟩, .inl rfl⟩
  · rw [if_neg hy]
    have hpos : 0 < ys.length := List.length_pos_iff.2 hy
    rcases hm with hm | ⟨id, hm, hid, hrow, hn⟩
    · subst hm
      refine ⟨_, _, rfl, he.pushRow _, .inr ⟨_, rfl, ?_, by simp [Mem.pushRow, Nat.add_mul], by rw [List.length_append]; omega⟩, ⟨rfl, fun id _ x hx => ?_⟩, .inr rfl⟩
      · obtain ⟨_, y, hy⟩ := he; rw [hy]; simp
      · simp only [Mem.pushRow]
        rw [List.getElem?_append_left (List.getElem?_eq_some_iff.1 hx).1]; exact hx
    · subst hm
      have hne : es ≠ [] := by intro h; subst h; exact hn rfl
      dsimp only
      rw [if_pos ⟨hrow, hne⟩]
      have hlt : id < m.rows.length := (List.getElem?_eq_some_iff.1 hrow).1
      refine ⟨_, _, rfl, (he.retire hid).pushRow _, .inr ⟨_, rfl, ?_, by simp [Mem.pushRow, Mem.retire], by rw [List.length_append]; omega⟩, ⟨rfl, fun id' hne' x hx => ?_⟩, .inr rfl⟩
      · obtain ⟨_, y, hy⟩ := he; rw [hy]; simp
      · have hd : id ≠ id' := fun h => hne' (by rw [h])
        simp only [Mem.pushRow, Mem.retire]
        rw [List.getElem?_append_left (by rw [List.length_set]; exact (List.getElem?_eq_some_iff.1 hx).1), List.getElem?_set_ne hd]; exact hx
end Go.Proofs.Ytakmilmckdllfaa.G
