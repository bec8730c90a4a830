/-
Memory under abstract values: a variable more, a store into a variable, a row more, an append in place; loads and stores of many cells.
-/
import Derived.Test.YtakmilmckdllfaaG2
import Derived.Laws.Sem
set_option linter.unusedVariables false
set_option linter.unusedSimpArgs false
namespace Go.Proofs.Ytakmilmckdllfaa.G

def wput (w : World) (b : Nat) (o : Obj) : World := { w with heap := w.heap.setIfInBounds b o }
theorem wput_same (w : World) (b : Nat) (o : Obj) (h : b < w.heap.size) : (wput w b o).heap[b]? = some o := by simp [wput, h]
theorem wput_other (w : World) (b b' : Nat) (o : Obj) (h : b' ≠ b) : (wput w b o).heap[b']? = w.heap[b']? := by
  simp only [wput, Array.getElem?_setIfInBounds]
  rw [if_neg (fun e => h e.symm)]
theorem wput_size (w : World) (b : Nat) (o : Obj) : (wput w b o).heap.size = w.heap.size := by simp [wput]
theorem wput_wput (w : World) (b : Nat) (o o' : Obj) : wput (wput w b o) b o' = wput w b o' := by simp [wput]

/-- A new variable. -/
def Gh.newBox (g : Gh) (l b : Nat) : Gh := { g with box := fun l' => if l' = l then some b else g.box l' }
def Gh.newRow (g : Gh) (l b n : Nat) : Gh := { g with row := fun l' => if l' = l then some (some b) else g.row l', hw := fun l' => if l' = l then n else g.hw l' }
def Gh.killRow (g : Gh) (l : Nat) : Gh := { g with row := fun l' => if l' = l then (g.row l).map (fun _ => none) else g.row l' }
def Mem.push (m : Mem) (c : ABox) : Mem := { m with boxes := m.boxes ++ [c] }
def Mem.set (m : Mem) (l : Nat) (c : ABox) : Mem := { m with boxes := m.boxes.set l c }
def Mem.pushRow (m : Mem) (n : Nat) (cs : List AV := []) : Mem := { m with rows := m.rows ++ [some (n, cs)] }
def Mem.setRow (m : Mem) (l : Nat) (n : Nat) (cs : List AV) : Mem := { m with rows := m.rows.set l (some (n, cs)) }
def Mem.retire (m : Mem) (l : Nat) : Mem := { m with rows := m.rows.set l none }

section
variable {g : Gh} {m : Mem} {w : World} {P : Program}

theorem alloc_old (w : World) (o : Obj) {b : Nat} (h : b < w.heap.size) : (w.alloc o).heap[b]? = w.heap[b]? := by
  simp only [World.alloc, Array.getElem?_push]
  rw [if_neg (by omega)]
theorem alloc_new (w : World) (o : Obj) : (w.alloc o).heap[w.heap.size]? = some o := by
  simp only [World.alloc, Array.getElem?_push, if_true]

theorem step_newBox (o : Obj) (c : ABox) (hf : Fresh g m (m.push c)) (hm : MemOk g m w) : Step g m (g.newBox m.boxes.length w.heap.size) (m.push c) w (w.alloc o) where
  os := rfl
  tape := rfl
  output := rfl
  size := by simp
  boxes := by simp [Mem.push]
  rows := Nat.le_refl _
  freshBox := hf.1
  freshRow := hf.2
  boxOld := fun l hl => by
    have : l ≠ m.boxes.length := by simp [Mem.push] at hl; omega
    simp [Gh.newBox, this]
  boxNew := fun l b h1 h2 => by
    simp only [Gh.newBox] at h1
    split at h1
    · injection h1 with h1; omega
    · rw [h2] at h1; cases h1
  rowOut := fun _ _ => ⟨rfl, rfl⟩
  rowIn := fun _ _ _ h => ⟨h, Nat.le_refl _⟩
  rowStay := fun _ _ => Iff.rfl
  rowNew := fun l b h1 h2 => by simp [Mem.push] at h2; omega
  same := fun b hb _ _ => alloc_old w o hb
  sameRow := fun id b _ hb arr t ha => ⟨arr, by rw [alloc_old w o (hm.row id b hb)]; exact ha, rfl, fun _ _ => rfl⟩

theorem mem_newBox (o : Obj) (c : ABox) (hf : Fresh g m (m.push c)) (hm : MemOk g m w) (hc : BoxOk (g.newBox m.boxes.length w.heap.size) (w.alloc o) w.heap.size c) :
    MemOk (g.newBox m.boxes.length w.heap.size) (m.push c) (w.alloc o) := by
  have hs := step_newBox o c hf hm
  exact {
    box := fun l b hb => by
      simp only [Gh.newBox] at hb
      split at hb
      · injection hb with hb; simp; omega
      · have := hm.box l b hb; simp; omega
    row := fun l b hb => by have := hm.row l b hb; simp; omega
    boxOk := fun l b c' hb hc' => by
      simp only [Gh.newBox] at hb
      split at hb
      · rename_i hl
        injection hb with hb
        subst hl hb
        have : c' = c := by simpa [Mem.push] using hc'.symm
        subst this; exact hc
      · rename_i hl
        have h1 : m.boxes[l]? = some c' := by
          simp only [Mem.push] at hc'
          rcases Nat.lt_or_ge l m.boxes.length with h2 | h2
          · rwa [List.getElem?_append_left h2] at hc'
          · rw [List.getElem?_append_right h2] at hc'
            have : l - m.boxes.length ≠ 0 := by omega
            rw [List.getElem?_eq_none (by simp; omega)] at hc'; cases hc'
        exact (hm.boxOk l b c' hb h1).step hm hs (alloc_old w o (hm.box l b hb))
    rowCells := fun id b hb => by
      obtain ⟨arr, t, h2⟩ := hm.rowCells id b hb
      exact ⟨arr, t, by rw [alloc_old w o (hm.row id b hb)]; exact h2⟩
    rowLive := hm.rowLive
    rowOk := fun id b n cs hb hc => (hm.rowOk id b n cs hb hc).step hm hs (alloc_old w o (hm.row id b hb))
    boxInj := fun l l' b h1 h2 => by
      simp only [Gh.newBox] at h1 h2
      split at h1 <;> split at h2
      · omega
      · injection h1 with h1; have := hm.box l' b h2; omega
      · injection h2 with h2; have := hm.box l b h1; omega
      · exact hm.boxInj l l' b h1 h2
    rowInj := hm.rowInj
    apart := fun l id b h1 h2 => by
      simp only [Gh.newBox] at h1
      split at h1
      · injection h1 with h1; have := hm.row id b h2; omega
      · exact hm.apart l id b h1 h2 }

theorem step_setBox {l b : Nat} (o : Obj) (c : ABox) (hb : g.box l = some b) (hl : l < m.boxes.length) (hm : MemOk g m w) : Step g m g (m.set l c) w (wput w b o) where
  os := rfl
  tape := rfl
  output := rfl
  size := by simp [wput]
  boxes := by simp [Mem.set]
  rows := Nat.le_refl _
  freshBox := fun l' h1 h2 => by simp [Mem.set] at h2; omega
  freshRow := fun l' h1 h2 => by simp [Mem.set] at h2; omega
  boxOld := fun _ _ => rfl
  boxNew := fun l b h1 h2 => by rw [h2] at h1; cases h1
  rowOut := fun _ _ => ⟨rfl, rfl⟩
  rowIn := fun _ _ _ h => ⟨h, Nat.le_refl _⟩
  rowStay := fun _ _ => Iff.rfl
  rowNew := fun l b h1 h2 => by simp [Mem.set] at h2; omega
  same := fun b' hb' h1 _ => wput_other w b b' o (fun e => h1 l hl (e ▸ hb))
  sameRow := fun id b' _ hb' arr t ha => ⟨arr, by rw [wput_other w b b' o (fun e => hm.apart l id b hb (e ▸ hb'))]; exact ha, rfl, fun _ _ => rfl⟩

theorem mem_setBox {l b : Nat} (o : Obj) (c : ABox) (hb : g.box l = some b) (hl : l < m.boxes.length) (hm : MemOk g m w) (hc : BoxOk g (wput w b o) b c) : MemOk g (m.set l c) (wput w b o) := by
  have hs := step_setBox o c hb hl hm
  exact {
    box := fun l b hb => by rw [wput_size]; exact hm.box l b hb
    row := fun l b hb => by rw [wput_size]; exact hm.row l b hb
    boxOk := fun l' b' c' hb' hc' => by
      simp only [Mem.set, List.getElem?_set] at hc'
      split at hc'
      · rename_i hll
        subst hll
        rw [hb] at hb'; injection hb' with hb'; subst hb'
        have e : c = c' := by
          have : m.boxes.length > l := hl
          simpa [this] using hc'
        subst e
        exact hc
      · rename_i hll
        exact (hm.boxOk l' b' c' hb' hc').step hm hs (wput_other w b b' o (fun e => hll (hm.boxInj l l' b hb (e ▸ hb'))))
    rowCells := fun id b' hb' => by
      obtain ⟨arr, t, h2⟩ := hm.rowCells id b' hb'
      exact ⟨arr, t, by rw [wput_other w b b' o (fun e => hm.apart l id b hb (e ▸ hb'))]; exact h2⟩
    rowLive := hm.rowLive
    rowOk := fun id b' n cs hb' hc' => (hm.rowOk id b' n cs hb' hc').step hm hs (wput_other w b b' o (fun e => hm.apart l id b hb (e ▸ hb')))
    boxInj := hm.boxInj
    rowInj := hm.rowInj
    apart := hm.apart }

theorem step_newRow (o : Obj) (n : Nat) (ks : List AV) (hf : Fresh g m (m.pushRow n ks)) (hm : MemOk g m w) : Step g m (g.newRow m.rows.length w.heap.size n) (m.pushRow n ks) w (w.alloc o) where
  os := rfl
  tape := rfl
  output := rfl
  size := by simp
  boxes := Nat.le_refl _
  rows := by simp [Mem.pushRow]
  freshBox := hf.1
  freshRow := hf.2
  boxOld := fun l hl => rfl
  boxNew := fun l b h1 h2 => by
    simp only [Gh.newRow] at h1
    rw [h2] at h1; cases h1
  rowOut := fun l hl => by
    have : l ≠ m.rows.length := by simp [Mem.pushRow] at hl; omega
    simp [Gh.newRow, this]
  rowIn := fun l b hl hb => by
    have : l ≠ m.rows.length := by omega
    simp only [Gh.newRow, if_neg this] at hb ⊢
    exact ⟨hb, Nat.le_refl _⟩
  rowStay := fun l hl => by
    have : l ≠ m.rows.length := by omega
    simp [Gh.newRow, this]
  rowNew := fun l b h1 h2 hb => by
    have : l = m.rows.length := by simp [Mem.pushRow] at h2; omega
    simp only [Gh.newRow, if_pos this] at hb
    injection hb with hb; injection hb with hb
    exact .inl (Nat.le_of_eq hb)
  same := fun b hb _ _ => alloc_old w o hb
  sameRow := fun id b _ hb arr t ha => ⟨arr, by rw [alloc_old w o (hm.row id b hb)]; exact ha, rfl, fun _ _ => rfl⟩

theorem mem_newRow (arr : Array Value) (t : TypeId) (n : Nat) (ks : List AV) (hf : Fresh g m (m.pushRow n ks)) (hm : MemOk g m w) (hl : ks.length ≤ arr.size) (hk : ∀ (j : Nat) (c : AV), ks[j]? = some c → c.one = true ∧ ∀ v, arr[j]? = some v → Rep g w c v) :
    MemOk (g.newRow m.rows.length w.heap.size n) (m.pushRow n ks) (w.alloc (.cells arr t (0, 0))) := by
  have hs := step_newRow (.cells arr t (0, 0)) n ks hf hm
  have hrow : ∀ l b, (g.newRow m.rows.length w.heap.size n).row l = some (some b) → (l = m.rows.length ∧ b = w.heap.size) ∨ (l ≠ m.rows.length ∧ g.row l = some (some b)) := by
    intro l b hb
    simp only [Gh.newRow] at hb
    split at hb
    · rename_i hl
      injection hb with hb; injection hb with hb; exact .inl ⟨hl, hb.symm⟩
    · rename_i hl
      exact .inr ⟨hl, hb⟩
  exact {
    box := fun l b hb => by have := hm.box l b hb; simp; omega
    row := fun l b hb => by
      rcases hrow l b hb with ⟨_, h⟩ | ⟨_, h⟩
      · simp; omega
      · have := hm.row l b h; simp; omega
    boxOk := fun l b c' hb hc' => (hm.boxOk l b c' hb hc').step hm hs (alloc_old w (.cells arr t (0, 0)) (hm.box l b hb))
    rowCells := fun l b hb => by
      rcases hrow l b hb with ⟨_, rfl⟩ | ⟨_, h⟩
      · exact ⟨arr, t, alloc_new _ _⟩
      · obtain ⟨a1, t1, h1⟩ := hm.rowCells l b h
        exact ⟨a1, t1, by rw [alloc_old w (.cells arr t (0, 0)) (hm.row l b h)]; exact h1⟩
    rowLive := fun id n' hn hne => by
      by_cases hid : id = m.rows.length
      · subst hid
        have : n' = (n, ks) := by simpa [Mem.pushRow] using hn.symm
        subst this
        exact ⟨w.heap.size, by simp [Gh.newRow], by simp [Gh.newRow]⟩
      · have h1 : m.rows[id]? = some (some n') := by
          simp only [Mem.pushRow] at hn
          rcases Nat.lt_or_ge id m.rows.length with h2 | h2
          · rwa [List.getElem?_append_left h2] at hn
          · rw [List.getElem?_append_right h2, List.getElem?_eq_none (by simp; omega)] at hn; cases hn
        simp only [Gh.newRow, if_neg hid] at hne ⊢
        exact hm.rowLive id n' h1 hne
    rowOk := fun id b n' cs hb hc => by
      rcases hrow id b hb with ⟨rfl, rfl⟩ | ⟨hid, h⟩
      · have : (n', cs) = (n, ks) := by simpa [Mem.pushRow] using hc.symm
        injection this with h1 h2
        subst h1 h2
        exact ⟨arr, t, alloc_new _ _, hl, fun j c hj => ⟨(hk j c hj).1, fun v hv => ((hk j c hj).2 v hv).step hm hs⟩⟩
      · have h1 : m.rows[id]? = some (some (n', cs)) := by
          simp only [Mem.pushRow] at hc
          rcases Nat.lt_or_ge id m.rows.length with h2 | h2
          · rwa [List.getElem?_append_left h2] at hc
          · rw [List.getElem?_append_right h2, List.getElem?_eq_none (by simp; omega)] at hc; cases hc
        exact (hm.rowOk id b n' cs h h1).step hm hs (alloc_old w (.cells arr t (0, 0)) (hm.row id b h))
    boxInj := hm.boxInj
    rowInj := fun l l' b h1 h2 => by
      rcases hrow l b h1 with ⟨h3, h4⟩ | ⟨h3, h4⟩ <;> rcases hrow l' b h2 with ⟨h5, h6⟩ | ⟨h5, h6⟩
      · omega
      · have := hm.row l' b h6; omega
      · have := hm.row l b h4; omega
      · exact hm.rowInj l l' b h4 h6
    apart := fun l id b h1 h2 => by
      rcases hrow id b h2 with ⟨_, h4⟩ | ⟨_, h4⟩
      · have := hm.box l b h1; omega
      · exact hm.apart l id b h1 h4 }

theorem kill_row {id l b : Nat} (h : (g.killRow id).row l = some (some b)) : l ≠ id ∧ g.row l = some (some b) := by
  simp only [Gh.killRow] at h
  split at h
  · cases g.row id <;> simp at h
  · rename_i hl; exact ⟨hl, h⟩

/-- A row is handed on: nobody appends to it. -/
theorem step_kill (id : Nat) (hl : id < m.rows.length) (hm : MemOk g m w) : Step g m (g.killRow id) (m.retire id) w w where
  os := rfl
  tape := rfl
  output := rfl
  size := Nat.le_refl _
  boxes := Nat.le_refl _
  rows := by simp [Mem.retire]
  freshBox := fun l h1 h2 => by simp [Mem.retire] at h2; omega
  freshRow := fun l h1 h2 => by simp [Mem.retire] at h2; omega
  boxOld := fun l hl => rfl
  boxNew := fun l b h1 h2 => by simp only [Gh.killRow] at h1; rw [h2] at h1; cases h1
  rowOut := fun l h => by
    have : l ≠ id := by simp [Mem.retire] at h; omega
    simp [Gh.killRow, this]
  rowIn := fun l b _ hb => ⟨(kill_row hb).2, Nat.le_refl _⟩
  rowStay := fun l _ => by
    simp only [Gh.killRow]
    split
    · rename_i e; subst e; cases g.row l <;> simp
    · rfl
  rowNew := fun l b h1 h2 => by simp [Mem.retire] at h2; omega
  same := fun b hb _ _ => rfl
  sameRow := fun id b _ hb arr t ha => ⟨arr, ha, rfl, fun _ _ => rfl⟩
theorem mem_kill (id : Nat) (hl : id < m.rows.length) (hm : MemOk g m w) : MemOk (g.killRow id) (m.retire id) w := by
  have hs := step_kill id hl hm
  exact {
    box := hm.box
    row := fun l b hb => hm.row l b (kill_row hb).2
    boxOk := fun l b c hb hc => (hm.boxOk l b c hb hc).step hm hs rfl
    rowCells := fun l b hb => hm.rowCells l b (kill_row hb).2
    rowLive := fun l n hn hne => by
      have hll : l ≠ id := by
        rintro rfl
        simp [Mem.retire, hl] at hn
      simp only [Mem.retire, List.getElem?_set, if_neg (show ¬ id = l from fun e => hll e.symm)] at hn
      simp only [Gh.killRow, if_neg hll] at hne ⊢
      exact hm.rowLive l n hn hne
    rowOk := fun l b n cs hb hc => by
      obtain ⟨hll, hb'⟩ := kill_row hb
      simp only [Mem.retire, List.getElem?_set, if_neg (show ¬ id = l from fun e => hll e.symm)] at hc
      exact (hm.rowOk l b n cs hb' hc).step hm hs rfl
    boxInj := hm.boxInj
    rowInj := fun l l' b h1 h2 => hm.rowInj l l' b (kill_row h1).2 (kill_row h2).2
    apart := fun l id b h1 h2 => hm.apart l id b h1 (kill_row h2).2 }

/-- An append in place: the row goes on under a new number. -/
theorem step_grow {id b n : Nat} {ks : List AV} {arr arr' : Array Value} {t : TypeId} (hf : Fresh g m ((m.retire id).pushRow n ks)) (hb : g.row id = some (some b)) (hl : id < m.rows.length) (hn : g.hw id ≤ n) (ha : w.heap[b]? = some (.cells arr t (0, 0)))
    (hz : arr'.size = arr.size) (he : ∀ j, j < g.hw id → arr'[j]? = arr[j]?) (hm : MemOk g m w) : Step g m ((g.killRow id).newRow m.rows.length b n) ((m.retire id).pushRow n ks) w (wput w b (.cells arr' t (0, 0))) where
  os := rfl
  tape := rfl
  output := rfl
  size := by simp [wput]
  boxes := Nat.le_refl _
  rows := by simp [Mem.retire, Mem.pushRow]
  freshBox := hf.1
  freshRow := hf.2
  boxOld := fun _ _ => rfl
  boxNew := fun l b h1 h2 => by simp only [Gh.newRow, Gh.killRow] at h1; rw [h2] at h1; cases h1
  rowOut := fun l h => by
    have h1 : l ≠ m.rows.length := by simp [Mem.retire, Mem.pushRow] at h; omega
    have h2 : l ≠ id := by simp [Mem.retire, Mem.pushRow] at h; omega
    simp [Gh.newRow, Gh.killRow, h1, h2]
  rowIn := fun l b' hl' hb' => by
    have h1 : l ≠ m.rows.length := by omega
    simp only [Gh.newRow, if_neg h1] at hb' ⊢
    exact ⟨(kill_row hb').2, Nat.le_refl _⟩
  rowStay := fun l hl' => by
    have h1 : l ≠ m.rows.length := by omega
    simp only [Gh.newRow, if_neg h1, Gh.killRow]
    split
    · rename_i e; subst e; cases g.row l <;> simp
    · rfl
  rowNew := fun l b' h1 h2 hb' => by
    have : l = m.rows.length := by simp [Mem.retire, Mem.pushRow] at h2; omega
    simp only [Gh.newRow, if_pos this] at hb' ⊢
    injection hb' with hb'; injection hb' with hb'
    subst hb'
    exact .inr ⟨id, hl, hb, hn⟩
  same := fun b' hb' _ h2 => wput_other w b b' _ (fun e => h2 id hl (e ▸ hb))
  sameRow := fun id1 b' _ hb' arr1 t1 ha1 => by
    by_cases hid : id1 = id
    · subst hid
      rw [hb] at hb'; injection hb' with hb'; injection hb' with hb'; subst hb'
      rw [ha] at ha1; injection ha1 with ha1; injection ha1 with ha1 ht1
      subst ha1 ht1
      exact ⟨arr', wput_same w b _ (hm.row id1 b hb), hz, he⟩
    · exact ⟨arr1, by rw [wput_other w b b' _ (fun e => hid (hm.rowInj id1 id b (e ▸ hb') hb))]; exact ha1, rfl, fun _ _ => rfl⟩

theorem mem_grow {id b n : Nat} {ks : List AV} {arr arr' : Array Value} {t : TypeId} (hf : Fresh g m ((m.retire id).pushRow n ks)) (hb : g.row id = some (some b)) (hl : id < m.rows.length) (hn : g.hw id ≤ n) (ha : w.heap[b]? = some (.cells arr t (0, 0)))
    (hz : arr'.size = arr.size) (he : ∀ j, j < g.hw id → arr'[j]? = arr[j]?) (hm : MemOk g m w) (hkl : ks.length ≤ arr'.size) (hk : ∀ (j : Nat) (c : AV), ks[j]? = some c → c.one = true ∧ ∀ v, arr'[j]? = some v → Rep g w c v) : MemOk ((g.killRow id).newRow m.rows.length b n) ((m.retire id).pushRow n ks) (wput w b (.cells arr' t (0, 0))) := by
  have hs := step_grow hf hb hl hn ha hz he hm
  have hrow : ∀ l b', ((g.killRow id).newRow m.rows.length b n).row l = some (some b') → (l = m.rows.length ∧ b' = b) ∨ (l ≠ m.rows.length ∧ l ≠ id ∧ g.row l = some (some b')) := by
    intro l b' hb'
    simp only [Gh.newRow] at hb'
    split at hb'
    · rename_i hl
      injection hb' with hb'; injection hb' with hb'; exact .inl ⟨hl, hb'.symm⟩
    · rename_i hl
      exact .inr ⟨hl, kill_row hb'⟩
  exact {
    box := fun l b hb => by rw [wput_size]; exact hm.box l b hb
    row := fun l b' hb' => by
      rw [wput_size]
      rcases hrow l b' hb' with ⟨_, rfl⟩ | ⟨_, _, h⟩
      · exact hm.row id b' hb
      · exact hm.row l b' h
    boxOk := fun l' b' c' hb' hc' => (hm.boxOk l' b' c' hb' hc').step hm hs (wput_other w b b' _ (fun e => hm.apart l' id b (e ▸ hb') hb))
    rowCells := fun l b' hb' => by
      rcases hrow l b' hb' with ⟨_, rfl⟩ | ⟨_, hlid, h⟩
      · exact ⟨arr', t, wput_same w b' _ (hm.row id b' hb)⟩
      · obtain ⟨a1, t1, h1⟩ := hm.rowCells l b' h
        exact ⟨a1, t1, by rw [wput_other w b b' _ (fun e => hlid (hm.rowInj l id b (e ▸ h) hb))]; exact h1⟩
    rowLive := fun l n' hn' hne => by
      by_cases hll : l = m.rows.length
      · subst hll
        have : n' = (n, ks) := by
          have := hn'.symm
          simp only [Mem.pushRow, Mem.retire] at this
          rw [List.getElem?_append_right (by simp)] at this
          simpa using this
        subst this
        exact ⟨b, by simp [Gh.newRow], by simp [Gh.newRow]⟩
      · have h1 : m.rows[l]? = some (some n') ∧ l ≠ id := by
          simp only [Mem.pushRow, Mem.retire] at hn'
          rcases Nat.lt_or_ge l m.rows.length with h2 | h2
          · rw [List.getElem?_append_left (by simpa using h2)] at hn'
            have hlid : l ≠ id := by
              rintro rfl
              simp [h2] at hn'
            rw [List.getElem?_set, if_neg (fun e => hlid e.symm)] at hn'
            exact ⟨hn', hlid⟩
          · rw [List.getElem?_append_right (by simpa using h2), List.getElem?_eq_none (by simp; omega)] at hn'; cases hn'
        simp only [Gh.newRow, if_neg hll, Gh.killRow, if_neg h1.2] at hne ⊢
        exact hm.rowLive l n' h1.1 hne
    rowOk := fun l b' n' cs hb' hc => by
      rcases hrow l b' hb' with ⟨rfl, rfl⟩ | ⟨hll, hlid, h⟩
      · have : (n', cs) = (n, ks) := by
          simp only [Mem.pushRow, Mem.retire] at hc
          rw [List.getElem?_append_right (by simp)] at hc
          simpa using hc.symm
        injection this with h1 h2
        subst h1 h2
        exact ⟨arr', t, wput_same w b' _ (hm.row id b' hb), hkl, fun j c hj => ⟨(hk j c hj).1, fun v hv => ((hk j c hj).2 v hv).step hm hs⟩⟩
      · have h1 : m.rows[l]? = some (some (n', cs)) := by
          simp only [Mem.pushRow, Mem.retire] at hc
          rcases Nat.lt_or_ge l m.rows.length with h2 | h2
          · rw [List.getElem?_append_left (by simpa using h2), List.getElem?_set, if_neg (fun e => hlid e.symm)] at hc; exact hc
          · rw [List.getElem?_append_right (by simpa using h2), List.getElem?_eq_none (by simp; omega)] at hc; cases hc
        exact (hm.rowOk l b' n' cs h h1).step hm hs (wput_other w b b' _ (fun e => hlid (hm.rowInj l id b (e ▸ h) hb)))
    boxInj := hm.boxInj
    rowInj := fun l l' b' h1 h2 => by
      rcases hrow l b' h1 with ⟨h3, h4⟩ | ⟨h3, h3', h4⟩ <;> rcases hrow l' b' h2 with ⟨h5, h6⟩ | ⟨h5, h5', h6⟩
      · omega
      · subst h4; exact absurd (hm.rowInj _ _ _ h6 hb) h5'
      · subst h6; exact absurd (hm.rowInj _ _ _ h4 hb) h3'
      · exact hm.rowInj l l' b' h4 h6
    apart := fun l id' b' h1 h2 => by
      rcases hrow id' b' h2 with ⟨_, rfl⟩ | ⟨_, _, h4⟩
      · exact hm.apart l id b' h1 hb
      · exact hm.apart l id' b' h1 h4 }
/-- A store into a row. -/
theorem step_setRow {id b n : Nat} {ks : List AV} {arr arr' : Array Value} {t : TypeId} (hb : g.row id = some (some b)) (hl : id < m.rows.length) (ha : w.heap[b]? = some (.cells arr t (0, 0)))
    (hz : arr'.size = arr.size) (he : ∀ j, j < g.hw id → arr'[j]? = arr[j]?) (hm : MemOk g m w) : Step g m g (m.setRow id n ks) w (wput w b (.cells arr' t (0, 0))) where
  os := rfl
  tape := rfl
  output := rfl
  size := by simp [wput]
  boxes := Nat.le_refl _
  rows := by simp [Mem.setRow]
  freshBox := fun l h1 h2 => by simp [Mem.setRow] at h2; omega
  freshRow := fun l h1 h2 => by simp [Mem.setRow] at h2; omega
  boxOld := fun _ _ => rfl
  boxNew := fun l b h1 h2 => by rw [h2] at h1; cases h1
  rowOut := fun l h => ⟨rfl, rfl⟩
  rowIn := fun l b' hl' hb' => ⟨hb', Nat.le_refl _⟩
  rowStay := fun l hl' => Iff.rfl
  rowNew := fun l b' h1 h2 hb' => by simp [Mem.setRow] at h2; omega
  same := fun b' hb' _ h2 => wput_other w b b' _ (fun e => h2 id hl (e ▸ hb))
  sameRow := fun id1 b' _ hb' arr1 t1 ha1 => by
    by_cases hid : id1 = id
    · subst hid
      rw [hb] at hb'; injection hb' with hb'; injection hb' with hb'; subst hb'
      rw [ha] at ha1; injection ha1 with ha1; injection ha1 with ha1 ht1
      subst ha1 ht1
      exact ⟨arr', wput_same w b _ (hm.row id1 b hb), hz, he⟩
    · exact ⟨arr1, by rw [wput_other w b b' _ (fun e => hid (hm.rowInj id1 id b (e ▸ hb') hb))]; exact ha1, rfl, fun _ _ => rfl⟩
theorem mem_setRow {id b n : Nat} {ks0 ks : List AV} {arr arr' : Array Value} {t : TypeId} (hb : g.row id = some (some b)) (hr : m.rows[id]? = some (some (n, ks0))) (ha : w.heap[b]? = some (.cells arr t (0, 0)))
    (hz : arr'.size = arr.size) (he : ∀ j, j < g.hw id → arr'[j]? = arr[j]?) (hm : MemOk g m w) (hkl : ks.length ≤ arr'.size) (hk : ∀ (j : Nat) (c : AV), ks[j]? = some c → c.one = true ∧ ∀ v, arr'[j]? = some v → Rep g w c v) : MemOk g (m.setRow id n ks) (wput w b (.cells arr' t (0, 0))) := by
  have hl : id < m.rows.length := (List.getElem?_eq_some_iff.1 hr).1
  have hs := step_setRow (n := n) (ks := ks) hb hl ha hz he hm
  exact {
    box := fun l b hb => by rw [wput_size]; exact hm.box l b hb
    row := fun l b' hb' => by rw [wput_size]; exact hm.row l b' hb'
    boxOk := fun l' b' c' hb' hc' => (hm.boxOk l' b' c' hb' hc').step hm hs (wput_other w b b' _ (fun e => hm.apart l' id b (e ▸ hb') hb))
    rowCells := fun l b' hb' => by
      by_cases hlid : l = id
      · subst hlid
        rw [hb] at hb'; injection hb' with hb'; injection hb' with hb'; subst hb'
        exact ⟨arr', t, wput_same w b _ (hm.row l b hb)⟩
      · obtain ⟨a1, t1, h1⟩ := hm.rowCells l b' hb'
        exact ⟨a1, t1, by rw [wput_other w b b' _ (fun e => hlid (hm.rowInj l id b (e ▸ hb') hb))]; exact h1⟩
    rowLive := fun l n' hn' hne => by
      by_cases e : id = l
      · subst e
        simp only [Mem.setRow, List.getElem?_set_self hl] at hn'
        injection hn' with hn'; injection hn' with hn'; subst hn'
        obtain ⟨b2, h1, h2⟩ := hm.rowLive id _ hr hne
        exact ⟨b2, h1, h2⟩
      · simp only [Mem.setRow, List.getElem?_set, if_neg e] at hn'
        exact hm.rowLive l n' hn' hne
    rowOk := fun l b' n' cs hb' hc => by
      by_cases hlid : l = id
      · subst hlid
        rw [hb] at hb'; injection hb' with hb'; injection hb' with hb'; subst hb'
        simp only [Mem.setRow, List.getElem?_set_self hl] at hc
        injection hc with hc; injection hc with hc; injection hc with h1 h2
        subst h1 h2
        exact ⟨arr', t, wput_same w b _ (hm.row l b hb), hkl, fun j c hj => ⟨(hk j c hj).1, fun v hv => ((hk j c hj).2 v hv).step hm hs⟩⟩
      · simp only [Mem.setRow, List.getElem?_set, if_neg (fun e : id = l => hlid e.symm)] at hc
        exact (hm.rowOk l b' n' cs hb' hc).step hm hs (wput_other w b b' _ (fun e => hlid (hm.rowInj l id b (e ▸ hb') hb)))
    boxInj := hm.boxInj
    rowInj := hm.rowInj
    apart := hm.apart }
end
end Go.Proofs.Ytakmilmckdllfaa.G
