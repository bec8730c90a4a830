/-
Loads and stores of variables of any type, in abstract values.
-/
import Derived.Test.YtakmilmckdllfaaG3
set_option linter.unusedVariables false
set_option linter.unusedSimpArgs false
namespace Go.Proofs.Ytakmilmckdllfaa.G

def sizeT (P : Program) (t : TypeId) : Option Nat := (P.info? t).map (·.size)
def bytesT (P : Program) (t : TypeId) : Option Nat := (P.info? t).map (·.bytes)
def aggT (P : Program) (t : TypeId) : Option Bool :=
  match P.underlying t with
  | some (.struct _) => some true
  | some (.array _ _) => some true
  | some _ => some false
  | none => none
def constCell : Value → Option AV
  | .slice none 0 0 => some (.slice .full [])
  | .tuple vs => if vs.size = 0 then some .undef else none
  | v => if scalar v then some (.atom v) else none
def constAVs (l : List Value) : Option (List AV) := l.mapM constCell
def zeroT (P : Program) (t : TypeId) : Option (List AV) := ((P.info? t).bind (·.zero)).bind fun v => (constAVs v.cells.toList).bind fun cs => if cs.all AV.one = true then some cs else none
def elemT (P : Program) (t : TypeId) : Option TypeId :=
  match P.underlying t with
  | some (.slice e) => some e
  | _ => none
def arrT (P : Program) (t : TypeId) : Option (Nat × TypeId) :=
  match P.underlying t with
  | some (.array n e) => some (n, e)
  | _ => none
/-- A struct's fields: type, first cell. -/
def fieldT (P : Program) (t : TypeId) (f : Nat) : Option (TypeId × Nat) :=
  match P.underlying t with
  | some (.struct fs) => (fs[f]?).map fun x => (x.type, x.offset)
  | _ => none

section
variable {g : Gh} {m : Mem} {w : World} {P : Program}

theorem run_sizeOf {t : TypeId} {n : Nat} (h : sizeT P t = some n) (w : World) : (sizeOf t).run P w = .ok n w := by
  unfold sizeT at h
  cases hi : P.info? t with
  | none => rw [hi] at h; cases h
  | some i => rw [hi] at h; injection h with h; simp [sizeOf, typeInfo, hi, h]
theorem run_bytesOf {t : TypeId} {n : Nat} (h : bytesT P t = some n) : ∃ i, (∀ w : World, (typeInfo t).run P w = .ok i w) ∧ i.bytes = n := by
  unfold bytesT at h
  cases hi : P.info? t with
  | none => rw [hi] at h; cases h
  | some i => rw [hi] at h; injection h with h; exact ⟨i, fun w => by simp [typeInfo, hi], h⟩
theorem run_under {t : TypeId} {d : TypeDesc} (h : P.underlying t = some d) (w : World) : (underlying t).run P w = .ok d w := by
  simp [underlying, h]
theorem run_isAgg {t : TypeId} {b : Bool} (h : aggT P t = some b) (w : World) : (isAgg t).run P w = .ok b w := by
  unfold aggT at h
  cases hu : P.underlying t with
  | none => rw [hu] at h; cases h
  | some d =>
    rw [hu] at h
    simp only [isAgg, Sem.run_bind, run_under hu, Result.andThen_ok]
    cases d <;> simp_all
theorem run_zeroValue {t : TypeId} {v : Value} (h : (P.info? t).bind (·.zero) = some v) (w : World) : (zeroValue t).run P w = .ok v w := by
  cases hi : P.info? t with
  | none => rw [hi] at h; cases h
  | some i => rw [hi] at h; simp at h; simp [zeroValue, typeInfo, hi, h]

theorem constCell_rep {v : Value} {a : AV} (h : constCell v = some a) : Rep g w a v := by
  unfold constCell at h
  split at h
  · injection h with h; subst h; exact .nil _ _ _ (fun id e => by cases e) (fun _ => rfl)
  · split at h
    · injection h with h; subst h; exact .tuple [] _ (by assumption) (fun j c v h => by simp at h)
    · cases h
  · split at h
    · injection h with h; subst h; exact .atom _ (by assumption)
    · cases h
theorem constAVs_rep : ∀ {l : List Value} {as : List AV}, constAVs l = some as → as.length = l.length ∧ ∀ (j : Nat) (a : AV) (v : Value), as[j]? = some a → l[j]? = some v → Rep g w a v ∧ constCell v = some a := by
  intro l
  induction l with
  | nil => intro as h; simp [constAVs] at h; subst h; simp
  | cons x l ih =>
    intro as h
    simp only [constAVs, List.mapM_cons] at h
    cases hx : constCell x with
    | none => rw [hx] at h; cases h
    | some a =>
      cases hl : l.mapM constCell with
      | none => rw [hx, hl] at h; cases h
      | some as' =>
        rw [hx, hl] at h
        injection h with h
        subst h
        obtain ⟨h1, h2⟩ := ih hl
        refine ⟨by simp [h1], fun j a' v ha hv => ?_⟩
        cases j with
        | zero => simp at ha hv; subst ha hv; exact ⟨constCell_rep hx, hx⟩
        | succ j => simp at ha hv; exact h2 j a' v ha hv
theorem constCell_one {v : Value} {a : AV} (h : constCell v = some a) (hv : v.oneCell' = true) : a.one = true := by
  unfold constCell at h
  split at h
  · injection h with h; subst h; rfl
  · simp [Value.oneCell'] at hv
  · split at h
    · injection h with h; subst h; rfl
    · cases h

theorem Rep.one_iff {a : AV} {v : Value} (h : Rep g w a v) : a.one = v.oneCell' := by
  cases h <;> try rfl
  rename_i h
  cases v <;> first | rfl | (simp [scalar] at h)
theorem Rep.cells {a : AV} {v : Value} (h : Rep g w a v) (hn : ∀ cs, a ≠ .tuple cs) : Reps g w a.cells v.cells ∧ ∀ c ∈ a.cells, c.one = true := by
  cases h with
  | agg cs vs hl ho hr => exact ⟨⟨hl, hr⟩, ho⟩
  | tuple cs vs hl hr => exact absurd rfl (hn cs)
  | atom v h =>
    have e : v.cells = #[v] := by cases v <;> first | rfl | (simp [scalar] at h)
    rw [e]
    refine ⟨⟨rfl, fun j c v' hc hv => ?_⟩, by simp [AV.cells, AV.one]⟩
    cases j with
    | zero => simp [AV.cells] at hc hv; subst hc hv; exact .atom _ h
    | succ j => simp [AV.cells] at hc
  | _ =>
    refine ⟨⟨rfl, fun j c v' hc hv => ?_⟩, by simp [AV.cells, AV.one]⟩
    cases j with
    | zero => simp [AV.cells, Value.cells] at hc hv; subst hc hv; constructor <;> assumption
    | succ j => simp [AV.cells] at hc

/-- A constant. -/
def constAV : Value → Option AV
  | .agg vs => (constAVs vs.toList).bind fun cs => if cs.all AV.one = true then some (.agg cs) else none
  | v => constCell v
theorem constAV_rep {v : Value} {a : AV} (h : constAV v = some a) : Rep g w a v := by
  unfold constAV at h
  split at h
  · rename_i vs
    cases hc : constAVs vs.toList with
    | none => rw [hc] at h; cases h
    | some cs =>
      rw [hc] at h
      simp only [Option.bind_some] at h
      split at h
      · rename_i hone
        injection h with h; subst h
        obtain ⟨h1, h2⟩ := constAVs_rep (g := g) (w := w) hc
        exact .agg cs vs (by simpa using h1.symm) (fun c hc' => List.all_eq_true.1 hone c hc') (fun j c v hj hv => (h2 j c v hj (by simpa using hv)).1)
      · cases h
  · exact constCell_rep h

/-- What lies in a row of cells. -/
def CellsAt (g : Gh) (w : World) (b o : Nat) (cs : List AV) : Prop := (∀ c ∈ cs, c.one = true) ∧ ∀ (j : Nat) (c : AV), cs[j]? = some c → ∃ v, w.cell? ⟨b, o + j, none⟩ = some v ∧ Rep g w c v

theorem add_plain (b o n : Nat) : (⟨b, o, none⟩ : Addr).add n = ⟨b, o + n, none⟩ := by
  unfold Addr.add
  split
  · rename_i h; simp [h]
  · rfl

theorem run_loadCellsFrom {b o : Nat} (vals : Nat → Value) : ∀ (n i : Nat) (acc : Array Value), (∀ j, i ≤ j → j < i + n → w.cell? ⟨b, o + j, none⟩ = some (vals j)) →
    (loadCellsFrom ⟨b, o, none⟩ i n acc).run P w = .ok (acc ++ ((List.range' i n).map vals).toArray) w := by
  intro n
  induction n with
  | zero => intro i acc h; simp [loadCellsFrom]
  | succ n ih =>
    intro i acc h
    simp only [loadCellsFrom, Sem.run_bind, add_plain, run_load, h i (Nat.le_refl _) (by omega), Result.andThen_ok]
    rw [ih (i + 1) _ (fun j h1 h2 => h j (by omega) (by omega))]
    simp [List.range'_succ]
theorem run_loadCells {b o n : Nat} (vals : Nat → Value) (h : ∀ j, j < n → w.cell? ⟨b, o + j, none⟩ = some (vals j)) :
    (loadCells ⟨b, o, none⟩ n).run P w = .ok ((List.range n).map vals).toArray w := by
  rw [loadCells, run_loadCellsFrom vals n 0 #[] (fun j _ h2 => h j (by omega))]
  simp [List.range_eq_range']

/-- A part of cells, as a variable of a type. -/
def subAV (P : Program) (t : TypeId) (cs : List AV) (off : Nat) : Option AV :=
  match aggT P t, sizeT P t with
  | some true, some n => if off + n ≤ cs.length then some (.agg ((cs.drop off).take n)) else none
  | some false, some _ => cs[off]?
  | _, _ => none

theorem CellsAt.vals {b o : Nat} {cs : List AV} (h : CellsAt g w b o cs) : ∃ vals : Nat → Value, ∀ (j : Nat) (c : AV), cs[j]? = some c → w.cell? ⟨b, o + j, none⟩ = some (vals j) ∧ Rep g w c (vals j) := by
  refine ⟨fun j => ((w.cell? ⟨b, o + j, none⟩).getD undef), fun j c hj => ?_⟩
  obtain ⟨v, h1, h2⟩ := h.2 j c hj
  simp only [h1, Option.getD_some]
  exact ⟨trivial, h2⟩

theorem run_loadVar {b o off : Nat} {t : TypeId} {cs : List AV} {a : AV} (h : CellsAt g w b o cs) (ha : subAV P t cs off = some a) :
    ∃ v, (loadVar t ⟨b, o + off, none⟩).run P w = .ok v w ∧ Rep g w a v := by
  obtain ⟨vals, hv⟩ := h.vals
  unfold subAV at ha
  split at ha
  · rename_i n h1 h2
    split at ha
    · rename_i hle
      injection ha with ha
      subst ha
      have hl : (loadCells ⟨b, o + off, none⟩ n).run P w = .ok ((List.range n).map fun j => vals (off + j)).toArray w := by
        refine run_loadCells _ (fun j hj => ?_)
        obtain ⟨c, hc⟩ : ∃ c, cs[off + j]? = some c := ⟨_, List.getElem?_eq_getElem (by omega)⟩
        rw [Nat.add_assoc]; exact (hv _ c hc).1
      refine ⟨.agg ((List.range n).map fun j => vals (off + j)).toArray, by simp only [loadVar, Sem.run_bind, run_isAgg h1, Result.andThen_ok, run_sizeOf h2, hl, if_true, Sem.run_pure], ?_⟩
      refine .agg _ _ (by simp; omega) (fun c hc => h.1 c (List.mem_of_mem_drop (List.mem_of_mem_take hc))) (fun j c v hc hv' => ?_)
      have hj : j < n := by
        have := (List.getElem?_eq_some_iff.1 hc).1; simp at this; omega
      rw [List.getElem?_take_of_lt hj, List.getElem?_drop] at hc
      simp [List.getElem?_range hj] at hv'
      subst hv'
      exact (hv _ c hc).2
    · cases ha
  · rename_i n h1 h2
    obtain ⟨h3, h4⟩ := hv off a ha
    refine ⟨vals off, ?_, h4⟩
    simp [loadVar, run_isAgg h1, h3]
  · cases ha

/-- Stores of many cells. -/
theorem run_storeCells {b o : Nat} {t : TypeId} : ∀ (vs : List Value) (i : Nat) (arr : Array Value) (w : World), w.heap[b]? = some (.cells arr t (0, 0)) → o + i + vs.length ≤ arr.size → (∀ v ∈ vs, v.oneCell' = true) →
    ∃ arr', (storeCells ⟨b, o, none⟩ vs i).run P w = .ok () (wput w b (.cells arr' t (0, 0))) ∧ arr'.size = arr.size ∧ ∀ j, arr'[j]? = if o + i ≤ j ∧ j < o + i + vs.length then vs[j - (o + i)]? else arr[j]? := by
  intro vs
  induction vs with
  | nil =>
    intro i arr w h1 h2 h3
    refine ⟨arr, ?_, rfl, fun j => ?_⟩
    · have : wput w b (.cells arr t (0, 0)) = w := by
        obtain ⟨hlt, he⟩ := Array.getElem?_eq_some_iff.1 h1
        have : w.heap.setIfInBounds b (.cells arr t (0, 0)) = w.heap := by
          apply Array.ext_getElem?
          intro k
          simp only [Array.getElem?_setIfInBounds]
          split
          · rename_i e; subst e; simp [hlt, he]
          · rfl
        simp [wput, this]
      simp [storeCells, this]
    · rw [if_neg (by simp only [List.length_nil]; omega)]
  | cons v vs ih =>
    intro i arr w h1 h2 h3
    simp only [List.length_cons] at h2
    have hc : w.cell? ⟨b, o + i, none⟩ = some arr[o + i] := by
      unfold World.cell?
      dsimp only
      rw [h1]
      simp
    have hfz : w.frozen? ⟨b, o + i, none⟩ = false := by
      unfold World.frozen?
      dsimp only
      rw [h1]
      simp
    have hst : (w.setCell ⟨b, o + i, none⟩ v) = wput w b (.cells (arr.setIfInBounds (o + i) v) t (0, 0)) := by
      unfold World.setCell wput
      congr 1
      apply Array.ext_getElem?
      intro k
      simp only [Array.getElem?_modify, Array.getElem?_setIfInBounds]
      split
      · rename_i e
        subst e
        rw [h1]
        simp [(Array.getElem?_eq_some_iff.1 h1).1]
      · rfl
    have hlt := (Array.getElem?_eq_some_iff.1 h1).1
    obtain ⟨arr', h4, h5, h6⟩ := ih (i + 1) (arr.setIfInBounds (o + i) v) (wput w b (.cells (arr.setIfInBounds (o + i) v) t (0, 0))) (wput_same w b _ hlt) (by simp; omega) (fun x hx => h3 x (List.mem_cons_of_mem _ hx))
    refine ⟨arr', ?_, by rw [h5]; simp, fun j => ?_⟩
    · simp only [storeCells, Sem.run_bind, add_plain, run_store P w _ v .plain (h3 v (List.mem_cons_self ..)), hc, hfz, Bool.false_eq_true, if_false, Result.andThen_ok, hst, h4, wput_wput]
    · rw [h6 j]
      simp only [Array.getElem?_setIfInBounds, List.length_cons]
      by_cases e1 : o + i = j
      · subst e1
        rw [if_neg (by omega), if_pos rfl, if_pos (by omega), if_pos (by omega)]
        simp
      · by_cases e2 : o + (i + 1) ≤ j ∧ j < o + (i + 1) + vs.length
        · rw [if_pos e2, if_pos (by omega)]
          have : j - (o + i) = (j - (o + (i + 1))) + 1 := by omega
          rw [this, List.getElem?_cons_succ]
        · rw [if_neg e2, if_neg e1, if_neg (by omega)]

/-- New cells in the place of old ones. -/
def splice (cs : List AV) (off : Nat) (xs : List AV) : List AV := cs.take off ++ xs ++ cs.drop (off + xs.length)
theorem splice_length {cs xs : List AV} {off : Nat} (h : off + xs.length ≤ cs.length) : (splice cs off xs).length = cs.length := by
  simp [splice]; omega
theorem splice_get {cs xs : List AV} {off : Nat} (h : off + xs.length ≤ cs.length) (j : Nat) : (splice cs off xs)[j]? = if off ≤ j ∧ j < off + xs.length then xs[j - off]? else cs[j]? := by
  unfold splice
  have ht : (cs.take off).length = off := by simp; omega
  by_cases h1 : j < off
  · rw [if_neg (by omega), List.append_assoc, List.getElem?_append_left (by omega), List.getElem?_take_of_lt h1]
  · rw [List.append_assoc, List.getElem?_append_right (by omega), ht]
    by_cases h2 : j - off < xs.length
    · rw [if_pos (by omega), List.getElem?_append_left h2]
    · rw [if_neg (by omega), List.getElem?_append_right (by omega), List.getElem?_drop]
      congr 1
      omega
theorem splice_one {cs xs : List AV} {off : Nat} (h1 : ∀ c ∈ cs, c.one = true) (h2 : ∀ c ∈ xs, c.one = true) : ∀ c ∈ splice cs off xs, c.one = true := by
  intro c hc
  simp only [splice, List.mem_append] at hc
  rcases hc with (hc | hc) | hc
  · exact h1 c (List.mem_of_mem_take hc)
  · exact h2 c hc
  · exact h1 c (List.mem_of_mem_drop hc)

/-- A store into a variable. -/
theorem run_storeVar {l b off : Nat} {t : TypeId} {n : Nat} {cs : List AV} {a : AV} {v : Value} (hm : MemOk g m w) (hb : g.box l = some b) (hl : m.boxes[l]? = some (.cells cs)) (hn : sizeT P t = some n) (ha : Rep g w a v) (ht : ∀ cs, a ≠ .tuple cs)
    (hz : a.cells.length = n) (hle : off + n ≤ cs.length) :
    ∃ w', (storeVar t ⟨b, off, none⟩ v).run P w = .ok () w' ∧ Step g m g (m.set l (.cells (splice cs off a.cells))) w w' ∧ MemOk g (m.set l (.cells (splice cs off a.cells))) w' := by
  obtain ⟨arr, ty, h1, ⟨h2, h3⟩, h4⟩ := hm.boxOk l b _ hb hl
  obtain ⟨⟨h5, h6⟩, h7⟩ := ha.cells ht
  have hlm : l < m.boxes.length := (List.getElem?_eq_some_iff.1 hl).1
  have hone : ∀ x ∈ v.cells.toList, x.oneCell' = true := by
    intro x hx
    obtain ⟨j, hj, he⟩ := List.getElem_of_mem hx
    have hj' : j < v.cells.size := by simpa using hj
    have h8 : v.cells[j]? = some x := by rw [Array.getElem?_eq_getElem hj']; simpa using he
    obtain ⟨c, hc⟩ : ∃ c, a.cells[j]? = some c := ⟨_, List.getElem?_eq_getElem (by omega)⟩
    rw [← (h6 j c x hc h8).one_iff]
    exact h7 c (List.mem_of_getElem? hc)
  obtain ⟨arr', h8, h9, h10⟩ := run_storeCells (P := P) (b := b) (o := off) (t := ty) v.cells.toList 0 arr w h1 (by simp; omega) hone
  have hs := step_setBox (.cells arr' ty (0, 0)) (.cells (splice cs off a.cells)) hb hlm hm
  refine ⟨wput w b (.cells arr' ty (0, 0)), ?_, hs, mem_setBox _ _ hb hlm hm ?_⟩
  · simp [storeVar, run_sizeOf hn, h5, hz, h8]
  · have hlt := (Array.getElem?_eq_some_iff.1 h1).1
    refine ⟨arr', ty, wput_same w b _ hlt, ⟨by rw [h9, splice_length (by omega), h2], fun j c x hc hx => ?_⟩, splice_one h4 h7⟩
    rw [splice_get (by omega)] at hc
    rw [h10 j] at hx
    simp only [Nat.add_zero, Array.length_toList] at hx
    by_cases e : off ≤ j ∧ j < off + a.cells.length
    · rw [if_pos e] at hc
      rw [if_pos (by omega)] at hx
      exact (h6 (j - off) c x hc (by simpa using hx)).step hm hs
    · rw [if_neg e] at hc
      rw [if_neg (by omega)] at hx
      exact (h3 j c x hc hx).step hm hs
end
end Go.Proofs.Ytakmilmckdllfaa.G
