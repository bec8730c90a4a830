/-
What a function does whose arguments hang on no variable: the same in whatever memory, and the memory stays.
-/
import Derived.Test.YtakmilmckdllfaaG17
set_option linter.unusedVariables false
set_option linter.unusedSimpArgs false
namespace Go.Proofs.Ytakmilmckdllfaa.G

/-- Values that hang on no variable and no row. -/
inductive Flat : AV → Prop
  | atom (v : Value) : Flat (.atom v)
  | slice (own : Own) (es : List AV) (ho : ∀ id, own ≠ .row id) (h : ∀ e ∈ es, ∀ c ∈ e.cells, Flat c) : Flat (.slice own es)
  | agg (cs : List AV) (h : ∀ c ∈ cs, Flat c) : Flat (.agg cs)
  | tuple (cs : List AV) (h : ∀ c ∈ cs, Flat c) : Flat (.tuple cs)
  | func (f : FuncId) (first cap : List AV) (h1 : ∀ c ∈ first, Flat c) (h2 : ∀ c ∈ cap, Flat c) : Flat (.func f first cap)
  | iface (t : TypeId) (x : AV) (h : Flat x) : Flat (.iface t x)

/-- A value that nobody turns any more: what it is out of a memory. -/
inductive Frz (m : Mem) : AV → AV → Prop
  | atom (v : Value) : Frz m (.atom v) (.atom v)
  | slice (own own' : Own) (es es' : List AV) (ho : own' = .foreign ∨ (own = .full ∧ own' = .full)) (hl : es'.length = es.length) (hs : ∀ (i : Nat) (e e' : AV), es[i]? = some e → es'[i]? = some e' → e'.cells.length = e.cells.length)
      (hc : ∀ (i j : Nat) (e e' c c' : AV), es[i]? = some e → es'[i]? = some e' → e.cells[j]? = some c → e'.cells[j]? = some c' → Frz m c c') : Frz m (.slice own es) (.slice own' es')
  | vec (id off len sz n : Nat) (k : Cap) (cs es' : List AV) (hr : m.rows[id]? = some (some (n, cs))) (hl : es'.length = len) (hfit : off + len * sz ≤ cs.length) (hs : ∀ e ∈ es', e.cells.length = sz)
      (hc : ∀ (i j : Nat) (e' c c' : AV), es'[i]? = some e' → cs[off + (i * sz + j)]? = some c → e'.cells[j]? = some c' → Frz m c c') : Frz m (.vec id off len sz k) (.slice .foreign es')
  | agg (cs cs' : List AV) (hl : cs'.length = cs.length) (hc : ∀ (j : Nat) (c c' : AV), cs[j]? = some c → cs'[j]? = some c' → Frz m c c') : Frz m (.agg cs) (.agg cs')
  | tuple (cs cs' : List AV) (hl : cs'.length = cs.length) (hc : ∀ (j : Nat) (c c' : AV), cs[j]? = some c → cs'[j]? = some c' → Frz m c c') : Frz m (.tuple cs) (.tuple cs')
  | func (f : FuncId) (first cap first' cap' : List AV) (hl1 : first'.length = first.length) (hl2 : cap'.length = cap.length) (h1 : ∀ (j : Nat) (c c' : AV), first[j]? = some c → first'[j]? = some c' → Frz m c c')
      (h2 : ∀ (j : Nat) (c c' : AV), cap[j]? = some c → cap'[j]? = some c' → Frz m c c') : Frz m (.func f first cap) (.func f first' cap')
  | iface (t : TypeId) (x x' : AV) (h : Frz m x x') : Frz m (.iface t x) (.iface t x')

theorem Frz.one {m : Mem} {a a' : AV} (h : Frz m a a') : a'.one = a.one := by cases h <;> rfl
theorem Flat.frz {m : Mem} {a : AV} (h : Flat a) : Frz m a a := by
  induction h with
  | atom v => exact .atom v
  | slice own es ho h ih =>
    refine .slice own own es es ?_ rfl (fun i e e' h1 h2 => by rw [h1] at h2; injection h2 with h2; subst h2; rfl) (fun i j e e' c c' h1 h2 h3 h4 => ?_)
    · cases own with
      | foreign => exact .inl rfl
      | full => exact .inr ⟨rfl, rfl⟩
      | row id => exact absurd rfl (ho id)
    · rw [h1] at h2; injection h2 with h2; subst h2
      rw [h3] at h4; injection h4 with h4; subst h4
      exact ih e (List.mem_of_getElem? h1) c (List.mem_of_getElem? h3)
  | agg cs h ih => exact .agg cs cs rfl (fun j c c' h1 h2 => by rw [h1] at h2; injection h2 with h2; subst h2; exact ih c (List.mem_of_getElem? h1))
  | tuple cs h ih => exact .tuple cs cs rfl (fun j c c' h1 h2 => by rw [h1] at h2; injection h2 with h2; subst h2; exact ih c (List.mem_of_getElem? h1))
  | func f first cap h1 h2 ih1 ih2 =>
    exact .func f first cap first cap rfl rfl (fun j c c' h1 h2 => by rw [h1] at h2; injection h2 with h2; subst h2; exact ih1 c (List.mem_of_getElem? h1)) (fun j c c' h1 h2 => by rw [h1] at h2; injection h2 with h2; subst h2; exact ih2 c (List.mem_of_getElem? h1))
  | iface t x h ih => exact .iface t x x ih

/-- A slice of own elements, handed on. -/
theorem Frz.mk {m : Mem} {own : Own} {es : List AV} (h : ∀ e ∈ es, ∀ c ∈ e.cells, Flat c) : Frz m (.slice own es) (.slice .foreign es) :=
  .slice own .foreign es es (.inl rfl) rfl (fun i e e' h1 h2 => by rw [h1] at h2; injection h2 with h2; subst h2; rfl) (fun i j e e' c c' h1 h2 h3 h4 => by
    rw [h1] at h2; injection h2 with h2; subst h2
    rw [h3] at h4; injection h4 with h4; subst h4
    exact (h e (List.mem_of_getElem? h1) c (List.mem_of_getElem? h3)).frz)

/-- What a ghost lets be of blocks that it knows of. -/
structure Gone (g' g : Gh) (m : Mem) : Prop where
  imm : ∀ b n, Imm g' b n → Imm g b n
  fresh : ∀ id b n, id < m.rows.length → g'.row id = some (some b) → Imm g b n

theorem Frz.rep {g g' : Gh} {m : Mem} {w : World} (hg : Gone g' g m) (hm : MemOk g' m w) {a a' : AV} (h : Frz m a a') : ∀ {v : Value}, Rep g' w a v → Rep g w a' v := by
  induction h with
  | atom v => intro v hr; rw [hr.atom_inv]; exact .atom _ (by generalize hx : AV.atom v = x at hr; cases hr <;> cases hx; assumption)
  | slice own own' es es' ho hl hs hc ih =>
    intro v hr
    rcases hr.slice_inv with ⟨rfl, a0, cap0, rfl, hf0, hn⟩ | ⟨b, o, cap, sz, rfl, hz, hsz, himm, hcell, hcap, hown⟩
    · have : es' = [] := List.eq_nil_of_length_eq_zero (by simpa using hl)
      subst this
      exact .nil _ _ _ (fun id e => by rcases ho with rfl | ⟨_, rfl⟩ <;> cases e) (fun e => by
        rcases ho with rfl | ⟨rfl, rfl⟩
        · cases e
        · exact hf0 rfl)
    · rw [← hl]
      have hmem : ∀ (i : Nat) (e' : AV), es'[i]? = some e' → ∃ e, es[i]? = some e := fun i e' h => ⟨_, List.getElem?_eq_getElem (by rw [← hl]; exact (List.getElem?_eq_some_iff.1 h).1)⟩
      refine Rep.slice_mk hz (fun e' he' => ?_) (fun hne => ?_) (fun i e' hi => ?_) (by omega) ?_
      · obtain ⟨i, hi, hie⟩ := List.getElem_of_mem he'
        have h1 : es'[i]? = some e' := by rw [← hie]; exact List.getElem?_eq_getElem hi
        obtain ⟨e, he⟩ := hmem i e' h1
        rw [hs i e e' he h1]; exact hsz e (List.mem_of_getElem? he)
      · rw [hl]; exact hg.imm _ _ (himm (by rintro rfl; simp at hl; exact hne hl))
      · obtain ⟨e, he⟩ := hmem i e' hi
        obtain ⟨h1, h2⟩ := hcell i e he
        have hcl := hs i e e' he hi
        have hone : ∀ (j : Nat) (c' : AV), e'.cells[j]? = some c' → ∃ c, e.cells[j]? = some c := fun j c' h => ⟨_, List.getElem?_eq_getElem (by rw [← hcl]; exact (List.getElem?_eq_some_iff.1 h).1)⟩
        refine ⟨fun c' hc' => ?_, fun j c' hj => ?_⟩
        · obtain ⟨j, hj, hje⟩ := List.getElem_of_mem hc'
          have h3 : e'.cells[j]? = some c' := by rw [← hje]; exact List.getElem?_eq_getElem hj
          obtain ⟨c, hcc⟩ := hone j c' h3
          rw [(hc i j e e' c c' he hi hcc h3).one]; exact h1 c (List.mem_of_getElem? hcc)
        · obtain ⟨c, hcc⟩ := hone j c' hj
          obtain ⟨u, h3, h4⟩ := h2 j c hcc
          exact ⟨u, h3, ih i j e e' c c' he hi hcc hj h4⟩
      · rcases ho with rfl | ⟨rfl, rfl⟩
        · trivial
        · simp only [OwnOk] at hown ⊢; omega
  | vec id off len sz n k cs es' hr' hl hfit hs hc ih =>
    intro v hr
    obtain ⟨a, cap, rfl, hspot, hz, hcap, hf, hgr, hadr⟩ := hr.vec_inv
    obtain ⟨b, hb, hw, arr, t, harr, hal, hone, hrep, hcell⟩ := hm.rowAt hr' hgr
    rw [(hadr b hb).1, ← hl]
    have hlt : id < m.rows.length := (List.getElem?_eq_some_iff.1 hr').1
    have hin : ∀ (i j : Nat) (e' c' : AV), es'[i]? = some e' → e'.cells[j]? = some c' → ∃ c, cs[off + (i * sz + j)]? = some c := by
      intro i j e' c' h1 h2
      have h3 : i < len := by rw [← hl]; exact (List.getElem?_eq_some_iff.1 h1).1
      have h4 : j < sz := by rw [← hs e' (List.mem_of_getElem? h1)]; exact (List.getElem?_eq_some_iff.1 h2).1
      have := mul_succ_le (s := sz) h3
      exact ⟨_, List.getElem?_eq_getElem (by omega)⟩
    refine Rep.slice_mk hz hs (fun _ => hg.fresh id b _ hlt hb) (fun i e' hi => ⟨fun c' hc' => ?_, fun j c' hj => ?_⟩) (by omega) trivial
    · obtain ⟨j, hj, hje⟩ := List.getElem_of_mem hc'
      have h3 : e'.cells[j]? = some c' := by rw [← hje]; exact List.getElem?_eq_getElem hj
      obtain ⟨c, hcc⟩ := hin i j e' c' hi h3
      rw [(hc i j e' c c' hi hcc h3).one]; exact hone c (List.mem_of_getElem? hcc)
    · obtain ⟨c, hcc⟩ := hin i j e' c' hi hj
      obtain ⟨u, h3, h4⟩ := hcell.2 _ c hcc
      rw [Nat.zero_add] at h3
      exact ⟨u, by rw [← h3]; congr 2; omega, ih i j e' c c' hi hcc hj h4⟩
  | agg cs cs' hl hc ih =>
    intro v hr
    obtain ⟨vs, rfl, ⟨h1, h2⟩, h3⟩ := hr.agg_inv
    have hin : ∀ (j : Nat) (c' : AV), cs'[j]? = some c' → ∃ c, cs[j]? = some c := fun j c' h => ⟨_, List.getElem?_eq_getElem (by rw [← hl]; exact (List.getElem?_eq_some_iff.1 h).1)⟩
    refine .agg _ _ (by omega) (fun c' hc' => ?_) (fun j c' v hj hv => ?_)
    · obtain ⟨j, hj, hje⟩ := List.getElem_of_mem hc'
      have h4 : cs'[j]? = some c' := by rw [← hje]; exact List.getElem?_eq_getElem hj
      obtain ⟨c, hcc⟩ := hin j c' h4
      rw [(hc j c c' hcc h4).one]; exact h3 c (List.mem_of_getElem? hcc)
    · obtain ⟨c, hcc⟩ := hin j c' hj
      exact ih j c c' hcc hj (h2 j c v hcc hv)
  | tuple cs cs' hl hc ih =>
    intro v hr
    generalize hx : AV.tuple cs = x at hr
    cases hr <;> cases hx
    rename_i vs h1 h2
    have hin : ∀ (j : Nat) (c' : AV), cs'[j]? = some c' → ∃ c, cs[j]? = some c := fun j c' h => ⟨_, List.getElem?_eq_getElem (by rw [← hl]; exact (List.getElem?_eq_some_iff.1 h).1)⟩
    refine .tuple _ _ (by omega) (fun j c' v hj hv => ?_)
    obtain ⟨c, hcc⟩ := hin j c' hj
    exact ih j c c' hcc hj (h2 j c v hcc hv)
  | func f first cap first' cap' hl1 hl2 h1 h2 ih1 ih2 =>
    intro v hr
    obtain ⟨fs, vs, rfl, ⟨a1, a2⟩, b1, b2⟩ := hr.func_inv
    refine .func f _ _ _ _ (by omega) (fun j c' v hj hv => ?_) (by omega) (fun j c' v hj hv => ?_)
    · have hlt := (List.getElem?_eq_some_iff.1 hj).1
      exact ih1 j _ c' (List.getElem?_eq_getElem (by omega)) hj (a2 j _ v (List.getElem?_eq_getElem (by omega)) hv)
    · have hlt := (List.getElem?_eq_some_iff.1 hj).1
      exact ih2 j _ c' (List.getElem?_eq_getElem (by omega)) hj (b2 j _ v (List.getElem?_eq_getElem (by omega)) hv)
  | iface t x x' h ih =>
    intro v hr
    generalize hx : AV.iface t x = y at hr
    cases hr <;> cases hx
    exact .iface t _ _ (ih (by assumption))
theorem Frz.reps {g g' : Gh} {m : Mem} {w : World} (hg : Gone g' g m) (hm : MemOk g' m w) {as as' : List AV} (hl : as'.length = as.length) (h : ∀ (j : Nat) (a a' : AV), as[j]? = some a → as'[j]? = some a' → Frz m a a') {vs : Array Value} (hr : Reps g' w as vs) : Reps g w as' vs :=
  ⟨by have := hr.1; omega, fun j a' v ha hv => by
    have hlt := (List.getElem?_eq_some_iff.1 ha).1
    exact (h j _ a' (List.getElem?_eq_getElem (by omega)) ha).rep hg hm (hr.2 j _ v (List.getElem?_eq_getElem (by omega)) hv)⟩

/-- What is flat is so under any ghost that knows less. -/
theorem Flat.rep {g g' : Gh} {w : World} (hg : ∀ b n, Imm g' b n → Imm g b n) {a : AV} (h : Flat a) : ∀ {v : Value}, Rep g' w a v → Rep g w a v := by
  induction h with
  | atom v => intro v hr; rw [hr.atom_inv]; exact .atom _ (by generalize hx : AV.atom v = x at hr; cases hr <;> cases hx; assumption)
  | slice own es ho h ih =>
    intro v hr
    rcases hr.slice_inv with ⟨rfl, a0, cap0, rfl, hf0, hn⟩ | ⟨b, o, cap, sz, rfl, hz, hsz, himm, hcell, hcap, hown⟩
    · exact .nil _ _ _ hn hf0
    · refine Rep.slice_mk hz hsz (fun hne => hg _ _ (himm hne)) (fun i e hi => ?_) hcap ?_
      · obtain ⟨h1, h2⟩ := hcell i e hi
        exact ⟨h1, fun j c hj => let ⟨u, h3, h4⟩ := h2 j c hj; ⟨u, h3, ih e (List.mem_of_getElem? hi) c (List.mem_of_getElem? hj) h4⟩⟩
      · cases own with
        | foreign => trivial
        | full => exact hown
        | row id => exact absurd rfl (ho id)
  | agg cs h ih =>
    intro v hr
    obtain ⟨vs, rfl, ⟨h1, h2⟩, h3⟩ := hr.agg_inv
    exact .agg _ _ h1 h3 (fun j c v hj hv => ih c (List.mem_of_getElem? hj) (h2 j c v hj hv))
  | tuple cs h ih =>
    intro v hr
    generalize hx : AV.tuple cs = x at hr
    cases hr <;> cases hx
    rename_i vs h1 h2
    exact .tuple _ _ h1 (fun j c v hj hv => ih c (List.mem_of_getElem? hj) (h2 j c v hj hv))
  | func f first cap h1 h2 ih1 ih2 =>
    intro v hr
    obtain ⟨fs, vs, rfl, ⟨a1, a2⟩, b1, b2⟩ := hr.func_inv
    exact .func f _ _ _ _ a1 (fun j c v hj hv => ih1 c (List.mem_of_getElem? hj) (a2 j c v hj hv)) b1 (fun j c v hj hv => ih2 c (List.mem_of_getElem? hj) (b2 j c v hj hv))
  | iface t x h ih =>
    intro v hr
    generalize hx : AV.iface t x = y at hr
    cases hr <;> cases hx
    exact .iface t _ _ (ih (by assumption))

/-- No variable, no row; rows of some types are turned in place. -/
def mE (μ : TypeId → Bool) : Mem := { boxes := [], rows := [], mode := μ }
/-- The numbers moved up. -/
def Gh.up (g : Gh) (k n : Nat) : Gh := ⟨fun l => if l < k then none else g.box (l - k), fun id => if id < n then none else g.row (id - n), fun id => g.hw (id - n)⟩

section
variable {P : Program}
theorem memOk_up {g : Gh} {m : Mem} {w : World} {μ : TypeId → Bool} (hm : MemOk g m w) (k n : Nat) : MemOk (g.up k n) (mE μ) w := by
  have hb : ∀ l b, (g.up k n).box l = some b → k ≤ l ∧ g.box (l - k) = some b := by
    intro l b h
    simp only [Gh.up] at h
    split at h
    · cases h
    · exact ⟨by omega, h⟩
  have hr : ∀ l b, (g.up k n).row l = some (some b) → n ≤ l ∧ g.row (l - n) = some (some b) := by
    intro l b h
    simp only [Gh.up] at h
    split at h
    · cases h
    · exact ⟨by omega, h⟩
  exact {
    box := fun l b h => hm.box _ b (hb l b h).2
    row := fun l b h => hm.row _ b (hr l b h).2
    boxOk := fun l b c _ h => by simp [mE] at h
    rowCells := fun l b h => hm.rowCells _ b (hr l b h).2
    rowLive := fun l x h => by simp [mE] at h
    rowOk := fun l b x cs _ h => by simp [mE] at h
    boxInj := fun l l' b h h' => by
      obtain ⟨h1, h2⟩ := hb l b h
      obtain ⟨h3, h4⟩ := hb l' b h'
      have := hm.boxInj _ _ b h2 h4; omega
    rowInj := fun l l' b h h' => by
      obtain ⟨h1, h2⟩ := hr l b h
      obtain ⟨h3, h4⟩ := hr l' b h'
      have := hm.rowInj _ _ b h2 h4; omega
    apart := fun l id b h h' => hm.apart _ _ b (hb l b h).2 (hr id b h').2 }
theorem imm_up {g : Gh} {k n b x : Nat} : Imm g b x → Imm (g.up k n) b x := by
  intro h
  refine ⟨fun l hl => ?_, fun id hid => ?_⟩
  · simp only [Gh.up] at hl
    split at hl
    · cases hl
    · exact h.1 _ hl
  · simp only [Gh.up] at hid ⊢
    split at hid
    · cases hid
    · exact h.2 _ hid

/-- What a call does in whatever memory: it tells r, and all stays. -/
def Fn (P : Program) (f : FuncId) (args : List AV) (r : AV) : Prop := ∀ m, ACalls P f args m r m

theorem Fn.of {f : FuncId} {args : List AV} {r0 r : AV} {m1 : Mem} {μ : TypeId → Bool} (h : ACalls P f args (mE μ) r0 m1) (ha : ∀ a ∈ args, Flat a) (hr : Frz m1 r0 r) : Fn P f args r := by
  intro m
  refine ⟨h.1, Mono.refl m, fun g w vs _ hm hargs => ?_⟩
  have hm2 := memOk_up (μ := μ) hm m1.boxes.length m1.rows.length
  have hf2 : Fresh (g.up m1.boxes.length m1.rows.length) (mE μ) m1 := ⟨fun l _ h2 => by simp [Gh.up, h2], fun l _ h2 => by simp [Gh.up, h2]⟩
  have hargs2 : Reps (g.up m1.boxes.length m1.rows.length) w args vs := ⟨hargs.1, fun j a v h1 h2 => (ha a (List.mem_of_getElem? h1)).rep (fun b n => imm_up) (hargs.2 j a v h1 h2)⟩
  refine (h.2.2 _ w vs hf2 hm2 hargs2).mono ?_
  rintro e w' ⟨v, g', rfl, hs, hm1, hv⟩
  have hplain : ∀ b, b < w.heap.size → w'.heap[b]? = w.heap[b]? := fun b hb => hs.same b hb (fun l h => by simp [mE] at h) (fun l h => by simp [mE] at h)
  have hst : Step g m g m w w' := Step.plain hs.os hs.tape hs.output hs.size hplain
  have hbox : ∀ l b, g.box l = some b → g'.box (l + m1.boxes.length) = some b := fun l b h => hs.boxUp (by simp [Gh.up, h])
  have hrow : ∀ id b, g.row id = some (some b) → g'.row (id + m1.rows.length) = some (some b) ∧ g'.hw (id + m1.rows.length) = g.hw id := by
    intro id b h
    obtain ⟨h1, h2⟩ := hs.rowOut (id + m1.rows.length) (by omega)
    exact ⟨by rw [h1]; simp [Gh.up, h], by rw [h2]; simp [Gh.up]⟩
  refine ⟨v, g, rfl, hst, hm.plain hst hplain, hr.rep ⟨fun b n hi => ⟨fun l hl => hi.1 _ (hbox l b hl), fun id hid => ?_⟩, fun id b n hid hb => ⟨fun l hl => ?_, fun id' hid' => ?_⟩⟩ hm1 hv⟩
  · obtain ⟨h1, h2⟩ := hrow id b hid
    have := hi.2 _ h1
    omega
  · exact hm1.apart _ id b (hbox l b hl) hb
  · have := hm1.rowInj _ _ b hb (hrow id' b hid').1
    omega

/-- Values out of numbers and truths alone. -/
inductive Scal : AV → Prop
  | atom (v : Value) : Scal (.atom v)
  | agg (cs : List AV) (h : ∀ c ∈ cs, Scal c) : Scal (.agg cs)
  | tuple (cs : List AV) (h : ∀ c ∈ cs, Scal c) : Scal (.tuple cs)
theorem Scal.rep {g g' : Gh} {w : World} {a : AV} (h : Scal a) : ∀ {v : Value}, Rep g' w a v → Rep g w a v := by
  induction h with
  | atom v => intro v hr; rw [hr.atom_inv]; exact .atom _ (by generalize hx : AV.atom v = x at hr; cases hr <;> cases hx; assumption)
  | agg cs h ih =>
    intro v hr
    obtain ⟨vs, rfl, ⟨h1, h2⟩, h3⟩ := hr.agg_inv
    exact .agg _ _ h1 h3 (fun j c v hj hv => ih c (List.mem_of_getElem? hj) (h2 j c v hj hv))
  | tuple cs h ih =>
    intro v hr
    generalize hx : AV.tuple cs = x at hr
    cases hr <;> cases hx
    rename_i vs h1 h2
    exact .tuple _ _ h1 (fun j c v hj hv => ih c (List.mem_of_getElem? hj) (h2 j c v hj hv))

def gE : Gh := ⟨fun _ => none, fun _ => none, fun _ => 0⟩
/-- A call that reads what others may turn, and tells numbers and truths. -/
theorem Fn.read {f : FuncId} {args args' : List AV} {r : AV} (h : Fn P f args r) (hr : Scal r) {m : Mem} (hl : args.length = args'.length) (ha : ∀ (j : Nat) (a a' : AV), args'[j]? = some a → args[j]? = some a' → Frz m a a') : ACalls P f args' m r m := by
  have h0 := h (mE fun _ => false)
  refine ⟨h0.1, Mono.refl m, fun g w vs _ hm hargs => ?_⟩
  have hm2 : MemOk gE (mE fun _ => false) w := by constructor <;> intros <;> simp_all [gE, mE]
  have himm : ∀ b n, Imm gE b n := fun b n => ⟨fun l h => by simp [gE] at h, fun id h => by simp [gE] at h⟩
  have hargs2 : Reps gE w args vs := Frz.reps ⟨fun b n _ => himm b n, fun id b n _ _ => himm b n⟩ hm hl ha hargs
  refine (h0.2.2 gE w vs ⟨fun _ _ _ => rfl, fun _ _ _ => rfl⟩ hm2 hargs2).mono ?_
  rintro e w' ⟨v, g', rfl, hs, hm1, hv⟩
  have hplain : ∀ b, b < w.heap.size → w'.heap[b]? = w.heap[b]? := fun b hb => hs.same b hb (fun l h => by simp [mE] at h) (fun l h => by simp [mE] at h)
  have hst : Step g m g m w w' := Step.plain hs.os hs.tape hs.output hs.size hplain
  exact ⟨v, g, rfl, hst, hm.plain hst hplain, hr.rep hv⟩

theorem Fn.does {f : FuncId} {args : List AV} {r : AV} (h : Fn P f args r) (m : Mem) {K : AV → Mem → Prop} (hk : K r m) : Does P f args m K := ⟨r, m, h m, hk⟩
/-- **From a function's text to what it does in whatever memory.** -/
theorem Does.fn {f : FuncId} {args : List AV} {r : AV} (μ : TypeId → Bool) (ha : ∀ a ∈ args, Flat a) (h : Does P f args (mE μ) fun r0 m1 => Frz m1 r0 r) : Fn P f args r := by
  obtain ⟨r0, m1, h1, h2⟩ := h
  exact .of h1 ha h2
theorem DoesV.fn {g : FuncId} {args : List AV} {r : AV} {m : Mem} {e : Prop} {K : AV → Mem → Prop} (h : Fn P g args r) (hk : K r m) : DoesV P (.func g [] []) args m (SAfter m e K) :=
  ⟨r, m, .of_func (by simpa using h m), fun _ => Ext.refl _, hk⟩
theorem DoesV.read {g : FuncId} {args args' : List AV} {r : AV} {m : Mem} {e : Prop} {K : AV → Mem → Prop} (h : Fn P g args r) (hr : Scal r) (hl : args.length = args'.length) (ha : ∀ (j : Nat) (a a' : AV), args'[j]? = some a → args[j]? = some a' → Frz m a a') (hk : K r m) :
    DoesV P (.func g [] []) args' m (SAfter m e K) :=
  ⟨r, m, .of_func (by simpa using h.read hr hl ha), fun _ => Ext.refl _, hk⟩
end
end Go.Proofs.Ytakmilmckdllfaa.G
