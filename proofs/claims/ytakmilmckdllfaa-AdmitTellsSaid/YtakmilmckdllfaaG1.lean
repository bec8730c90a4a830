/-
Abstract values of a Go program, and how they stand in the machine's memory: what is read is a list, a variable in memory has a number. Written in this session's own repo; generic over the program.
-/
import Derived.CallsIn
import Derived.RowKit3
import Derived.Below
set_option linter.unusedVariables false
set_option linter.unusedSimpArgs false
namespace Go.Proofs.Ytakmilmckdllfaa.G

/-- Who may append to a slice in place. -/
inductive Own where
  | foreign
  | full
  | row (id : Nat)
  deriving DecidableEq

/-- What is known of a slice's capacity: it goes to its block's end; it is full; nothing. -/
inductive Cap where
  | opn
  | full
  | any
  deriving DecidableEq

/-- Abstract values. -/
inductive AV where
  | atom (v : Value)
  | slice (own : Own) (es : List AV)
  | eptr (e : AV) (off : Nat)
  | ptr (l off : Nat)
  | func (f : FuncId) (first cap : List AV)
  | iface (t : TypeId) (v : AV)
  | agg (cs : List AV)
  | tuple (vs : List AV)
  | yield (l : Nat)
  | map (l : Nat)
  | vec (id off len sz : Nat) (k : Cap)
  | vptr (id off : Nat)

def scalar : Value → Bool
  | .bool _ | .int _ _ | .string _ | .pointer none | .map none | .nilFunc | .nilIface => true
  | _ => false

def AV.cells : AV → List AV
  | .agg cs => cs
  | v => [v]

def AV.one : AV → Bool
  | .agg _ | .tuple _ => false
  | _ => true

abbrev AV.i64 (n : Int) : AV := .atom (.int .i64 n)
abbrev AV.u64 (n : Int) : AV := .atom (.int .u64 n)
abbrev AV.bool (b : Bool) : AV := .atom (.bool b)
abbrev AV.undef : AV := .tuple []

/-- What is dropped where a value is handed on: who may append to it. -/
def AV.strip1 : AV → AV
  | .slice _ es => .slice .foreign es
  | v => v
def AV.strip : AV → AV
  | .slice _ es => .slice .foreign es
  | .agg cs => .agg (cs.map AV.strip1)
  | v => v
/-- Of a result: a slice stays its caller's own. -/
def AV.stripR1 : AV → AV
  | .agg cs => .agg (cs.map AV.strip1)
  | v => v
def AV.stripR : AV → AV
  | .agg cs => .agg (cs.map AV.strip1)
  | .tuple vs => .tuple (vs.map AV.stripR1)
  | v => v

/-- The state of a loop over a function. -/
structure LoopRec where
  state : LoopState
  pending : Option Code

inductive ABox where
  | cells (cs : List AV)
  | loop (st : LoopState) (pending : Option Code) (tmps : List AV) (params : Array Tmp) (assign body : Code)
  | map (es : List (Value × AV × Nat)) (clock : Nat)

/-- Variables; rows that grow: how many cells stay as they are, and what the first cells hold (none: the row has been handed on); whose new rows are turned in place. -/
structure Mem where
  boxes : List ABox
  rows : List (Option (Nat × List AV))
  mode : TypeId → Bool := fun _ => false

/-- Which block a variable, a row is (a row: none: there is none; some none: it has been handed on); how many cells of a row are in use. -/
structure Gh where
  box : Nat → Option Nat
  row : Nat → Option (Option Nat)
  hw : Nat → Nat

/-- The first n cells of a block stay. -/
def Imm (g : Gh) (b n : Nat) : Prop := (∀ l, g.box l ≠ some b) ∧ ∀ id, g.row id = some (some b) → n ≤ g.hw id

def OwnOk (g : Gh) (w : World) (own : Own) (b o len cap sz : Nat) : Prop :=
  match own with
  | .foreign => True
  | .full => cap = len
  | .row id => g.row id ≠ none ∧ ∀ b', g.row id = some (some b') → b' = b ∧ o = 0 ∧ ∃ arr t, w.heap[b]? = some (.cells arr t (0, 0)) ∧ arr.size = cap * sz

inductive Rep (g : Gh) (w : World) : AV → Value → Prop
  | atom (v : Value) (h : scalar v = true) : Rep g w (.atom v) v
  | ptr (l off b : Nat) (h : g.box l = some b) : Rep g w (.ptr l off) (.pointer (some ⟨b, off, none⟩))
  | yield (l b : Nat) (h : g.box l = some b) : Rep g w (.yield l) (.func (.yield b) #[] #[])
  | map (l b : Nat) (h : g.box l = some b) : Rep g w (.map l) (.map (some b))
  | vptr (id off : Nat) (a : Addr) (hs : a.spot = none) (hn : g.row id ≠ none) (ha : ∀ b, g.row id = some (some b) → a = ⟨b, off, none⟩) : Rep g w (.vptr id off) (.pointer (some a))
  | vec (id off len sz : Nat) (k : Cap) (a : Addr) (cap : Nat) (hs : a.spot = none) (hz : 0 < sz) (hcap : len ≤ cap) (hf : k = .full → cap = len) (hn : g.row id ≠ none)
      (ha : ∀ b, g.row id = some (some b) → a = ⟨b, off, none⟩ ∧ ∃ arr t, w.heap[b]? = some (.cells arr t (0, 0)) ∧ off + cap * sz ≤ arr.size ∧ (k = .opn → off + cap * sz = arr.size)) : Rep g w (.vec id off len sz k) (.slice (some a) len cap)
  | eptr (e : AV) (off b o : Nat) (vals : Nat → Value) (hi : Imm g b (o + e.cells.length)) (hc : ∀ j, j < e.cells.length → w.cell? ⟨b, o + j, none⟩ = some (vals j))
      (hr : ∀ (j : Nat) (c : AV), e.cells[j]? = some c → Rep g w c (vals j)) (ho : ∀ c ∈ e.cells, c.one = true) (hn : e.cells ≠ []) : Rep g w (.eptr e off) (.pointer (some ⟨b, o + off, none⟩))
  | func (f : FuncId) (first cap : List AV) (fs vs : Array Value) (hlf : fs.size = first.length) (hrf : ∀ (j : Nat) (c : AV) (v : Value), first[j]? = some c → fs[j]? = some v → Rep g w c v)
      (hl : vs.size = cap.length) (hr : ∀ (j : Nat) (c : AV) (v : Value), cap[j]? = some c → vs[j]? = some v → Rep g w c v) : Rep g w (.func f first cap) (.func (.func f) fs vs)
  | iface (t : TypeId) (x : AV) (v : Value) (h : Rep g w x v) : Rep g w (.iface t x) (.iface t v)
  | agg (cs : List AV) (vs : Array Value) (hl : vs.size = cs.length) (ho : ∀ c ∈ cs, c.one = true) (hr : ∀ (j : Nat) (c : AV) (v : Value), cs[j]? = some c → vs[j]? = some v → Rep g w c v) : Rep g w (.agg cs) (.agg vs)
  | tuple (cs : List AV) (vs : Array Value) (hl : vs.size = cs.length) (hr : ∀ (j : Nat) (c : AV) (v : Value), cs[j]? = some c → vs[j]? = some v → Rep g w c v) : Rep g w (.tuple cs) (.tuple vs)
  | nil (own : Own) (a : Option Addr) (cap : Nat) (hown : ∀ id, own ≠ .row id) (hf : own = .full → cap = 0) : Rep g w (.slice own []) (.slice a 0 cap)
  | slice (own : Own) (es : List AV) (b o cap sz : Nat) (vals : Nat → Value) (hz : 0 < sz) (hs : ∀ e ∈ es, e.cells.length = sz) (hi : es ≠ [] → Imm g b (o + es.length * sz))
      (hc : ∀ j, j < es.length * sz → w.cell? ⟨b, o + j, none⟩ = some (vals j)) (hr : ∀ (i j : Nat) (e c : AV), es[i]? = some e → e.cells[j]? = some c → Rep g w c (vals (i * sz + j)))
      (ho : ∀ e ∈ es, ∀ c ∈ e.cells, c.one = true) (hcap : es.length ≤ cap) (hown : OwnOk g w own b o es.length cap sz) : Rep g w (.slice own es) (.slice (some ⟨b, o, none⟩) es.length cap)

/-- A list of values, one by one. -/
def Reps (g : Gh) (w : World) (as : List AV) (vs : Array Value) : Prop := vs.size = as.length ∧ ∀ (j : Nat) (a : AV) (v : Value), as[j]? = some a → vs[j]? = some v → Rep g w a v

/-- What a numbered block holds. -/
def BoxOk (g : Gh) (w : World) (b : Nat) : ABox → Prop
  | .cells cs => ∃ vs t, w.heap[b]? = some (.cells vs t (0, 0)) ∧ Reps g w cs vs ∧ ∀ c ∈ cs, c.one = true
  | .loop st pending tmps params assign body => ∃ vs d fn, w.heap[b]? = some (.loop { state := st, pending, fn, tmps := vs, params, assign, body, defers := d }) ∧ Reps g w tmps vs
  | .map es clock => ∃ vs : Array MapEntry, w.heap[b]? = some (.map vs clock) ∧ vs.size = es.length ∧ ∀ (j : Nat) (k : Value) (a : AV) (n : Nat) (e : MapEntry), es[j]? = some (k, a, n) → vs[j]? = some e → e.key = k ∧ e.born = n ∧ Rep g w a e.val

/-- What the first cells of a row hold. -/
def RowOk (g : Gh) (w : World) (b : Nat) (cs : List AV) : Prop := ∃ arr t, w.heap[b]? = some (.cells arr t (0, 0)) ∧ cs.length ≤ arr.size ∧ ∀ (j : Nat) (c : AV), cs[j]? = some c → c.one = true ∧ ∀ v, arr[j]? = some v → Rep g w c v

structure MemOk (g : Gh) (m : Mem) (w : World) : Prop where
  box : ∀ l b, g.box l = some b → b < w.heap.size
  row : ∀ id b, g.row id = some (some b) → b < w.heap.size
  boxOk : ∀ l b c, g.box l = some b → m.boxes[l]? = some c → BoxOk g w b c
  rowCells : ∀ id b, g.row id = some (some b) → ∃ arr t, w.heap[b]? = some (.cells arr t (0, 0))
  rowLive : ∀ id n, m.rows[id]? = some (some n) → g.row id ≠ none → ∃ b, g.row id = some (some b) ∧ g.hw id = n.1
  rowOk : ∀ id b n cs, g.row id = some (some b) → m.rows[id]? = some (some (n, cs)) → RowOk g w b cs
  boxInj : ∀ l l' b, g.box l = some b → g.box l' = some b → l = l'
  rowInj : ∀ l l' b, g.row l = some (some b) → g.row l' = some (some b) → l = l'
  apart : ∀ l id b, g.box l = some b → g.row id ≠ some (some b)

/-- How the world goes on while the variables go from m to m'. -/
structure Step (g : Gh) (m : Mem) (g' : Gh) (m' : Mem) (w w' : World) : Prop where
  os : w'.os = w.os
  tape : w'.tape = w.tape
  output : w'.output = w.output
  size : w.heap.size ≤ w'.heap.size
  boxes : m.boxes.length ≤ m'.boxes.length
  rows : m.rows.length ≤ m'.rows.length
  freshBox : ∀ l, m.boxes.length ≤ l → l < m'.boxes.length → g.box l = none
  freshRow : ∀ l, m.rows.length ≤ l → l < m'.rows.length → g.row l = none
  boxOld : ∀ l, l < m.boxes.length ∨ m'.boxes.length ≤ l → g'.box l = g.box l
  boxNew : ∀ l b, g'.box l = some b → g.box l = none → w.heap.size ≤ b
  rowOut : ∀ l, m'.rows.length ≤ l → g'.row l = g.row l ∧ g'.hw l = g.hw l
  rowIn : ∀ l b, l < m.rows.length → g'.row l = some (some b) → g.row l = some (some b) ∧ g.hw l ≤ g'.hw l
  rowStay : ∀ l, l < m.rows.length → (g'.row l ≠ none ↔ g.row l ≠ none)
  rowNew : ∀ l b, m.rows.length ≤ l → l < m'.rows.length → g'.row l = some (some b) → w.heap.size ≤ b ∨ ∃ l0, l0 < m.rows.length ∧ g.row l0 = some (some b) ∧ g.hw l0 ≤ g'.hw l
  same : ∀ b, b < w.heap.size → (∀ l, l < m.boxes.length → g.box l ≠ some b) → (∀ l, l < m.rows.length → g.row l ≠ some (some b)) → w'.heap[b]? = w.heap[b]?
  sameRow : ∀ id b, id < m.rows.length → g.row id = some (some b) → ∀ arr t, w.heap[b]? = some (.cells arr t (0, 0)) → ∃ arr', w'.heap[b]? = some (.cells arr' t (0, 0)) ∧ arr'.size = arr.size ∧ ∀ j, j < g.hw id → arr'[j]? = arr[j]?

theorem cell?_lt {w : World} {b o : Nat} {v : Value} (h : w.cell? ⟨b, o, none⟩ = some v) : b < w.heap.size := by
  unfold World.cell? at h
  dsimp only at h
  split at h
  · rename_i heq; exact (Array.getElem?_eq_some_iff.1 heq).1
  · cases h

theorem cell?_of {w w' : World} {b o : Nat} (h : w'.heap[b]? = w.heap[b]?) : w'.cell? ⟨b, o, none⟩ = w.cell? ⟨b, o, none⟩ := by
  unfold World.cell?
  dsimp only
  rw [h]

section
variable {g g' : Gh} {m m' : Mem} {w w' : World}

theorem Step.boxUp (h : Step g m g' m' w w') {l b : Nat} (hb : g.box l = some b) : g'.box l = some b := by
  rcases Nat.lt_or_ge l m.boxes.length with h1 | h1
  · rw [h.boxOld l (.inl h1)]; exact hb
  · rcases Nat.lt_or_ge l m'.boxes.length with h2 | h2
    · rw [h.freshBox l h1 h2] at hb; cases hb
    · rw [h.boxOld l (.inr h2)]; exact hb
theorem Step.rowMem (h : Step g m g' m' w w') {l : Nat} (hb : g.row l ≠ none) : g'.row l ≠ none := by
  rcases Nat.lt_or_ge l m.rows.length with h1 | h1
  · exact (h.rowStay l h1).2 hb
  · rcases Nat.lt_or_ge l m'.rows.length with h2 | h2
    · exact absurd (h.freshRow l h1 h2) hb
    · rw [(h.rowOut l h2).1]; exact hb
theorem Step.boxDown (h : Step g m g' m' w w') {l b : Nat} (hb : g'.box l = some b) (hlt : b < w.heap.size) : g.box l = some b := by
  cases hg : g.box l with
  | none => have := h.boxNew l b hb hg; omega
  | some c => have := h.boxUp hg; rw [hb] at this; exact this.symm
theorem Step.rowDown (h : Step g m g' m' w w') {l b : Nat} (hb : g'.row l = some (some b)) (hlt : b < w.heap.size) : ∃ l0, g.row l0 = some (some b) ∧ g.hw l0 ≤ g'.hw l := by
  rcases Nat.lt_or_ge l m.rows.length with h1 | h1
  · exact ⟨l, h.rowIn l b h1 hb⟩
  · rcases Nat.lt_or_ge l m'.rows.length with h2 | h2
    · rcases h.rowNew l b h1 h2 hb with h3 | ⟨l0, _, h3, h4⟩
      · omega
      · exact ⟨l0, h3, h4⟩
    · obtain ⟨h3, h4⟩ := h.rowOut l h2
      exact ⟨l, by rw [← h3]; exact hb, by rw [h4]; exact Nat.le_refl _⟩
/-- An old number's row. -/
theorem Step.rowSame (h : Step g m g' m' w w') {l b : Nat} (hg : g.row l ≠ none) (hb : g'.row l = some (some b)) : g.row l = some (some b) ∧ g.hw l ≤ g'.hw l := by
  rcases Nat.lt_or_ge l m.rows.length with h1 | h1
  · exact h.rowIn l b h1 hb
  · rcases Nat.lt_or_ge l m'.rows.length with h2 | h2
    · exact absurd (h.freshRow l h1 h2) hg
    · obtain ⟨h3, h4⟩ := h.rowOut l h2
      exact ⟨by rw [← h3]; exact hb, by rw [h4]; exact Nat.le_refl _⟩

theorem Step.imm (h : Step g m g' m' w w') {b n : Nat} (hlt : b < w.heap.size) (hi : Imm g b n) : Imm g' b n :=
  ⟨fun l hl => hi.1 l (h.boxDown hl hlt), fun id hid => let ⟨l0, h1, h2⟩ := h.rowDown hid hlt; Nat.le_trans (hi.2 l0 h1) h2⟩

theorem Step.cell (h : Step g m g' m' w w') {b n j : Nat} {v : Value} (hi : Imm g b n) (hj : j < n) (hm : MemOk g m w) (hc : w.cell? ⟨b, j, none⟩ = some v) : w'.cell? ⟨b, j, none⟩ = some v := by
  have hlt := cell?_lt hc
  by_cases hr : ∃ id, id < m.rows.length ∧ g.row id = some (some b)
  · obtain ⟨id, hid, hb⟩ := hr
    obtain ⟨arr, t, ha⟩ := hm.rowCells id b hb
    obtain ⟨arr', ha', _, he⟩ := h.sameRow id b hid hb arr t ha
    have hw : j < g.hw id := Nat.lt_of_lt_of_le hj (hi.2 id hb)
    unfold World.cell? at hc ⊢
    dsimp only at hc ⊢
    rw [ha] at hc
    rw [ha']
    dsimp only at hc ⊢
    rw [he j hw]; exact hc
  · rw [cell?_of (h.same b hlt (fun l _ => hi.1 l) (fun l hl hb => hr ⟨l, hl, hb⟩))]; exact hc

theorem Step.ownOk (h : Step g m g' m' w w') (hm : MemOk g m w) {own : Own} {b o len cap sz : Nat} (ho : OwnOk g w own b o len cap sz) : OwnOk g' w' own b o len cap sz := by
  cases own with
  | foreign => trivial
  | full => exact ho
  | row id =>
    obtain ⟨hne, ho⟩ := ho
    refine ⟨h.rowMem hne, fun b' hb' => ?_⟩
    obtain ⟨hb, _⟩ := h.rowSame hne hb'
    obtain ⟨rfl, h0, arr, t, ha, hs⟩ := ho b' hb
    refine ⟨rfl, h0, ?_⟩
    by_cases hid : id < m.rows.length
    · obtain ⟨arr', ha', hz, _⟩ := h.sameRow id b' hid hb arr t ha
      exact ⟨arr', t, ha', hz.trans hs⟩
    · have hlt : b' < w.heap.size := hm.row id b' hb
      refine ⟨arr, t, ?_, hs⟩
      rw [h.same b' hlt (fun l _ e => hm.apart l id b' e hb) (fun l hl e => hid (hm.rowInj l id b' e hb ▸ hl))]; exact ha

theorem Step.vecOk (h : Step g m g' m' w w') (hm : MemOk g m w) {id off cap sz : Nat} {k : Cap} {a : Addr} (hn : g.row id ≠ none)
    (ha : ∀ b, g.row id = some (some b) → a = ⟨b, off, none⟩ ∧ ∃ arr t, w.heap[b]? = some (.cells arr t (0, 0)) ∧ off + cap * sz ≤ arr.size ∧ (k = .opn → off + cap * sz = arr.size)) :
    ∀ b, g'.row id = some (some b) → a = ⟨b, off, none⟩ ∧ ∃ arr t, w'.heap[b]? = some (.cells arr t (0, 0)) ∧ off + cap * sz ≤ arr.size ∧ (k = .opn → off + cap * sz = arr.size) := by
  intro b hb
  obtain ⟨hb', _⟩ := h.rowSame hn hb
  obtain ⟨rfl, arr, t, he, h1, h2⟩ := ha b hb'
  refine ⟨rfl, ?_⟩
  by_cases hid : id < m.rows.length
  · obtain ⟨arr', ha', hz, _⟩ := h.sameRow id b hid hb' arr t he
    exact ⟨arr', t, ha', by rw [hz]; exact h1, fun hf => by rw [hz]; exact h2 hf⟩
  · have hlt : b < w.heap.size := hm.row id b hb'
    refine ⟨arr, t, ?_, h1, h2⟩
    rw [h.same b hlt (fun l _ e => hm.apart l id b e hb') (fun l hl e => hid (hm.rowInj l id b e hb' ▸ hl))]; exact he

theorem Rep.step {av : AV} {v : Value} (hr : Rep g w av v) (hm : MemOk g m w) (h : Step g m g' m' w w') : Rep g' w' av v := by
  induction hr with
  | atom v hv => exact .atom v hv
  | ptr l off b hb => exact .ptr l off b (h.boxUp hb)
  | yield l b hb => exact .yield l b (h.boxUp hb)
  | map l b hb => exact .map l b (h.boxUp hb)
  | vptr id off a hs hn ha => exact .vptr id off a hs (h.rowMem hn) (fun b hb => ha b (h.rowSame hn hb).1)
  | vec id off len sz k a cap hs hz hcap hf hn ha => exact .vec id off len sz k a cap hs hz hcap hf (h.rowMem hn) (h.vecOk hm hn ha)
  | eptr e off b o vals hi hc hr ho hn ih =>
    have hlt : b < w.heap.size := by
      have : 0 < e.cells.length := List.length_pos_iff.2 hn
      exact cell?_lt (hc 0 this)
    exact .eptr e off b o vals (h.imm hlt hi) (fun j hj => h.cell hi (by omega) hm (hc j hj)) ih ho hn
  | func f first cap fs vs hlf hrf hl hr ihf ih => exact .func f first cap fs vs hlf ihf hl ih
  | iface t x v hx ih => exact .iface t x v ih
  | agg cs vs hl ho hr ih => exact .agg cs vs hl ho ih
  | tuple cs vs hl hr ih => exact .tuple cs vs hl ih
  | nil own a cap hown hf => exact .nil own a cap hown hf
  | slice own es b o cap sz vals hz hs hi hc hr ho hcap hown ih =>
    have hlt : es ≠ [] → b < w.heap.size := by
      intro hne
      have h1 : 0 < es.length := List.length_pos_iff.2 hne
      exact cell?_lt (hc 0 (Nat.mul_pos h1 hz))
    have hne : ∀ j, j < es.length * sz → es ≠ [] := by
      rintro j hj rfl
      simp at hj
    exact .slice own es b o cap sz vals hz hs (fun h0 => h.imm (hlt h0) (hi h0)) (fun j hj => h.cell (hi (hne j hj)) (by omega) hm (hc j hj)) ih ho hcap (h.ownOk hm hown)

theorem Reps.step {as : List AV} {vs : Array Value} (hr : Reps g w as vs) (hm : MemOk g m w) (h : Step g m g' m' w w') : Reps g' w' as vs :=
  ⟨hr.1, fun j a v ha hv => (hr.2 j a v ha hv).step hm h⟩

theorem Step.refl (g : Gh) (m : Mem) (w : World) : Step g m g m w w where
  os := rfl
  tape := rfl
  output := rfl
  size := Nat.le_refl _
  boxes := Nat.le_refl _
  rows := Nat.le_refl _
  freshBox := fun l h1 h2 => by omega
  freshRow := fun l h1 h2 => by omega
  boxOld := fun _ _ => rfl
  boxNew := fun l b h1 h2 => by rw [h2] at h1; cases h1
  rowOut := fun _ _ => ⟨rfl, rfl⟩
  rowIn := fun _ _ _ h => ⟨h, Nat.le_refl _⟩
  rowStay := fun _ _ => Iff.rfl
  rowNew := fun l b h1 h2 => by omega
  same := fun _ _ _ _ => rfl
  sameRow := fun _ _ _ _ arr t h => ⟨arr, h, rfl, fun _ _ => rfl⟩

theorem Step.trans {g'' : Gh} {m'' : Mem} {w'' : World} (h : Step g m g' m' w w') (k : Step g' m' g'' m'' w' w'') (hm : MemOk g m w) : Step g m g'' m'' w w'' where
  os := k.os.trans h.os
  tape := k.tape.trans h.tape
  output := k.output.trans h.output
  size := Nat.le_trans h.size k.size
  boxes := Nat.le_trans h.boxes k.boxes
  rows := Nat.le_trans h.rows k.rows
  freshBox := fun l h1 h2 => by
    rcases Nat.lt_or_ge l m'.boxes.length with h3 | h3
    · exact h.freshBox l h1 h3
    · rw [← h.boxOld l (.inr h3)]; exact k.freshBox l h3 h2
  freshRow := fun l h1 h2 => by
    rcases Nat.lt_or_ge l m'.rows.length with h3 | h3
    · exact h.freshRow l h1 h3
    · rw [← (h.rowOut l h3).1]; exact k.freshRow l h3 h2
  boxOld := fun l hl => by
    have hb := h.boxes; have kb := k.boxes
    rcases hl with hl | hl
    · rw [k.boxOld l (.inl (by omega)), h.boxOld l (.inl hl)]
    · rw [k.boxOld l (.inr hl), h.boxOld l (.inr (by omega))]
  boxNew := fun l b h1 h2 => by
    cases hg : g'.box l with
    | none => have := k.boxNew l b h1 hg; have := h.size; omega
    | some c => have e := k.boxUp hg; rw [h1] at e; cases e; exact h.boxNew l b hg h2
  rowOut := fun l hl => by
    have kr := k.rows
    obtain ⟨a, b⟩ := k.rowOut l hl
    obtain ⟨c, d⟩ := h.rowOut l (by omega)
    exact ⟨a.trans c, b.trans d⟩
  rowIn := fun l b hl hb => by
    have hr := h.rows
    obtain ⟨h1, h2⟩ := k.rowIn l b (by omega) hb
    obtain ⟨h3, h4⟩ := h.rowIn l b hl h1
    exact ⟨h3, Nat.le_trans h4 h2⟩
  rowStay := fun l hl => (k.rowStay l (Nat.lt_of_lt_of_le hl h.rows)).trans (h.rowStay l hl)
  rowNew := fun l b h1 h2 hb => by
    rcases Nat.lt_or_ge l m'.rows.length with h3 | h3
    · obtain ⟨h4, h5⟩ := k.rowIn l b h3 hb
      rcases h.rowNew l b h1 h3 h4 with h6 | ⟨l0, h6, h7, h8⟩
      · exact .inl h6
      · exact .inr ⟨l0, h6, h7, Nat.le_trans h8 h5⟩
    · rcases k.rowNew l b h3 h2 hb with h6 | ⟨l1, h6, h7, h8⟩
      · exact .inl (Nat.le_trans h.size h6)
      · rcases Nat.lt_or_ge l1 m.rows.length with h9 | h9
        · obtain ⟨h10, h11⟩ := h.rowIn l1 b h9 h7
          exact .inr ⟨l1, h9, h10, Nat.le_trans h11 h8⟩
        · rcases h.rowNew l1 b h9 h6 h7 with h10 | ⟨l0, h10, h11, h12⟩
          · exact .inl h10
          · exact .inr ⟨l0, h10, h11, Nat.le_trans h12 h8⟩
  same := fun b hb h1 h2 => by
    have hs := h.size
    rw [k.same b (by omega) (fun l hl e => ?_) (fun l hl e => ?_), h.same b hb h1 h2]
    · have e' := h.boxDown e hb
      rcases Nat.lt_or_ge l m.boxes.length with h3 | h3
      · exact h1 l h3 e'
      · rw [h.freshBox l h3 hl] at e'; cases e'
    · rcases Nat.lt_or_ge l m.rows.length with h3 | h3
      · exact h2 l h3 (h.rowIn l b h3 e).1
      · rcases h.rowNew l b h3 hl e with h4 | ⟨l0, h4, h5, _⟩
        · omega
        · exact h2 l0 h4 h5
  sameRow := fun id b hid hb arr t ha => by
    obtain ⟨arr', ha', hz, he⟩ := h.sameRow id b hid hb arr t ha
    have hlt := hm.row id b hb
    have hs := h.size
    by_cases hr : ∃ l, l < m'.rows.length ∧ g'.row l = some (some b)
    · obtain ⟨l, hl, hbl⟩ := hr
      obtain ⟨l0, h1, h2⟩ := h.rowDown hbl hlt
      have e := hm.rowInj _ _ _ h1 hb
      subst e
      obtain ⟨arr'', ha'', hz', he'⟩ := k.sameRow l b hl hbl arr' t ha'
      exact ⟨arr'', ha'', hz'.trans hz, fun j hj => (he' j (Nat.lt_of_lt_of_le hj h2)).trans (he j hj)⟩
    · refine ⟨arr', ?_, hz, he⟩
      rw [k.same b (by omega) (fun l hl e => hm.apart l id b (h.boxDown e hlt) hb) (fun l hl e => hr ⟨l, hl, e⟩)]
      exact ha'

/-- The numbers that are new between m and m' are free. -/
def Fresh (g : Gh) (m m' : Mem) : Prop := (∀ l, m.boxes.length ≤ l → l < m'.boxes.length → g.box l = none) ∧ ∀ l, m.rows.length ≤ l → l < m'.rows.length → g.row l = none
def Mono (m m' : Mem) : Prop := m.boxes.length ≤ m'.boxes.length ∧ m.rows.length ≤ m'.rows.length
theorem Mono.refl (m : Mem) : Mono m m := ⟨Nat.le_refl _, Nat.le_refl _⟩
theorem Mono.trans {m m' m'' : Mem} (h : Mono m m') (k : Mono m' m'') : Mono m m'' := ⟨Nat.le_trans h.1 k.1, Nat.le_trans h.2 k.2⟩
theorem Step.mono (h : Step g m g' m' w w') : Mono m m' := ⟨h.boxes, h.rows⟩
theorem Fresh.left {m'' : Mem} (h : Fresh g m m'') (k : Mono m' m'') : Fresh g m m' := ⟨fun l h1 h2 => h.1 l h1 (Nat.lt_of_lt_of_le h2 k.1), fun l h1 h2 => h.2 l h1 (Nat.lt_of_lt_of_le h2 k.2)⟩
theorem Fresh.right {m'' : Mem} (h : Fresh g m m'') (s : Step g m g' m' w w') : Fresh g' m' m'' :=
  ⟨fun l h1 h2 => by rw [s.boxOld l (.inr h1)]; exact h.1 l (Nat.le_trans s.boxes h1) h2, fun l h1 h2 => by rw [(s.rowOut l h1).1]; exact h.2 l (Nat.le_trans s.rows h1) h2⟩
end

/-- The world goes on, no block that was there turns, and no number is given. -/
theorem Step.plain {g : Gh} {m : Mem} {w w' : World} (ho : w'.os = w.os) (ht : w'.tape = w.tape) (hp : w'.output = w.output) (hs : w.heap.size ≤ w'.heap.size)
    (h : ∀ b, b < w.heap.size → w'.heap[b]? = w.heap[b]?) : Step g m g m w w' :=
  { Step.refl g m w with
    os := ho
    tape := ht
    output := hp
    size := hs
    boxNew := fun l b h1 h2 => by rw [h2] at h1; cases h1
    rowNew := fun l b h1 h2 => by omega
    same := fun b hb _ _ => h b hb
    sameRow := fun id b _ hb arr t ha => ⟨arr, by rw [h b (Array.getElem?_eq_some_iff.1 ha).1]; exact ha, rfl, fun _ _ => rfl⟩ }

theorem RowOk.step {g g' : Gh} {m m' : Mem} {w w' : World} {b : Nat} {cs : List AV} (h : RowOk g w b cs) (hm : MemOk g m w) (hs : Step g m g' m' w w') (he : w'.heap[b]? = w.heap[b]?) : RowOk g' w' b cs :=
  let ⟨arr, t, h1, h2, h3⟩ := h; ⟨arr, t, he.trans h1, h2, fun j c hj => ⟨(h3 j c hj).1, fun v hv => ((h3 j c hj).2 v hv).step hm hs⟩⟩
theorem BoxOk.step {g g' : Gh} {m m' : Mem} {w w' : World} {b : Nat} {c : ABox} (h : BoxOk g w b c) (hm : MemOk g m w) (hs : Step g m g' m' w w') (he : w'.heap[b]? = w.heap[b]?) : BoxOk g' w' b c := by
  cases c with
  | cells cs =>
    obtain ⟨vs, t, h1, h2, h3⟩ := h
    exact ⟨vs, t, he.trans h1, h2.step hm hs, h3⟩
  | loop st pending tmps params assign body =>
    obtain ⟨vs, d, fn, h1, h2⟩ := h
    exact ⟨vs, d, fn, he.trans h1, h2.step hm hs⟩
  | map es clock =>
    obtain ⟨vs, h1, h2, h3⟩ := h
    exact ⟨vs, he.trans h1, h2, fun j k a n e hj hv => let ⟨x, y, z⟩ := h3 j k a n e hj hv; ⟨x, y, z.step hm hs⟩⟩

/-- No number is given, no block turns: the memory is as it was. -/
theorem MemOk.plain {g : Gh} {m : Mem} {w w' : World} (hm : MemOk g m w) (hs : Step g m g m w w') (h : ∀ b, b < w.heap.size → w'.heap[b]? = w.heap[b]?) : MemOk g m w' where
  box := fun l b hb => Nat.lt_of_lt_of_le (hm.box l b hb) hs.size
  row := fun l b hb => Nat.lt_of_lt_of_le (hm.row l b hb) hs.size
  boxOk := fun l b c hb hc => (hm.boxOk l b c hb hc).step hm hs (h b (hm.box l b hb))
  rowCells := fun id b hb => let ⟨arr, t, h2⟩ := hm.rowCells id b hb; ⟨arr, t, by rw [h b (hm.row id b hb)]; exact h2⟩
  rowLive := hm.rowLive
  rowOk := fun id b n cs hb hc => (hm.rowOk id b n cs hb hc).step hm hs (h b (hm.row id b hb))
  boxInj := hm.boxInj
  rowInj := hm.rowInj
  apart := hm.apart
end Go.Proofs.Ytakmilmckdllfaa.G
