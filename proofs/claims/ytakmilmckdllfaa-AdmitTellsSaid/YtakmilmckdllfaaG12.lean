/-
A region that draws the order of its operations: the order of the text serves for every order that its edges allow.
-/
import Derived.Test.YtakmilmckdllfaaG11
import Derived.OrdersIn
set_option linter.unusedVariables false
set_option linter.unusedSimpArgs false
namespace Go.Proofs.Ytakmilmckdllfaa.G

/-- What was there stays. -/
def Ext (m m' : Mem) : Prop := (∃ x, m'.boxes = m.boxes ++ x) ∧ (∃ y, m'.rows = m.rows ++ y) ∧ m'.mode = m.mode
theorem Ext.refl (m : Mem) : Ext m m := ⟨⟨[], by simp⟩, ⟨[], by simp⟩, rfl⟩
theorem Ext.trans {m m' m'' : Mem} (h : Ext m m') (k : Ext m' m'') : Ext m m'' := by
  obtain ⟨⟨x, hx⟩, ⟨y, hy⟩, h⟩ := h
  obtain ⟨⟨x', hx'⟩, ⟨y', hy'⟩, k⟩ := k
  exact ⟨⟨x ++ x', by rw [hx', hx, List.append_assoc]⟩, ⟨y ++ y', by rw [hy', hy, List.append_assoc]⟩, k.trans h⟩
theorem Ext.push (m : Mem) (c : ABox) : Ext m (m.push c) := ⟨⟨[c], rfl⟩, ⟨[], by simp [Mem.push]⟩, rfl⟩
theorem Ext.mono {m m' : Mem} (h : Ext m m') : Mono m m' := by
  obtain ⟨⟨x, hx⟩, ⟨y, hy⟩, _⟩ := h
  exact ⟨by rw [hx]; simp, by rw [hy]; simp⟩
theorem Ext.modeEq {m m' : Mem} (h : Ext m m') : m'.mode = m.mode := h.2.2
theorem Ext.box {m m' : Mem} (h : Ext m m') {l : Nat} (hl : l < m.boxes.length) : m'.boxes[l]? = m.boxes[l]? := by
  obtain ⟨⟨x, hx⟩, _⟩ := h
  rw [hx, List.getElem?_append_left hl]
theorem Ext.get {m m' : Mem} (h : Ext m m') {l : Nat} {c : ABox} (hl : m.boxes[l]? = some c) : m'.boxes[l]? = some c := by
  rw [h.box (List.getElem?_eq_some_iff.1 hl).1]; exact hl
theorem Ext.row {m m' : Mem} (h : Ext m m') {l : Nat} (hl : l < m.rows.length) : m'.rows[l]? = m.rows[l]? := by
  obtain ⟨_, ⟨y, hy⟩, _⟩ := h
  rw [hy, List.getElem?_append_left hl]
theorem Ext.getRow {m m' : Mem} (h : Ext m m') {l : Nat} {c : Option (Nat × List AV)} (hl : m.rows[l]? = some c) : m'.rows[l]? = some c := by
  rw [h.row (List.getElem?_eq_some_iff.1 hl).1]; exact hl

/-- Operations that hang on no memory and turn none. -/
def opPure : Op → Bool
  | .move _ | .assign _ | .pick .. | .build .. | .buildSlice .. | .nilCheck _ | .binOp .. | .unOp .. | .convert .. | .makeFunc .. | .slice .. | .fieldAddr .. | .field .. | .indexAddr .. | .index .. | .extract .. => true
  | .call { callee := .builtin .len, .. } => true
  | .call { callee := .builtin .min, .. } => true
  | .call { callee := .builtin .max, .. } => true
  | _ => false

/-- The operations that come ahead of each one, as the digits of a number. -/
def bitsOf (acc : List Nat) (o : Oper) : Nat := o.after.toList.foldl (fun s e => if Region.binds .any e then s ||| 2 ^ e.on ||| acc.getD e.on 0 else s) 0
def aheadOf (acc : List Nat) : List Oper → List Nat
  | [] => acc
  | o :: l => aheadOf (acc ++ [bitsOf acc o]) l
def edgesOk : Nat → List Oper → Bool
  | _, [] => true
  | k, o :: l => o.after.toList.all (fun e => !Region.binds .any e || decide (e.on < k)) && edgesOk (k + 1) l
def touches (ops : Array Oper) (x y : Oper) : Bool :=
  (match x.dst with
   | some d => (y.looksAt ops).contains d || y.dst == some d
   | none => false) ||
  (match y.dst with
   | some d => (x.looksAt ops).contains d
   | none => false)
/-- Of an operation: what is ahead of it in the text and has to do with it is ahead of it in every order. -/
def oneOk (ops : Array Oper) (p : Nat) (sw : Option (Nat × Nat)) (j : Nat) (o : Oper) (bits : Nat) : Nat → List Oper → Bool
  | _, [] => true
  | i, x :: l => (decide (j ≤ i) || ((!touches ops x o || bits.testBit i) && (decide (j < p) || opPure x.op || opPure o.op || bits.testBit i || sw == some (i, j)))) && oneOk ops p sw j o bits (i + 1) l
def allOk (ops : Array Oper) (p : Nat) (sw : Option (Nat × Nat)) : Nat → List Oper → List Nat → Bool
  | _, [], _ => true
  | j, o :: l, b :: bs => oneOk ops p sw j o b 0 ops.toList && allOk ops p sw (j + 1) l bs
  | _, _, [] => false
/-- A pair of operations that may come in either order: stores. -/
def swFind (ops : Array Oper) (p : Nat) (bs : List Nat) : Option (Nat × Nat) :=
  (List.range ops.size).findSome? fun j => match ops[j]?, bs[j]? with
    | some o, some b => if p ≤ j && !opPure o.op then (List.range j).findSome? (fun i => match ops[i]? with
      | some x => if p ≤ i && !opPure x.op && !b.testBit i then some (i, j) else none
      | none => none) else none
    | _, _ => none
def swapOf (ops : Array Oper) (p : Nat) : Option (Nat × Nat) := swFind ops p (aheadOf [] ops.toList)
/-- Nothing that turns memory lies between the two. -/
def swOk (ops : Array Oper) (p : Nat) : Option (Nat × Nat) → Bool
  | none => true
  | some (a, b) => decide (a < b) && decide (p ≤ a) && (List.range b).all fun k => decide (k ≤ a) || match ops[k]? with
    | some o => opPure o.op
    | none => false
def drawOk (ops : Array Oper) (p : Nat) (sw : Option (Nat × Nat)) : Bool := edgesOk 0 ops.toList && allOk ops p sw 0 ops.toList (aheadOf [] ops.toList) && swOk ops p sw

theorem aheadOf_length : ∀ (l : List Oper) (acc : List Nat), (aheadOf acc l).length = acc.length + l.length := by
  intro l
  induction l with
  | nil => intro acc; rfl
  | cons o l ih => intro acc; simp only [aheadOf, ih, List.length_append, List.length_cons, List.length_nil]; omega
theorem aheadOf_take : ∀ (l : List Oper) (acc : List Nat), (aheadOf acc l).take acc.length = acc := by
  intro l
  induction l with
  | nil => intro acc; simp [aheadOf]
  | cons o l ih =>
    intro acc
    simp only [aheadOf]
    have := ih (acc ++ [bitsOf acc o])
    have h2 := congrArg (List.take acc.length) this
    rw [List.take_take] at h2
    simpa using h2
theorem aheadOf_get : ∀ (l : List Oper) (acc : List Nat) (i : Nat) (o : Oper), l[i]? = some o → ∃ acc', (aheadOf acc l)[acc.length + i]? = some (bitsOf acc' o) ∧ acc' = (aheadOf acc l).take (acc.length + i) := by
  intro l
  induction l with
  | nil => intro acc i o h; simp at h
  | cons x l ih =>
    intro acc i o h
    cases i with
    | zero =>
      simp at h; subst h
      refine ⟨acc, ?_, ?_⟩
      · have h1 := aheadOf_take l (acc ++ [bitsOf acc x])
        simp only [aheadOf, Nat.add_zero]
        have h2 : (acc ++ [bitsOf acc x])[acc.length]? = some (bitsOf acc x) := by simp
        rw [← h1, List.getElem?_take_of_lt (by simp)] at h2
        rw [h2]
      · have := aheadOf_take (x :: l) acc
        rw [Nat.add_zero, this]
    | succ i =>
      simp at h
      obtain ⟨acc', h1, h2⟩ := ih (acc ++ [bitsOf acc x]) i o h
      simp only [List.length_append, List.length_cons, List.length_nil] at h1 h2
      refine ⟨acc', ?_, ?_⟩
      · simp only [aheadOf]; rw [← h1]; congr 1; omega
      · rw [h2]; simp only [aheadOf]; congr 1; omega

theorem bits_spec (acc : List Nat) (o : Oper) (i : Nat) (h : (bitsOf acc o).testBit i = true) : ∃ e ∈ o.after, Region.binds .any e = true ∧ (e.on = i ∨ (acc.getD e.on 0).testBit i = true) := by
  have key : ∀ (l : List Edge) (s : Nat), (l.foldl (fun s e => if Region.binds .any e then s ||| 2 ^ e.on ||| acc.getD e.on 0 else s) s).testBit i = true → s.testBit i = true ∨ ∃ e ∈ l, Region.binds .any e = true ∧ (e.on = i ∨ (acc.getD e.on 0).testBit i = true) := by
    intro l
    induction l with
    | nil => intro s h; exact .inl h
    | cons e l ih =>
      intro s h
      simp only [List.foldl_cons] at h
      rcases ih _ h with h1 | ⟨e', h1, h2⟩
      · split at h1
        · rename_i hb
          simp only [Nat.testBit_or, Bool.or_eq_true, Nat.testBit_two_pow, decide_eq_true_eq] at h1
          rcases h1 with (h1 | h1) | h1
          · exact .inl h1
          · exact .inr ⟨e, List.mem_cons_self .., hb, .inl h1⟩
          · exact .inr ⟨e, List.mem_cons_self .., hb, .inr h1⟩
        · exact .inl h1
      · exact .inr ⟨e', List.mem_cons_of_mem _ h1, h2⟩
  rcases key o.after.toList 0 h with h1 | ⟨e, h1, h2⟩
  · simp at h1
  · exact ⟨e, by simpa using h1, h2⟩

/-- What is ahead of an operation. -/
def Ahead (ops : Array Oper) (i j : Nat) : Prop := ((aheadOf [] ops.toList).getD j 0).testBit i = true

/-- Whatever is ahead has been done, where what is directly ahead has been. -/
theorem ahead_done {ops : Array Oper} {S : Nat → Prop} (hS : ∀ i o, S i → ops[i]? = some o → ∀ e ∈ o.after, Region.binds .any e = true → S e.on) : ∀ (j : Nat) (o : Oper), ops[j]? = some o → (∀ e ∈ o.after, Region.binds .any e = true → S e.on) → ∀ i, Ahead ops i j → S i := by
  intro j
  induction j using Nat.strongRecOn with
  | _ j ih =>
    intro o ho he i hi
    obtain ⟨acc', h1, h2⟩ := aheadOf_get ops.toList [] j o (by simpa using ho)
    simp only [List.length_nil, Nat.zero_add] at h1 h2
    unfold Ahead at hi
    rw [List.getD_eq_getElem?_getD, h1, Option.getD_some] at hi
    obtain ⟨e, hem, hb, h3⟩ := bits_spec acc' o i hi
    have hse := he e hem hb
    rcases h3 with rfl | h3
    · exact hse
    · have hlt : e.on < j := by
        rcases Nat.lt_or_ge e.on j with h | h
        · exact h
        · rw [h2, List.getD_eq_getElem?_getD, List.getElem?_eq_none (by simp; omega)] at h3; simp at h3
      have h4 : acc'.getD e.on 0 = (aheadOf [] ops.toList).getD e.on 0 := by
        rw [h2, List.getD_eq_getElem?_getD, List.getD_eq_getElem?_getD, List.getElem?_take_of_lt hlt]
      rw [h4] at h3
      have hlen : e.on < ops.size := by
        have := (Array.getElem?_eq_some_iff.1 ho).1; omega
      exact ih e.on hlt ops[e.on] (Array.getElem?_eq_getElem hlen) (hS e.on _ hse (Array.getElem?_eq_getElem hlen)) i h3

theorem edgesOk_spec : ∀ (l : List Oper) (k : Nat), edgesOk k l = true → ∀ i o, l[i]? = some o → ∀ e ∈ o.after, Region.binds .any e = true → e.on < k + i := by
  intro l
  induction l with
  | nil => intro k _ i o h; simp at h
  | cons x l ih =>
    intro k h i o hi e he hb
    simp only [edgesOk, Bool.and_eq_true] at h
    cases i with
    | zero =>
      simp at hi; subst hi
      have := List.all_eq_true.1 h.1 e (by simpa using he)
      simp [hb] at this
      omega
    | succ i => simp at hi; have := ih (k + 1) h.2 i o hi e he hb; omega
theorem oneOk_spec {ops : Array Oper} {p j : Nat} {sw : Option (Nat × Nat)} {o : Oper} {bits : Nat} : ∀ (l : List Oper) (k : Nat), oneOk ops p sw j o bits k l = true → ∀ i x, l[i]? = some x → k + i < j → (touches ops x o = true → bits.testBit (k + i) = true) ∧ (p ≤ j → opPure x.op = false → opPure o.op = false → bits.testBit (k + i) = true ∨ sw = some (k + i, j)) := by
  intro l
  induction l with
  | nil => intro k _ i x h; simp at h
  | cons y l ih =>
    intro k h i x hi hlt
    simp only [oneOk, Bool.and_eq_true] at h
    cases i with
    | zero =>
      simp at hi; subst hi
      have h1 := h.1
      simp only [Nat.add_zero] at hlt ⊢
      simp only [Bool.or_eq_true, Bool.and_eq_true, decide_eq_true_eq, Bool.not_eq_true'] at h1
      rcases h1 with h1 | ⟨h1, h2⟩
      · omega
      · refine ⟨fun ht => ?_, fun hp hx ho => ?_⟩
        · rcases h1 with h1 | h1
          · rw [ht] at h1; cases h1
          · exact h1
        · rcases h2 with (((h2 | h2) | h2) | h2) | h2
          · omega
          · rw [hx] at h2; cases h2
          · rw [ho] at h2; cases h2
          · exact .inl h2
          · exact .inr (by simpa using h2)
    | succ i =>
      simp at hi
      have := ih (k + 1) h.2 i x hi (by omega)
      rw [show k + (i + 1) = k + 1 + i from by omega]; exact this
theorem allOk_spec {ops : Array Oper} {p : Nat} {sw : Option (Nat × Nat)} : ∀ (l : List Oper) (bs : List Nat) (k : Nat), allOk ops p sw k l bs = true → ∀ j o, l[j]? = some o → ∃ b, bs[j]? = some b ∧ oneOk ops p sw (k + j) o b 0 ops.toList = true := by
  intro l
  induction l with
  | nil => intro bs k _ j o h; simp at h
  | cons x l ih =>
    intro bs k h j o hj
    cases bs with
    | nil => simp [allOk] at h
    | cons b bs =>
      simp only [allOk, Bool.and_eq_true] at h
      cases j with
      | zero => simp at hj; subst hj; exact ⟨b, rfl, h.1⟩
      | succ j =>
        simp at hj
        obtain ⟨b', h1, h2⟩ := ih bs (k + 1) h.2 j o hj
        exact ⟨b', by simpa using h1, by rw [show k + (j + 1) = k + 1 + j from by omega]; exact h2⟩
theorem drawOk_spec {ops : Array Oper} {p : Nat} {sw : Option (Nat × Nat)} (h : drawOk ops p sw = true) : (∀ i o, ops[i]? = some o → ∀ e ∈ o.after, Region.binds .any e = true → e.on < i) ∧
    ∀ i j x o, ops[i]? = some x → ops[j]? = some o → i < j → (touches ops x o = true → Ahead ops i j) ∧ (p ≤ j → opPure x.op = false → opPure o.op = false → Ahead ops i j ∨ sw = some (i, j)) := by
  simp only [drawOk, Bool.and_eq_true] at h
  refine ⟨fun i o ho e he hb => ?_, fun i j x o hx ho hij => ?_⟩
  · have := edgesOk_spec ops.toList 0 h.1.1 i o (by simpa using ho) e he hb; omega
  · obtain ⟨b, h1, h2⟩ := allOk_spec ops.toList _ 0 h.1.2 j o (by simpa using ho)
    have := oneOk_spec ops.toList 0 h2 i x (by simpa using hx) (by omega)
    simp only [Nat.zero_add] at this
    unfold Ahead
    rw [List.getD_eq_getElem?_getD, h1, Option.getD_some]
    exact this
theorem drawOk_swap {ops : Array Oper} {p a b : Nat} (h : drawOk ops p (some (a, b)) = true) : a < b ∧ p ≤ a ∧ ∀ k o, a < k → k < b → ops[k]? = some o → opPure o.op = true := by
  simp only [drawOk, swOk, Bool.and_eq_true, decide_eq_true_eq] at h
  obtain ⟨_, ⟨h1, h2⟩, h3⟩ := h
  refine ⟨h1, h2, fun k o hk1 hk2 ho => ?_⟩
  have := List.all_eq_true.1 h3 k (by simpa using hk2)
  simp only [Bool.or_eq_true, decide_eq_true_eq, ho] at this
  rcases this with h4 | h4
  · omega
  · exact h4
end Go.Proofs.Ytakmilmckdllfaa.G
