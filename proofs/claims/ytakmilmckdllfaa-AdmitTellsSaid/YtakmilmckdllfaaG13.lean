/-
A region that draws: the proof.
-/
import Derived.Test.YtakmilmckdllfaaG12
set_option linter.unusedVariables false
set_option linter.unusedSimpArgs false
namespace Go.Proofs.Ytakmilmckdllfaa.G

/-- A store into a row, into a variable. -/
def StoreRow (P : Program) (o : Oper) (env : List AV) (m m1 : Mem) : Prop := ∃ t A x id off y, o.op = .store t A x ∧ aeval env A = some (.vptr id off) ∧ aeval env x = some y ∧ astore P m t (.vptr id off) y = some m1
def StoreBox (P : Program) (o : Oper) (env : List AV) (m m1 : Mem) : Prop := ∃ t A x l off y, o.op = .store t A x ∧ aeval env A = some (.ptr l off) ∧ aeval env x = some y ∧ astore P m t (.ptr l off) y = some m1
/-- Of the pair that may come in either order: one is a store into a row, the other one into a variable. -/
def SwFact (P : Program) (sw : Option (Nat × Nat)) (k : Nat) (o : Oper) (env : List AV) (m : Mem) (d : AV) (m1 : Mem) : Prop :=
  ∀ a b, sw = some (a, b) → (k = a → d = .undef ∧ StoreRow P o env m m1) ∧ (k = b → d = .undef ∧ StoreBox P o env m m1)

/-- The operations of a region in the text's order, with what each needs for any other order: before place p what was there stays. -/
inductive AOpsD (P : Program) (ops : Array Oper) (p : Nat) (sw : Option (Nat × Nat)) : Nat → List Oper → List AV → Mem → List AV → Mem → Prop
  | nil (k : Nat) (env : List AV) (m : Mem) : AOpsD P ops p sw k [] env m env m
  | pure {k : Nat} {o : Oper} {l : List Oper} {env env' : List AV} {m m1 m' : Mem} {d : AV} (hw : wantedA ops env o = some true) (hp : opPure o.op = true) (h : aop P o.op env m = some (d, m1)) (hk : AOpsD P ops p sw (k + 1) l (aput env o.dst d) m1 env' m') : AOpsD P ops p sw k (o :: l) env m env' m'
  | loud {k : Nat} {o : Oper} {l : List Oper} {env env' : List AV} {m m1 m' : Mem} {d : AV} (hw : wantedA ops env o = some true) (hp : opPure o.op = false) (h : AOp P o env m d m1) (he : k < p → Ext m m1) (hs : SwFact P sw k o env m d m1) (hk : AOpsD P ops p sw (k + 1) l (aput env o.dst d) m1 env' m') : AOpsD P ops p sw k (o :: l) env m env' m'
  | skip {k : Nat} {o : Oper} {l : List Oper} {env env' : List AV} {m m' : Mem} (hw : wantedA ops env o = some false) (hk : AOpsD P ops p sw (k + 1) l (aput env o.dst .undef) m env' m') : AOpsD P ops p sw k (o :: l) env m env' m'

theorem pure_indep {P : Program} {op : Op} {env : List AV} {m m1 : Mem} {d : AV} (hp : opPure op = true) (h : aop P op env m = some (d, m1)) : m1 = m ∧ ∀ m2, aop P op env m2 = some (d, m2) := by
  have hmap : ∀ {o : Option AV}, o.map (·, m) = some (d, m1) → m1 = m ∧ ∀ m2 : Mem, o.map (·, m2) = some (d, m2) := by
    intro o ho
    obtain ⟨h1, h2⟩ := map_pair ho
    exact ⟨h2, fun m2 => by rw [h1]; rfl⟩
  have hbind : ∀ {α : Type} {o : Option α} {f : α → Mem → Option (AV × Mem)}, (∀ a, f a m = some (d, m1) → m1 = m ∧ ∀ m2, f a m2 = some (d, m2)) → o.bind (f · m) = some (d, m1) → m1 = m ∧ ∀ m2, o.bind (f · m2) = some (d, m2) := by
    intro α o f hf ho
    obtain ⟨a, ha, h2⟩ := bind_some' ho
    obtain ⟨h3, h4⟩ := hf a h2
    exact ⟨h3, fun m2 => by rw [ha]; exact h4 m2⟩
  cases op with
  | move x => exact hmap h
  | assign x => exact hmap h
  | pick c a b =>
    simp only [aop] at h ⊢
    split at h
    · exact hmap h
    · cases h
  | build t ps => exact hbind (f := fun l m => (abuild P t l).map (·, m)) (fun a => hmap) h
  | buildSlice t n ps => exact hbind (f := fun l m => (abuildSlice P t n l).map (·, m)) (fun a => hmap) h
  | nilCheck x =>
    refine hbind (f := fun (v : AV) (m : Mem) => match v with
      | .ptr l o => some (.ptr l o, m)
      | .eptr e o => some (.eptr e o, m)
      | .vptr e o => some (.vptr e o, m)
      | .func f a b => some (.func f a b, m)
      | _ => none) (fun a ha => ?_) h
    cases a <;> first | (cases ha; done) | (injection ha with ha; injection ha with h1 h2; subst h1 h2; exact ⟨rfl, fun _ => rfl⟩)
  | binOp op t x y yt => exact hbind (f := fun a m => (aeval env y).bind fun b => (abin P op t a b).map (·, m)) (fun a => hbind (f := fun b m => (abin P op t a b).map (·, m)) (fun b => hmap)) h
  | unOp op t x => exact hbind (f := fun a m => (aun op a).map (·, m)) (fun a => hmap) h
  | convert s t x =>
    refine hbind (f := fun (a : AV) (m : Mem) => match a, P.underlying s, P.underlying t with
      | .atom (.int _ n), some (.int _), some (.int k) => some (.atom (.int k (k.wrap n)), m)
      | _, _, _ => none) (fun a ha => ?_) h
    split at ha
    · injection ha with ha; injection ha with h1 h2; subst h1 h2; exact ⟨rfl, fun _ => rfl⟩
    · cases ha
  | makeFunc fn first cap =>
    cases fn with
    | func f =>
      refine hbind (f := fun (a : List AV) (m : Mem) => (aevals env cap.toList).map fun b => (AV.func f (a.map AV.strip) b, m)) (fun a ha => ?_) h
      cases hb : aevals env cap.toList with
      | none => rw [hb] at ha; cases ha
      | some bs => rw [hb] at ha; injection ha with ha; injection ha with h1 h2; subst h1 h2; exact ⟨rfl, fun _ => rfl⟩
    | _ => cases h
  | slice t x lo hi mx =>
    exact hbind (f := fun v m => (aopt env lo).bind fun l => (aopt env hi).bind fun h => (aopt env mx).bind fun k => (aslice P t v l h k).map (·, m)) (fun v => hbind (f := fun l m => (aopt env hi).bind fun h => (aopt env mx).bind fun k => (aslice P t v l h k).map (·, m)) (fun l => hbind (f := fun h m => (aopt env mx).bind fun k => (aslice P t v l h k).map (·, m)) (fun h => hbind (f := fun k m => (aslice P t v l h k).map (·, m)) (fun k => hmap)))) h
  | fieldAddr t x f => exact hbind (f := fun v m => (afieldAddr P t v f).map (·, m)) (fun a => hmap) h
  | field t x f => exact hbind (f := fun v m => (afield P t v f).map (·, m)) (fun a => hmap) h
  | indexAddr t x i => exact hbind (f := fun a m => (aeval env i).bind fun b => (aindexAddr P t a b).map (·, m)) (fun a => hbind (f := fun b m => (aindexAddr P t a b).map (·, m)) (fun b => hmap)) h
  | index t x i => exact hbind (f := fun a m => (aeval env i).bind fun b => (aindex P t a b).map (·, m)) (fun a => hbind (f := fun b m => (aindex P t a b).map (·, m)) (fun b => hmap)) h
  | extract t i =>
    refine hbind (f := fun (v : AV) (m : Mem) => match v with
      | .tuple vs => (vs[i]?).map (·, m)
      | _ => none) (fun a ha => ?_) h
    cases a <;> first | (cases ha; done) | exact hmap ha
  | call c =>
    obtain ⟨callee, args, ts⟩ := c
    cases callee with
    | builtin b =>
      refine hbind (f := fun l m => abuiltin P b ts.toList l m) (fun l hl => ?_) h
      cases b <;> first | (cases hp; done) | skip
      · have hl2 : (match ts.toList, l with | t :: _, [x] => (alen P t x).map (·, m) | _, _ => none) = some (d, m1) := by
          unfold abuiltin at hl
          split at hl <;> simp_all
        split at hl2
        · rename_i h1
          obtain ⟨h2, h3⟩ := hmap hl2
          refine ⟨h2, fun m2 => ?_⟩
          have := h3 m2
          simpa [abuiltin, h1] using this
        · cases hl2
      · exact hmap hl
      · exact hmap hl
    | _ => cases hp
  | _ => cases hp

/-- A course of a region's operations in the text's order. -/
structure Course (P : Program) (ops : Array Oper) (p : Nat) (sw : Option (Nat × Nat)) (env : Nat → List AV) (mem : Nat → Mem) (val : Nat → AV) (done : Nat → Bool) : Prop where
  wanted : ∀ k o, ops[k]? = some o → wantedA ops (env k) o = some (done k)
  envs : ∀ k o, ops[k]? = some o → env (k + 1) = aput (env k) o.dst (val k)
  skip : ∀ k o, ops[k]? = some o → done k = false → val k = .undef ∧ mem (k + 1) = mem k
  pure : ∀ k o, ops[k]? = some o → done k = true → opPure o.op = true → aop P o.op (env k) (mem k) = some (val k, mem (k + 1))
  loud : ∀ k o, ops[k]? = some o → done k = true → opPure o.op = false → AOp P o (env k) (mem k) (val k) (mem (k + 1)) ∧ (k < p → Ext (mem k) (mem (k + 1))) ∧ SwFact P sw k o (env k) (mem k) (val k) (mem (k + 1))

theorem AOpsD.course {P : Program} {ops : Array Oper} {p k : Nat} {sw : Option (Nat × Nat)} {l : List Oper} {env0 env' : List AV} {m0 m' : Mem} (h : AOpsD P ops p sw k l env0 m0 env' m') : ∃ (env : Nat → List AV) (mem : Nat → Mem) (val : Nat → AV) (done : Nat → Bool),
    env k = env0 ∧ mem k = m0 ∧ env (k + l.length) = env' ∧ mem (k + l.length) = m' ∧ ∀ i o, l[i]? = some o →
      wantedA ops (env (k + i)) o = some (done (k + i)) ∧ env (k + i + 1) = aput (env (k + i)) o.dst (val (k + i)) ∧ (done (k + i) = false → val (k + i) = .undef ∧ mem (k + i + 1) = mem (k + i)) ∧
      (done (k + i) = true → opPure o.op = true → aop P o.op (env (k + i)) (mem (k + i)) = some (val (k + i), mem (k + i + 1))) ∧
      (done (k + i) = true → opPure o.op = false → AOp P o (env (k + i)) (mem (k + i)) (val (k + i)) (mem (k + i + 1)) ∧ (k + i < p → Ext (mem (k + i)) (mem (k + i + 1))) ∧ SwFact P sw (k + i) o (env (k + i)) (mem (k + i)) (val (k + i)) (mem (k + i + 1))) := by
  have step : ∀ (k : Nat) (o : Oper) (l : List Oper) (env0 : List AV) (m0 m1 : Mem) (env' : List AV) (m' : Mem) (d : AV) (b : Bool),
      (∃ (env : Nat → List AV) (mem : Nat → Mem) (val : Nat → AV) (done : Nat → Bool), env (k + 1) = aput env0 o.dst d ∧ mem (k + 1) = m1 ∧ env (k + 1 + l.length) = env' ∧ mem (k + 1 + l.length) = m' ∧ ∀ i o, l[i]? = some o →
        wantedA ops (env (k + 1 + i)) o = some (done (k + 1 + i)) ∧ env (k + 1 + i + 1) = aput (env (k + 1 + i)) o.dst (val (k + 1 + i)) ∧ (done (k + 1 + i) = false → val (k + 1 + i) = .undef ∧ mem (k + 1 + i + 1) = mem (k + 1 + i)) ∧
        (done (k + 1 + i) = true → opPure o.op = true → aop P o.op (env (k + 1 + i)) (mem (k + 1 + i)) = some (val (k + 1 + i), mem (k + 1 + i + 1))) ∧
        (done (k + 1 + i) = true → opPure o.op = false → AOp P o (env (k + 1 + i)) (mem (k + 1 + i)) (val (k + 1 + i)) (mem (k + 1 + i + 1)) ∧ (k + 1 + i < p → Ext (mem (k + 1 + i)) (mem (k + 1 + i + 1))) ∧ SwFact P sw (k + 1 + i) o (env (k + 1 + i)) (mem (k + 1 + i)) (val (k + 1 + i)) (mem (k + 1 + i + 1)))) →
      wantedA ops env0 o = some b → (b = false → d = .undef ∧ m1 = m0) → (b = true → opPure o.op = true → aop P o.op env0 m0 = some (d, m1)) → (b = true → opPure o.op = false → AOp P o env0 m0 d m1 ∧ (k < p → Ext m0 m1) ∧ SwFact P sw k o env0 m0 d m1) →
      ∃ (env : Nat → List AV) (mem : Nat → Mem) (val : Nat → AV) (done : Nat → Bool), env k = env0 ∧ mem k = m0 ∧ env (k + (o :: l).length) = env' ∧ mem (k + (o :: l).length) = m' ∧ ∀ i o', (o :: l)[i]? = some o' →
        wantedA ops (env (k + i)) o' = some (done (k + i)) ∧ env (k + i + 1) = aput (env (k + i)) o'.dst (val (k + i)) ∧ (done (k + i) = false → val (k + i) = .undef ∧ mem (k + i + 1) = mem (k + i)) ∧
        (done (k + i) = true → opPure o'.op = true → aop P o'.op (env (k + i)) (mem (k + i)) = some (val (k + i), mem (k + i + 1))) ∧
        (done (k + i) = true → opPure o'.op = false → AOp P o' (env (k + i)) (mem (k + i)) (val (k + i)) (mem (k + i + 1)) ∧ (k + i < p → Ext (mem (k + i)) (mem (k + i + 1))) ∧ SwFact P sw (k + i) o' (env (k + i)) (mem (k + i)) (val (k + i)) (mem (k + i + 1))) := by
    rintro k o l env0 m0 m1 env' m' d b ⟨env, mem, val, done, h1, h2, h3, h4, h5⟩ c1 c2 c3 c4
    refine ⟨fun j => if j = k then env0 else env j, fun j => if j = k then m0 else mem j, fun j => if j = k then d else val j, fun j => if j = k then b else done j, by simp, by simp, ?_, ?_, ?_⟩
    · have : k + (o :: l).length ≠ k := by simp
      simp only [this, if_false]
      rw [← h3]; congr 1; simp; omega
    · have : k + (o :: l).length ≠ k := by simp
      simp only [this, if_false]
      rw [← h4]; congr 1; simp; omega
    · intro i o' ho'
      cases i with
      | zero =>
        simp at ho'; subst ho'
        simp only [Nat.add_zero, if_true]
        have e : k + 1 ≠ k := by omega
        simp only [e, if_false, h1, h2]
        exact ⟨c1, trivial, c2, c3, c4⟩
      | succ i =>
        simp at ho'
        have e1 : k + (i + 1) ≠ k := by omega
        have e2 : k + (i + 1) + 1 ≠ k := by omega
        simp only [e1, e2, if_false]
        have := h5 i o' ho'
        rw [show k + (i + 1) = k + 1 + i from by omega]
        exact this
  induction h with
  | nil k env m => exact ⟨fun _ => env, fun _ => m, fun _ => .undef, fun _ => false, rfl, rfl, rfl, rfl, fun i o h => by simp at h⟩
  | pure hw hp h hk ih => exact step _ _ _ _ _ _ _ _ _ true ih hw (fun h => by cases h) (fun _ _ => h) (fun _ hp' => by rw [hp] at hp'; cases hp')
  | loud hw hp h he hs hk ih => exact step _ _ _ _ _ _ _ _ _ true ih hw (fun h => by cases h) (fun _ hp' => by rw [hp] at hp'; cases hp') (fun _ _ => ⟨h, he, hs⟩)
  | skip hw hk ih => exact step _ _ _ _ _ _ _ _ _ false ih hw (fun _ => ⟨rfl, rfl⟩) (fun h => by cases h) (fun h => by cases h)

section
variable {g g' g0 : Gh} {m m0 m1 M : Mem} {w w0 w1 : World} {P : Program}

/-- A step within a greater memory. -/
theorem Step.within (h : Step g0 m0 g M w0 w) (k : Step g m g' m1 w w1) (hm : MemOk g0 m0 w0) (h1 : Mono m0 m) (h2 : Mono m1 M) : Step g0 m0 g' M w0 w1 where
  os := k.os.trans h.os
  tape := k.tape.trans h.tape
  output := k.output.trans h.output
  size := Nat.le_trans h.size k.size
  boxes := h.boxes
  rows := h.rows
  freshBox := h.freshBox
  freshRow := h.freshRow
  boxOld := fun l hl => by
    have a := h1.1; have b := h2.1
    rcases hl with hl | hl
    · rw [k.boxOld l (.inl (by omega)), h.boxOld l (.inl hl)]
    · rw [k.boxOld l (.inr (by omega)), h.boxOld l (.inr hl)]
  boxNew := fun l b h1 h2 => by
    cases hg : g.box l with
    | none => have := k.boxNew l b h1 hg; have := h.size; omega
    | some c => have e := k.boxUp hg; rw [h1] at e; cases e; exact h.boxNew l b hg h2
  rowOut := fun l hl => by
    have b := h2.2
    obtain ⟨x, y⟩ := k.rowOut l (by omega)
    obtain ⟨u, v⟩ := h.rowOut l hl
    exact ⟨x.trans u, y.trans v⟩
  rowIn := fun l b hl hb => by
    have a := h1.2
    obtain ⟨x, y⟩ := k.rowIn l b (by omega) hb
    obtain ⟨u, v⟩ := h.rowIn l b hl x
    exact ⟨u, Nat.le_trans v y⟩
  rowStay := fun l hl => (k.rowStay l (Nat.lt_of_lt_of_le hl h1.2)).trans (h.rowStay l hl)
  rowNew := fun l b a1 a2 hb => by
    have fin : ∀ l1, g.row l1 = some (some b) → l1 < M.rows.length → w0.heap.size ≤ b ∨ ∃ l0, l0 < m0.rows.length ∧ g0.row l0 = some (some b) ∧ g0.hw l0 ≤ g.hw l1 := by
      intro l1 hl1 hlt
      rcases Nat.lt_or_ge l1 m0.rows.length with h3 | h3
      · obtain ⟨x, y⟩ := h.rowIn l1 b h3 hl1
        exact .inr ⟨l1, h3, x, y⟩
      · exact h.rowNew l1 b h3 hlt hl1
    rcases Nat.lt_or_ge l m.rows.length with h3 | h3
    · obtain ⟨x, y⟩ := k.rowIn l b h3 hb
      rcases fin l x a2 with h4 | ⟨l0, h4, h5, h6⟩
      · exact .inl h4
      · exact .inr ⟨l0, h4, h5, Nat.le_trans h6 y⟩
    · rcases Nat.lt_or_ge l m1.rows.length with h4 | h4
      · rcases k.rowNew l b h3 h4 hb with h5 | ⟨l1, h5, h6, h7⟩
        · exact .inl (Nat.le_trans h.size h5)
        · have := k.rows; have := h2.2
          rcases fin l1 h6 (by omega) with h8 | ⟨l0, h8, h9, h10⟩
          · exact .inl h8
          · exact .inr ⟨l0, h8, h9, Nat.le_trans h10 h7⟩
      · obtain ⟨x, y⟩ := k.rowOut l h4
        rw [x] at hb
        rcases fin l hb a2 with h8 | ⟨l0, h8, h9, h10⟩
        · exact .inl h8
        · exact .inr ⟨l0, h8, h9, by rw [y]; exact h10⟩
  same := fun b hb a1 a2 => by
    have hs := h.size
    rw [k.same b (by omega) (fun l hl e => ?_) (fun l hl e => ?_), h.same b hb a1 a2]
    · have e' := h.boxDown e hb
      rcases Nat.lt_or_ge l m0.boxes.length with h3 | h3
      · exact a1 l h3 e'
      · have := k.boxes; have := h2.1
        rw [h.freshBox l h3 (by omega)] at e'; cases e'
    · rcases Nat.lt_or_ge l m0.rows.length with h3 | h3
      · exact a2 l h3 (h.rowIn l b h3 e).1
      · have := k.rows; have := h2.2
        rcases h.rowNew l b h3 (by omega) e with h4 | ⟨l0, h4, h5, _⟩
        · omega
        · exact a2 l0 h4 h5
  sameRow := fun id b hid hb arr t ha => by
    obtain ⟨arr', ha', hz, he⟩ := h.sameRow id b hid hb arr t ha
    have hlt := hm.row id b hb
    have hs := h.size
    by_cases hr : ∃ l, l < m.rows.length ∧ g.row l = some (some b)
    · obtain ⟨l, hl, hbl⟩ := hr
      obtain ⟨l0, h1, h2⟩ := h.rowDown hbl hlt
      have e := hm.rowInj _ _ _ h1 hb
      subst e
      obtain ⟨arr'', ha'', hz', he'⟩ := k.sameRow l b hl hbl arr' t ha'
      exact ⟨arr'', ha'', hz'.trans hz, fun j hj => (he' j (Nat.lt_of_lt_of_le hj h2)).trans (he j hj)⟩
    · refine ⟨arr', ?_, hz, he⟩
      rw [k.same b (by omega) (fun l hl e => hm.apart l id b (h.boxDown e hlt) hb) (fun l hl e => hr ⟨l, hl, e⟩)]
      exact ha'

theorem MemOk.less (hm : MemOk g M w) (h : Ext m M) : MemOk g m w :=
  { hm with
    boxOk := fun l b c hb hc => hm.boxOk l b c hb (h.get hc)
    rowLive := fun id n hn hne => hm.rowLive id n (h.getRow hn) hne
    rowOk := fun id b n cs hb hc => hm.rowOk id b n cs hb (h.getRow hc) }
theorem MemOk.more (hM : MemOk g M w) (h1 : Ext m m1) (h2 : Ext m1 M) (hs : Step g m g' m1 w w1) (hm1 : MemOk g' m1 w1) : MemOk g' M w1 :=
  { hm1 with
    boxOk := fun l b c hb hc => by
      rcases Nat.lt_or_ge l m1.boxes.length with h3 | h3
      · exact hm1.boxOk l b c hb (by rw [← h2.box h3]; exact hc)
      · have hg : g.box l = some b := by rw [← hs.boxOld l (.inr h3)]; exact hb
        have hlt := hM.box l b hg
        refine (hM.boxOk l b c hg hc).step (hM.less (h1.trans h2)) hs (hs.same b hlt (fun l' hl' e => ?_) (fun l' hl' e => hM.apart l l' b hg e))
        have := hM.boxInj l l' b hg e
        have := hs.boxes
        omega
    rowLive := fun id n hn hne => by
      rcases Nat.lt_or_ge id m1.rows.length with h3 | h3
      · exact hm1.rowLive id n (by rw [← h2.row h3]; exact hn) hne
      · obtain ⟨x, y⟩ := hs.rowOut id h3
        rw [x] at hne ⊢
        rw [y]
        exact hM.rowLive id n hn hne
    rowOk := fun id b n cs hb hc => by
      rcases Nat.lt_or_ge id m1.rows.length with h3 | h3
      · exact hm1.rowOk id b n cs hb (by rw [← h2.row h3]; exact hc)
      · have hg : g.row id = some (some b) := by rw [← (hs.rowOut id h3).1]; exact hb
        have hlt := hM.row id b hg
        refine (hM.rowOk id b n cs hg hc).step (hM.less (h1.trans h2)) hs (hs.same b hlt (fun l' hl' e => hM.apart l' id b e hg) (fun l' hl' e => ?_))
        have := hM.rowInj id l' b hg e
        have := hs.rows
        omega }
end
end Go.Proofs.Ytakmilmckdllfaa.G
