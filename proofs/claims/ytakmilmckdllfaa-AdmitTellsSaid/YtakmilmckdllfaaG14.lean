/-
A region that draws: whatever the order, the outcome of the text's order.
-/
import Derived.Test.YtakmilmckdllfaaG13
set_option linter.unusedVariables false
set_option linter.unusedSimpArgs false
namespace Go.Proofs.Ytakmilmckdllfaa.G

section
variable {P : Program} {ops : Array Oper} {p : Nat} {sw : Option (Nat × Nat)} {env : Nat → List AV} {mem : Nat → Mem} {val : Nat → AV} {done : Nat → Bool}

theorem Course.len (hc : Course P ops p sw env mem val done) : ∀ k, k ≤ ops.size → (env k).length = (env 0).length := by
  intro k
  induction k with
  | zero => intro _; rfl
  | succ k ih =>
    intro hk
    have ho : ops[k]? = some ops[k] := Array.getElem?_eq_getElem (by omega)
    rw [hc.envs k _ ho]
    cases hd : (ops[k]).dst with
    | none => simp [aput, ih (by omega)]
    | some d => simp [aput, ih (by omega)]

/-- Who isn't written to stays. -/
theorem Course.between (hc : Course P ops p sw env mem val done) {t a : Nat} : ∀ b, a ≤ b → b ≤ ops.size → (∀ i o, a ≤ i → i < b → ops[i]? = some o → o.dst ≠ some t) → (env b)[t]? = (env a)[t]? := by
  intro b
  induction b with
  | zero => intro h _ _; have : a = 0 := by omega
            subst this; rfl
  | succ b ih =>
    intro h hb hn
    rcases Nat.lt_or_ge a (b + 1) with h1 | h1
    · have ho : ops[b]? = some ops[b] := Array.getElem?_eq_getElem (by omega)
      rw [hc.envs b _ ho, ← ih (by omega) (by omega) (fun i o h2 h3 => hn i o h2 (by omega))]
      have hd := hn b _ (by omega) (by omega) ho
      cases he : (ops[b]).dst with
      | none => rfl
      | some d =>
        simp only [aput, List.getElem?_set]
        rw [if_neg]
        intro e; subst e; exact hd he
    · have : a = b + 1 := by omega
      subst this; rfl

/-- Is an operation carried out that hangs on memory? -/
def Loud (ops : Array Oper) (done : Nat → Bool) (k : Nat) : Prop := ∃ o, ops[k]? = some o ∧ done k = true ∧ opPure o.op = false

theorem Course.quiet (hc : Course P ops p sw env mem val done) {k : Nat} (hk : k < ops.size) (h : ¬ Loud ops done k) : mem (k + 1) = mem k := by
  have ho : ops[k]? = some ops[k] := Array.getElem?_eq_getElem hk
  cases hd : done k with
  | false => exact (hc.skip k _ ho hd).2
  | true =>
    cases hp : opPure (ops[k]).op with
    | true => exact (pure_indep hp (hc.pure k _ ho hd hp)).1
    | false => exact absurd ⟨_, ho, hd, hp⟩ h
theorem Course.still (hc : Course P ops p sw env mem val done) {a : Nat} : ∀ b, a ≤ b → b ≤ ops.size → (∀ i, a ≤ i → i < b → ¬ Loud ops done i) → mem b = mem a := by
  intro b
  induction b with
  | zero => intro h _ _; have : a = 0 := by omega
            subst this; rfl
  | succ b ih =>
    intro h hb hn
    rcases Nat.lt_or_ge a (b + 1) with h1 | h1
    · rw [hc.quiet (by omega) (hn b (by omega) (by omega))]
      exact ih (by omega) (by omega) (fun i h2 h3 => hn i h2 (by omega))
    · have : a = b + 1 := by omega
      subst this; rfl
theorem Course.ext (hc : Course P ops p sw env mem val done) {a : Nat} : ∀ b, a ≤ b → b ≤ p → b ≤ ops.size → Ext (mem a) (mem b) := by
  intro b
  induction b with
  | zero => intro h _ _; have : a = 0 := by omega
            subst this; exact Ext.refl _
  | succ b ih =>
    intro h hp hb
    rcases Nat.lt_or_ge a (b + 1) with h1 | h1
    · refine (ih (by omega) (by omega) (by omega)).trans ?_
      have ho : ops[b]? = some ops[b] := Array.getElem?_eq_getElem (by omega)
      by_cases hl : Loud ops done b
      · obtain ⟨o, h2, h3, h4⟩ := hl
        exact (hc.loud b o h2 h3 h4).2.1 (by omega)
      · rw [hc.quiet (by omega) hl]; exact Ext.refl _
    · have : a = b + 1 := by omega
      subst this; exact Ext.refl _
theorem Course.mono (hc : Course P ops p sw env mem val done) {a : Nat} : ∀ b, a ≤ b → b ≤ ops.size → Mono (mem a) (mem b) := by
  intro b
  induction b with
  | zero => intro h _; have : a = 0 := by omega
            subst this; exact Mono.refl _
  | succ b ih =>
    intro h hb
    rcases Nat.lt_or_ge a (b + 1) with h1 | h1
    · refine (ih (by omega) (by omega)).trans ?_
      by_cases hl : Loud ops done b
      · obtain ⟨o, h2, h3, h4⟩ := hl
        exact (hc.loud b o h2 h3 h4).1.1
      · rw [hc.quiet (by omega) hl]; exact Mono.refl _
    · have : a = b + 1 := by omega
      subst this; exact Mono.refl _

/-- How things stand when some operations have been carried out. -/
structure Stand (ops : Array Oper) (env : Nat → List AV) (mem : Nat → Mem) (S : Nat → Prop) (g0 : Gh) (w0 : World) (g : Gh) (w : World) (tmps : Array Value) (M : Mem) : Prop where
  closed : ∀ i o, S i → ops[i]? = some o → ∀ e ∈ o.after, Region.binds .any e = true → S e.on
  size : tmps.size = (env 0).length
  slots : ∀ t, t < (env 0).length → ∃ k, k ≤ ops.size ∧ (∀ i o, ops[i]? = some o → o.dst = some t → (S i ↔ i < k)) ∧ ∀ a v, (env k)[t]? = some a → tmps[t]? = some v → Rep g w a v
  free : ∀ j, j < ops.size → ¬ S j → (∀ l, (mem j).boxes.length ≤ l → l < (mem (j + 1)).boxes.length → g.box l = none) ∧ ∀ l, (mem j).rows.length ≤ l → l < (mem (j + 1)).rows.length → g.row l = none
  memOk : MemOk g M w
  step : Step g0 (mem 0) g M w0 w

/-- What has been carried out of the operations that hang on memory: those ahead of c. -/
structure CtlN (ops : Array Oper) (p : Nat) (mem : Nat → Mem) (done : Nat → Bool) (S : Nat → Prop) (c : Nat) (M : Mem) : Prop where
  cLow : p ≤ c ∧ c ≤ ops.size
  cHigh : ∀ i, c ≤ i → Loud ops done i → ¬ S i
  cDone : ∀ i, p ≤ i → i < c → Loud ops done i → S i
  cAll : p < c → ∀ i, i < p → Loud ops done i → S i
  memEq : M = mem c
/-- Those ahead of a, and the later one of the pair. -/
structure CtlS (ops : Array Oper) (p : Nat) (mS : Mem) (done : Nat → Bool) (S : Nat → Prop) (a b : Nat) (M : Mem) : Prop where
  low : p ≤ a ∧ a < b ∧ b < ops.size
  high : ∀ i, a ≤ i → i ≠ b → Loud ops done i → ¬ S i
  all : ∀ i, i < a → Loud ops done i → S i
  lb : Loud ops done b
  la : Loud ops done a
  has : S b
  memEq : M = mS

/-- The pair the other way round. -/
theorem Course.swap (hc : Course P ops p sw env mem val done) (hd : drawOk ops p sw = true) : ∃ mS, ∀ a b, sw = some (a, b) → ∀ oa ob, ops[a]? = some oa → ops[b]? = some ob → Loud ops done a → Loud ops done b →
    AOp P ob (env b) (mem a) (val b) mS ∧ AOp P oa (env a) mS (val a) (mem (b + 1)) ∧ mS.boxes.length = (mem a).boxes.length ∧ mS.rows.length = (mem a).rows.length ∧ (mem (b + 1)).boxes.length = (mem a).boxes.length ∧ (mem (b + 1)).rows.length = (mem a).rows.length := by
  cases sw with
  | none => exact ⟨mem 0, fun a b h => by cases h⟩
  | some q =>
    obtain ⟨a, b⟩ := q
    by_cases hl : Loud ops done a ∧ Loud ops done b
    · obtain ⟨⟨oa, ha, hda, hpa⟩, ⟨ob, hb, hdb, hpb⟩⟩ := hl
      obtain ⟨hab, hpl, hbet⟩ := drawOk_swap hd
      have hbs := (Array.getElem?_eq_some_iff.1 hb).1
      obtain ⟨hea, tA, A, xA, id, off, y, h1, h2, h3, h4⟩ := ((hc.loud a oa ha hda hpa).2.2 a b rfl).1 rfl
      obtain ⟨heb, tB, B, xB, l, off', y', h1', h2', h3', h4'⟩ := ((hc.loud b ob hb hdb hpb).2.2 a b rfl).2 rfl
      have hmb : mem b = mem (a + 1) := hc.still b (by omega) (by omega) (fun i h5 h6 h7 => by
        obtain ⟨o, ho, hd, hp⟩ := h7
        have := hbet i o (by omega) h6 ho
        rw [hp] at this; cases this)
      rw [hmb] at h4'
      -- the two stores' facts
      obtain ⟨cs, n, hr, hn, hcond, hma⟩ : ∃ cs n, (mem a).rows[id]? = some (some (0, cs)) ∧ sizeT P tA = some n ∧ (y.cells.length = n ∧ off + n ≤ cs.length ∧ notTuple y = true) ∧ mem (a + 1) = (mem a).setRow id 0 (splice cs off y.cells) := by
        simp only [astore] at h4
        split at h4
        · rename_i cs n hr hn
          split at h4
          · rename_i hcond
            injection h4 with h4
            exact ⟨cs, n, hr, hn, hcond, h4.symm⟩
          · cases h4
        · cases h4
      obtain ⟨cs', n', hr', hn', hcond', hmb1⟩ : ∃ cs n, (mem (a + 1)).boxes[l]? = some (.cells cs) ∧ sizeT P tB = some n ∧ (y'.cells.length = n ∧ off' + n ≤ cs.length ∧ notTuple y' = true) ∧ mem (b + 1) = (mem (a + 1)).set l (.cells (splice cs off' y'.cells)) := by
        simp only [astore] at h4'
        split at h4'
        · rename_i cs n hr hn
          split at h4'
          · rename_i hcond
            injection h4' with h4'
            exact ⟨cs, n, hr, hn, hcond, h4'.symm⟩
          · cases h4'
        · cases h4'
      have hbox : (mem (a + 1)).boxes = (mem a).boxes := by rw [hma]; rfl
      rw [hbox] at hr'
      refine ⟨(mem a).set l (.cells (splice cs' off' y'.cells)), fun a' b' he oa' ob' ha' hb' _ _ => ?_⟩
      injection he with he; injection he with e1 e2; subst e1 e2
      rw [ha] at ha'; injection ha' with ha'; subst ha'
      rw [hb] at hb'; injection hb' with hb'; subst hb'
      refine ⟨?_, ?_, by simp [Mem.set], by simp [Mem.set], by rw [hmb1, hma]; simp [Mem.set, Mem.setRow], by rw [hmb1, hma]; simp [Mem.set, Mem.setRow]⟩
      · rw [heb]
        refine aop_ok (P := P) (o := ob) ?_
        rw [h1']
        simp [aop, h2', h3', astore, hr', hn', hcond']
      · rw [hea]
        refine aop_ok (P := P) (o := oa) ?_
        rw [h1]
        have : ((mem a).set l (.cells (splice cs' off' y'.cells))).rows = (mem a).rows := rfl
        simp [aop, h2, h3, astore, this, hr, hn, hcond, hmb1, hma, Mem.set, Mem.setRow]
    · exact ⟨mem 0, fun a' b' he oa ob ha hb hla hlb => by
        injection he with he; injection he with e1 e2; subst e1 e2
        exact absurd ⟨hla, hlb⟩ hl⟩

/-- What an operation looks at is as in the text's order. -/
theorem Stand.look {S : Nat → Prop} {g0 g : Gh} {w0 w : World} {tmps : Array Value} {M0 : Mem} (hc : Course P ops p sw env mem val done) (hd : drawOk ops p sw = true) (h : Stand ops env mem S g0 w0 g w tmps M0) {j : Nat} {o : Oper} (ho : ops[j]? = some o)
    (hr : ∀ e ∈ o.after, Region.binds .any e = true → S e.on) (hn : ¬ S j) {t : Nat} (ht : t ∈ o.looksAt ops) {a : AV} (ha : (env j)[t]? = some a) : ∃ v, tmps[t]? = some v ∧ Rep g w a v := by
  have hj := (Array.getElem?_eq_some_iff.1 ho).1
  have htl : t < (env 0).length := by rw [← hc.len j (by omega)]; exact (List.getElem?_eq_some_iff.1 ha).1
  obtain ⟨k, hk, hw, hrep⟩ := h.slots t htl
  obtain ⟨_, hpath⟩ := drawOk_spec hd
  have hlow : ∀ i x, ops[i]? = some x → x.dst = some t → i < j → i < k := by
    intro i x hx hxd hij
    have h1 := (hpath i j x o hx ho hij).1 (by simp [touches, hxd, ht])
    exact (hw i x hx hxd).1 (ahead_done h.closed j o ho hr i h1)
  have hhigh : ∀ i x, ops[i]? = some x → x.dst = some t → j ≤ i → k ≤ i := by
    intro i x hx hxd hij
    rcases Nat.lt_or_ge i k with h2 | h2
    · have hsi := (hw i x hx hxd).2 h2
      rcases Nat.eq_or_lt_of_le hij with h3 | h3
      · subst h3; exact absurd hsi hn
      · have h1 := (hpath j i o x ho hx h3).1 (by simp [touches, hxd, ht])
        exact absurd (ahead_done h.closed i x hx (h.closed i x hsi hx) j h1) hn
    · exact h2
  have he : (env k)[t]? = (env j)[t]? := by
    rcases Nat.le_total j k with h1 | h1
    · exact hc.between k h1 hk (fun i x h2 h3 hx hxd => by have := hhigh i x hx hxd h2; omega)
    · exact (hc.between j h1 (by omega) (fun i x h2 h3 hx hxd => by have := hlow i x hx hxd h3; omega)).symm
  have htz : t < tmps.size := by rw [h.size]; exact htl
  exact ⟨tmps[t], Array.getElem?_eq_getElem htz, hrep a _ (by rw [he]; exact ha) (Array.getElem?_eq_getElem htz)⟩

theorem Stand.repE {S : Nat → Prop} {g0 g : Gh} {w0 w : World} {act : Act} {M0 : Mem} (hc : Course P ops p sw env mem val done) (hd : drawOk ops p sw = true) (h : Stand ops env mem S g0 w0 g w act.tmps M0) {j : Nat} {o : Oper} (ho : ops[j]? = some o)
    (hr : ∀ e ∈ o.after, Region.binds .any e = true → S e.on) (hn : ¬ S j) : RepE g w (env j) o.op.operands act.eval := by
  intro x hx av hxa
  cases x with
  | tmp t =>
    have ht : t ∈ o.looksAt ops := by
      simp only [Oper.looksAt, List.mem_append, List.mem_filterMap]
      exact .inl ⟨.tmp t, by simpa using hx, rfl⟩
    obtain ⟨v, h1, h2⟩ := h.look hc hd ho hr hn ht hxa
    show Rep g w av (act.tmps.getD t Go.undef)
    rw [Array.getD_eq_getD_getElem?, h1, Option.getD_some]
    exact h2
  | const v => exact constAV_rep hxa
  | func f =>
    injection hxa with hxa; subst hxa
    exact .func f [] [] #[] #[] rfl (fun j c v h => by simp at h) rfl (fun j c v h => by simp at h)
  | global g => cases hxa

theorem Stand.want {S : Nat → Prop} {g0 g : Gh} {w0 w : World} {act : Act} {M0 : Mem} (hc : Course P ops p sw env mem val done) (hd : drawOk ops p sw = true) (h : Stand ops env mem S g0 w0 g w act.tmps M0) {j : Nat} {o : Oper} (ho : ops[j]? = some o)
    (hr : ∀ e ∈ o.after, Region.binds .any e = true → S e.on) (hn : ¬ S j) : Region.wanted o (yielded ops act.tmps) = done j := by
  have hw := hc.wanted j o ho
  unfold wantedA at hw
  unfold Region.wanted
  split at hw
  · rename_i hg; injection hw with hw; simp [hg, ← hw]
  · rename_i q want hg
    simp only [hg, yielded]
    split at hw
    · rename_i hdq
      injection hw with hw
      rw [hdq, ← hw]; rfl
    · rename_i d hdq
      rw [hdq]
      simp only [Option.bind_some]
      have ht : d ∈ o.looksAt ops := by
        simp only [Oper.looksAt, hg, hdq, List.mem_append]
        exact .inr (by simp)
      split at hw
      · rename_i b' he
        injection hw with hw
        obtain ⟨v, h1, h2⟩ := h.look hc hd ho hr hn ht he
        rw [h1, h2.atom_inv, ← hw]
        cases b' <;> cases want <;> rfl
      · rename_i vs he
        injection hw with hw
        obtain ⟨v, h1, h2⟩ := h.look hc hd ho hr hn ht he
        rw [h1, ← hw]
        generalize hx : AV.tuple vs = x at h2
        cases h2 <;> cases hx
        rfl
      · cases hw

/-- One operation more. -/
theorem Stand.next {S : Nat → Prop} {g0 g g1 : Gh} {w0 w w1 : World} {act : Act} {M0 : Mem} (hc : Course P ops p sw env mem val done) (hd : drawOk ops p sw = true) (h : Stand ops env mem S g0 w0 g w act.tmps M0) {j : Nat} {o : Oper} (ho : ops[j]? = some o)
    (hr : ∀ e ∈ o.after, Region.binds .any e = true → S e.on) (hn : ¬ S j) {v : Value} {M M' : Mem} (hM : MemOk g M w) (hs : Step g M g1 M' w w1) (hv : Rep g1 w1 (val j) v)
    {M1 : Mem}
    (hlow : ∀ i, i < ops.size → i ≠ j → (mem (i + 1)).boxes.length ≤ M.boxes.length ∧ (mem (i + 1)).rows.length ≤ M.rows.length ∨ M'.boxes.length ≤ (mem i).boxes.length ∧ M'.rows.length ≤ (mem i).rows.length ∨ (M.boxes.length = M'.boxes.length ∧ M.rows.length = M'.rows.length))
    (hm1 : MemOk g1 M1 w1) (hst : Step g0 (mem 0) g1 M1 w0 w1) : Stand ops env mem (fun i => S i ∨ i = j) g0 w0 g1 w1 (act.put o.dst v).tmps M1 := by
  have hj := (Array.getElem?_eq_some_iff.1 ho).1
  refine ⟨fun i x hi hx e he hb => ?_, ?_, fun t ht => ?_, fun i hi hni => ?_, hm1, hst⟩
  · rcases hi with hi | rfl
    · exact .inl (h.closed i x hi hx e he hb)
    · rw [ho] at hx; injection hx with hx; subst hx; exact .inl (hr e he hb)
  · cases hdd : o.dst <;> simp [Act.put, h.size]
  · by_cases hdt : o.dst = some t
    · refine ⟨j + 1, by omega, fun i x hx hxd => ⟨fun hi => ?_, fun hi => ?_⟩, fun a u ha hu => ?_⟩
      · rcases hi with hi | rfl
        · rcases Nat.lt_or_ge j i with h1 | h1
          · have h2 := ((drawOk_spec hd).2 j i o x ho hx h1).1 (by simp [touches, hdt, hxd])
            exact absurd (ahead_done h.closed i x hx (h.closed i x hi hx) j h2) hn
          · omega
        · omega
      · rcases Nat.lt_or_ge i j with h1 | h1
        · have h2 := ((drawOk_spec hd).2 i j x o hx ho h1).1 (by simp [touches, hdt, hxd])
          exact .inl (ahead_done h.closed j o ho hr i h2)
        · exact .inr (by omega)
      · rw [hc.envs j o ho, hdt] at ha
        simp only [aput, List.getElem?_set, if_true] at ha
        rw [hdt] at hu
        simp only [Act.put, Array.getElem?_setIfInBounds, if_true] at hu
        split at ha
        · split at hu
          · injection ha with ha; injection hu with hu; subst ha hu; exact hv
          · cases hu
        · cases ha
    · obtain ⟨k, hk, hw, hrep⟩ := h.slots t ht
      refine ⟨k, hk, fun i x hx hxd => ⟨fun hi => ?_, fun hi => .inl ((hw i x hx hxd).2 hi)⟩, fun a u ha hu => ?_⟩
      · rcases hi with hi | rfl
        · exact (hw i x hx hxd).1 hi
        · rw [ho] at hx; injection hx with hx; subst hx; exact absurd hxd hdt
      · refine (hrep a u ha ?_).step hM hs
        rw [← hu]
        cases hdd : o.dst with
        | none => rfl
        | some d =>
          simp only [Act.put, Array.getElem?_setIfInBounds]
          rw [if_neg]
          intro e; subst e; exact hdt hdd
  · have hij : i ≠ j := fun e => hni (.inr e)
    have hsi : ¬ S i := fun e => hni (.inl e)
    obtain ⟨f1, f2⟩ := h.free i hi hsi
    have hlt := hlow i hi hij
    refine ⟨fun l h1 h2 => ?_, fun l h1 h2 => ?_⟩
    · have hb := hs.boxes
      rw [hs.boxOld l (by rcases hlt with a | a | a <;> omega)]
      exact f1 l h1 h2
    · have hb := hs.rows
      cases hrow : g1.row l with
      | none => rfl
      | some x =>
        exfalso
        have hne : g1.row l ≠ none := by rw [hrow]; simp
        have hg : g.row l = none := f2 l h1 h2
        rcases Nat.lt_or_ge l M.rows.length with h3 | h3
        · exact ((hs.rowStay l h3).1 hne) hg
        · rcases Nat.lt_or_ge l M'.rows.length with h4 | h4
          · rcases hlt with a | a | a <;> omega
          · rw [(hs.rowOut l h4).1] at hne; exact hne hg
end
end Go.Proofs.Ytakmilmckdllfaa.G
