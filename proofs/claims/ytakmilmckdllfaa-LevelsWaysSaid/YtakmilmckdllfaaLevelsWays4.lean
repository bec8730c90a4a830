/-
Part 4 of the proof of LevelsWays: merged by mkclaim.py (a program of this repo) out of texts of wip/g and printed models.
-/
import Derived.Test.YtakmilmckdllfaaLevelsWays3
set_option linter.unusedVariables false
set_option linter.unusedSectionVars false
set_option linter.unusedSimpArgs false
namespace Go.Proofs.Ytakmilmckdllfaa.G

/-- What temporaries hold, where the variables have other names. -/
def vwT (τ : List (Nat × Nat)) : Option LV → LV → Prop
  | some (.v a), .v b => a = b
  | some (.lref t o), .lref t' o' => t = rn τ t' ∧ o = o'
  | some (.fn f a b), .fn f' a' b' => f = f' ∧ a = LAs.ren τ a' ∧ b = LAs.ren τ b'
  | _, _ => False
def vwTs (τ : List (Nat × Nat)) (S : List (Nat × LV)) : List (Nat × LV) → Prop
  | [] => True
  | (t, v) :: l => vwT τ (aget S t) v ∧ vwTs τ S l
def lputsS (S : List (Nat × LV)) : List Tmp → List AV → List (Nat × LV)
  | t :: ts, a :: ds => lputsS ((t, .v a) :: S) ts ds
  | _, _ => S
def noIter : List (Nat × LV) → Bool
  | [] => true
  | (_, .iter _) :: _ => false
  | _ :: l => noIter l
def LoOk (c : LCtx) (lo : Option Nat) : Prop := LoAt c.base lo ∧ ∀ l, lo = some l → ∀ p ∈ c.bs, p.2 ≠ l
def goodN (N N' : List (Nat × List CV)) : Bool := rnOk [] N' && (sameNames N N' && closedN N N')

variable [Mu]
section
variable {P : Program} {f : FuncId} {fr : Fro} {ℓ ℓ' : Nat → Nat} {ρ ρ' : Nat → Own} {c : LCtx} {L L' : LEnv} {env : List AV} {m m' : Mem} {lo : Option Nat} {σ : List (Nat × Option Nat)} {τ : List (Nat × Nat)} {N N' : List (Nat × List CV)}

theorem vwTs_get : ∀ {S' S : List (Nat × LV)}, vwTs τ S S' → ∀ t v, aget S' t = some v → vwT τ (aget S t) v := by
  intro S'
  induction S' with
  | nil => intro S _ t v h; cases h
  | cons x l ih =>
    obtain ⟨t0, v0⟩ := x
    intro S h t v hv
    simp only [aget] at hv
    split at hv
    · rename_i e; subst e; injection hv with hv; subst hv; exact h.1
    · exact ih h.2 t v hv
theorem LoOk.at_ (hlo : LoOk c lo) (h : RelW P fr ℓ ρ c L env m) : LoAt m lo := by
  cases lo with
  | none => trivial
  | some l =>
    obtain ⟨st, pend, e, ps, a, b, hb⟩ := hlo.1
    exact ⟨st, pend, e, ps, a, b, h.frame l _ hb fun p hp _ => hlo.2 l rfl p hp⟩
theorem LoOk.none (c : LCtx) : LoOk c none := ⟨trivial, fun l h => by cases h⟩
theorem LC.part {fn : Func} (hmix : P.follows .mixedOrders = true) (hf : P.funcs[f]? = some fn) {k : Nat} {Q : Exit → LEnv → Prop} (hd : okLPart fn k = true) (hn : env.length = ntmpsOf P f) (hr : Rel P c L env m)
    (h : LC P f lo c (slimC (k + 1) (partF fn k)) Q L) : ∃ x env' m', AExec P lo (partOf P f k) env m x env' m' ∧ UpQ P (ntmpsOf P f) c (Q x) env' m' := by
  simp only [okLPart, Bool.and_eq_true, decide_eq_true_eq] at hd
  have hbo : bodyOf P f = bodyF fn := by simp [bodyOf, bodyF, hf]
  have e1 : partOf P f k = partF fn k := by simp [partOf, partF, hbo]
  have e2 : fn.ntmps = ntmpsOf P f := by simp [ntmpsOf, hf]
  rw [← e1, e2, ← hbo] at hd
  rw [← e1] at h
  have h0 : (parts (bodyOf P f))[k]? = some (partOf P f k) := by
    have h1 : k < (parts (bodyOf P f)).length := by rw [nparts_eq]; exact hd.1
    simp [partOf, List.getElem?_eq_getElem h1]
  exact LC.exec hmix hn hr hd.2 (fun i hi => parts_within h0 i hi) h

def cOf (ℓ : Nat → Nat) (ρ : Nat → Own) (m : Mem) (N : List (Nat × List CV)) (hN : namesB N = true) : LCtx := ⟨m, bsOf ℓ N, fun id => ∃ i s es, TokIn N i s es ∧ ρ i = .row id, fun p hp => (bsOf_mem hN p hp).1⟩
theorem Held.rel (hmode : m.mode = seatMu) (hN : namesB N = true) (hh : Held ℓ ρ m N) {S : List (Nat × LV)} (hslot : ∀ t v, aget S t = some v → v ≠ .dead → ∃ a, env[t]? = some a ∧ SRel P [] ℓ ρ v a) (htok : ∀ t v, aget S t = some v → ∀ i s es, ¬ v.has i s es) :
    RelW P [] ℓ ρ (cOf ℓ ρ m N hN) ⟨S, N⟩ env m := by
  have visN : ∀ {i s es}, Vis ⟨S, N⟩ i s es → TokIn N i s es := by
    rintro i s es (⟨t, v, h4, h5⟩ | h4)
    · exact (htok t v h4 i s es h5).elim
    · exact h4
  refine ⟨hmode, hslot, hh.locs, fun i s es hv => hh.tok i s es (visN hv), fun i s es j s' es' hv hv' => hh.apart i s es j s' es' (visN hv) (visN hv'), hh.inj, fun p hp => ?_, fun t cs h4 => ?_, fun i s es hv id hid => .inr ⟨i, s, es, visN hv, hid⟩, ⟨Nat.le_refl _, Nat.le_refl _⟩, fun l b h4 _ => h4, fun id x h4 _ => h4, fun q hq => (by cases hq), fun q hq => (by cases hq)⟩
  · obtain ⟨_, h6, h7⟩ := bsOf_mem hN p hp
    exact ⟨h7, h6.symm⟩
  · exact .inr (.inl ⟨_, bsOf_has h4, rfl⟩)
theorem RelW.back (g3 : RelW P fr ℓ' ρ' c L env m') (hbs : c.bs = bsOf ℓ N) (hR : c.R0 = fun id => ∃ i s es, TokIn N i s es ∧ ρ i = .row id) (hN : namesB N = true) (g4 : sgOk σ = true) (g5 : vwN σ [] L.N N') (hg : goodN N N' = true) :
    Held ℓ (vρ σ ρ') m' N' ∧ Stays ℓ ρ c.base N (vρ σ ρ') m' N' := by
  simp only [goodN, Bool.and_eq_true] at hg
  obtain ⟨hn2, hn3, hn4⟩ := hg
  have hℓ : ∀ t cs, aget N t = some cs → ℓ' t = ℓ t := fun t cs ht => (g3.bor _ (by rw [hbs]; exact bsOf_has (ℓ := ℓ) ht)).2
  have hh' : Held ℓ' (vρ σ ρ') m' N' := g3.held.view (τ := []) g4 hn2 g5
  have hnm : ∀ t cs, aget N' t = some cs → ∃ k, aget N t = some k := fun t cs ht => sameNames_get hn3 t cs ht
  refine ⟨⟨fun t cs ht => ?_, hh'.tok, hh'.apart, fun t t' cs cs' h1 h2 h3 => ?_⟩, ⟨g3.mode, g3.len, fun l b hb hne => ?_, fun id x hx hne => ?_, fun i s es hi id hid => ?_⟩⟩
  · obtain ⟨ds, k1, k2⟩ := hh'.locs t cs ht
    obtain ⟨k, hk⟩ := hnm t cs ht
    rw [hℓ t k hk] at k1
    exact ⟨ds, k1, crels_inN hℓ (closedN_get hn4 t cs ht) k2⟩
  · obtain ⟨k, hk⟩ := hnm t cs h1
    obtain ⟨k', hk'⟩ := hnm t' cs' h2
    exact hh'.inj t t' cs cs' h1 h2 (by rw [hℓ t k hk, hℓ t' k' hk']; exact h3)
  · refine g3.frame l b hb (fun p hp hlt e => ?_)
    rw [hbs] at hp
    obtain ⟨_, k2, k, k3⟩ := bsOf_mem hN p hp
    exact hne p.1 k k3 hlt (by rw [← k2, e])
  · refine g3.rframe id x hx ?_
    rw [hR]
    exact (fun ⟨i, s, es, k1, k2⟩ => hne i s es k1 k2)
  · rcases vwN_tok g5 hi with k1 | ⟨i', k1, k2⟩
    · simp only [vρ, k1] at hid; cases hid
    · simp only [vρ, k1] at hid
      rcases g3.rlow i' s es k2.vis id hid with k3 | k3
      · exact .inl k3
      · rw [hR] at k3
        obtain ⟨i0, s0, es0, k3, k4⟩ := k3
        exact .inr ⟨i0, s0, es0, k3, k4⟩
theorem noIter_get : ∀ {S : List (Nat × LV)}, noIter S = true → ∀ t xs, aget S t ≠ some (.iter xs) := by
  intro S
  induction S with
  | nil => intro _ t xs h; cases h
  | cons x l ih =>
    obtain ⟨t0, v0⟩ := x
    intro h t xs hx
    simp only [aget] at hx
    split at hx
    · injection hx with hx; subst hx; simp [noIter] at h
    · exact ih (by cases v0 <;> first | exact h | (simp [noIter] at h)) t xs hx
theorem RelW.noFro (h : RelW P fr ℓ ρ c L env m) (hn : noIter L.S = true) : RelW P [] ℓ ρ c L env m := by
  refine { h with slot := fun t v h1 h2 => ?_, froz := ⟨fun q hq => (by cases hq), fun q hq => (by cases hq)⟩ }
  obtain ⟨a, h3, h4⟩ := h.slot t v h1 h2
  refine ⟨a, h3, ?_⟩
  cases v with
  | iter xs => exact (noIter_get hn t xs h1).elim
  | _ => exact h4
theorem RelW.setBase (h : RelW P [] ℓ ρ c L env m) {l : Nat} {b b0 : ABox} (hl : c.base.boxes[l]? = some b0) (hp : ∀ p ∈ c.bs, p.2 ≠ l) (hb0 : ∀ ds, b0 ≠ .cells ds) : RelW P [] ℓ ρ ⟨c.base.set l b, c.bs, c.R0, c.hb⟩ L env (m.set l b) := by
  have hm : m.boxes[l]? = some b0 := h.frame l b0 hl fun p h1 _ => hp p h1
  have hlb : l < c.base.boxes.length := (List.getElem?_eq_some_iff.1 hl).1
  have hlm : l < m.boxes.length := (List.getElem?_eq_some_iff.1 hm).1
  have hne : ∀ t cs, aget L.N t = some cs → ℓ t ≠ l := by
    intro t cs ht e
    obtain ⟨ds, h1, _⟩ := h.locs t cs ht
    rw [e, hm] at h1
    injection h1 with h1
    exact hb0 ds h1
  refine ⟨h.mode, h.slot, fun t cs ht => ?_, h.tok, h.apart, h.inj, h.bor, fun t cs ht => ?_, h.rlow, ?_, fun i x h1 h2 => ?_, h.rframe, ⟨fun q hq => (by cases hq), fun q hq => (by cases hq)⟩⟩
  · obtain ⟨ds, h1, h2⟩ := h.locs t cs ht
    refine ⟨ds, ?_, h2⟩
    simp only [Mem.set]
    rw [List.getElem?_set_ne (fun e => hne t cs ht e.symm)]; exact h1
  · have := h.low t cs ht
    simpa [Mem.set] using this
  · have := h.len
    simpa [Mem.set] using this
  · simp only [Mem.set] at h1 ⊢
    by_cases e : l = i
    · subst e
      rw [List.getElem?_set_self hlb] at h1
      rw [List.getElem?_set_self hlm]; exact h1
    · rw [List.getElem?_set_ne e] at h1 ⊢
      exact h.frame i x h1 h2

theorem Held.ext (h : Held ℓ ρ m N) (he : Ext m m') : Held ℓ ρ m' N := by
  refine ⟨fun t cs ht => ?_, fun i s es hi => ?_, h.apart, h.inj⟩
  · obtain ⟨ds, h1, h2⟩ := h.locs t cs ht
    exact ⟨ds, he.get h1, h2⟩
  · obtain ⟨_, ⟨x, hx⟩, _⟩ := he
    refine (h.tok i s es hi).mono fun id _ y h2 => ?_
    rw [hx, List.getElem?_append_left (List.getElem?_eq_some_iff.1 h2).1]; exact h2
theorem Held.set {l : Nat} (b : ABox) (h : Held ℓ ρ m N) (hl : ∀ t cs, aget N t = some cs → ℓ t ≠ l) : Held ℓ ρ (m.set l b) N := by
  refine ⟨fun t cs ht => ?_, h.tok, h.apart, h.inj⟩
  obtain ⟨ds, h1, h2⟩ := h.locs t cs ht
  refine ⟨ds, ?_, h2⟩
  simp only [Mem.set]
  rw [List.getElem?_set_ne (fun e => hl t cs ht e.symm)]; exact h1
theorem Stays.ext2 {m0 : Mem} (h : Stays ℓ ρ m0 N ρ' m N') (he : Ext m m') : Stays ℓ ρ m0 N ρ' m' N' := by
  obtain ⟨⟨x, hx⟩, ⟨y, hy⟩, hm⟩ := he
  refine ⟨by rw [hm]; exact h.mode, ⟨?_, ?_⟩, fun l b h1 h2 => ?_, fun id z h1 h2 => ?_, h.rlow⟩
  · have := h.len.1; rw [hx]; simp; omega
  · have := h.len.2; rw [hy]; simp; omega
  · have h3 := h.frame l b h1 h2
    rw [hx, List.getElem?_append_left (List.getElem?_eq_some_iff.1 h3).1]; exact h3
  · have h3 := h.rframe id z h1 h2
    rw [hy, List.getElem?_append_left (List.getElem?_eq_some_iff.1 h3).1]; exact h3
theorem Stays.set {m0 : Mem} {l : Nat} (b : ABox) (h : Stays ℓ ρ m0 N ρ' m N') (hl : m0.boxes.length ≤ l) : Stays ℓ ρ m0 N ρ' (m.set l b) N' := by
  refine ⟨h.mode, by have := h.len; simpa [Mem.set] using this, fun i x h1 h2 => ?_, h.rframe, h.rlow⟩
  have := (List.getElem?_eq_some_iff.1 h1).1
  simp only [Mem.set]
  rw [List.getElem?_set_ne (by omega)]
  exact h.frame i x h1 h2
theorem Stays.trans {m0 : Mem} {l : Nat} {b : ABox} {N2 : List (Nat × List CV)} {ρ2 : Nat → Own} {m2 : Mem} (h : Stays ℓ ρ m0 N ρ' m N') (k : Stays ℓ ρ' (m.set l b) N' ρ2 m2 N2) (hl : m0.boxes.length ≤ l) (hn : ∀ t cs, aget N' t = some cs → ∃ cs', aget N t = some cs') : Stays ℓ ρ m0 N ρ2 m2 N2 := by
  refine ⟨k.mode, ⟨?_, ?_⟩, fun i x h1 h2 => ?_, fun id x h1 h2 => ?_, fun i s es h1 id hid => ?_⟩
  · have h1 := h.len.1; have h2 := k.len.1; simp [Mem.set] at h2; omega
  · have h1 := h.len.2; have h2 := k.len.2; simp [Mem.set] at h2; omega
  · have := (List.getElem?_eq_some_iff.1 h1).1
    refine k.frame i x ?_ (fun t cs ht hlt => ?_)
    · simp only [Mem.set]
      rw [List.getElem?_set_ne (by omega)]
      exact h.frame i x h1 h2
    · obtain ⟨cs', h3⟩ := hn t cs ht
      exact h2 t cs' h3 hlt
  · have := (List.getElem?_eq_some_iff.1 h1).1
    refine k.rframe id x (h.rframe id x h1 h2) (fun i s es hi e => ?_)
    rcases h.rlow i s es hi id e with h3 | ⟨i0, s0, es0, h3, h4⟩
    · omega
    · exact h2 i0 s0 es0 h3 h4
  · rcases k.rlow i s es h1 id hid with h3 | ⟨i0, s0, es0, h3, h4⟩
    · have h4 := h.len.2; simp [Mem.set] at h3; exact .inl (by omega)
    · exact h.rlow i0 s0 es0 h3 id h4
theorem namesB_same : ∀ {N N' : List (Nat × List CV)}, sameNames N N' = true → namesB N = true → namesB N' = true := by
  intro N
  induction N with
  | nil => intro N' h _; cases N' with
    | nil => rfl
    | cons y l' => simp [sameNames] at h
  | cons x l ih =>
    obtain ⟨t, cs⟩ := x
    intro N' h h1
    cases N' with
    | nil => simp [sameNames] at h
    | cons y l' =>
      obtain ⟨t', cs'⟩ := y
      simp only [sameNames, Bool.and_eq_true, beq_iff_eq] at h
      simp only [namesB, Bool.and_eq_true] at h1 ⊢
      rw [← h.1]
      exact ⟨h1.1, ih h.2 h1.2⟩
theorem sameNames_trans : ∀ {N N' N2 : List (Nat × List CV)}, sameNames N N' = true → sameNames N' N2 = true → sameNames N N2 = true := by
  intro N
  induction N with
  | nil => intro N' N2 h k; cases N' with
    | nil => exact k
    | cons y l' => simp [sameNames] at h
  | cons x l ih =>
    obtain ⟨t, cs⟩ := x
    intro N' N2 h k
    cases N' with
    | nil => simp [sameNames] at h
    | cons y l' =>
      cases N2 with
      | nil => simp [sameNames] at k
      | cons z l2 =>
        simp only [sameNames, Bool.and_eq_true, beq_iff_eq] at h k ⊢
        exact ⟨h.1.trans k.1, ih h.2 k.2⟩
theorem sameNames_refl : ∀ {N : List (Nat × List CV)}, sameNames N N = true := by
  intro N
  induction N with
  | nil => rfl
  | cons x l ih => obtain ⟨t, cs⟩ := x; simp only [sameNames, ih, BEq.rfl, Bool.and_self]
theorem lputsS_slot : ∀ (ts : List Tmp) (ds : List AV) {S : List (Nat × LV)} {env : List AV}, (∀ t ∈ ts, t < env.length) → (∀ t v, aget S t = some v → v ≠ .dead → ∃ a, env[t]? = some a ∧ SRel P [] ℓ ρ v a) →
    ∀ t v, aget (lputsS S ts ds) t = some v → v ≠ .dead → ∃ a, (putAll env ts ds)[t]? = some a ∧ SRel P [] ℓ ρ v a := by
  intro ts
  induction ts with
  | nil => intro ds S env _ h; simpa [putAll, lputsS] using h
  | cons t0 ts ih =>
    intro ds S env ht h
    cases ds with
    | nil => simpa [putAll, lputsS] using h
    | cons a ds =>
      simp only [putAll, lputsS]
      refine ih ds (fun t h => by rw [List.length_set]; exact ht t (List.mem_cons_of_mem _ h)) ?_
      intro t v hv hd
      simp only [aget] at hv
      split at hv
      · rename_i e; subst e; injection hv with hv; subst hv
        exact ⟨a, by rw [List.getElem?_set_self (ht _ (by simp))], rfl⟩
      · rename_i e
        obtain ⟨x, h1, h2⟩ := h t v hv hd
        exact ⟨x, by rw [List.getElem?_set_ne e]; exact h1, h2⟩
theorem lputsS_tok : ∀ (ts : List Tmp) (ds : List AV) {S : List (Nat × LV)}, (∀ t v, aget S t = some v → ∀ i s es, ¬ v.has i s es) → ∀ t v, aget (lputsS S ts ds) t = some v → ∀ i s es, ¬ v.has i s es := by
  intro ts
  induction ts with
  | nil => intro ds S h; simpa [lputsS] using h
  | cons t0 ts ih =>
    intro ds S h
    cases ds with
    | nil => simpa [lputsS] using h
    | cons a ds =>
      simp only [lputsS]
      refine ih ds ?_
      intro t v hv
      simp only [aget] at hv
      split at hv
      · injection hv with hv; subst hv; intro i s es hh; exact hh.elim
      · exact h t v hv

/-- How a round ends. -/
def REnd (Fin : Exit → List (Nat × List CV) → Prop) (RR : List (Nat × List CV) → Prop) (N : List (Nat × List CV)) (x2 : Exit) (L2 : LEnv) : Prop :=
  ∃ σ N2, sgOk σ = true ∧ vwN σ [] L2.N N2 ∧ goodN N N2 = true ∧ ((x2 = .normal ∧ RR N2) ∨ ((∃ c, exitJump x2 = some (some c)) ∧ Fin x2 N2))
/-- A round's second part. -/
def RMid (P : Program) (f : FuncId) (fn : Func) (j : Nat) (l : Nat) (Q : Exit → LEnv → Prop) (x1 : Exit) (L1 : LEnv) : Prop :=
  x1 = .normal ∧ noIter L1.S = true ∧ ∀ c2, LoOk c2 (some l) → LC P f (some l) c2 (slimC (j + 1) (partF fn j)) Q L1
def RBody (P : Program) (f : FuncId) (fn : Func) (k j : Nat) (ps : Array Tmp) (S0 : List (Nat × LV)) (Q : Exit → LEnv → Prop) (x : List AV) (N : List (Nat × List CV)) : Prop :=
  x.length = ps.size ∧ ∀ l c1, LoOk c1 (some l) → LC P f (some l) c1 (slimC (k + 1) (partF fn k)) (RMid P f fn j l Q) ⟨lputsS S0 ps.toList x, N⟩
/-- What the rounds of a range over an iterator come to. -/
def RRun (P : Program) (f : FuncId) (fn : Func) (k j : Nat) (ps : Array Tmp) (S0 : List (Nat × LV)) (Fin : Exit → List (Nat × List CV) → Prop) : List (List AV) → List (Nat × List CV) → Prop
  | [], N => Fin .normal N
  | x :: xs, N => RBody P f fn k j ps S0 (REnd Fin (RRun P f fn k j ps S0 Fin xs) N) x N
theorem RRun.nil {fn : Func} {k j : Nat} {ps : Array Tmp} {S0 : List (Nat × LV)} {Fin : Exit → List (Nat × List CV) → Prop} (h : Fin .normal N) : RRun P f fn k j ps S0 Fin [] N := h
theorem RRun.cons {fn : Func} {k j : Nat} {ps : Array Tmp} {S0 : List (Nat × LV)} {Fin : Exit → List (Nat × List CV) → Prop} {x : List AV} {xs : List (List AV)} (h1 : x.length = ps.size) (h : ∀ l c1, LoOk c1 (some l) → LC P f (some l) c1 (slimC (k + 1) (partF fn k)) (RMid P f fn j l (REnd Fin (RRun P f fn k j ps S0 Fin xs) N)) ⟨lputsS S0 ps.toList x, N⟩) : RRun P f fn k j ps S0 Fin (x :: xs) N := ⟨h1, h⟩
theorem RMid.mk {fn : Func} {j l : Nat} {Q : Exit → LEnv → Prop} (h1 : noIter L.S = true) (h : ∀ c2, LoOk c2 (some l) → LC P f (some l) c2 (slimC (j + 1) (partF fn j)) Q L) : RMid P f fn j l Q .normal L := ⟨rfl, h1, h⟩
theorem REnd.next {Fin : Exit → List (Nat × List CV) → Prop} {RR : List (Nat × List CV) → Prop} (σ : List (Nat × Option Nat)) (h1 : sgOk σ = true) (h2 : vwN σ [] L.N N') (h3 : goodN N N' = true) (h : RR N') : REnd Fin RR N .normal L := ⟨σ, N', h1, h2, h3, .inl ⟨rfl, h⟩⟩
attribute [go_sem] lputsS List.toList_toArray vwTs vwT

/-- **A range over an iterator.** -/
theorem LRange.iter {fn : Func} (hmix : P.follows .mixedOrders = true) (hf : P.funcs[f]? = some fn) (hlo : LoOk c lo) {t : Tmp} {k j : Nat} {ps : Array Tmp} {Q : Exit → LEnv → Prop} (hk : okLPart fn k = true) (hj : okLPart fn j = true) (hps : (ps.toList.all fun t => decide (t < fn.ntmps)) = true)
    {xs : List (List AV)} (hg : aget L.S t = some (.iter xs)) (σ : List (Nat × Option Nat)) (τ : List (Nat × Nat)) {S0 : List (Nat × LV)} {N0 : List (Nat × List CV)} (hσ : sgOk σ = true) (hn : (namesB N0 && (rnOk τ N0 && roOk τ N0)) = true) (hv : vwN σ τ L.N N0) (hS : vwTs τ L.S S0)
    (h : RRun P f fn k j ps S0 (fun x N' => Q x (setAll τ (killAll L (sgToks σ ++ toksN N')) N')) xs N0) : LRange P f lo c (.tmp t) ps k j Q L := by
  intro env m hne ⟨fr, ℓ, ρ, hr⟩
  simp only [Bool.and_eq_true] at hn
  obtain ⟨hn1, hn2, hn3⟩ := hn
  have hnt : fn.ntmps = ntmpsOf P f := by simp [ntmpsOf, hf]
  have hpt : ∀ t ∈ ps.toList, t < env.length := fun t ht => by rw [hne, ← hnt]; exact of_decide_eq_true (List.all_eq_true.1 hps t ht)
  obtain ⟨av, hav, fi, first, cap, rfl, hI⟩ := hr.slot t _ hg (by simp)
  have hheld : Held (fun t => ℓ (rn τ t)) (vρ σ ρ) m N0 := hr.held.view (τ := τ) hσ hn2 hv
  have hslot0 : ∀ t v, aget S0 t = some v → v ≠ .dead → ∃ a, env[t]? = some a ∧ ∀ ρ, SRel P [] (fun t => ℓ (rn τ t)) ρ v a := by
    intro t v h1 _
    have h2 := vwTs_get hS t v h1
    cases h3 : aget L.S t with
    | none => rw [h3] at h2; cases v <;> exact h2.elim
    | some u =>
      rw [h3] at h2
      have h4 := hr.slot t u h3
      cases u with
      | v a =>
        cases v <;> try exact h2.elim
        obtain ⟨x, h5, h6⟩ := h4 (by simp)
        refine ⟨x, h5, fun _ => ?_⟩
        simp only [vwT] at h2; subst h2; exact h6
      | lref t1 o1 =>
        cases v <;> try exact h2.elim
        obtain ⟨x, h5, h6⟩ := h4 (by simp)
        refine ⟨x, h5, fun _ => ?_⟩
        obtain ⟨rfl, rfl⟩ := h2; exact h6
      | fn g a b =>
        cases v <;> try exact h2.elim
        obtain ⟨x, h5, h6⟩ := h4 (by simp)
        refine ⟨x, h5, fun _ => ?_⟩
        obtain ⟨rfl, rfl, rfl⟩ := h2
        simp only [SRel, LAs.av_ren] at h6 ⊢; exact h6
      | _ => cases v <;> exact h2.elim
  have htok0 : ∀ t v, aget S0 t = some v → ∀ i s es, ¬ v.has i s es := by
    intro t v h1 i s es hh
    have h2 := vwTs_get hS t v h1
    cases v <;> first | exact hh.elim | (cases h3 : aget L.S t with
      | none => rw [h3] at h2; exact h2.elim
      | some u => rw [h3] at h2; cases u <;> exact h2.elim)
  let ℓ1 : Nat → Nat := fun t => ℓ (rn τ t)
  let l := m.boxes.length
  let Rd : ABox := .loop .ready none env ps (partOf P f k) (partOf P f j)
  let By : ABox := .loop .busy none env ps (partOf P f k) (partOf P f j)
  let Fin : Exit → List (Nat × List CV) → Prop := fun x N' => Q x (setAll τ (killAll L (sgToks σ ++ toksN N')) N')
  let St : List (Nat × List CV) → Mem → Prop := fun N1 m1 => sameNames N0 N1 = true ∧ ∃ ρ1, Held ℓ1 ρ1 m1 N1 ∧ Stays ℓ1 (vρ σ ρ) m N0 ρ1 m1 N1
  have low0 : ∀ t cs, aget N0 t = some cs → ℓ1 t < l := fun t cs ht => by
    obtain ⟨ds, h1, _⟩ := hheld.locs t cs ht
    exact (List.getElem?_eq_some_iff.1 h1).1
  have low : ∀ {N1 : List (Nat × List CV)}, sameNames N0 N1 = true → ∀ t cs, aget N1 t = some cs → ℓ1 t < l := fun hs t cs ht => by
    obtain ⟨k, hk⟩ := sameNames_get hs t cs ht
    exact low0 t k hk
  have frOk : ∀ {N1 m1}, St N1 m1 → FroOk fr m1 := by
    rintro N1 m1 ⟨_, ρ1, _, hst⟩ q hq
    refine hst.frame _ _ (hr.froz.1 q hq) (fun n cs hn _ => ?_)
    obtain ⟨cs', h1, _⟩ := vwN_get hv n cs hn
    exact hr.froz.2 q hq _ _ h1
  have Stext : ∀ {N1 m1 m2}, St N1 m1 → Ext m1 m2 → St N1 m2 := fun ⟨h1, ρ1, h2, h3⟩ he => ⟨h1, ρ1, h2.ext he, h3.ext2 he⟩
  have Stset : ∀ {N1 m1} b, St N1 m1 → St N1 (m1.set l b) := fun b ⟨h1, ρ1, h2, h3⟩ => ⟨h1, ρ1, h2.set b (fun t cs ht e => by have := low h1 t cs ht; omega), h3.set b (Nat.le_refl _)⟩
  have hSt0 : St N0 (m.push Rd) := by
    have he : Ext m (m.push Rd) := ⟨⟨[Rd], rfl⟩, ⟨[], by simp [Mem.push]⟩, rfl⟩
    refine ⟨sameNames_refl, vρ σ ρ, hheld.ext he, ⟨hr.mode, ⟨by simp [Mem.push], by simp [Mem.push]⟩, fun i b h1 _ => he.get h1, fun id x h1 _ => h1, fun i s es h1 id hid => .inr ⟨i, s, es, h1, hid⟩⟩⟩
  obtain ⟨r, m2, hc, hkeep, hend⟩ := hI (l + 1) (.yield l) (fun i m1 => (∃ N1, RRun P f fn k j ps S0 Fin (xs.drop i) N1 ∧ St N1 m1) ∧ m1.boxes[l]? = some Rd)
    (fun m1 => ∃ x c, (∃ N1, Fin x N1 ∧ St N1 m1) ∧ m1.boxes[l]? = some (.loop .done (some c) env ps (partOf P f k) (partOf P f j)) ∧ jumpExit (some c) = some x)
    (m.push Rd) ⟨rfl, rfl, rfl⟩ (by simp [Mem.push, l]) (fun i m1 h1 => by obtain ⟨⟨N1, _, h2⟩, _⟩ := h1; exact frOk h2) (fun i m1 m2 h1 he => by obtain ⟨⟨N1, h2, h3⟩, h4⟩ := h1; exact ⟨⟨N1, h2, Stext h3 he⟩, he.get h4⟩) (fun m1 m2 h1 he => by obtain ⟨x, c, ⟨N1, h2, h3⟩, h4, h5⟩ := h1; exact ⟨x, c, ⟨N1, h2, Stext h3 he⟩, he.get h4, h5⟩)
    ⟨⟨N0, h, hSt0⟩, by simp [Mem.push, l]⟩ (by
      rintro i x m1 hx hk1 ⟨⟨N1, hrun, hsame, ρ1, hheld1, hst1⟩, hbl⟩
      have hdr : xs.drop i = x :: xs.drop (i + 1) := by
        obtain ⟨hi, rfl⟩ := List.getElem?_eq_some_iff.1 hx
        exact List.drop_eq_getElem_cons hi
      rw [hdr] at hrun
      obtain ⟨hlen, hrun⟩ := hrun
      have hnb : namesB N1 = true := namesB_same hsame hn1
      have hlt1 : l < m1.boxes.length := (List.getElem?_eq_some_iff.1 hbl).1
      have hnol : ∀ p ∈ bsOf ℓ1 N1, p.2 ≠ l := fun p hp e => by
        obtain ⟨_, h2, cs, h3⟩ := bsOf_mem hnb p hp
        have := low hsame _ cs h3
        omega
      have hrel1 := Held.rel (P := P) (env := putAll env ps.toList x) hst1.mode hnb hheld1 (lputsS_slot ps.toList x hpt (fun t v h1 h2 => by obtain ⟨a, h3, h4⟩ := hslot0 t v h1 h2; exact ⟨a, h3, h4 _⟩)) (lputsS_tok ps.toList x htok0)
      obtain ⟨x1, env1, m2, hA, hn1', L1, ⟨fr1, ℓ2, ρ2, hr2⟩, rfl, hni, hB⟩ := LC.part hmix hf hk (by rw [putAll_length]; exact hne) ⟨_, _, _, hrel1⟩ (hrun l (cOf ℓ1 ρ1 m1 N1 hnb) ⟨⟨_, _, _, _, _, _, hbl⟩, fun l' e p hp => by injection e with e; subst e; exact hnol p hp⟩)
      have hb2 : m2.boxes[l]? = some Rd := hr2.frame l _ hbl fun p hp _ => hnol p hp
      have hr3 := (hr2.noFro hni).setBase (b := By) hbl hnol (fun ds e => by simp [Rd] at e)
      have hsetl : (m1.set l By).boxes[l]? = some By := by simp only [Mem.set]; rw [List.getElem?_set_self hlt1]
      obtain ⟨x2, env2, m3, hB', hn2', L2, ⟨fr2, ℓ3, ρ3, hr4⟩, σ', N2, hσ', hv', hgood, hend⟩ := LC.part hmix hf hj hn1' ⟨_, _, _, hr3⟩ (hB ⟨m1.set l By, _, _, _⟩ ⟨⟨_, _, _, _, _, _, hsetl⟩, fun l' e p hp => by injection e with e; subst e; exact hnol p hp⟩)
      have hb3 : m3.boxes[l]? = some By := hr4.frame l _ hsetl fun p hp _ => hnol p hp
      have hl3 : l < m3.boxes.length := (List.getElem?_eq_some_iff.1 hb3).1
      obtain ⟨hheld2, hst2⟩ := hr4.back rfl rfl hnb hσ' hv' hgood
      have hs12 : sameNames N1 N2 = true := by simp only [goodN, Bool.and_eq_true] at hgood; exact hgood.2.1
      have hSt2 : St N2 m3 := ⟨sameNames_trans hsame hs12, _, hheld2, hst1.trans hst2 (Nat.le_refl _) (fun t cs ht => sameNames_get hsame t cs ht)⟩
      have hkeep : ∀ b, KeepB (l + 1) m1 (m3.set l b) := by
        intro b
        refine ⟨fun i c hi hc => ?_, ?_, ?_, ?_⟩
        · simp only [Mem.set]
          rw [List.getElem?_set_ne (by omega)]
          refine hr4.frame i c ?_ (fun p hp _ e => ?_)
          · simp only [Mem.set]
            rw [List.getElem?_set_ne (by omega)]; exact hc
          · obtain ⟨_, h2, cs, h3⟩ := bsOf_mem hnb p hp
            have := low hsame _ cs h3
            omega
        · have := hr4.len.1; simp [Mem.set] at this ⊢; exact this
        · have := hr4.len.2; simp [Mem.set] at this ⊢; exact this
        · show m3.mode = m1.mode
          rw [hr4.mode, hst1.mode]
      rcases hend with ⟨rfl, hrun'⟩ | ⟨⟨c, hc⟩, hfin⟩
      · refine ⟨_, _, ACallV.yield hbl hlen hA hb2 hB' hb3 rfl, hkeep _, .inl ⟨rfl, ⟨N2, hrun', Stset _ hSt2⟩, ?_⟩⟩
        simp only [Mem.set]
        rw [List.getElem?_set_self hl3]; rfl
      · refine ⟨_, _, ACallV.yield hbl hlen hA hb2 hB' hb3 hc, hkeep _, .inr ⟨rfl, x2, c, ⟨N2, hfin, Stset _ hSt2⟩, ?_, jump_of hc⟩⟩
        simp only [Mem.set]
        rw [List.getElem?_set_self hl3]; rfl)
  have up : ∀ {x N1 m1} b, St N1 m1 → Fin x N1 → UpQ P (ntmpsOf P f) c (Q x) env (m1.set l b) := by
    rintro x N1 m1 b hs hfin
    obtain ⟨h1, ρ1, h2, h3⟩ := Stset b hs
    exact ⟨hne, _, ⟨fr, ℓ, _, (hr.vars h1 hn2 hn3 hv h2 h3).1⟩, hfin⟩
  rcases hend with ⟨⟨N1, hrun, hs⟩, hb⟩ | ⟨x, c, ⟨N1, hfin, hs⟩, hb, hx⟩
  · rw [List.drop_length] at hrun
    exact ⟨.normal, env, _, AExec.range (hlo.at_ hr) (by simpa [aeval] using hav) hc hb (by simp) rfl, up _ hs hrun⟩
  · exact ⟨x, env, _, AExec.range (hlo.at_ hr) (by simpa [aeval] using hav) hc hb (by simp) hx, up _ hs hfin⟩
end
end Go.Proofs.Ytakmilmckdllfaa.G
set_option linter.unusedVariables false
set_option linter.unusedSimpArgs false
set_option linter.unusedSectionVars false
namespace Go.Proofs.Ytakmilmckdllfaa.G

variable [Mu]
/-- A store into an element that is to be looked at. -/
def LStV (q : Option (Nat × List AV)) (n : Option Nat) (a : AV) (i s k off : Nat) (L : LEnv) (K : LV → LEnv → List Nat → Prop) : Prop :=
  lres (match q, n with
    | some (s', es), some n => if isV i = true ∧ s' = s ∧ a.cells.length = n ∧ notTuple a = true then (es[k]?).bind fun e => (turnE e off a.cells).map fun e' => (LV.v .undef, updL i s (es.set k e') L, ([] : List Nat)) else none
    | _, _ => none) K
theorem lstore_vref {P : Program} {t : TypeId} {a : AV} {i s k off : Nat} {e late : Bool} {pend : List Nat} {L : LEnv} {K : LV → LEnv → List Nat → Prop} (he : e = false) : lres (lstore P t (.vref i s k off) (.v a) ⟨e, pend, late⟩ L) K = LStV (findN i [] L.N) (sizeT P t) a i s k off L K := by
  subst he
  simp only [lstore, LStV]
  cases findN i [] L.N with
  | none => rfl
  | some p =>
    obtain ⟨s', es⟩ := p
    cases sizeT P t with
    | none => rfl
    | some n => simp only [true_and]
theorem LStV.map {α : Type} {F : α → AV} {xs : List α} {x x' : α} {q : Option (Nat × List AV)} {nn : Option Nat} {n i s k off : Nat} {a : AV} {L : LEnv} {K : LV → LEnv → List Nat → Prop} (hq : q = some (s, xs.map F)) (hn : nn = some n) (hi : isV i = true) (ha : a.cells.length = n) (ht : notTuple a = true)
    (hx : xs[k]? = some x) (he : turnE (F x) off a.cells = some (F x')) (h : K (.v .undef) (updL i s ((xs.set k x').map F) L) []) : LStV q nn a i s k off L K := by
  subst hq hn
  unfold LStV
  dsimp only
  rw [if_pos ⟨hi, rfl, ha, ht⟩, List.getElem?_map, hx]
  simp only [Option.map_some, Option.bind_some, he, lres]
  rw [← List.map_set]; exact h
attribute [go_sem] lstore_vref
end Go.Proofs.Ytakmilmckdllfaa.G
set_option linter.unusedVariables false
set_option linter.unusedSimpArgs false
set_option linter.unusedSectionVars false
namespace Go.Proofs.Ytakmilmckdllfaa.G

variable [Mu]
section
variable {P : Program} {fr : Fro} {ℓ : Nat → Nat} {ρ : Nat → Own} {c : LCtx} {L : LEnv} {env : List AV} {m : Mem} {f : FuncId} {lo : Option Nat} {σ : List (Nat × Option Nat)}

/-- Where a function's one result is an own slice. -/
def LPostR (P : Program) (rs : List ResultVar) (j s : Nat) (es : List AV) (N' : List (Nat × List CV)) : Exit → LEnv → Prop
  | .ret, L | .normal, L => ∃ x, rs = [x] ∧ ∃ σ, sgOk σ = true ∧ vwN σ [] L.N N' ∧ vw σ (lresult P L x) (.own j s es)
  | _, _ => False

/-- From a body to its one result. -/
theorem LC.resultR {fn : Func} {cb : Code} {args : List AV} {x : ResultVar} {Q : LEnv → Prop} (hmix : P.follows .mixedOrders = true) (hf : P.funcs[f]? = some fn) (hbb : fn.body = some cb) (h2 : (fn.name == "runtime.NumGoroutine") = false) (h3 : okL (bodyF fn) fn.ntmps (bodyF fn) = true) (ha : args.length ≤ fn.ntmps) {L : LEnv}
    (hrel : Rel P c L (args ++ List.replicate (fn.ntmps - args.length) AV.undef) m) (hx : fn.results.toList = [x])
    (h : LC P f none c (slimC 0 (bodyF fn)) (fun e L => (e = .ret ∨ e = .normal) ∧ Q L) L) :
    ∃ env' m' fr ℓ ρ L', RelW P fr ℓ ρ c L' env' m' ∧ Q L' ∧ ∀ v, lresult P L' x = some v → v ≠ .dead → ∃ a, SRel P fr ℓ ρ v a ∧ (∀ i s es, v.has i s es → Vis L' i s es) ∧ ACalls P f args m a.stripR m' := by
  have e : bodyF fn = cb := by simp [bodyF, hbb]
  have e2 : bodyOf P f = cb := by simp [bodyOf, hf, hbb]
  have e3 : fn.ntmps = ntmpsOf P f := by simp [ntmpsOf, hf]
  rw [e] at h h3
  have hlen : (args ++ List.replicate (fn.ntmps - args.length) AV.undef).length = ntmpsOf P f := by rw [← e3]; simp; omega
  obtain ⟨z, env', m', g1, g2, L', ⟨fr, ℓ, ρ, g3⟩, hz, hQ⟩ := LC.exec (f := f) (c := c) hmix hlen hrel (by rw [e2, ← e3]; exact h3) (fun i hi => by rw [e2, Nat.zero_add]) h
  refine ⟨env', m', fr, ℓ, ρ, L', g3, hQ, fun v k1 hd => ?_⟩
  have hres : ∀ a, aresult P env' m' x = some a → ACalls P f args m a.stripR m' := by
    intro a k
    have : aresults P fn env' m' = some a := by
      simp only [aresults, hx, List.mapM_cons, List.mapM_nil, k, Option.pure_def, Option.bind_eq_bind, Option.bind_some, Option.map_some, retOf]
    exact .of_body hf hbb h2 g1 hz this
  cases x with
  | tmp t =>
    simp only [lresult] at k1
    obtain ⟨b, k3, k4⟩ := g3.slot t v k1 hd
    exact ⟨b, k4, fun i s es hh => .inl ⟨t, v, k1, hh⟩, hres b k3⟩
  | cell q t =>
    simp only [lresult] at k1
    split at k1
    · rename_i n off hc
      obtain ⟨b, k3, k4⟩ := g3.slot q _ hc (by simp)
      simp only [SRel] at k4; subst k4
      obtain ⟨cs, k5, k6⟩ := bind_some' k1
      obtain ⟨asx, k7, k8⟩ := g3.locs n cs k5
      obtain ⟨d, k9, k10, k11⟩ := lsub_ok (P := P) (fr := fr) k6 k8
      exact ⟨d, k10, fun i s es hh => .inr ⟨n, cs, k5, k11 i s es hh⟩, hres d (by simp only [aresult, k3, Option.bind_some, aload, k7, k9])⟩
    · cases k1

/-- **The contract of a function whose result is an own slice.** -/
theorem FnR.of_lc {fn : Func} {N N' : List (Nat × List CV)} {args : List LA} {j0 s0 : Nat} {es0 : List AV} (hmix : P.follows .mixedOrders = true) (hf : P.funcs[f]? = some fn) (hok : (fn.body.isSome && !(fn.name == "runtime.NumGoroutine") && okL (bodyF fn) fn.ntmps (bodyF fn)) = true) (ha : decide (args.length ≤ fn.ntmps) = true) (hN : (namesB N && (rnOk [] N' && (sameNames N N' && closedN N N'))) = true)
    (h : ∀ c, LC P f none c (slimC 0 (bodyF fn)) (LPostR P fn.results.toList j0 s0 es0 N') ⟨largsB 0 args, N⟩) : FnR P f N args (.own j0 s0 es0) N' := by
  intro m ℓ ρ hmode hh
  simp only [Bool.and_eq_true, Bool.not_eq_true'] at hok hN
  obtain ⟨⟨h1, h2⟩, h3⟩ := hok
  simp only [decide_eq_true_eq] at ha
  have hlen : ∀ {l : List LA}, (LAs.av ℓ l).length = l.length := by
    intro l; induction l with
    | nil => rfl
    | cons x l ih => simp only [LAs.av, List.length_cons, ih]
  have hgetl : ∀ {l : List LA} {j : Nat} {x : LA}, l[j]? = some x → (LAs.av ℓ l)[j]? = some (LA.av ℓ x) := by
    intro l; induction l with
    | nil => intro j x h; simp at h
    | cons y l ih =>
      intro j x h
      cases j with
      | zero => simp at h; subst h; rfl
      | succ j => simp only [LAs.av, List.getElem?_cons_succ] at h ⊢; exact ih h
  cases hbb : fn.body with
  | none => rw [hbb] at h1; cases h1
  | some cb =>
    let cc : LCtx := ⟨m, bsOf ℓ N, fun id => ∃ i s es, TokIn N i s es ∧ ρ i = .row id, fun p hp => (bsOf_mem hN.1 p hp).1⟩
    have visN : ∀ {i s es}, Vis ⟨largsB 0 args, N⟩ i s es → TokIn N i s es := by
      rintro i s es (⟨t, v, h4, h5⟩ | h4)
      · exact ((largsB_get (P := P) (ℓ := ℓ) args 0 t v h4).2.2 i s es h5).elim
      · exact h4
    have hrel : Rel P cc ⟨largsB 0 args, N⟩ (LAs.av ℓ args ++ List.replicate (fn.ntmps - (LAs.av ℓ args).length) AV.undef) m := by
      refine ⟨[], ℓ, ρ, hmode, fun t v h4 _ => ?_, hh.locs, fun i s es hv => hh.tok i s es (visN hv), fun i s es j s' es' hv hv' => hh.apart i s es j s' es' (visN hv) (visN hv'), hh.inj, fun p hp => ?_, fun t cs h4 => ?_, fun i s es hv id hid => .inr ⟨i, s, es, visN hv, hid⟩, ⟨Nat.le_refl _, Nat.le_refl _⟩, fun l b h4 _ => h4, fun id x h4 _ => h4, fun q hq => (by cases hq), fun q hq => (by cases hq)⟩
      · obtain ⟨_, ⟨x, h5, h6⟩, _⟩ := largsB_get (P := P) (ℓ := ℓ) args 0 t v h4
        rw [Nat.sub_zero] at h5
        have h7 := hgetl h5
        exact ⟨_, by rw [List.getElem?_append_left (List.getElem?_eq_some_iff.1 h7).1]; exact h7, h6⟩
      · obtain ⟨_, h6, h7⟩ := bsOf_mem hN.1 p hp
        exact ⟨h7, h6.symm⟩
      · exact .inr (.inl ⟨_, bsOf_has h4, rfl⟩)
    -- one result
    have hres : ∃ x, fn.results.toList = [x] := by
      rcases hr : fn.results.toList with _ | ⟨x, _ | ⟨y, l⟩⟩
      · exfalso
        obtain ⟨z, _, _, _, _, _, _, g⟩ := LC.exec (f := f) (c := cc) (lo := none) (Q := LPostR P fn.results.toList j0 s0 es0 N') hmix (by rw [show ntmpsOf P f = fn.ntmps by simp [ntmpsOf, hf]]; simp; rw [hlen]; omega) hrel (by rw [show bodyOf P f = bodyF fn by simp [bodyOf, bodyF, hf], show ntmpsOf P f = fn.ntmps by simp [ntmpsOf, hf]]; exact h3) (k := 0) (fun i hi => by rw [show bodyOf P f = bodyF fn by simp [bodyOf, bodyF, hf], Nat.zero_add]) (h cc)
        rw [hr] at g
        cases z <;> simp [LPostR] at g
      · exact ⟨x, rfl⟩
      · exfalso
        obtain ⟨z, _, _, _, _, _, _, g⟩ := LC.exec (f := f) (c := cc) (lo := none) (Q := LPostR P fn.results.toList j0 s0 es0 N') hmix (by rw [show ntmpsOf P f = fn.ntmps by simp [ntmpsOf, hf]]; simp; rw [hlen]; omega) hrel (by rw [show bodyOf P f = bodyF fn by simp [bodyOf, bodyF, hf], show ntmpsOf P f = fn.ntmps by simp [ntmpsOf, hf]]; exact h3) (k := 0) (fun i hi => by rw [show bodyOf P f = bodyF fn by simp [bodyOf, bodyF, hf], Nat.zero_add]) (h cc)
        rw [hr] at g
        cases z <;> simp [LPostR] at g
    obtain ⟨x, hx⟩ := hres
    obtain ⟨env', m', fr, ℓ', ρ', L', g3, ⟨σ, g4, g5, g6⟩, gR⟩ := LC.resultR (c := cc) (x := x) (Q := fun L => ∃ σ, sgOk σ = true ∧ vwN σ [] L.N N' ∧ vw σ (lresult P L x) (.own j0 s0 es0)) hmix hf hbb h2 h3 (by rw [hlen]; exact ha) hrel hx (LC.mono (fun e L h => by
      rw [hx] at h
      cases e <;> first | exact h.elim | skip
      · obtain ⟨y, e, h⟩ := h; injection e with e; subst e; exact ⟨.inr rfl, h⟩
      · obtain ⟨y, e, h⟩ := h; injection e with e; subst e; exact ⟨.inl rfl, h⟩) (h cc))
    obtain ⟨hn1, hn2, hn3, hn4⟩ := hN
    have hℓ : ∀ t cs, aget N t = some cs → ℓ' t = ℓ t := fun t cs ht => (g3.bor _ (bsOf_has (ℓ := ℓ) ht)).2
    have hh' : Held ℓ' (vρ σ ρ') m' N' := g3.held.view (τ := []) g4 hn2 g5
    have hnm : ∀ t cs, aget N' t = some cs → ∃ k, aget N t = some k := fun t cs ht => sameNames_get hn3 t cs ht
    -- the result
    have hv : ∃ a, SRel P [] ℓ (vρ σ ρ') (.own j0 s0 es0) a ∧ ACalls P f (LAs.av ℓ args) m a m' ∧ ((sg σ j0 = none ∧ (isV j0 = true → es0 = [])) ∨ ∃ i, sg σ j0 = some i ∧ Vis L' i s0 es0) := by
      cases hl : lresult P L' x with
      | none => rw [hl] at g6; exact g6.elim
      | some v =>
        rw [hl] at g6
        have hd : v ≠ .dead := by rintro rfl; exact g6.elim
        obtain ⟨a, k1, k2, k3⟩ := gR v hl hd
        cases v with
        | v y =>
          obtain ⟨q1, q2, q3⟩ := g6
          have e : a = y := k1
          subst e
          subst q2
          refine ⟨_, ?_, k3, .inl ⟨q1, fun hv => (q3 hv).1⟩⟩
          simp only [SRel, vρ, q1]
          rw [ownAV_full (fun hv => (q3 hv).2)]; rfl
        | own i s es =>
          obtain ⟨q1, q2, q3⟩ := g6
          subst q2 q3
          have e : a = ownAV i s (ρ' i) es := k1
          subst e
          rw [(ownAV_strip i s (ρ' i) es).1] at k3
          refine ⟨_, ?_, k3, .inr ⟨i, q1, k2 i s es ⟨rfl, rfl, rfl⟩⟩⟩
          simp only [SRel, vρ, q1]
          rw [ownAV_kind (sgOk_kind g4 j0 i q1)]
        | _ => exact g6.elim
    obtain ⟨a, ha1, ha2, ha3⟩ := hv
    have was : ∀ j s es, ResTok N' (.own j0 s0 es0) j s es → (sg σ j = none ∧ (isV j = true → es = [])) ∨ ∃ i, sg σ j = some i ∧ Vis L' i s es := by
      rintro j s es (h | ⟨rfl, rfl, rfl⟩)
      · exact (vwN_tok' g5 h).imp id fun ⟨i, q1, q2⟩ => ⟨i, q1, q2.vis⟩
      · exact ha3
    refine ⟨m', vρ σ ρ', a, ha2, ha1, fun t cs ht => ?_, fun j s es hj => ?_, fun j s es k s' es' hj hk hne => ?_, ⟨g3.mode, g3.len, fun l b hb hne => ?_, fun id x hx hne => ?_⟩, fun j s es hj id hid => ?_⟩
    · obtain ⟨asx, k1, k2⟩ := hh'.locs t cs ht
      obtain ⟨k, hk⟩ := hnm t cs ht
      rw [hℓ t k hk] at k1
      exact ⟨asx, k1, crels_inN hℓ (closedN_get hn4 t cs ht) k2⟩
    · rcases was j s es hj with ⟨h1, h0⟩ | ⟨i, h1, h2⟩
      · simp only [vρ, h1]; exact .full h0
      · simp only [vρ, h1]; exact (g3.tok i s es h2).kind (sgOk_kind g4 j i h1)
    · rcases was j s es hj with ⟨q1, _⟩ | ⟨i, q1, q2⟩
      · left; simp only [vρ, q1]
      · rcases was k s' es' hk with ⟨k1, _⟩ | ⟨i', k1, k2⟩
        · simp only [vρ, q1, k1]
          cases hj : ρ' i with
          | full => exact .inl rfl
          | _ => exact .inr (by simp)
        · simp only [vρ, q1, k1]
          exact g3.apart i s es i' s' es' q2 k2 (fun e => hne (sgOk_spec g4 j k i q1 (by rw [k1, e])))
    · refine g3.frame l b hb (fun p hp hlt e => ?_)
      obtain ⟨_, k2, k, k3⟩ := bsOf_mem hn1 p hp
      exact hne p.1 k k3 hlt (by rw [← k2, e])
    · exact g3.rframe id x hx (fun ⟨i, s, es, k1, k2⟩ => hne i s es k1 k2)
    · rcases was j s es hj with ⟨k1, _⟩ | ⟨i', k1, k2⟩
      · simp only [vρ, k1] at hid; cases hid
      · simp only [vρ, k1] at hid
        rcases g3.rlow i' s es k2 id hid with k3 | ⟨i0, s0, es0, k3, k4⟩
        · exact .inl k3
        · exact .inr ⟨i0, s0, es0, k3, k4⟩

/-- The result under another number. -/
theorem FnR.tok {N N' : List (Nat × List CV)} {args : List LA} {j s : Nat} {es : List AV} (i : Nat) (h : FnR P f N args (.own j s es) N') (hk : (isV i == isV j && isB i == isB j) = true) (hi : (toksN N').contains i = false) (hj : (toksN N').contains j = false) : FnR P f N args (.own i s es) N' := by
  simp only [Bool.and_eq_true, beq_iff_eq] at hk
  intro m ℓ ρ hmode hh
  obtain ⟨m', ρ', a, h1, h2, h3, h4, h5, h6, h7⟩ := h m ℓ ρ hmode hh
  have nt : ∀ k s es, TokIn N' k s es → k ≠ i ∧ k ≠ j := by
    rintro k s es ⟨t, cs, q1, q2⟩
    have := toksN_mem q1 q2
    refine ⟨?_, ?_⟩ <;> rintro rfl
    · rw [List.contains_iff_mem.2 this] at hi; cases hi
    · rw [List.contains_iff_mem.2 this] at hj; cases hj
  let ρ2 : Nat → Own := fun k => if k = i then ρ' j else ρ' k
  have old : ∀ k s es, TokIn N' k s es → ρ2 k = ρ' k := fun k s es hk => by simp only [ρ2, if_neg (nt k s es hk).1]
  have back : ∀ k s' es', ResTok N' (.own i s es) k s' es' → ∃ k', ResTok N' (.own j s es) k' s' es' ∧ ρ2 k = ρ' k' ∧ isV k = isV k' ∧ isB k = isB k' ∧ ((k = i ∧ k' = j) ∨ (k' = k ∧ k ≠ i ∧ k ≠ j)) := by
    rintro k s' es' (hk' | ⟨rfl, rfl, rfl⟩)
    · exact ⟨k, .inl hk', old k _ _ hk', rfl, rfl, .inr ⟨rfl, nt k _ _ hk'⟩⟩
    · exact ⟨j, .inr ⟨rfl, rfl, rfl⟩, by simp [ρ2], hk.1, hk.2, .inl ⟨rfl, rfl⟩⟩
  refine ⟨m', ρ2, a, h1, ?_, fun t cs ht => ?_, fun k s' es' hk' => ?_, fun k s' es' k2 s2 es2 hk' hk2 hne => ?_, h6, fun k s' es' hk' id hid => ?_⟩
  · simp only [SRel] at h2 ⊢
    rw [h2, ownAV_kind (j := j) (i := i) ⟨hk.1, hk.2⟩]; simp [ρ2]
  · obtain ⟨asx, q1, q2, q3⟩ := h3 t cs ht
    refine ⟨asx, q1, q2, fun n x a hx ha => ?_⟩
    have q4 := q3 n x a hx ha
    cases x with
    | own k s es =>
      have : TokIn N' k s es := ⟨t, cs, ht, List.mem_of_getElem? hx⟩
      simp only [CRel] at q4 ⊢
      rw [q4, old k s es this]
    | _ => exact q4
  · obtain ⟨k', q1, q2, q3, q4, _⟩ := back k s' es' hk'
    rw [q2]; exact (h4 k' s' es' q1).kind ⟨q3.symm, q4.symm⟩
  · obtain ⟨k', q1, q2, _, _, q5⟩ := back k s' es' hk'
    obtain ⟨k2', r1, r2, _, _, r5⟩ := back k2 s2 es2 hk2
    rw [q2, r2]
    refine h5 k' s' es' k2' s2 es2 q1 r1 ?_
    rcases q5 with ⟨e1, e2⟩ | ⟨e1, e2, e3⟩ <;> rcases r5 with ⟨d1, d2⟩ | ⟨d1, d2, d3⟩ <;> subst_vars <;> first | exact hne | exact fun e => hne rfl | exact fun e => d3 e.symm | exact fun e => e3 e
  · obtain ⟨k', q1, q2, _⟩ := back k s' es' hk'
    rw [q2] at hid
    exact h7 k' s' es' q1 id hid
/- Results with such slices in their parts. -/
end
attribute [go_sem] Option.some_or Option.none_or not_true_eq_false not_false_eq_true if_true if_false List.getElem?_map Option.map_some Option.bind_some List.getElem?_cons_zero List.getElem?_cons_succ LV.toks LV.resOk CV.resOk List.append_nil List.nil_append List.cons_append
end Go.Proofs.Ytakmilmckdllfaa.G
set_option linter.unusedVariables false
set_option linter.unusedSimpArgs false
set_option maxRecDepth 100000
namespace Go.Proofs.Ytakmilmckdllfaa.G
structure T_api_Value where
  Null : Bool
  N : Int
def T_api_Value.C (x : T_api_Value) : List AV := [.bool x.Null, .i64 x.N]
attribute [go_sem] T_api_Value.C
theorem T_api_Value.flatC (x : T_api_Value) : Flat (.agg x.C) := .agg _ (flC (.atom _) (flC (.atom _) (flN)))
structure T_api_Term where
  Kind : Int
  Table : Int
  Col : Int
  Value : T_api_Value
def T_api_Term.C (x : T_api_Term) : List AV := [.i64 x.Kind, .i64 x.Table, .i64 x.Col, .bool x.Value.Null, .i64 x.Value.N]
attribute [go_sem] T_api_Term.C
theorem T_api_Term.flatC (x : T_api_Term) : Flat (.agg x.C) := .agg _ (flC (.atom _) (flC (.atom _) (flC (.atom _) (flC (.atom _) (flC (.atom _) (flN))))))
structure T_api_Pred where
  Kind : Int
  Truth : Int
  Op : Int
  A : T_api_Term
  B : T_api_Term
  Parts : List T_api_Pred
def T_api_Pred.av : T_api_Pred → AV
  | ⟨a0, a1, a2, a3, a4, a5⟩ => .agg [.i64 a0, .i64 a1, .i64 a2, .i64 a3.Kind, .i64 a3.Table, .i64 a3.Col, .bool a3.Value.Null, .i64 a3.Value.N, .i64 a4.Kind, .i64 a4.Table, .i64 a4.Col, .bool a4.Value.Null, .i64 a4.Value.N, .slice .foreign (a5.map T_api_Pred.av)]
def T_api_Pred.C (x : T_api_Pred) : List AV := [.i64 x.Kind, .i64 x.Truth, .i64 x.Op, .i64 x.A.Kind, .i64 x.A.Table, .i64 x.A.Col, .bool x.A.Value.Null, .i64 x.A.Value.N, .i64 x.B.Kind, .i64 x.B.Table, .i64 x.B.Col, .bool x.B.Value.Null, .i64 x.B.Value.N, .slice .foreign (x.Parts.map T_api_Pred.av)]
theorem T_api_Pred.av_eq (x : T_api_Pred) : x.av = .agg x.C := by cases x; simp only [T_api_Pred.av, T_api_Pred.C]
attribute [go_sem] T_api_Pred.C T_api_Pred.av_eq
theorem T_api_Pred.induct {M : T_api_Pred → Prop} (h : ∀ x : T_api_Pred, (∀ y ∈ x.Parts, M y) → M x) : ∀ x, M x := by
  intro x
  refine T_api_Pred.rec (motive_1 := M) (motive_2 := fun l => ∀ y ∈ l, M y) ?_ ?_ ?_ x
  · intro a0 a1 a2 a3 a4 a5 ih; exact h ⟨a0, a1, a2, a3, a4, a5⟩ ih
  · intro y hy; cases hy
  · intro y l h1 h2 z hz
    rcases List.mem_cons.1 hz with rfl | hz
    · exact h1
    · exact h2 z hz
theorem T_api_Pred.flat (x : T_api_Pred) : Flat x.av := by
  induction x using T_api_Pred.induct with
  | h x ih =>
    rw [T_api_Pred.av_eq]
    refine .agg _ (flC (.atom _) (flC (.atom _) (flC (.atom _) (flC (.atom _) (flC (.atom _) (flC (.atom _) (flC (.atom _) (flC (.atom _) (flC (.atom _) (flC (.atom _) (flC (.atom _) (flC (.atom _) (flC (.atom _) (flC ?_ (flN)))))))))))))))
    refine .slice .foreign _ (fun id h => by cases h) (fun e he c hc => ?_)
    obtain ⟨p, hp, rfl⟩ := List.mem_map.1 he
    exact flat_cells (ih p hp) c hc
theorem T_api_Pred.flatC (x : T_api_Pred) : Flat (.agg x.C) := by rw [← T_api_Pred.av_eq]; exact x.flat
theorem T_api_Pred.len (x : T_api_Pred) : x.av.cells.length = 14 := by rw [T_api_Pred.av_eq]; rfl
structure T_api_Tree where
  Kind : Int
  Table : Int
  Kids : List T_api_Tree
  Conj : List T_api_Pred
  Hash : Bool
def T_api_Tree.av : T_api_Tree → AV
  | ⟨a0, a1, a2, a3, a4⟩ => .agg [.i64 a0, .i64 a1, .slice .foreign (a2.map T_api_Tree.av), .slice .foreign (a3.map T_api_Pred.av), .bool a4]
def T_api_Tree.C (x : T_api_Tree) : List AV := [.i64 x.Kind, .i64 x.Table, .slice .foreign (x.Kids.map T_api_Tree.av), .slice .foreign (x.Conj.map T_api_Pred.av), .bool x.Hash]
theorem T_api_Tree.av_eq (x : T_api_Tree) : x.av = .agg x.C := by cases x; simp only [T_api_Tree.av, T_api_Tree.C]
attribute [go_sem] T_api_Tree.C T_api_Tree.av_eq
theorem T_api_Tree.induct {M : T_api_Tree → Prop} (h : ∀ x : T_api_Tree, (∀ y ∈ x.Kids, M y) → M x) : ∀ x, M x := by
  intro x
  refine T_api_Tree.rec (motive_1 := M) (motive_2 := fun l => ∀ y ∈ l, M y) ?_ ?_ ?_ x
  · intro a0 a1 a2 a3 a4 ih; exact h ⟨a0, a1, a2, a3, a4⟩ ih
  · intro y hy; cases hy
  · intro y l h1 h2 z hz
    rcases List.mem_cons.1 hz with rfl | hz
    · exact h1
    · exact h2 z hz
theorem T_api_Tree.flat (x : T_api_Tree) : Flat x.av := by
  induction x using T_api_Tree.induct with
  | h x ih =>
    rw [T_api_Tree.av_eq]
    refine .agg _ (flC (.atom _) (flC (.atom _) (flC ?_ (flC (flat_slice _ T_api_Pred.flat _) (flC (.atom _) (flN))))))
    refine .slice .foreign _ (fun id h => by cases h) (fun e he c hc => ?_)
    obtain ⟨p, hp, rfl⟩ := List.mem_map.1 he
    exact flat_cells (ih p hp) c hc
theorem T_api_Tree.flatC (x : T_api_Tree) : Flat (.agg x.C) := by rw [← T_api_Tree.av_eq]; exact x.flat
theorem T_api_Tree.len (x : T_api_Tree) : x.av.cells.length = 5 := by rw [T_api_Tree.av_eq]; rfl
structure T_api_Query where
  Cols : List Int
  Root : T_api_Tree
def T_api_Query.C (x : T_api_Query) : List AV := [.slice .foreign (x.Cols.map AV.i64), .i64 x.Root.Kind, .i64 x.Root.Table, .slice .foreign (x.Root.Kids.map T_api_Tree.av), .slice .foreign (x.Root.Conj.map T_api_Pred.av), .bool x.Root.Hash]
attribute [go_sem] T_api_Query.C
theorem T_api_Query.flatC (x : T_api_Query) : Flat (.agg x.C) := .agg _ (flC (flat_slice _ (fun _ => .atom _) _) (flC (.atom _) (flC (.atom _) (flC (flat_slice _ T_api_Tree.flat _) (flC (flat_slice _ T_api_Pred.flat _) (flC (.atom _) (flN)))))))
structure T_levels_Join where
  Pred : T_api_Pred
  Left : Set64
  Right : Set64
  Home : Int
def T_levels_Join.C (x : T_levels_Join) : List AV := [.i64 x.Pred.Kind, .i64 x.Pred.Truth, .i64 x.Pred.Op, .i64 x.Pred.A.Kind, .i64 x.Pred.A.Table, .i64 x.Pred.A.Col, .bool x.Pred.A.Value.Null, .i64 x.Pred.A.Value.N, .i64 x.Pred.B.Kind, .i64 x.Pred.B.Table, .i64 x.Pred.B.Col, .bool x.Pred.B.Value.Null, .i64 x.Pred.B.Value.N, .slice .foreign (x.Pred.Parts.map T_api_Pred.av), .w x.Left, .w x.Right, .i64 x.Home]
def T_levels_Join.av (x : T_levels_Join) : AV := .agg x.C
attribute [go_sem] T_levels_Join.C T_levels_Join.av
theorem T_levels_Join.flatC (x : T_levels_Join) : Flat (.agg x.C) := .agg _ (flC (.atom _) (flC (.atom _) (flC (.atom _) (flC (.atom _) (flC (.atom _) (flC (.atom _) (flC (.atom _) (flC (.atom _) (flC (.atom _) (flC (.atom _) (flC (.atom _) (flC (.atom _) (flC (.atom _) (flC (flat_slice _ T_api_Pred.flat _) (flC (.atom _) (flC (.atom _) (flC (.atom _) (flN))))))))))))))))))
theorem T_levels_Join.flat (x : T_levels_Join) : Flat x.av := x.flatC
theorem T_levels_Join.len (x : T_levels_Join) : x.av.cells.length = 17 := rfl
structure T_levels_Op where
  Kind : Int
  Conj : List T_api_Pred
  Left : Set64
  Right : Set64
  Own : Set64
  Home : Int
def T_levels_Op.C (x : T_levels_Op) : List AV := [.i64 x.Kind, .slice .foreign (x.Conj.map T_api_Pred.av), .w x.Left, .w x.Right, .w x.Own, .i64 x.Home]
def T_levels_Op.av (x : T_levels_Op) : AV := .agg x.C
attribute [go_sem] T_levels_Op.C T_levels_Op.av
theorem T_levels_Op.flatC (x : T_levels_Op) : Flat (.agg x.C) := .agg _ (flC (.atom _) (flC (flat_slice _ T_api_Pred.flat _) (flC (.atom _) (flC (.atom _) (flC (.atom _) (flC (.atom _) (flN)))))))
theorem T_levels_Op.flat (x : T_levels_Op) : Flat x.av := x.flatC
theorem T_levels_Op.len (x : T_levels_Op) : x.av.cells.length = 6 := rfl
structure T_levels_Levels where
  Joins : List T_levels_Join
  Ops : List T_levels_Op
def T_levels_Levels.C (x : T_levels_Levels) : List AV := [.slice .foreign (x.Joins.map T_levels_Join.av), .slice .foreign (x.Ops.map T_levels_Op.av)]
attribute [go_sem] T_levels_Levels.C
theorem T_levels_Levels.flatC (x : T_levels_Levels) : Flat (.agg x.C) := .agg _ (flC (flat_slice _ T_levels_Join.flat _) (flC (flat_slice _ T_levels_Op.flat _) (flN)))
structure T_levels_place where
  kind : Int
  own : Set64
  home : Set64
def T_levels_place.C (x : T_levels_place) : List AV := [.i64 x.kind, .w x.own, .w x.home]
attribute [go_sem] T_levels_place.C
theorem T_levels_place.flatC (x : T_levels_place) : Flat (.agg x.C) := .agg _ (flC (.atom _) (flC (.atom _) (flC (.atom _) (flN))))
structure A2_Int where
  e0 : Int
  e1 : Int
def A2_Int.C (x : A2_Int) : List AV := [.i64 x.e0, .i64 x.e1]
def A2_Int.av (x : A2_Int) : AV := .agg x.C
attribute [go_sem] A2_Int.C A2_Int.av
theorem A2_Int.flatC (x : A2_Int) : Flat (.agg x.C) := .agg _ (flC (.atom _) (flC (.atom _) (flN)))
theorem A2_Int.flat (x : A2_Int) : Flat x.av := x.flatC
theorem A2_Int.len (x : A2_Int) : x.av.cells.length = 2 := rfl
@[go_sem] theorem muT_22 [Mu] : muT Try.prog 22 = seatMu 3 := by unfold muT; rw [show elemT Try.prog 22 = some 3 by kernel_rfl]
@[go_sem] theorem muT_33 [Mu] : muT Try.prog 33 = seatMu 42 := by unfold muT; rw [show elemT Try.prog 33 = some 42 by kernel_rfl]
@[go_sem] theorem muT_53 [Mu] : muT Try.prog 53 = seatMu 55 := by unfold muT; rw [show elemT Try.prog 53 = some 55 by kernel_rfl]
@[go_sem] theorem muT_59 [Mu] : muT Try.prog 59 = seatMu 122 := by unfold muT; rw [show elemT Try.prog 59 = some 122 by kernel_rfl]
@[go_sem] theorem muT_60 [Mu] : muT Try.prog 60 = seatMu 120 := by unfold muT; rw [show elemT Try.prog 60 = some 120 by kernel_rfl]
@[go_sem] theorem muT_77 [Mu] : muT Try.prog 77 = seatMu 32 := by unfold muT; rw [show elemT Try.prog 77 = some 32 by kernel_rfl]
@[go_sem] theorem muT_198 [Mu] : muT Try.prog 198 = seatMu 200 := by unfold muT; rw [show elemT Try.prog 198 = some 200 by kernel_rfl]
@[reducible] def mu_120_122 : Mu := ⟨fun t => [120, 122].contains t⟩
@[go_sem] theorem mu_120_122_at_42 : @seatMu mu_120_122 42 = false := by kernel_rfl
@[go_sem] theorem mu_120_122_at_120 : @seatMu mu_120_122 120 = true := by kernel_rfl
@[go_sem] theorem mu_120_122_at_122 : @seatMu mu_120_122 122 = true := by kernel_rfl
end Go.Proofs.Ytakmilmckdllfaa.G
set_option linter.unusedVariables false
set_option linter.unusedSimpArgs false
set_option maxRecDepth 100000
namespace Go.Proofs.Ytakmilmckdllfaa.G

/-- The nodes, kids ahead. -/
def T_api_Tree.tour : T_api_Tree → List T_api_Tree
  | ⟨a, b, ks, c, d⟩ => tourL ks ++ [⟨a, b, ks, c, d⟩]
where tourL : List T_api_Tree → List T_api_Tree
  | [] => []
  | x :: l => x.tour ++ tourL l
theorem tourL_eq' (l : List T_api_Tree) : T_api_Tree.tour.tourL l = l.flatMap T_api_Tree.tour := by
  induction l with
  | nil => simp only [T_api_Tree.tour.tourL, List.flatMap_nil]
  | cons x l ih => simp only [T_api_Tree.tour.tourL, List.flatMap_cons, ih]
theorem tour_eq (x : T_api_Tree) : x.tour = x.Kids.flatMap T_api_Tree.tour ++ [x] := by
  obtain ⟨a, b, ks, c, d⟩ := x
  simp only [T_api_Tree.tour, tourL_eq']
/-- The tour's function, called on a node: of what is yielded from the place i on. -/
theorem walk_tour (x : T_api_Tree) : ∀ (hsm : ∀ y ∈ x.tour, y.Kids.length < 9223372036854775808) (b : Nat) (yv : AV) (xs : List T_api_Tree) (I : Nat → Mem → Prop) (D : Mem → Prop) (lt ly : Nat), yv.strip = yv → b ≤ lt → b ≤ ly → (∀ i m m', I i m → Ext m m' → I i m') → (∀ m m', D m → Ext m m' → D m') →
    (∀ i x m1, xs[i]? = some x → I i m1 → DoesV Try.prog yv [.agg x.C] m1 fun r m2 => KeepB b m1 m2 ∧ ((r = .bool true ∧ I (i + 1) m2) ∨ (r = .bool false ∧ D m2))) →
    ∀ (i : Nat) (m : Mem), I i m → m.boxes[lt]? = some (.cells [.func 168 [] [.ptr lt 0, .ptr ly 0]]) → m.boxes[ly]? = some (.cells [yv]) → (∃ rest, xs.drop i = x.tour ++ rest) →
    Does Try.prog 168 [.agg x.C, .ptr lt 0, .ptr ly 0] m fun r m' => KeepB b m m' ∧ ((r = .bool true ∧ I (i + x.tour.length) m') ∨ (r = .bool false ∧ D m')) := by
  induction x using T_api_Tree.induct with
  | h x ih =>
    intro hsm b yv xs I D lt ly hy hbt hby hI hD hY i m h0 h1 h2 ⟨rest, hr⟩
    rw [tour_eq] at hr hsm ⊢
    have hkl : x.Kids.length < 9223372036854775808 := hsm (x) (by simp)
    obtain ⟨B, R, μ⟩ := m
    dsimp only at h1 h2
    have hlt := (List.getElem?_eq_some_iff.1 h1).1
    refine Does.of_slim mix fn_168 ok_168 (by rfl) ?_; simp -implicitDefEqProofs only [go_sem, Try.f168]
    refine SLoop.induct mix fn_168 (by kernel_rfl) (fun n e m' => ∃ (j : Nat), e = [(1, .ptr lt 0), (2, .ptr ly 0), (3, .ptr B.length 0), (8, .slice .foreign (x.Kids.map T_api_Tree.av)), (9, .i64 x.Kids.length), (10, .i64 j)] ∧ KeepB b ⟨B ++ [.cells (x.C)], R, μ⟩ m' ∧ I (i + ((x.Kids.take j).flatMap T_api_Tree.tour).length) m' ∧ j ≤ x.Kids.length ∧ n = x.Kids.length - j) x.Kids.length ⟨0, rfl, KeepB.refl _ _, hI _ _ _ h0 (Ext.mkB _ _ _ _), by omega, by omega⟩ (by simp -implicitDefEqProofs only [go_sem] <;> repeat' (first | rfl | apply And.intro)) ?_
    rintro n e m' ⟨j, rfl, hk, hi, hj, hn⟩ ih2
    obtain ⟨B', R', μ'⟩ := m'
    have b1 := hk.1 lt _ hbt (app_old h1 _)
    have b2 := hk.1 ly _ hby (app_old h2 _)
    have b3 := hk.1 B.length (.cells (x.C)) (by omega) (by simp)
    dsimp only at b1 b2 b3
    simp -implicitDefEqProofs only [go_sem, Try.f168]
    refine SCond_dec (fun hc => ?_) fun hc => ?_
    · have hj' : j < x.Kids.length := by omega
      simp -implicitDefEqProofs only [go_sem, getL hj', app_old b1, app_old b2, app_old b3]
      have hsp : x.Kids.flatMap T_api_Tree.tour = (x.Kids.take j).flatMap T_api_Tree.tour ++ (x.Kids[j].tour ++ (x.Kids.drop (j + 1)).flatMap T_api_Tree.tour) := by
        conv => lhs; rw [← List.take_append_drop j x.Kids, List.drop_eq_getElem_cons hj', List.flatMap_append, List.flatMap_cons]
      have hdr : xs.drop (i + ((x.Kids.take j).flatMap T_api_Tree.tour).length) = x.Kids[j].tour ++ ((x.Kids.drop (j + 1)).flatMap T_api_Tree.tour ++ [x] ++ rest) := by
        rw [← List.drop_drop, hr, hsp]
        simp [List.append_assoc]
      refine (DoesV.func (first := []) (args := [.agg x.Kids[j].C]) (cap := [.ptr lt 0, .ptr ly 0]) (ih x.Kids[j] (List.getElem_mem hj') (fun y hy => hsm y (List.mem_append_left _ (List.mem_flatMap.2 ⟨_, List.getElem_mem hj', hy⟩))) b yv xs I D lt ly hy hbt hby hI hD hY (i + ((x.Kids.take j).flatMap T_api_Tree.tour).length) _ (hI _ _ _ hi (Ext.mkB _ _ _ _)) (app_old b1 _) (app_old b2 _) ⟨_, hdr⟩)).mono ?_
      rintro r m2 ⟨hk2, hcase⟩
      refine ⟨False.elim, ?_⟩
      have hk3 := (hk.trans ((Ext.mkB B' [.cells x.Kids[j].C] R' μ').keepB b)).trans hk2
      rcases hcase with ⟨rfl, hi2⟩ | ⟨rfl, hd2⟩
      · simp -implicitDefEqProofs only [go_sem, inc64 j (by omega)]
        refine ih2 (x.Kids.length - (j + 1)) _ _ _ (by omega) ⟨j + 1, rfl, hk3, ?_, by omega, rfl⟩ (by simp -implicitDefEqProofs only [go_sem] <;> repeat' (first | rfl | apply And.intro))
        rw [List.take_succ_eq_append_getElem hj', List.flatMap_append, List.length_append, ← Nat.add_assoc]
        simpa using hi2
      · simp -implicitDefEqProofs only [go_sem]
        exact ⟨((Ext.mkB B [.cells (x.C)] R μ).keepB b).trans hk3, .inr hd2⟩
    · have hjj : j = x.Kids.length := by omega
      subst hjj
      rw [List.take_length] at hi
      have hx : xs[i + (x.Kids.flatMap T_api_Tree.tour).length]? = some (x) := by
        rw [← List.getElem?_drop, hr]
        simp [List.append_assoc]
      simp -implicitDefEqProofs only [go_sem, b1, b2, b3]
      have hy1 := hY _ _ _ hx hi
      refine hy1.mono ?_
      rintro r m2 ⟨hk2, hcase⟩
      refine ⟨False.elim, ?_⟩
      have hk3 := ((Ext.mkB B [.cells (x.C)] R μ).keepB b).trans (hk.trans hk2)
      rcases hcase with ⟨rfl, hi2⟩ | ⟨rfl, hd2⟩
      · simp -implicitDefEqProofs only [go_sem]
        exact ⟨hk3, by simpa [Nat.add_assoc] using hi2⟩
      · simp -implicitDefEqProofs only [go_sem]
        exact ⟨hk3, .inr hd2⟩
/-- **tree.Walk's iterator yields the tour.** -/
theorem walk_iter (x : T_api_Tree) (hsm : ∀ y ∈ x.tour, y.Kids.length < 9223372036854775808) (l : Nat) : Iter Try.prog 167 [] [.ptr l 0] (fun m => m.boxes[l]? = some (.cells x.C)) (x.tour.map fun y => [.agg y.C]) := by
  intro b yv I D m hy hb hC hI hD h0 hY
  obtain ⟨B, R, μ⟩ := m
  dsimp only at hb
  have hbl := hC 0 _ h0
  dsimp only at hbl
  show Does Try.prog 167 [yv, .ptr l 0] _ _
  have z : zeroT Try.prog 193 = some [.atom .nilFunc] := by kernel_rfl
  refine Does.of_slim mix fn_167 ok_167 (by rfl) ?_; simp -implicitDefEqProofs only [go_sem, Try.f167]
  simp -implicitDefEqProofs only [go_sem, hy.1, hy.2.1, hy.2.2, app_old hbl, z]
  refine (DoesV.func (first := []) (args := [.agg x.C]) (cap := [.ptr (B.length + 1) 0, .ptr B.length 0]) (walk_tour x hsm b yv x.tour (fun i m1 => I i m1 ∧ KeepB b ⟨B, R, μ⟩ m1) D (B.length + 1) B.length hy.1 (by omega) hb (fun i m m' h he => ⟨hI i m m' h.1 he, h.2.trans (he.keepB b)⟩) hD (fun i y m1 hx hi => ?_) 0 _ ⟨hI _ _ _ h0 (Ext.mkB _ _ _ _), (Ext.mkB _ _ _ _).keepB b⟩ (by simp) (by simp) ⟨[], by simp⟩)).mono ?_
  · refine (hY i [.agg y.C] m1 (by simp [hx]) hi.2 hi.1).mono ?_
    rintro r m2 ⟨hk, h | h⟩
    · exact ⟨hk, .inl ⟨h.1, h.2, hi.2.trans hk⟩⟩
    · exact ⟨hk, .inr h⟩
  · rintro r m2 ⟨hk, h⟩
    refine ⟨False.elim, ?_⟩
    simp -implicitDefEqProofs only [go_sem]
    refine ⟨((Ext.mkB B _ R μ).keepB b).trans hk, ?_⟩
    rcases h with ⟨_, h, _⟩ | ⟨_, h⟩
    · left; simpa using h
    · exact .inr h
@[go_sem] theorem constAV_nilFunc' : constAV .nilFunc = some (.atom .nilFunc) := rfl
theorem tree_Walk (x : T_api_Tree) (B : List ABox) (R : List (Option (Nat × List AV))) (μ : TypeId → Bool) : Does Try.prog 144 [.agg x.C] ⟨B, R, μ⟩ fun r m1 => r = .func 167 [] [.ptr B.length 0] ∧ m1 = ⟨B ++ [.cells x.C], R, μ⟩ := by
  refine Does.of_slim mix fn_144 ok_144 (by rfl) ?_; simp -implicitDefEqProofs only [go_sem, Try.f144]
/-- The nodes, kids ahead, where all are counted by numbers that Go has. -/
def M_tree_Walk (x : T_api_Tree) : Option (List T_api_Tree) := if (x.tour.all fun y => decide (y.Kids.length < 9223372036854775808)) = true then some x.tour else none
theorem M_tree_Walk.w : ∀ (x : T_api_Tree) (r : List T_api_Tree), M_tree_Walk x = some r → FnI Try.prog 144 [.agg x.C] (r.map fun y => [.agg y.C]) := by
  intro x r h m
  unfold M_tree_Walk at h
  split at h
  · rename_i hs
    injection h with h
    subst h
    have hs : ∀ y ∈ x.tour, y.Kids.length < 9223372036854775808 := fun y hy => of_decide_eq_true (List.all_eq_true.1 hs y hy)
    obtain ⟨B, R, μ⟩ := m
    obtain ⟨r, m', h1, rfl, rfl⟩ := tree_Walk x B R μ
    refine ⟨_, _, _, _, [(B.length, .cells x.C)], h1, ⟨⟨[.cells x.C], rfl⟩, ⟨[], by simp⟩, rfl⟩, ?_, ?_, ?_⟩
    · intro q hq
      rcases List.mem_cons.1 hq with rfl | hq
      · simp
      · cases hq
    · intro b yv I D m hy hb hC hI hD h0 hY
      exact walk_iter x hs B.length b yv I D m hy hb (fun i m h => hC i m h (B.length, .cells x.C) (List.mem_cons_self)) hI hD h0 hY
    · intro q hq
      rcases List.mem_cons.1 hq with rfl | hq
      · exact Nat.le_refl _
      · cases hq
  · cases h
end Go.Proofs.Ytakmilmckdllfaa.G
set_option linter.unusedVariables false
set_option linter.unusedSimpArgs false
set_option maxRecDepth 100000
namespace Go.Proofs.Ytakmilmckdllfaa.G
theorem lok_161 : (Try.f161.body.isSome && !(Try.f161.name == "runtime.NumGoroutine") && okL (bodyF Try.f161) Try.f161.ntmps (bodyF Try.f161)) = true := by kernel_rfl
def M_sets_one (x : Int) : Option (Set64) :=
  if (decide (x < 0)) = true then
    some (0#64)
  else
    if (decide (x ≥ 64)) = true then
      some (0#64)
    else
      some (1#64 <<< ((BitVec.ofInt 64 x)).toNat)
theorem M_sets_one.w : ∀ (x : Int) (r : Set64), M_sets_one x = some r → (fun (x : Int) (r : Set64) => Fn Try.prog 161 [.i64 x] (.w r)) x r := by
  intro x r h
  rw [M_sets_one] at h
  try dsimp only
  refine Fn.of_lc mix fn_161 lok_161 (by rfl) (flC (.atom _) (flN)) (.atom _) ?_
  simp -implicitDefEqProofs only [go_sem, Try.f161]
  by_cases h1 : (decide (x < 0)) = true
  · replace h := ite_some h h1
    try simp -implicitDefEqProofs only [go_sem, h1]
    injection h with h; subst h
    first | rfl | simp -implicitDefEqProofs only [go_sem, h1] <;> rfl
  · replace h := ite_none h h1; replace h1 := bfalse h1
    try simp -implicitDefEqProofs only [go_sem, h1]
    by_cases h2 : (decide (x ≥ 64)) = true
    · replace h := ite_some h h2
      try simp -implicitDefEqProofs only [go_sem, h1, h2]
      injection h with h; subst h
      first | rfl | simp -implicitDefEqProofs only [go_sem, h1, h2] <;> rfl
    · replace h := ite_none h h2; replace h2 := bfalse h2
      try simp -implicitDefEqProofs only [go_sem, h1, h2]
      injection h with h; subst h
      first | rfl | simp -implicitDefEqProofs only [go_sem, h1, h2] <;> rfl
end Go.Proofs.Ytakmilmckdllfaa.G
set_option linter.unusedVariables false
set_option linter.unusedSimpArgs false
set_option maxRecDepth 100000
namespace Go.Proofs.Ytakmilmckdllfaa.G
end Go.Proofs.Ytakmilmckdllfaa.G
set_option linter.unusedVariables false
set_option linter.unusedSimpArgs false
set_option maxRecDepth 100000
namespace Go.Proofs.Ytakmilmckdllfaa.G

end Go.Proofs.Ytakmilmckdllfaa.G
set_option linter.unusedVariables false
set_option linter.unusedSimpArgs false
set_option maxRecDepth 100000
namespace Go.Proofs.Ytakmilmckdllfaa.G
theorem lok_145 : (Try.f145.body.isSome && !(Try.f145.name == "runtime.NumGoroutine") && okL (bodyF Try.f145) Try.f145.ntmps (bodyF Try.f145)) = true := by kernel_rfl
def M_sets_Of.l0 (x : Set64 × List Int × Int × Int) : Option (Set64) :=
  if (decide (x.2.2.2 < x.2.2.1)) = true then
    (getI x.2.1 x.2.2.2) >>= fun (e2 : Int) =>
    M_sets_one e2 >>= fun r4 =>
    M_sets_Of.l0 ((x.1 ||| r4), x.2.1, x.2.2.1, (w64 (x.2.2.2 + 1)))
  else
    some x.1
  partial_fixpoint
theorem M_sets_Of.l0.ws : (∀ (x : Set64 × List Int × Int × Int) (o : Set64), M_sets_Of.l0 x = some o → (fun (x : Set64 × List Int × Int × Int) (o : Set64) => ∀ (lo : Option Nat) (c : LCtx) (Q : Exit → LEnv → Prop) (hb : ∀ s : Set64, o = s → Q (.exit 0) ⟨[(3, .v (.w s))], []⟩), LLoop Try.prog 145 lo c 0 (VQ Q) ⟨[(3, .v (.w x.1)), (6, .v (.slice .foreign (x.2.1.map AV.i64))), (7, .v (.i64 x.2.2.1)), (8, .v (.i64 x.2.2.2))], []⟩) x o) := by
  refine M_sets_Of.l0.partial_correctness _ ?_
  · intro M_M_sets_Of_l0 ih_M_sets_Of_l0 x o h
    intro lo c Q hb
    refine LLoop.step mix fn_145 (by kernel_rfl) ?_
    simp -implicitDefEqProofs only [go_sem, Try.f145]
    by_cases h1 : (decide (x.2.2.2 < x.2.2.1)) = true
    · replace h := ite_some h h1
      try simp -implicitDefEqProofs only [go_sem, h1]
      obtain ⟨e2, h3, h⟩ := bind_some' h; replace h3 := getI_some h3; obtain ⟨h3', h3⟩ := h3
      try simp -implicitDefEqProofs only [go_sem, h1, h3, h3']
      obtain ⟨r4, h5, h⟩ := bind_some' h
      refine .plain _ _ rfl (M_sets_one.w e2 _ h5) ?_
      try simp -implicitDefEqProofs only [go_sem, h1, h3, h3']
      exact LLoop.view [] (by (first | rfl | simp -implicitDefEqProofs only [go_sem, h1, h3, h3'] <;> rfl)) (ih_M_sets_Of_l0 _ _ h lo c Q hb)
    · replace h := ite_none h h1; replace h1 := bfalse h1
      try simp -implicitDefEqProofs only [go_sem, h1]
      injection h with h; subst h
      exact .inr ⟨[], _, by (simp -implicitDefEqProofs only [go_sem, h1] <;> first | done | rfl | trivial), hb _ rfl⟩
theorem M_sets_Of.l0.w : type_of% (@M_sets_Of.l0.ws) := @M_sets_Of.l0.ws
def M_sets_Of (x : List Int) : Option (Set64) :=
  M_sets_Of.l0 (0#64, x, (x.length : Int), 0) >>= fun (o6 : Set64) =>
  some o6
theorem M_sets_Of.w : ∀ (x : List Int) (r : Set64), M_sets_Of x = some r → (fun (x : List Int) (r : Set64) => Fn Try.prog 145 [.slice .foreign (x.map AV.i64)] (.w r)) x r := by
  intro x r h
  rw [M_sets_Of] at h
  try dsimp only
  refine Fn.of_lc mix fn_145 lok_145 (by rfl) (flC (flat_slice _ (fun _ => .atom _) _) (flN)) (.atom _) ?_
  simp -implicitDefEqProofs only [go_sem, Try.f145]
  obtain ⟨o6, h7, h⟩ := bind_some' h
  refine LLoop.viewQ (LLoop.view [] (by (first | rfl | simp -implicitDefEqProofs only [go_sem] <;> rfl)) (M_sets_Of.l0.w (0#64, x, (x.length : Int), 0) _ h7 _ _ _ ?_))
  intro s' hs'; subst hs'
  try simp -implicitDefEqProofs only [go_sem]
  injection h with h; subst h
  first | rfl | simp -implicitDefEqProofs only [go_sem] <;> rfl
end Go.Proofs.Ytakmilmckdllfaa.G
set_option linter.unusedVariables false
set_option linter.unusedSimpArgs false
set_option maxRecDepth 100000
namespace Go.Proofs.Ytakmilmckdllfaa.G
end Go.Proofs.Ytakmilmckdllfaa.G
set_option linter.unusedVariables false
set_option linter.unusedSimpArgs false
set_option maxRecDepth 100000
namespace Go.Proofs.Ytakmilmckdllfaa.G
theorem lok_146 : (Try.f146.body.isSome && !(Try.f146.name == "runtime.NumGoroutine") && okL (bodyF Try.f146) Try.f146.ntmps (bodyF Try.f146)) = true := by kernel_rfl
def M_ref01_power.l0 (x : Int × Set64 × Int) : Option (Set64) :=
  if (decide (x.2.2 < x.1)) = true then
    M_ref01_power.l0 (x.1, (x.2.1 * 2#64), (w64 (x.2.2 + 1)))
  else
    some x.2.1
  partial_fixpoint
theorem M_ref01_power.l0.ws : (∀ (x : Int × Set64 × Int) (o : Set64), M_ref01_power.l0 x = some o → (fun (x : Int × Set64 × Int) (o : Set64) => ∀ (lo : Option Nat) (c : LCtx) (Q : Exit → LEnv → Prop) (hb : ∀ s : Set64, o = s → Q (.exit 0) ⟨[(3, .v (.w s))], []⟩), LLoop Try.prog 146 lo c 0 (VQ Q) ⟨[(0, .v (.i64 x.1)), (3, .v (.w x.2.1)), (4, .v (.i64 x.2.2))], []⟩) x o) := by
  refine M_ref01_power.l0.partial_correctness _ ?_
  · intro M_M_ref01_power_l0 ih_M_ref01_power_l0 x o h
    intro lo c Q hb
    refine LLoop.step mix fn_146 (by kernel_rfl) ?_
    simp -implicitDefEqProofs only [go_sem, Try.f146]
    by_cases h1 : (decide (x.2.2 < x.1)) = true
    · replace h := ite_some h h1
      try simp -implicitDefEqProofs only [go_sem, h1]
      exact LLoop.view [] (by (first | rfl | simp -implicitDefEqProofs only [go_sem, h1] <;> rfl)) (ih_M_ref01_power_l0 _ _ h lo c Q hb)
    · replace h := ite_none h h1; replace h1 := bfalse h1
      try simp -implicitDefEqProofs only [go_sem, h1]
      injection h with h; subst h
      exact .inr ⟨[], _, by (simp -implicitDefEqProofs only [go_sem, h1] <;> first | done | rfl | trivial), hb _ rfl⟩
theorem M_ref01_power.l0.w : type_of% (@M_ref01_power.l0.ws) := @M_ref01_power.l0.ws
def M_ref01_power (x : Int) : Option (Set64) :=
  M_ref01_power.l0 (x, 1#64, 0) >>= fun (o2 : Set64) =>
  some o2
theorem M_ref01_power.w : ∀ (x : Int) (r : Set64), M_ref01_power x = some r → (fun (x : Int) (r : Set64) => Fn Try.prog 146 [.i64 x] (.w r)) x r := by
  intro x r h
  rw [M_ref01_power] at h
  try dsimp only
  refine Fn.of_lc mix fn_146 lok_146 (by rfl) (flC (.atom _) (flN)) (.atom _) ?_
  simp -implicitDefEqProofs only [go_sem, Try.f146]
  obtain ⟨o2, h3, h⟩ := bind_some' h
  refine LLoop.viewQ (LLoop.view [] (by (first | rfl | simp -implicitDefEqProofs only [go_sem] <;> rfl)) (M_ref01_power.l0.w (x, 1#64, 0) _ h3 _ _ _ ?_))
  intro s' hs'; subst hs'
  try simp -implicitDefEqProofs only [go_sem]
  injection h with h; subst h
  first | rfl | simp -implicitDefEqProofs only [go_sem] <;> rfl
end Go.Proofs.Ytakmilmckdllfaa.G
set_option linter.unusedVariables false
set_option linter.unusedSimpArgs false
set_option maxRecDepth 100000
namespace Go.Proofs.Ytakmilmckdllfaa.G
theorem lok_116 : (Try.f116.body.isSome && !(Try.f116.name == "runtime.NumGoroutine") && okL (bodyF Try.f116) Try.f116.ntmps (bodyF Try.f116)) = true := by kernel_rfl
def M_ref01_Of.l1 (x : List Int × Set64 × Int × Int) : Option (Set64) :=
  if (decide (x.2.2.2 < (x.1.length : Int))) = true then
    (getI x.1 x.2.2.2) >>= fun (e3 : Int) =>
    if (e3 == x.2.2.1) = true then
      M_ref01_power x.2.2.1 >>= fun r6 =>
      some (x.2.1 + r6)
    else
      M_ref01_Of.l1 (x.1, x.2.1, x.2.2.1, (w64 (x.2.2.2 + 1)))
  else
    some x.2.1
  partial_fixpoint
theorem M_ref01_Of.l1.ws : (∀ (x : List Int × Set64 × Int × Int) (o : Set64), M_ref01_Of.l1 x = some o → (fun (x : List Int × Set64 × Int × Int) (o : Set64) => ∀ (lo : Option Nat) (c : LCtx) (Q : Exit → LEnv → Prop) (hb : ∀ s : Set64, o = s → Q (.exit 2) ⟨[(0, .v (.slice .foreign (x.1.map AV.i64))), (3, .v (.w s)), (4, .v (.i64 x.2.2.1))], []⟩), LLoop Try.prog 116 lo c 1 (VQ Q) ⟨[(0, .v (.slice .foreign (x.1.map AV.i64))), (3, .v (.w x.2.1)), (4, .v (.i64 x.2.2.1)), (5, .v (.i64 x.2.2.2))], []⟩) x o) := by
  refine M_ref01_Of.l1.partial_correctness _ ?_
  · intro M_M_ref01_Of_l1 ih_M_ref01_Of_l1 x o h
    intro lo c Q hb
    refine LLoop.step mix fn_116 (by kernel_rfl) ?_
    simp -implicitDefEqProofs only [go_sem, Try.f116]
    by_cases h2 : (decide (x.2.2.2 < (x.1.length : Int))) = true
    · replace h := ite_some h h2
      try simp -implicitDefEqProofs only [go_sem, h2]
      obtain ⟨e3, h4, h⟩ := bind_some' h; replace h4 := getI_some h4; obtain ⟨h4', h4⟩ := h4
      try simp -implicitDefEqProofs only [go_sem, h2, h4, h4']
      by_cases h5 : (e3 == x.2.2.1) = true
      · replace h := ite_some h h5
        try simp -implicitDefEqProofs only [go_sem, h2, h4, h4', h5]
        obtain ⟨r6, h7, h⟩ := bind_some' h
        refine .plain _ _ rfl (M_ref01_power.w x.2.2.1 _ h7) ?_
        try simp -implicitDefEqProofs only [go_sem, h2, h4, h4', h5]
        injection h with h; subst h
        exact .inr ⟨[], _, by (simp -implicitDefEqProofs only [go_sem, h2, h4, h4', h5] <;> first | done | rfl | trivial), hb _ rfl⟩
      · replace h := ite_none h h5; replace h5 := bfalse h5
        try simp -implicitDefEqProofs only [go_sem, h2, h4, h4', h5]
        exact LLoop.view [] (by (first | rfl | simp -implicitDefEqProofs only [go_sem, h2, h4, h4', h5] <;> rfl)) (ih_M_ref01_Of_l1 _ _ h lo c Q hb)
    · replace h := ite_none h h2; replace h2 := bfalse h2
      try simp -implicitDefEqProofs only [go_sem, h2]
      injection h with h; subst h
      exact .inr ⟨[], _, by (simp -implicitDefEqProofs only [go_sem, h2] <;> first | done | rfl | trivial), hb _ rfl⟩
theorem M_ref01_Of.l1.w : type_of% (@M_ref01_Of.l1.ws) := @M_ref01_Of.l1.ws
def M_ref01_Of.l0 (x : List Int × Set64 × Int) : Option (Set64) :=
  if (decide (x.2.2 < 64)) = true then
    M_ref01_Of.l1 (x.1, x.2.1, x.2.2, 0) >>= fun (o8 : Set64) =>
    M_ref01_Of.l0 (x.1, o8, (w64 (x.2.2 + 1)))
  else
    some x.2.1
  partial_fixpoint
theorem M_ref01_Of.l0.ws : (∀ (x : List Int × Set64 × Int) (o : Set64), M_ref01_Of.l0 x = some o → (fun (x : List Int × Set64 × Int) (o : Set64) => ∀ (lo : Option Nat) (c : LCtx) (Q : Exit → LEnv → Prop) (hb : ∀ s : Set64, o = s → Q (.exit 0) ⟨[(3, .v (.w s))], []⟩), LLoop Try.prog 116 lo c 0 (VQ Q) ⟨[(0, .v (.slice .foreign (x.1.map AV.i64))), (3, .v (.w x.2.1)), (4, .v (.i64 x.2.2))], []⟩) x o) := by
  refine M_ref01_Of.l0.partial_correctness _ ?_
  · intro M_M_ref01_Of_l0 ih_M_ref01_Of_l0 x o h
    intro lo c Q hb
    refine LLoop.step mix fn_116 (by kernel_rfl) ?_
    simp -implicitDefEqProofs only [go_sem, Try.f116]
    by_cases h1 : (decide (x.2.2 < 64)) = true
    · replace h := ite_some h h1
      try simp -implicitDefEqProofs only [go_sem, h1]
      obtain ⟨o8, h9, h⟩ := bind_some' h
      refine LLoop.viewQ (LLoop.view [] (by (first | rfl | simp -implicitDefEqProofs only [go_sem, h1] <;> rfl)) (M_ref01_Of.l1.w (x.1, x.2.1, x.2.2, 0) _ h9 _ _ _ ?_))
      intro s' hs'; subst hs'
      try simp -implicitDefEqProofs only [go_sem, h1]
      exact LLoop.view [] (by (first | rfl | simp -implicitDefEqProofs only [go_sem, h1] <;> rfl)) (ih_M_ref01_Of_l0 _ _ h lo c Q hb)
    · replace h := ite_none h h1; replace h1 := bfalse h1
      try simp -implicitDefEqProofs only [go_sem, h1]
      injection h with h; subst h
      exact .inr ⟨[], _, by (simp -implicitDefEqProofs only [go_sem, h1] <;> first | done | rfl | trivial), hb _ rfl⟩
theorem M_ref01_Of.l0.w : type_of% (@M_ref01_Of.l0.ws) := @M_ref01_Of.l0.ws
def M_ref01_Of (x : List Int) : Option (Set64) :=
  M_ref01_Of.l0 (x, 0#64, 0) >>= fun (o10 : Set64) =>
  some o10
theorem M_ref01_Of.w : ∀ (x : List Int) (r : Set64), M_ref01_Of x = some r → (fun (x : List Int) (r : Set64) => Fn Try.prog 116 [.slice .foreign (x.map AV.i64)] (.w r)) x r := by
  intro x r h
  rw [M_ref01_Of] at h
  try dsimp only
  refine Fn.of_lc mix fn_116 lok_116 (by rfl) (flC (flat_slice _ (fun _ => .atom _) _) (flN)) (.atom _) ?_
  simp -implicitDefEqProofs only [go_sem, Try.f116]
  obtain ⟨o10, h11, h⟩ := bind_some' h
  refine LLoop.viewQ (LLoop.view [] (by (first | rfl | simp -implicitDefEqProofs only [go_sem] <;> rfl)) (M_ref01_Of.l0.w (x, 0#64, 0) _ h11 _ _ _ ?_))
  intro s' hs'; subst hs'
  try simp -implicitDefEqProofs only [go_sem]
  injection h with h; subst h
  first | rfl | simp -implicitDefEqProofs only [go_sem] <;> rfl
end Go.Proofs.Ytakmilmckdllfaa.G
set_option linter.unusedVariables false
set_option linter.unusedSimpArgs false
set_option maxRecDepth 100000
namespace Go.Proofs.Ytakmilmckdllfaa.G
theorem lok_126 : (Try.f126.body.isSome && !(Try.f126.name == "runtime.NumGoroutine") && okL (bodyF Try.f126) Try.f126.ntmps (bodyF Try.f126)) = true := by kernel_rfl
def M_ref01_Has (x : Set64 × Int) : Option (Bool) :=
  if (decide (x.2 ≥ 0)) = true then
    if (decide (x.2 < 64)) = true then
      M_ref01_power x.2 >>= fun r3 =>
      if r3 = 0#64 then none else
      some (((x.1 / r3) % 2#64) == 1#64)
    else
      some false
  else
    some false
theorem M_ref01_Has.w : ∀ (x : Set64 × Int) (r : Bool), M_ref01_Has x = some r → (fun (x : Set64 × Int) (r : Bool) => Fn Try.prog 126 [.w x.1, .i64 x.2] (.bool r)) x r := by
  intro x r h
  rw [M_ref01_Has] at h
  try dsimp only
  refine Fn.of_lc mix fn_126 lok_126 (by rfl) (flC (.atom _) (flC (.atom _) (flN))) (.atom _) ?_
  simp -implicitDefEqProofs only [go_sem, Try.f126]
  by_cases h1 : (decide (x.2 ≥ 0)) = true
  · replace h := ite_some h h1
    try simp -implicitDefEqProofs only [go_sem, h1]
    by_cases h2 : (decide (x.2 < 64)) = true
    · replace h := ite_some h h2
      try simp -implicitDefEqProofs only [go_sem, h1, h2]
      obtain ⟨r3, h4, h⟩ := bind_some' h
      refine .plain _ _ rfl (M_ref01_power.w x.2 _ h4) ?_
      try simp -implicitDefEqProofs only [go_sem, h1, h2]
      obtain ⟨h5, h⟩ := nz_some h
      try simp -implicitDefEqProofs only [go_sem, h1, h2, h5]
      injection h with h; subst h
      first | rfl | simp -implicitDefEqProofs only [go_sem, h1, h2, h5] <;> rfl
    · replace h := ite_none h h2; replace h2 := bfalse h2
      try simp -implicitDefEqProofs only [go_sem, h1, h2]
      injection h with h; subst h
      first | rfl | simp -implicitDefEqProofs only [go_sem, h1, h2] <;> rfl
  · replace h := ite_none h h1; replace h1 := bfalse h1
    try simp -implicitDefEqProofs only [go_sem, h1]
    injection h with h; subst h
    first | rfl | simp -implicitDefEqProofs only [go_sem, h1] <;> rfl
end Go.Proofs.Ytakmilmckdllfaa.G
set_option linter.unusedVariables false
set_option linter.unusedSimpArgs false
set_option maxRecDepth 100000
namespace Go.Proofs.Ytakmilmckdllfaa.G
end Go.Proofs.Ytakmilmckdllfaa.G
set_option linter.unusedVariables false
set_option linter.unusedSimpArgs false
set_option maxRecDepth 100000
namespace Go.Proofs.Ytakmilmckdllfaa.G
end Go.Proofs.Ytakmilmckdllfaa.G
set_option linter.unusedVariables false
set_option linter.unusedSimpArgs false
namespace Go.Proofs.Ytakmilmckdllfaa.G

theorem w64_of {x : Int} (h1 : -9223372036854775808 ≤ x) (h2 : x < 9223372036854775808) : w64 x = x := by
  simp only [w64, IntKind.wrap, IntKind.bits, IntKind.signed, Bool.true_and, decide_eq_true_eq, Nat.reduceSub, Int.reducePow, ge_iff_le]
  split <;> omega
theorem w64_succ {i : Nat} (h : i + 1 < 9223372036854775808) : w64 ((i : Int) + 1) = ((i + 1 : Nat) : Int) := by
  rw [w64_of (by omega) (by omega)]; omega
theorem getI_nat {α : Type} {l : List α} {i : Nat} (h : i < l.length) : getI l (i : Int) = some l[i] := by
  unfold getI
  rw [if_pos (by omega), Int.toNat_natCast, List.getElem?_eq_getElem h]
theorem room_of {α : Type} {b : Nat} {xs ys : List α} (h : (xs.length + ys.length) * b ≤ 140737488355328) : room b xs ys = some (xs ++ ys) := if_pos h
/-- A loop over a list, from a place on. -/
theorem loop_inv {α σ ρ : Type} (l : List α) (I : Nat → σ → Prop) (F : Nat → σ → ρ) (G : σ → List α → ρ) (h0 : ∀ s, I l.length s → F l.length s = G s [])
    (hs : ∀ i s (h : i < l.length), I i s → (∀ s', I (i + 1) s' → F (i + 1) s' = G s' (l.drop (i + 1))) → F i s = G s (l[i] :: l.drop (i + 1))) : ∀ i s, i ≤ l.length → I i s → F i s = G s (l.drop i) := by
  have key : ∀ n i s, l.length - i = n → i ≤ l.length → I i s → F i s = G s (l.drop i) := by
    intro n
    induction n with
    | zero =>
      intro i s h1 h2 hi
      obtain rfl : i = l.length := by omega
      rw [List.drop_length]; exact h0 s hi
    | succ n ih =>
      intro i s h1 h2 hi
      have hlt : i < l.length := by omega
      rw [List.drop_eq_getElem_cons hlt]
      exact hs i s hlt hi (fun s' hi' => ih (i + 1) s' (by omega) (by omega) hi')
  intro i s h hi
  exact key _ i s rfl h hi
theorem loop_all {α σ ρ : Type} (l : List α) (F : Nat → σ → ρ) (G : σ → List α → ρ) (h0 : ∀ s, F l.length s = G s [])
    (hs : ∀ i s (h : i < l.length), (∀ s', F (i + 1) s' = G s' (l.drop (i + 1))) → F i s = G s (l[i] :: l.drop (i + 1))) (s : σ) : F 0 s = G s l := by
  have := loop_inv l (fun _ _ => True) F G (fun s _ => h0 s) (fun i s h _ ih => hs i s h (fun s' => ih s' trivial)) 0 s (Nat.zero_le _) trivial
  rwa [List.drop_zero] at this
theorem dlt {a b : Int} (h : a < b) : (decide (a < b)) = true := decide_eq_true h
theorem dge {a b : Int} (h : ¬ a < b) : ¬ (decide (a < b)) = true := by simpa using h

/- Sets. -/
def bitI (n : Int) : Set64 := if 0 ≤ n ∧ n < 64 then 1#64 <<< n.toNat else 0#64
def hasI (s : Set64) (n : Int) : Bool := decide (0 ≤ n ∧ n < 64) && s.getLsbD n.toNat
def ofL (l : List Int) : Set64 := l.foldl (fun s n => s ||| bitI n) 0#64
theorem bitI_lsb (n : Int) (i : Nat) : (bitI n).getLsbD i = (decide (i < 64) && decide (n = (i : Int))) := by
  unfold bitI
  split
  · rename_i h
    obtain ⟨k, rfl⟩ : ∃ k : Nat, n = k := ⟨n.toNat, by omega⟩
    rw [Int.toNat_natCast]
    have : (1#64 <<< k) = BitVec.twoPow 64 k := rfl
    rw [this, BitVec.getLsbD_twoPow]
    rw [Bool.eq_iff_iff]
    simp only [Bool.and_eq_true, decide_eq_true_eq]
    omega
  · rename_i h
    rw [BitVec.getLsbD_zero]
    by_cases h1 : i < 64
    · have : n ≠ (i : Int) := by omega
      simp [this]
    · simp [h1]
theorem sets_one_eq (n : Int) : M_sets_one n = some (bitI n) := by
  unfold M_sets_one bitI
  by_cases h1 : n < 0
  · rw [if_pos (by simpa using h1), if_neg (by omega)]
  · rw [if_neg (by simpa using h1)]
    by_cases h2 : n ≥ 64
    · rw [if_pos (by simpa using h2), if_neg (by omega)]
    · rw [if_neg (by simpa using h2), if_pos (by omega)]
      congr 2
      rw [BitVec.toNat_ofInt]; omega
theorem foldl_or (l : List Int) (s : Set64) : l.foldl (fun s n => s ||| bitI n) s = s ||| ofL l := by
  unfold ofL
  have : ∀ (l : List Int) (s : Set64), l.foldl (fun s n => s ||| bitI n) s = s ||| l.foldl (fun s n => s ||| bitI n) 0#64 := by
    intro l
    induction l with
    | nil => intro s; simp
    | cons x l ih =>
      intro s
      simp only [List.foldl_cons]
      rw [ih (s ||| bitI x), ih (0#64 ||| bitI x), BitVec.zero_or, BitVec.or_assoc]
  exact this l s
theorem ofL_cons (x : Int) (l : List Int) : ofL (x :: l) = bitI x ||| ofL l := by
  unfold ofL
  simp only [List.foldl_cons]
  rw [foldl_or, BitVec.zero_or]; rfl
theorem ofL_nil : ofL [] = 0#64 := rfl
theorem ofL_append (l l' : List Int) : ofL (l ++ l') = ofL l ||| ofL l' := by
  induction l with
  | nil => rw [List.nil_append, ofL_nil, BitVec.zero_or]
  | cons x l ih => rw [List.cons_append, ofL_cons, ofL_cons, ih, BitVec.or_assoc]
theorem ofL_lsb (l : List Int) (i : Nat) (h : i < 64) : (ofL l).getLsbD i = l.any fun n => decide (n = (i : Int)) := by
  induction l with
  | nil => simp [ofL_nil]
  | cons x l ih => rw [ofL_cons, BitVec.getLsbD_or, ih, bitI_lsb, List.any_cons]; simp [h]
theorem sets_Of_eq (l : List Int) (hl : l.length < 9223372036854775808) : M_sets_Of l = some (ofL l) := by
  have key := loop_all l (fun i (s : Set64) => M_sets_Of.l0 (s, l, (l.length : Int), (i : Int))) (fun s l => some (l.foldl (fun s n => s ||| bitI n) s)) (fun s => by
      show M_sets_Of.l0 _ = _
      rw [M_sets_Of.l0, if_neg (dge (by dsimp only; omega))]; rfl)
    (fun i s h ih => by
      show M_sets_Of.l0 _ = _
      rw [M_sets_Of.l0, if_pos (dlt (by dsimp only; omega))]
      dsimp only
      rw [getI_nat h]
      simp only [Option.bind_eq_bind, Option.bind_some, sets_one_eq]
      rw [w64_succ (by omega)]
      exact ih (s ||| bitI l[i])) 0#64
  unfold M_sets_Of
  have key' : M_sets_Of.l0 (0#64, l, (l.length : Int), 0) = some (ofL l) := key
  rw [key']; rfl

theorem power_eq (n : Nat) (h : n < 64) : M_ref01_power (n : Int) = some (BitVec.twoPow 64 n) := by
  have key : ∀ k i, n - i = k → i ≤ n → M_ref01_power.l0 ((n : Int), BitVec.twoPow 64 i, (i : Int)) = some (BitVec.twoPow 64 n) := by
    intro k
    induction k with
    | zero =>
      intro i h1 h2
      obtain rfl : i = n := by omega
      rw [M_ref01_power.l0, if_neg (dge (by dsimp only; omega))]
    | succ k ih =>
      intro i h1 h2
      rw [M_ref01_power.l0, if_pos (dlt (by dsimp only; omega))]
      dsimp only
      rw [w64_succ (by omega)]
      have : BitVec.twoPow 64 i * 2#64 = BitVec.twoPow 64 (i + 1) := by
        apply BitVec.eq_of_toNat_eq
        rw [BitVec.toNat_mul, BitVec.toNat_twoPow, BitVec.toNat_twoPow]
        simp only [BitVec.toNat_ofNat]
        rw [Nat.pow_succ]
        omega
      rw [this]
      exact ih (i + 1) (by omega) (by omega)
  unfold M_ref01_power
  have := key n 0 (by omega) (by omega)
  rw [show BitVec.twoPow 64 0 = 1#64 from rfl] at this
  rw [show ((0 : Nat) : Int) = 0 from rfl] at this
  rw [this]; rfl
theorem ref01_Has_eq (s : Set64) (n : Int) : M_ref01_Has (s, n) = some (hasI s n) := by
  unfold M_ref01_Has hasI
  dsimp only
  by_cases h1 : n ≥ 0
  · rw [if_pos (by simpa using h1)]
    by_cases h2 : n < 64
    · rw [if_pos (by simpa using h2)]
      obtain ⟨k, rfl⟩ : ∃ k : Nat, n = k := ⟨n.toNat, by omega⟩
      rw [power_eq k (by omega)]
      simp only [Option.bind_eq_bind, Option.bind_some, Int.toNat_natCast]
      have hk : k < 64 := by omega
      have h0 : BitVec.twoPow 64 k ≠ 0#64 := by
        intro e
        have := congrArg (fun x => x.getLsbD k) e
        simp [BitVec.getLsbD_twoPow, hk] at this
      rw [if_neg h0]
      congr 1
      have h3 : (0 ≤ (k : Int) ∧ (k : Int) < 64) := by omega
      simp only [h3, decide_true, Bool.true_and]
      rw [Bool.eq_iff_iff, beq_iff_eq, ← BitVec.toNat_inj, BitVec.toNat_umod, BitVec.toNat_udiv, BitVec.toNat_twoPow]
      have e : (2 ^ k % 2 ^ 64) = 2 ^ k := Nat.mod_eq_of_lt (Nat.pow_lt_pow_right (by omega) hk)
      rw [e]
      simp only [BitVec.toNat_ofNat]
      show s.toNat / 2 ^ k % 2 = 1 ↔ s.toNat.testBit k = true
      rw [Nat.testBit_eq_decide_div_mod_eq]
      simp
    · rw [if_neg (by simpa using h2)]
      simp only [h2, and_false, decide_false, Bool.false_and]
  · rw [if_neg (by simpa using h1)]
    have : ¬ (0 ≤ n ∧ n < 64) := by omega
    simp only [this, decide_false, Bool.false_and]
theorem hasI_nat (s : Set64) (k : Nat) (h : k < 64) : hasI s (k : Int) = s.getLsbD k := by
  unfold hasI
  have : (0 ≤ (k : Int) ∧ (k : Int) < 64) := by omega
  rw [decide_eq_true this, Bool.true_and, Int.toNat_natCast]
/-- The members below a place. -/
def upTo (f : Nat → Bool) : Nat → Set64
  | 0 => 0#64
  | i + 1 => if f i = true then upTo f i + BitVec.twoPow 64 i else upTo f i
theorem upTo_lsb (f : Nat → Bool) : ∀ (n : Nat), n ≤ 64 → ∀ j, (upTo f n).getLsbD j = (decide (j < n) && f j) := by
  intro n
  induction n with
  | zero => intro _ j; simp [upTo]
  | succ n ih =>
    intro hn j
    have ih := ih (by omega)
    simp only [upTo]
    split
    · rename_i hf
      have h0 : upTo f n &&& BitVec.twoPow 64 n = 0#64 := by
        apply BitVec.eq_of_getLsbD_eq
        intro k hk
        rw [BitVec.getLsbD_and, ih, BitVec.getLsbD_twoPow, BitVec.getLsbD_zero]
        by_cases e : n = k
        · subst e; simp
        · simp [e]
      rw [BitVec.add_eq_or_of_and_eq_zero _ _ h0, BitVec.getLsbD_or, ih, BitVec.getLsbD_twoPow]
      rw [Bool.eq_iff_iff]
      simp only [Bool.or_eq_true, Bool.and_eq_true, decide_eq_true_eq]
      constructor
      · rintro (⟨h1, h2⟩ | ⟨h1, h2⟩)
        · exact ⟨by omega, h2⟩
        · exact ⟨by omega, h2 ▸ hf⟩
      · rintro ⟨h1, h2⟩
        by_cases e : j = n
        · exact .inr ⟨by omega, e.symm⟩
        · exact .inl ⟨by omega, h2⟩
    · rename_i hf
      rw [ih]
      rw [Bool.eq_iff_iff]
      simp only [Bool.and_eq_true, decide_eq_true_eq]
      constructor
      · rintro ⟨h1, h2⟩; exact ⟨by omega, h2⟩
      · rintro ⟨h1, h2⟩
        refine ⟨?_, h2⟩
        rcases Nat.lt_or_ge j n with h3 | h3
        · exact h3
        · obtain rfl : j = n := by omega
          exact absurd h2 hf
theorem ref01_Of_eq (l : List Int) (hl : l.length < 9223372036854775808) : M_ref01_Of l = some (ofL l) := by
  have inner : ∀ (i : Nat), i < 64 → ∀ s, M_ref01_Of.l1 (l, s, (i : Int), 0) = some (if (l.any fun n => decide (n = (i : Int))) = true then s + BitVec.twoPow 64 i else s) := by
    intro i hi s
    exact loop_all l (fun k (s : Set64) => M_ref01_Of.l1 (l, s, (i : Int), (k : Int))) (fun s l => some (if (l.any fun n => decide (n = (i : Int))) = true then s + BitVec.twoPow 64 i else s)) (fun s => by
      show M_ref01_Of.l1 _ = _
      rw [M_ref01_Of.l1, if_neg (dge (by dsimp only; omega))]; simp)
      (fun k s h ih => by
      show M_ref01_Of.l1 _ = _
      rw [M_ref01_Of.l1, if_pos (dlt (by dsimp only; omega))]
      dsimp only
      rw [getI_nat h]
      simp only [Option.bind_eq_bind, Option.bind_some]
      by_cases e : l[k] = (i : Int)
      · rw [if_pos (by simpa using e), power_eq i hi]
        simp [e]
      · rw [if_neg (by simpa using e), w64_succ (by omega)]
        rw [ih s, List.any_cons, decide_eq_false e, Bool.false_or]) s
  have outer : ∀ k i, 64 - i = k → i ≤ 64 → M_ref01_Of.l0 (l, upTo (fun j => l.any fun n => decide (n = (j : Int))) i, (i : Int)) = some (upTo (fun j => l.any fun n => decide (n = (j : Int))) 64) := by
    intro k
    induction k with
    | zero =>
      intro i h1 h2
      obtain rfl : i = 64 := by omega
      rw [M_ref01_Of.l0, if_neg (dge (by dsimp only; omega))]
    | succ k ih =>
      intro i h1 h2
      rw [M_ref01_Of.l0, if_pos (dlt (by dsimp only; omega))]
      dsimp only
      rw [inner i (by omega)]
      simp only [Option.bind_eq_bind, Option.bind_some]
      rw [w64_succ (by omega)]
      have := ih (i + 1) (by omega) (by omega)
      simp only [upTo] at this
      exact this
  unfold M_ref01_Of
  have h := outer 64 0 (by omega) (by omega)
  rw [show ((0 : Nat) : Int) = 0 from rfl, show upTo (fun j => l.any fun n => decide (n = (j : Int))) 0 = 0#64 from rfl] at h
  rw [h]
  simp only [Option.bind_eq_bind, Option.bind_some]
  congr 1
  apply BitVec.eq_of_getLsbD_eq
  intro j hj
  rw [upTo_lsb _ 64 (by omega), ofL_lsb l j hj]
  simp [hj]
end Go.Proofs.Ytakmilmckdllfaa.G
set_option linter.unusedVariables false
set_option linter.unusedSimpArgs false
set_option maxRecDepth 100000
namespace Go.Proofs.Ytakmilmckdllfaa.G
end Go.Proofs.Ytakmilmckdllfaa.G
set_option linter.unusedVariables false
set_option linter.unusedSimpArgs false
set_option maxRecDepth 100000
namespace Go.Proofs.Ytakmilmckdllfaa.G
end Go.Proofs.Ytakmilmckdllfaa.G
set_option linter.unusedVariables false
set_option linter.unusedSimpArgs false
set_option maxRecDepth 100000
namespace Go.Proofs.Ytakmilmckdllfaa.G
end Go.Proofs.Ytakmilmckdllfaa.G
set_option linter.unusedVariables false
set_option linter.unusedSimpArgs false
set_option maxRecDepth 100000
namespace Go.Proofs.Ytakmilmckdllfaa.G
end Go.Proofs.Ytakmilmckdllfaa.G
set_option linter.unusedVariables false
set_option linter.unusedSimpArgs false
set_option maxRecDepth 100000
namespace Go.Proofs.Ytakmilmckdllfaa.G
end Go.Proofs.Ytakmilmckdllfaa.G
set_option linter.unusedVariables false
set_option linter.unusedSimpArgs false
set_option maxRecDepth 100000
namespace Go.Proofs.Ytakmilmckdllfaa.G
end Go.Proofs.Ytakmilmckdllfaa.G
set_option linter.unusedVariables false
set_option linter.unusedSimpArgs false
set_option maxRecDepth 100000
namespace Go.Proofs.Ytakmilmckdllfaa.G
end Go.Proofs.Ytakmilmckdllfaa.G
set_option linter.unusedVariables false
set_option linter.unusedSimpArgs false
set_option maxRecDepth 100000
namespace Go.Proofs.Ytakmilmckdllfaa.G
end Go.Proofs.Ytakmilmckdllfaa.G
set_option linter.unusedVariables false
set_option linter.unusedSimpArgs false
namespace Go.Proofs.Ytakmilmckdllfaa.G

def most : Nat := 18446744073709551615
end Go.Proofs.Ytakmilmckdllfaa.G
set_option linter.unusedVariables false
set_option linter.unusedSimpArgs false
set_option maxRecDepth 100000
namespace Go.Proofs.Ytakmilmckdllfaa.G
theorem lok_23 : (Try.f23.body.isSome && !(Try.f23.name == "runtime.NumGoroutine") && okL (bodyF Try.f23) Try.f23.ntmps (bodyF Try.f23)) = true := by kernel_rfl
mutual
def M_ref06_Size.l0 (x : Int × Int × Int × T_api_Pred) : Option (Int) :=
  if (decide (x.2.2.1 < (x.2.2.2.Parts.length : Int))) = true then
    if (decide (x.2.1 < x.1)) = true then
      (getI x.2.2.2.Parts x.2.2.1) >>= fun (e3 : T_api_Pred) =>
      M_ref06_Size (e3, (w64 (x.1 - x.2.1))) >>= fun r5 =>
      M_ref06_Size.l0 (x.1, (w64 (x.2.1 + r5)), (w64 (x.2.2.1 + 1)), x.2.2.2)
    else
      some x.2.1
  else
    some x.2.1
  partial_fixpoint
def M_ref06_Size (x : T_api_Pred × Int) : Option (Int) :=
  M_ref06_Size.l0 (x.2, 1, 0, x.1) >>= fun (o7 : Int) =>
  some o7
  partial_fixpoint
end
theorem M_ref06_Size.l0.ws : (∀ (x : Int × Int × Int × T_api_Pred) (o : Int), M_ref06_Size.l0 x = some o → (fun (x : Int × Int × Int × T_api_Pred) (o : Int) => ∀ (lo : Option Nat) (c : LCtx) (Q : Exit → LEnv → Prop) (hb : ∀ s : Int, o = s → Q (.exit 0) ⟨[(5, .v (.i64 s))], []⟩), LLoop Try.prog 23 lo c 0 (VQ Q) ⟨[(1, .v (.i64 x.1)), (2, .lref 2 0), (5, .v (.i64 x.2.1)), (6, .v (.i64 x.2.2.1))], [(2, [.v (.i64 x.2.2.2.Kind), .v (.i64 x.2.2.2.Truth), .v (.i64 x.2.2.2.Op), .v (.i64 x.2.2.2.A.Kind), .v (.i64 x.2.2.2.A.Table), .v (.i64 x.2.2.2.A.Col), .v (.bool x.2.2.2.A.Value.Null), .v (.i64 x.2.2.2.A.Value.N), .v (.i64 x.2.2.2.B.Kind), .v (.i64 x.2.2.2.B.Table), .v (.i64 x.2.2.2.B.Col), .v (.bool x.2.2.2.B.Value.Null), .v (.i64 x.2.2.2.B.Value.N), .v (.slice .foreign (x.2.2.2.Parts.map T_api_Pred.av))])]⟩) x o) ∧ (∀ (x : T_api_Pred × Int) (o : Int), M_ref06_Size x = some o → (fun (x : T_api_Pred × Int) (r : Int) => Fn Try.prog 23 [.agg (T_api_Pred.C x.1), .i64 x.2] (.i64 r)) x o) := by
  refine M_ref06_Size.l0.mutual_partial_correctness _ _ ?_ ?_
  · intro M_M_ref06_Size_l0 M_M_ref06_Size ih_M_ref06_Size_l0 ih_M_ref06_Size x o h
    intro lo c Q hb
    refine LLoop.step mix fn_23 (by kernel_rfl) ?_
    simp -implicitDefEqProofs only [go_sem, Try.f23]
    by_cases h1 : (decide (x.2.2.1 < (x.2.2.2.Parts.length : Int))) = true
    · replace h := ite_some h h1
      try simp -implicitDefEqProofs only [go_sem, h1]
      by_cases h2 : (decide (x.2.1 < x.1)) = true
      · replace h := ite_some h h2
        try simp -implicitDefEqProofs only [go_sem, h1, h2]
        obtain ⟨e3, h4, h⟩ := bind_some' h; replace h4 := getI_some h4; obtain ⟨h4', h4⟩ := h4
        try simp -implicitDefEqProofs only [go_sem, h1, h2, h4, h4']
        obtain ⟨r5, h6, h⟩ := bind_some' h
        refine .plain _ _ rfl (ih_M_ref06_Size (e3, (w64 (x.1 - x.2.1))) _ h6) ?_
        try simp -implicitDefEqProofs only [go_sem, h1, h2, h4, h4']
        exact LLoop.view [] (by (first | rfl | simp -implicitDefEqProofs only [go_sem, h1, h2, h4, h4'] <;> rfl)) (ih_M_ref06_Size_l0 _ _ h lo c Q hb)
      · replace h := ite_none h h2; replace h2 := bfalse h2
        try simp -implicitDefEqProofs only [go_sem, h1, h2]
        injection h with h; subst h
        exact .inr ⟨[], _, by (simp -implicitDefEqProofs only [go_sem, h1, h2] <;> first | done | rfl | trivial), hb _ rfl⟩
    · replace h := ite_none h h1; replace h1 := bfalse h1
      try simp -implicitDefEqProofs only [go_sem, h1]
      injection h with h; subst h
      exact .inr ⟨[], _, by (simp -implicitDefEqProofs only [go_sem, h1] <;> first | done | rfl | trivial), hb _ rfl⟩
  · intro M_M_ref06_Size_l0 ih_M_ref06_Size_l0 x r h
    refine Fn.of_lc mix fn_23 lok_23 (by rfl) (flC (T_api_Pred.flatC _) (flC (.atom _) (flN))) (.atom _) ?_
    simp -implicitDefEqProofs only [go_sem, Try.f23]
    obtain ⟨o7, h8, h⟩ := bind_some' h
    refine LLoop.viewQ (LLoop.view [] (by (first | rfl | simp -implicitDefEqProofs only [go_sem] <;> rfl)) (ih_M_ref06_Size_l0 (x.2, 1, 0, x.1) _ h8 _ _ _ ?_))
    intro s' hs'; subst hs'
    try simp -implicitDefEqProofs only [go_sem]
    injection h with h; subst h
    first | rfl | simp -implicitDefEqProofs only [go_sem] <;> rfl
theorem M_ref06_Size.w : type_of% (M_ref06_Size.l0.ws.2) := M_ref06_Size.l0.ws.2
end Go.Proofs.Ytakmilmckdllfaa.G
set_option linter.unusedVariables false
set_option linter.unusedSimpArgs false
set_option maxRecDepth 100000
namespace Go.Proofs.Ytakmilmckdllfaa.G
theorem lok_43 : (Try.f43.body.isSome && !(Try.f43.name == "runtime.NumGoroutine") && okL (bodyF Try.f43) Try.f43.ntmps (bodyF Try.f43)) = true := by kernel_rfl
def M_ref10_Size.l0 (x : Int × Int × Int × T_api_Tree) : Option (Int) :=
  if (decide (x.2.2.1 < (x.2.2.2.Conj.length : Int))) = true then
    if (decide (x.2.1 < x.1)) = true then
      (getI x.2.2.2.Conj x.2.2.1) >>= fun (e3 : T_api_Pred) =>
      M_ref06_Size (e3, (w64 (x.1 - x.2.1))) >>= fun r5 =>
      M_ref10_Size.l0 (x.1, (w64 (x.2.1 + r5)), (w64 (x.2.2.1 + 1)), x.2.2.2)
    else
      some x.2.1
  else
    some x.2.1
  partial_fixpoint
theorem M_ref10_Size.l0.ws : (∀ (x : Int × Int × Int × T_api_Tree) (o : Int), M_ref10_Size.l0 x = some o → (fun (x : Int × Int × Int × T_api_Tree) (o : Int) => ∀ (lo : Option Nat) (c : LCtx) (Q : Exit → LEnv → Prop) (hb : ∀ s : Int, o = s → Q (.exit 0) ⟨[(1, .v (.i64 x.1)), (2, .lref 2 0), (5, .v (.i64 s))], [(2, [.v (.i64 x.2.2.2.Kind), .v (.i64 x.2.2.2.Table), .v (.slice .foreign (x.2.2.2.Kids.map T_api_Tree.av)), .v (.slice .foreign (x.2.2.2.Conj.map T_api_Pred.av)), .v (.bool x.2.2.2.Hash)])]⟩), LLoop Try.prog 43 lo c 0 (VQ Q) ⟨[(1, .v (.i64 x.1)), (2, .lref 2 0), (5, .v (.i64 x.2.1)), (6, .v (.i64 x.2.2.1))], [(2, [.v (.i64 x.2.2.2.Kind), .v (.i64 x.2.2.2.Table), .v (.slice .foreign (x.2.2.2.Kids.map T_api_Tree.av)), .v (.slice .foreign (x.2.2.2.Conj.map T_api_Pred.av)), .v (.bool x.2.2.2.Hash)])]⟩) x o) := by
  refine M_ref10_Size.l0.partial_correctness _ ?_
  · intro M_M_ref10_Size_l0 ih_M_ref10_Size_l0 x o h
    intro lo c Q hb
    refine LLoop.step mix fn_43 (by kernel_rfl) ?_
    simp -implicitDefEqProofs only [go_sem, Try.f43]
    by_cases h1 : (decide (x.2.2.1 < (x.2.2.2.Conj.length : Int))) = true
    · replace h := ite_some h h1
      try simp -implicitDefEqProofs only [go_sem, h1]
      by_cases h2 : (decide (x.2.1 < x.1)) = true
      · replace h := ite_some h h2
        try simp -implicitDefEqProofs only [go_sem, h1, h2]
        obtain ⟨e3, h4, h⟩ := bind_some' h; replace h4 := getI_some h4; obtain ⟨h4', h4⟩ := h4
        try simp -implicitDefEqProofs only [go_sem, h1, h2, h4, h4']
        obtain ⟨r5, h6, h⟩ := bind_some' h
        refine .plain _ _ rfl (M_ref06_Size.w (e3, (w64 (x.1 - x.2.1))) _ h6) ?_
        try simp -implicitDefEqProofs only [go_sem, h1, h2, h4, h4']
        exact LLoop.view [] (by (first | rfl | simp -implicitDefEqProofs only [go_sem, h1, h2, h4, h4'] <;> rfl)) (ih_M_ref10_Size_l0 _ _ h lo c Q hb)
      · replace h := ite_none h h2; replace h2 := bfalse h2
        try simp -implicitDefEqProofs only [go_sem, h1, h2]
        injection h with h; subst h
        exact .inr ⟨[], _, by (simp -implicitDefEqProofs only [go_sem, h1, h2] <;> first | done | rfl | trivial), hb _ rfl⟩
    · replace h := ite_none h h1; replace h1 := bfalse h1
      try simp -implicitDefEqProofs only [go_sem, h1]
      injection h with h; subst h
      exact .inr ⟨[], _, by (simp -implicitDefEqProofs only [go_sem, h1] <;> first | done | rfl | trivial), hb _ rfl⟩
theorem M_ref10_Size.l0.w : type_of% (@M_ref10_Size.l0.ws) := @M_ref10_Size.l0.ws
mutual
def M_ref10_Size.l1 (x : Int × Int × Int × T_api_Tree) : Option (Int) :=
  if (decide (x.2.2.1 < (x.2.2.2.Kids.length : Int))) = true then
    if (decide (x.2.1 < x.1)) = true then
      (getI x.2.2.2.Kids x.2.2.1) >>= fun (e11 : T_api_Tree) =>
      M_ref10_Size (e11, (w64 (x.1 - x.2.1))) >>= fun r13 =>
      M_ref10_Size.l1 (x.1, (w64 (x.2.1 + r13)), (w64 (x.2.2.1 + 1)), x.2.2.2)
    else
      some x.2.1
  else
    some x.2.1
  partial_fixpoint
def M_ref10_Size (x : T_api_Tree × Int) : Option (Int) :=
  M_ref10_Size.l0 (x.2, 1, 0, x.1) >>= fun (o7 : Int) =>
  M_ref10_Size.l1 (x.2, o7, 0, x.1) >>= fun (o15 : Int) =>
  some o15
  partial_fixpoint
end
theorem M_ref10_Size.l1.ws : (∀ (x : Int × Int × Int × T_api_Tree) (o : Int), M_ref10_Size.l1 x = some o → (fun (x : Int × Int × Int × T_api_Tree) (o : Int) => ∀ (lo : Option Nat) (c : LCtx) (Q : Exit → LEnv → Prop) (hb : ∀ s : Int, o = s → Q (.exit 2) ⟨[(5, .v (.i64 s))], []⟩), LLoop Try.prog 43 lo c 1 (VQ Q) ⟨[(1, .v (.i64 x.1)), (2, .lref 2 0), (5, .v (.i64 x.2.1)), (7, .v (.i64 x.2.2.1))], [(2, [.v (.i64 x.2.2.2.Kind), .v (.i64 x.2.2.2.Table), .v (.slice .foreign (x.2.2.2.Kids.map T_api_Tree.av)), .v (.slice .foreign (x.2.2.2.Conj.map T_api_Pred.av)), .v (.bool x.2.2.2.Hash)])]⟩) x o) ∧ (∀ (x : T_api_Tree × Int) (o : Int), M_ref10_Size x = some o → (fun (x : T_api_Tree × Int) (r : Int) => Fn Try.prog 43 [.agg (T_api_Tree.C x.1), .i64 x.2] (.i64 r)) x o) := by
  refine M_ref10_Size.l1.mutual_partial_correctness _ _ ?_ ?_
  · intro M_M_ref10_Size_l1 M_M_ref10_Size ih_M_ref10_Size_l1 ih_M_ref10_Size x o h
    intro lo c Q hb
    refine LLoop.step mix fn_43 (by kernel_rfl) ?_
    simp -implicitDefEqProofs only [go_sem, Try.f43]
    by_cases h9 : (decide (x.2.2.1 < (x.2.2.2.Kids.length : Int))) = true
    · replace h := ite_some h h9
      try simp -implicitDefEqProofs only [go_sem, h9]
      by_cases h10 : (decide (x.2.1 < x.1)) = true
      · replace h := ite_some h h10
        try simp -implicitDefEqProofs only [go_sem, h9, h10]
        obtain ⟨e11, h12, h⟩ := bind_some' h; replace h12 := getI_some h12; obtain ⟨h12', h12⟩ := h12
        try simp -implicitDefEqProofs only [go_sem, h9, h10, h12, h12']
        obtain ⟨r13, h14, h⟩ := bind_some' h
        refine .plain _ _ rfl (ih_M_ref10_Size (e11, (w64 (x.1 - x.2.1))) _ h14) ?_
        try simp -implicitDefEqProofs only [go_sem, h9, h10, h12, h12']
        exact LLoop.view [] (by (first | rfl | simp -implicitDefEqProofs only [go_sem, h9, h10, h12, h12'] <;> rfl)) (ih_M_ref10_Size_l1 _ _ h lo c Q hb)
      · replace h := ite_none h h10; replace h10 := bfalse h10
        try simp -implicitDefEqProofs only [go_sem, h9, h10]
        injection h with h; subst h
        exact .inr ⟨[], _, by (simp -implicitDefEqProofs only [go_sem, h9, h10] <;> first | done | rfl | trivial), hb _ rfl⟩
    · replace h := ite_none h h9; replace h9 := bfalse h9
      try simp -implicitDefEqProofs only [go_sem, h9]
      injection h with h; subst h
      exact .inr ⟨[], _, by (simp -implicitDefEqProofs only [go_sem, h9] <;> first | done | rfl | trivial), hb _ rfl⟩
  · intro M_M_ref10_Size_l1 ih_M_ref10_Size_l1 x r h
    refine Fn.of_lc mix fn_43 lok_43 (by rfl) (flC (T_api_Tree.flatC _) (flC (.atom _) (flN))) (.atom _) ?_
    simp -implicitDefEqProofs only [go_sem, Try.f43]
    obtain ⟨o7, h8, h⟩ := bind_some' h
    refine LLoop.viewQ (LLoop.view [] (by (first | rfl | simp -implicitDefEqProofs only [go_sem] <;> rfl)) (M_ref10_Size.l0.w (x.2, 1, 0, x.1) _ h8 _ _ _ ?_))
    intro s' hs'; subst hs'
    try simp -implicitDefEqProofs only [go_sem]
    obtain ⟨o15, h16, h⟩ := bind_some' h
    refine LLoop.viewQ (LLoop.view [] (by (first | rfl | simp -implicitDefEqProofs only [go_sem] <;> rfl)) (ih_M_ref10_Size_l1 (x.2, o7, 0, x.1) _ h16 _ _ _ ?_))
    intro s' hs'; subst hs'
    try simp -implicitDefEqProofs only [go_sem]
    injection h with h; subst h
    first | rfl | simp -implicitDefEqProofs only [go_sem] <;> rfl
theorem M_ref10_Size.w : type_of% (M_ref10_Size.l1.ws.2) := M_ref10_Size.l1.ws.2
end Go.Proofs.Ytakmilmckdllfaa.G
set_option linter.unusedVariables false
set_option linter.unusedSimpArgs false
set_option maxRecDepth 100000
namespace Go.Proofs.Ytakmilmckdllfaa.G
theorem lok_83 : (Try.f83.body.isSome && !(Try.f83.name == "runtime.NumGoroutine") && okL (bodyF Try.f83) Try.f83.ntmps (bodyF Try.f83)) = true := by kernel_rfl
mutual
def M_ref10_All.l0 (x : List T_api_Tree × Int × T_api_Tree) : Option (List T_api_Tree) :=
  if (decide (x.2.1 < (x.2.2.Kids.length : Int))) = true then
    (getI x.2.2.Kids x.2.1) >>= fun (e2 : T_api_Tree) =>
    M_ref10_All e2 >>= fun r4 =>
    (room 72 x.1 r4) >>= fun (z6 : List T_api_Tree) =>
    M_ref10_All.l0 (z6, (w64 (x.2.1 + 1)), x.2.2)
  else
    some x.1
  partial_fixpoint
def M_ref10_All (x : T_api_Tree) : Option (List T_api_Tree) :=
  M_ref10_All.l0 (([] : List T_api_Tree), 0, x) >>= fun (o8 : List T_api_Tree) =>
  (room 72 o8 ([x])) >>= fun (z10 : List T_api_Tree) =>
  some z10
  partial_fixpoint
end
theorem M_ref10_All.l0.ws : (∀ (x : List T_api_Tree × Int × T_api_Tree) (o : List T_api_Tree), M_ref10_All.l0 x = some o → (fun (x : List T_api_Tree × Int × T_api_Tree) (o : List T_api_Tree) => ∀ (lo : Option Nat) (c : LCtx) (Q : Exit → LEnv → Prop) (hb : ∀ s : List T_api_Tree, o = s → Q (.exit 0) ⟨[(1, .lref 1 0), (3, .own 100300 5 (s.map T_api_Tree.av))], [(1, [.v (.i64 x.2.2.Kind), .v (.i64 x.2.2.Table), .v (.slice .foreign (x.2.2.Kids.map T_api_Tree.av)), .v (.slice .foreign (x.2.2.Conj.map T_api_Pred.av)), .v (.bool x.2.2.Hash)])]⟩), LLoop Try.prog 83 lo c 0 (VQ Q) ⟨[(1, .lref 1 0), (3, .own 100300 5 (x.1.map T_api_Tree.av)), (4, .v (.i64 x.2.1))], [(1, [.v (.i64 x.2.2.Kind), .v (.i64 x.2.2.Table), .v (.slice .foreign (x.2.2.Kids.map T_api_Tree.av)), .v (.slice .foreign (x.2.2.Conj.map T_api_Pred.av)), .v (.bool x.2.2.Hash)])]⟩) x o) ∧ (∀ (x : T_api_Tree) (o : List T_api_Tree), M_ref10_All x = some o → (fun (x : T_api_Tree) (r : List T_api_Tree) => Fn Try.prog 83 [.agg (T_api_Tree.C x)] (.slice .foreign (r.map T_api_Tree.av))) x o) := by
  refine M_ref10_All.l0.mutual_partial_correctness _ _ ?_ ?_
  · intro M_M_ref10_All_l0 M_M_ref10_All ih_M_ref10_All_l0 ih_M_ref10_All x o h
    intro lo c Q hb
    refine LLoop.step mix fn_83 (by kernel_rfl) ?_
    simp -implicitDefEqProofs only [go_sem, Try.f83]
    by_cases h1 : (decide (x.2.1 < (x.2.2.Kids.length : Int))) = true
    · replace h := ite_some h h1
      try simp -implicitDefEqProofs only [go_sem, h1]
      obtain ⟨e2, h3, h⟩ := bind_some' h; replace h3 := getI_some h3; obtain ⟨h3', h3⟩ := h3
      try simp -implicitDefEqProofs only [go_sem, h1, h3, h3']
      obtain ⟨r4, h5, h⟩ := bind_some' h
      refine .plain _ _ rfl (ih_M_ref10_All e2 _ h5) ?_
      try simp -implicitDefEqProofs only [go_sem, h1, h3, h3']
      obtain ⟨z6, h7, h⟩ := bind_some' h; replace h7 := room_some h7; obtain ⟨h7', rfl⟩ := h7
      refine LApp.map (F := T_api_Tree.av) (xs := x.1) (ys := r4) t53_elem t55_size t55_bytes t55_zsize rfl T_api_Tree.len (by (first | rfl | simp -implicitDefEqProofs only [go_sem, h1, h3, h3'] <;> rfl)) (by (first | rfl | simp -implicitDefEqProofs only [go_sem, h1, h3, h3'] <;> rfl)) h7' ?_
      try simp -implicitDefEqProofs only [go_sem, h1, h3, h3']
      exact LLoop.view [(100300, some 20)] (by (first | rfl | simp -implicitDefEqProofs only [go_sem, h1, h3, h3'] <;> rfl)) (ih_M_ref10_All_l0 _ _ h lo c Q hb)
    · replace h := ite_none h h1; replace h1 := bfalse h1
      try simp -implicitDefEqProofs only [go_sem, h1]
      injection h with h; subst h
      exact .inr ⟨[(100300, some 100300)], _, by (simp -implicitDefEqProofs only [go_sem, h1] <;> first | done | rfl | trivial), hb _ rfl⟩
  · intro M_M_ref10_All_l0 ih_M_ref10_All_l0 x r h
    refine Fn.of_lc mix fn_83 lok_83 (by rfl) (flC (T_api_Tree.flatC _) (flN)) (flat_slice _ T_api_Tree.flat _) ?_
    simp -implicitDefEqProofs only [go_sem, Try.f83]
    obtain ⟨o8, h9, h⟩ := bind_some' h
    refine LLoop.viewQ (LLoop.view [(100300, none)] (by (first | rfl | simp -implicitDefEqProofs only [go_sem] <;> rfl)) (ih_M_ref10_All_l0 (([] : List T_api_Tree), 0, x) _ h9 _ _ _ ?_))
    intro s' hs'; subst hs'
    try simp -implicitDefEqProofs only [go_sem]
    obtain ⟨z10, h11, h⟩ := bind_some' h; replace h11 := room_some h11; obtain ⟨h11', rfl⟩ := h11
    refine LApp.map (F := T_api_Tree.av) (xs := o8) (ys := [x]) t53_elem t55_size t55_bytes t55_zsize rfl T_api_Tree.len (by (first | rfl | simp -implicitDefEqProofs only [go_sem] <;> rfl)) (by (first | rfl | simp -implicitDefEqProofs only [go_sem] <;> rfl)) h11' ?_
    try simp -implicitDefEqProofs only [go_sem]
    injection h with h; subst h
    first | rfl | simp -implicitDefEqProofs only [go_sem] <;> rfl
theorem M_ref10_All.w : type_of% (M_ref10_All.l0.ws.2) := M_ref10_All.l0.ws.2
end Go.Proofs.Ytakmilmckdllfaa.G
set_option linter.unusedVariables false
set_option linter.unusedSimpArgs false
set_option maxRecDepth 100000
namespace Go.Proofs.Ytakmilmckdllfaa.G
theorem lok_54 : (Try.f54.body.isSome && !(Try.f54.name == "runtime.NumGoroutine") && okL (bodyF Try.f54) Try.f54.ntmps (bodyF Try.f54)) = true := by kernel_rfl
def M_ref10_Tables.l0 (x : List Int × List T_api_Tree × Int) : Option (List Int) :=
  if (decide (x.2.2 < (x.2.1.length : Int))) = true then
    (getI x.2.1 x.2.2) >>= fun (e4 : T_api_Tree) =>
    if (e4.Kind == 0) = true then
      (room 8 x.1 ([e4.Table])) >>= fun (z7 : List Int) =>
      M_ref10_Tables.l0 (z7, x.2.1, (w64 (x.2.2 + 1)))
    else
      M_ref10_Tables.l0 (x.1, x.2.1, (w64 (x.2.2 + 1)))
  else
    some x.1
  partial_fixpoint
theorem M_ref10_Tables.l0.ws : (∀ (x : List Int × List T_api_Tree × Int) (o : List Int), M_ref10_Tables.l0 x = some o → (fun (x : List Int × List T_api_Tree × Int) (o : List Int) => ∀ (lo : Option Nat) (c : LCtx) (Q : Exit → LEnv → Prop) (hb : ∀ s : List Int, o = s → Q (.exit 0) ⟨[(3, .own 100300 1 (s.map AV.i64))], []⟩), LLoop Try.prog 54 lo c 0 (VQ Q) ⟨[(3, .own 100300 1 (x.1.map AV.i64)), (4, .v (.slice .foreign (x.2.1.map T_api_Tree.av))), (5, .v (.i64 x.2.2))], []⟩) x o) := by
  refine M_ref10_Tables.l0.partial_correctness _ ?_
  · intro M_M_ref10_Tables_l0 ih_M_ref10_Tables_l0 x o h
    intro lo c Q hb
    refine LLoop.step mix fn_54 (by kernel_rfl) ?_
    simp -implicitDefEqProofs only [go_sem, Try.f54]
    by_cases h3 : (decide (x.2.2 < (x.2.1.length : Int))) = true
    · replace h := ite_some h h3
      try simp -implicitDefEqProofs only [go_sem, h3]
      obtain ⟨e4, h5, h⟩ := bind_some' h; replace h5 := getI_some h5; obtain ⟨h5', h5⟩ := h5
      try simp -implicitDefEqProofs only [go_sem, h3, h5, h5']
      by_cases h6 : (e4.Kind == 0) = true
      · replace h := ite_some h h6
        try simp -implicitDefEqProofs only [go_sem, h3, h5, h5', h6]
        obtain ⟨z7, h8, h⟩ := bind_some' h; replace h8 := room_some h8; obtain ⟨h8', rfl⟩ := h8
        refine LApp.map (F := AV.i64) (xs := x.1) (ys := [e4.Table]) t22_elem t3_size t3_bytes t3_zsize rfl (fun _ => rfl) (by (first | rfl | simp -implicitDefEqProofs only [go_sem, h3, h5, h5', h6] <;> rfl)) (by (first | rfl | simp -implicitDefEqProofs only [go_sem, h3, h5, h5', h6] <;> rfl)) h8' ?_
        try simp -implicitDefEqProofs only [go_sem, h3, h5, h5', h6]
        exact LLoop.view [(100300, some 28)] (by (first | rfl | simp -implicitDefEqProofs only [go_sem, h3, h5, h5', h6] <;> rfl)) (ih_M_ref10_Tables_l0 _ _ h lo c Q hb)
      · replace h := ite_none h h6; replace h6 := bfalse h6
        try simp -implicitDefEqProofs only [go_sem, h3, h5, h5', h6]
        exact LLoop.view [(100300, some 100300)] (by (first | rfl | simp -implicitDefEqProofs only [go_sem, h3, h5, h5', h6] <;> rfl)) (ih_M_ref10_Tables_l0 _ _ h lo c Q hb)
    · replace h := ite_none h h3; replace h3 := bfalse h3
      try simp -implicitDefEqProofs only [go_sem, h3]
      injection h with h; subst h
      exact .inr ⟨[(100300, some 100300)], _, by (simp -implicitDefEqProofs only [go_sem, h3] <;> first | done | rfl | trivial), hb _ rfl⟩
theorem M_ref10_Tables.l0.w : type_of% (@M_ref10_Tables.l0.ws) := @M_ref10_Tables.l0.ws
def M_ref10_Tables (x : T_api_Tree) : Option (Set64) :=
  M_ref10_All x >>= fun r1 =>
  M_ref10_Tables.l0 (([] : List Int), r1, 0) >>= fun (o9 : List Int) =>
  M_ref01_Of o9 >>= fun r11 =>
  some r11
theorem M_ref10_Tables.w : ∀ (x : T_api_Tree) (r : Set64), M_ref10_Tables x = some r → (fun (x : T_api_Tree) (r : Set64) => Fn Try.prog 54 [.agg (T_api_Tree.C x)] (.w r)) x r := by
  intro x r h
  rw [M_ref10_Tables] at h
  try dsimp only
  refine Fn.of_lc mix fn_54 lok_54 (by rfl) (flC (T_api_Tree.flatC _) (flN)) (.atom _) ?_
  simp -implicitDefEqProofs only [go_sem, Try.f54]
  obtain ⟨r1, h2, h⟩ := bind_some' h
  refine .plain _ _ rfl (M_ref10_All.w x _ h2) ?_
  try simp -implicitDefEqProofs only [go_sem]
  obtain ⟨o9, h10, h⟩ := bind_some' h
  refine LLoop.viewQ (LLoop.view [(100300, none)] (by (first | rfl | simp -implicitDefEqProofs only [go_sem] <;> rfl)) (M_ref10_Tables.l0.w (([] : List Int), r1, 0) _ h10 _ _ _ ?_))
  intro s' hs'; subst hs'
  try simp -implicitDefEqProofs only [go_sem]
  obtain ⟨r11, h12, h⟩ := bind_some' h
  refine .plain _ _ rfl (M_ref01_Of.w o9 _ h12) ?_
  try simp -implicitDefEqProofs only [go_sem]
  injection h with h; subst h
  first | rfl | simp -implicitDefEqProofs only [go_sem] <;> rfl
end Go.Proofs.Ytakmilmckdllfaa.G
set_option linter.unusedVariables false
set_option linter.unusedSimpArgs false
set_option maxRecDepth 100000
namespace Go.Proofs.Ytakmilmckdllfaa.G
@[go_sem] theorem lrp_113_5 : lrp Try.prog 113 5 = (6, []) := by kernel_rfl
theorem lok_113 : (Try.f113.body.isSome && !(Try.f113.name == "runtime.NumGoroutine") && okL (bodyF Try.f113) Try.f113.ntmps (bodyF Try.f113)) = true := by kernel_rfl
def M_tree_Tables.r0 (x : List T_api_Tree × Set64) : Option (Set64) :=
  match x.1 with
  | [] => some x.2
  | e3 :: l4 =>
    if (e3.Kind == 0) = true then
      M_sets_Of ([e3.Table]) >>= fun r6 =>
      M_tree_Tables.r0 (l4, (x.2 ||| r6))
    else
      M_tree_Tables.r0 (l4, x.2)
  partial_fixpoint
theorem M_tree_Tables.r0.ws : (∀ (x : List T_api_Tree × Set64) (o : Set64), M_tree_Tables.r0 x = some o → (fun (x : List T_api_Tree × Set64) (o : Set64) => ∀ (Fin : Exit → List (Nat × List CV) → Prop) (hb : ∀ (s : Set64), o = s → Fin .normal [(2100003, [.v (.w s)])]), RRun Try.prog 113 Try.f113 0 1 #[7] [(3, .lref 2100003 0)] Fin (x.1.map (fun (y : T_api_Tree) => [.agg (T_api_Tree.C y)])) [(2100003, [.v (.w x.2)])]) x o) := by
  refine M_tree_Tables.r0.partial_correctness _ ?_
  · intro M_M_tree_Tables_r0 ih_M_tree_Tables_r0 x o h
    intro Fin hb
    generalize hx1 : x.1 = ys at h ⊢
    cases ys with
    | nil => injection h with h; subst h; exact RRun.nil (hb _ rfl)
    | cons e3 l4 =>
      refine RRun.cons rfl fun l0 c1 hlo1 => ?_
      dsimp only at h
      simp -implicitDefEqProofs only [go_sem, Try.f113]
      refine RMid.mk (by rfl) fun c2 hlo2 => ?_
      simp -implicitDefEqProofs only [go_sem, Try.f113]
      by_cases h5 : (e3.Kind == 0) = true
      · replace h := ite_some h h5
        try simp -implicitDefEqProofs only [go_sem, h5]
        obtain ⟨r6, h7, h⟩ := bind_some' h
        have hw := M_sets_Of.w ([e3.Table]) _ h7
        simp -implicitDefEqProofs only [go_sem] at hw
        refine .plain _ _ rfl hw ?_
        clear hw
        try simp -implicitDefEqProofs only [go_sem, h5]
        exact REnd.next [] (by rfl) (by (first | rfl | simp -implicitDefEqProofs only [go_sem, h5] <;> rfl)) (by rfl) (ih_M_tree_Tables_r0 (l4, (x.2 ||| r6)) _ h Fin hb)
      · replace h := ite_none h h5; replace h5 := bfalse h5
        try simp -implicitDefEqProofs only [go_sem, h5]
        exact REnd.next [] (by rfl) (by (first | rfl | simp -implicitDefEqProofs only [go_sem, h5] <;> rfl)) (by rfl) (ih_M_tree_Tables_r0 (l4, x.2) _ h Fin hb)
theorem M_tree_Tables.r0.w : type_of% (@M_tree_Tables.r0.ws) := @M_tree_Tables.r0.ws
def M_tree_Tables (x : T_api_Tree) : Option (Set64) :=
  M_tree_Walk x >>= fun l1 =>
  M_tree_Tables.r0 (l1, 0#64) >>= fun (s10 : Set64) =>
  some s10
theorem M_tree_Tables.w : ∀ (x : T_api_Tree) (r : Set64), M_tree_Tables x = some r → (fun (x : T_api_Tree) (r : Set64) => Fn Try.prog 113 [.agg (T_api_Tree.C x)] (.w r)) x r := by
  intro x r h
  rw [M_tree_Tables] at h
  try dsimp only
  refine Fn.of_lc mix fn_113 lok_113 (by rfl) (flC (T_api_Tree.flatC _) (flN)) (.atom _) ?_
  simp -implicitDefEqProofs only [go_sem, Try.f113]
  obtain ⟨l1, h2, h⟩ := bind_some' h
  refine .iter _ _ rfl (M_tree_Walk.w x _ h2) ?_
  try simp -implicitDefEqProofs only [go_sem]
  obtain ⟨s10, h9, h⟩ := bind_some' h
  refine LRange.iter mix fn_113 (LoOk.none _) (by kernel_rfl) (by kernel_rfl) (by rfl) rfl [] [(2100003, 3)] (by rfl) (by rfl) (by (first | rfl | simp -implicitDefEqProofs only [go_sem] <;> rfl)) (by (first | rfl | simp -implicitDefEqProofs only [go_sem] <;> rfl)) (M_tree_Tables.r0.w (l1, 0#64) _ h9 _ ?_)
  intro s0 hs'; subst hs'
  try simp -implicitDefEqProofs only [go_sem]
  injection h with h; subst h
  first | rfl | simp -implicitDefEqProofs only [go_sem] <;> rfl
end Go.Proofs.Ytakmilmckdllfaa.G
set_option linter.unusedVariables false
set_option linter.unusedSimpArgs false
namespace Go.Proofs.Ytakmilmckdllfaa.G

def T_api_Pred.size : T_api_Pred → Nat
  | ⟨a, b, c, d, e, ps⟩ => 1 + sizeL ps
where sizeL : List T_api_Pred → Nat
  | [] => 0
  | x :: l => x.size + sizeL l
theorem predSizeL (l : List T_api_Pred) : T_api_Pred.size.sizeL l = (l.map T_api_Pred.size).sum := by
  induction l with
  | nil => simp only [T_api_Pred.size.sizeL, List.map_nil, List.sum_nil]
  | cons x l ih => simp only [T_api_Pred.size.sizeL, List.map_cons, List.sum_cons, ih]
theorem psize_eq (x : T_api_Pred) : x.size = 1 + (x.Parts.map T_api_Pred.size).sum := by
  obtain ⟨a, b, c, d, e, ps⟩ := x
  simp only [T_api_Pred.size, predSizeL]
def T_api_Tree.size : T_api_Tree → Nat
  | ⟨a, b, ks, c, d⟩ => 1 + (c.map T_api_Pred.size).sum + sizeL ks
where sizeL : List T_api_Tree → Nat
  | [] => 0
  | x :: l => x.size + sizeL l
theorem treeSizeL (l : List T_api_Tree) : T_api_Tree.size.sizeL l = (l.map T_api_Tree.size).sum := by
  induction l with
  | nil => simp only [T_api_Tree.size.sizeL, List.map_nil, List.sum_nil]
  | cons x l ih => simp only [T_api_Tree.size.sizeL, List.map_cons, List.sum_cons, ih]
theorem tsize_eq (x : T_api_Tree) : x.size = 1 + (x.Conj.map T_api_Pred.size).sum + (x.Kids.map T_api_Tree.size).sum := by
  obtain ⟨a, b, ks, c, d⟩ := x
  simp only [T_api_Tree.size, treeSizeL]
theorem psize_pos (x : T_api_Pred) : 1 ≤ x.size := by rw [psize_eq]; omega
theorem tsize_pos (x : T_api_Tree) : 1 ≤ x.size := by rw [tsize_eq]; omega
theorem sum_mem {α : Type} (f : α → Nat) : ∀ {l : List α} {x : α}, x ∈ l → f x ≤ (l.map f).sum := by
  intro l
  induction l with
  | nil => intro x h; cases h
  | cons y l ih =>
    intro x h
    simp only [List.map_cons, List.sum_cons]
    rcases List.mem_cons.1 h with rfl | h
    · omega
    · have := ih h; omega
theorem len_sum {α : Type} (f : α → Nat) (h1 : ∀ x, 1 ≤ f x) : ∀ (l : List α), l.length ≤ (l.map f).sum := by
  intro l
  induction l with
  | nil => simp
  | cons y l ih => simp only [List.map_cons, List.sum_cons, List.length_cons]; have := h1 y; omega
theorem ref06_Size_eq (p : T_api_Pred) : ∀ k : Nat, 1 ≤ k → k < 9223372036854775808 → M_ref06_Size (p, (k : Int)) = some ((min p.size k : Nat) : Int) := by
  induction p using T_api_Pred.induct with
  | h p ih =>
    intro k hk1 hk2
    have key := loop_inv p.Parts (fun i n => 1 ≤ n ∧ n ≤ k ∧ i < n) (fun i (n : Nat) => M_ref06_Size.l0 ((k : Int), (n : Int), (i : Int), p)) (fun n l => some ((min (n + (l.map T_api_Pred.size).sum) k : Nat) : Int))
      (fun n hn => by
        show M_ref06_Size.l0 _ = _
        rw [M_ref06_Size.l0, if_neg (dge (by dsimp only; omega))]
        simp only [List.map_nil, List.sum_nil, Nat.add_zero]
        rw [Nat.min_eq_left hn.2.1])
      (fun i n h hn ih2 => by
        show M_ref06_Size.l0 _ = _
        rw [M_ref06_Size.l0, if_pos (dlt (by dsimp only; omega))]
        dsimp only
        by_cases h1 : n < k
        · rw [if_pos (dlt (by omega)), getI_nat h]
          have e1 : w64 ((k : Int) - (n : Int)) = ((k - n : Nat) : Int) := by rw [w64_of (by omega) (by omega)]; omega
          simp only [Option.bind_eq_bind, Option.bind_some]
          rw [e1, ih _ (List.getElem_mem h) (k - n) (by omega) (by omega)]
          simp only [Option.bind_some]
          have hp := psize_pos p.Parts[i]
          have e2 : w64 ((n : Int) + ((min p.Parts[i].size (k - n) : Nat) : Int)) = ((min (n + p.Parts[i].size) k : Nat) : Int) := by rw [w64_of (by omega) (by omega)]; omega
          rw [e2, w64_succ (by omega)]
          have := ih2 (min (n + p.Parts[i].size) k) (by omega)
          try dsimp only at this
          rw [this]
          simp only [List.map_cons, List.sum_cons]
          congr 2; omega
        · rw [if_neg (dge (by omega))]
          congr 2; omega) 0 1 (Nat.zero_le _) (by omega)
    rw [M_ref06_Size]
    rw [List.drop_zero] at key
    have key' : M_ref06_Size.l0 ((k : Int), 1, 0, p) = _ := key
    dsimp only
    rw [key', psize_eq]; rfl
theorem ref10_Size_eq (t : T_api_Tree) : ∀ k : Nat, 1 ≤ k → k < 9223372036854775808 → M_ref10_Size (t, (k : Int)) = some ((min t.size k : Nat) : Int) := by
  induction t using T_api_Tree.induct with
  | h t ih =>
    intro k hk1 hk2
    have key := loop_inv t.Conj (fun i n => 1 ≤ n ∧ n ≤ k ∧ i < n) (fun i (n : Nat) => M_ref10_Size.l0 ((k : Int), (n : Int), (i : Int), t)) (fun n l => some ((min (n + (l.map T_api_Pred.size).sum) k : Nat) : Int))
      (fun n hn => by
        show M_ref10_Size.l0 _ = _
        rw [M_ref10_Size.l0, if_neg (dge (by dsimp only; omega))]
        simp only [List.map_nil, List.sum_nil, Nat.add_zero]
        rw [Nat.min_eq_left hn.2.1])
      (fun i n h hn ih2 => by
        show M_ref10_Size.l0 _ = _
        rw [M_ref10_Size.l0, if_pos (dlt (by dsimp only; omega))]
        dsimp only
        by_cases h1 : n < k
        · rw [if_pos (dlt (by omega)), getI_nat h]
          have e1 : w64 ((k : Int) - (n : Int)) = ((k - n : Nat) : Int) := by rw [w64_of (by omega) (by omega)]; omega
          simp only [Option.bind_eq_bind, Option.bind_some]
          rw [e1, ref06_Size_eq _ (k - n) (by omega) (by omega)]
          simp only [Option.bind_some]
          have hp := psize_pos t.Conj[i]
          have e2 : w64 ((n : Int) + ((min t.Conj[i].size (k - n) : Nat) : Int)) = ((min (n + t.Conj[i].size) k : Nat) : Int) := by rw [w64_of (by omega) (by omega)]; omega
          rw [e2, w64_succ (by omega)]
          have := ih2 (min (n + t.Conj[i].size) k) (by omega)
          try dsimp only at this
          rw [this]
          simp only [List.map_cons, List.sum_cons]
          congr 2; omega
        · rw [if_neg (dge (by omega))]
          congr 2; omega) 0 1 (Nat.zero_le _) (by omega)
    have key2 := fun n0 (h0 : 1 ≤ n0 ∧ n0 ≤ k) => loop_inv t.Kids (fun i n => 1 ≤ n ∧ n ≤ k ∧ i < n) (fun i (n : Nat) => M_ref10_Size.l1 ((k : Int), (n : Int), (i : Int), t)) (fun n l => some ((min (n + (l.map T_api_Tree.size).sum) k : Nat) : Int))
      (fun n hn => by
        show M_ref10_Size.l1 _ = _
        rw [M_ref10_Size.l1, if_neg (dge (by dsimp only; omega))]
        simp only [List.map_nil, List.sum_nil, Nat.add_zero]
        rw [Nat.min_eq_left hn.2.1])
      (fun i n h hn ih2 => by
        show M_ref10_Size.l1 _ = _
        rw [M_ref10_Size.l1, if_pos (dlt (by dsimp only; omega))]
        dsimp only
        by_cases h1 : n < k
        · rw [if_pos (dlt (by omega)), getI_nat h]
          have e1 : w64 ((k : Int) - (n : Int)) = ((k - n : Nat) : Int) := by rw [w64_of (by omega) (by omega)]; omega
          simp only [Option.bind_eq_bind, Option.bind_some]
          rw [e1, ih _ (List.getElem_mem h) (k - n) (by omega) (by omega)]
          simp only [Option.bind_some]
          have hp := tsize_pos t.Kids[i]
          have e2 : w64 ((n : Int) + ((min t.Kids[i].size (k - n) : Nat) : Int)) = ((min (n + t.Kids[i].size) k : Nat) : Int) := by rw [w64_of (by omega) (by omega)]; omega
          rw [e2, w64_succ (by omega)]
          have := ih2 (min (n + t.Kids[i].size) k) (by omega)
          try dsimp only at this
          rw [this]
          simp only [List.map_cons, List.sum_cons]
          congr 2; omega
        · rw [if_neg (dge (by omega))]
          congr 2; omega) 0 n0 (Nat.zero_le _) (by omega)
    rw [M_ref10_Size]
    rw [List.drop_zero] at key
    have key' : M_ref10_Size.l0 ((k : Int), 1, 0, t) = _ := key
    dsimp only
    rw [key']
    simp only [Option.bind_eq_bind, Option.bind_some]
    have k2 := key2 (min (1 + (t.Conj.map T_api_Pred.size).sum) k) (by omega)
    rw [List.drop_zero] at k2
    have k3 : M_ref10_Size.l1 ((k : Int), ((min (1 + (t.Conj.map T_api_Pred.size).sum) k : Nat) : Int), 0, t) = _ := k2
    rw [k3, tsize_eq]
    simp only [Option.bind_some]
    congr 2; omega

/- Tables. -/
theorem tour_self (t : T_api_Tree) : t ∈ t.tour := by rw [tour_eq]; simp
theorem tour_kid {t y : T_api_Tree} (h : y ∈ t.Kids) : ∀ z ∈ y.tour, z ∈ t.tour := by
  intro z hz
  rw [tour_eq, List.mem_append]
  exact .inl (List.mem_flatMap.2 ⟨y, h, hz⟩)
theorem kid_size {t y : T_api_Tree} (h : y ∈ t.Kids) : y.size < t.size := by
  have := sum_mem T_api_Tree.size h
  rw [tsize_eq t]; omega
theorem tour_size (t : T_api_Tree) : ∀ y ∈ t.tour, y.size ≤ t.size := by
  induction t using T_api_Tree.induct with
  | h t ih =>
    intro y hy
    rw [tour_eq, List.mem_append] at hy
    rcases hy with hy | hy
    · obtain ⟨k, hk, hy⟩ := List.mem_flatMap.1 hy
      have := ih k hk y hy
      have := kid_size hk
      omega
    · simp at hy; subst hy; exact Nat.le_refl _
theorem kids_len (t : T_api_Tree) : t.Kids.length < t.size := by
  have := len_sum T_api_Tree.size tsize_pos t.Kids
  rw [tsize_eq]; omega
theorem conj_len (t : T_api_Tree) : t.Conj.length < t.size := by
  have := len_sum T_api_Pred.size psize_pos t.Conj
  rw [tsize_eq]; omega
theorem tour_len (t : T_api_Tree) : t.tour.length ≤ t.size := by
  induction t using T_api_Tree.induct with
  | h t ih =>
    rw [tour_eq, List.length_append, tsize_eq, List.length_flatMap]
    have : ∀ l : List T_api_Tree, (∀ y ∈ l, y.tour.length ≤ y.size) → (l.map fun y => y.tour.length).sum ≤ (l.map T_api_Tree.size).sum := by
      intro l
      induction l with
      | nil => intro _; simp
      | cons y l ih => intro h; simp only [List.map_cons, List.sum_cons]; have := ih fun z hz => h z (List.mem_cons_of_mem _ hz); have := h y List.mem_cons_self; omega
    have := this t.Kids ih
    simp; omega
def leafTabs (l : List T_api_Tree) : List Int := (l.filter fun y => y.Kind == 0).map T_api_Tree.Table
theorem leafTabs_pos {x : T_api_Tree} (l : List T_api_Tree) (h : x.Kind = 0) : leafTabs (x :: l) = x.Table :: leafTabs l := by simp [leafTabs, h]
theorem leafTabs_neg {x : T_api_Tree} (l : List T_api_Tree) (h : ¬ x.Kind = 0) : leafTabs (x :: l) = leafTabs l := by simp [leafTabs, h]
/-- A tree's tables. -/
def tabs (t : T_api_Tree) : Set64 := ofL (leafTabs t.tour)
theorem leafTabs_len (l : List T_api_Tree) : (leafTabs l).length ≤ l.length := by
  unfold leafTabs
  rw [List.length_map]; exact List.length_filter_le _ _
theorem tree_Walk_eq (t : T_api_Tree) (h : t.size < 9223372036854775808) : M_tree_Walk t = some t.tour := by
  unfold M_tree_Walk
  rw [if_pos]
  rw [List.all_eq_true]
  intro y hy
  have := tour_size t y hy
  have := kids_len y
  simp; omega
theorem tree_Tables_eq (t : T_api_Tree) (h : t.size < 9223372036854775808) : M_tree_Tables t = some (tabs t) := by
  have key : ∀ (l : List T_api_Tree) (s : Set64), M_tree_Tables.r0 (l, s) = some (s ||| ofL (leafTabs l)) := by
    intro l
    induction l with
    | nil => intro s; rw [M_tree_Tables.r0]; simp [leafTabs, ofL_nil]
    | cons x l ih =>
      intro s
      rw [M_tree_Tables.r0]
      dsimp only
      by_cases hx : x.Kind = 0
      · rw [if_pos (by simpa using hx), sets_Of_eq _ (by simp)]
        simp only [Option.bind_eq_bind, Option.bind_some, ih]
        have : leafTabs (x :: l) = x.Table :: leafTabs l := by simp [leafTabs, hx]
        rw [this, ofL_cons, ofL_cons, ofL_nil, BitVec.or_zero, BitVec.or_assoc]
      · rw [if_neg (by simpa using hx), ih]
        have : leafTabs (x :: l) = leafTabs l := by simp [leafTabs, hx]
        rw [this]
  unfold M_tree_Tables
  rw [tree_Walk_eq t h]
  simp only [Option.bind_eq_bind, Option.bind_some, key, BitVec.zero_or]; rfl
theorem ref10_All_eq (t : T_api_Tree) : t.size ≤ 1000000000 → M_ref10_All t = some t.tour := by
  induction t using T_api_Tree.induct with
  | h t ih =>
    intro hsz
    have hk := kids_len t
    have htl := tour_len t
    have key := loop_inv t.Kids (fun i acc => acc = (t.Kids.take i).flatMap T_api_Tree.tour) (fun i (acc : List T_api_Tree) => M_ref10_All.l0 (acc, (i : Int), t)) (fun acc l => some (acc ++ l.flatMap T_api_Tree.tour))
      (fun acc ha => by
        show M_ref10_All.l0 _ = _
        rw [M_ref10_All.l0, if_neg (dge (by dsimp only; omega))]
        simp)
      (fun i acc h ha ih2 => by
        show M_ref10_All.l0 _ = _
        rw [M_ref10_All.l0, if_pos (dlt (by dsimp only; omega))]
        dsimp only
        rw [getI_nat h]
        have hm := List.getElem_mem h
        have hks := kid_size hm
        simp only [Option.bind_eq_bind, Option.bind_some]
        rw [ih _ hm (by omega)]
        simp only [Option.bind_some]
        have e : acc ++ t.Kids[i].tour = (t.Kids.take (i + 1)).flatMap T_api_Tree.tour := by
          rw [List.take_succ_eq_append_getElem h, List.flatMap_append, ha]; simp
        have hle : (acc ++ t.Kids[i].tour).length ≤ t.tour.length := by
          rw [e, tour_eq, List.length_append]
          have : t.Kids.flatMap T_api_Tree.tour = (t.Kids.take (i + 1)).flatMap T_api_Tree.tour ++ (t.Kids.drop (i + 1)).flatMap T_api_Tree.tour := by rw [← List.flatMap_append, List.take_append_drop]
          rw [this, List.length_append]; omega
        rw [room_of (by rw [← List.length_append]; omega)]
        simp only [Option.bind_some]
        rw [w64_succ (by omega)]
        have := ih2 (acc ++ t.Kids[i].tour) e
        try dsimp only at this
        rw [this]
        simp only [List.flatMap_cons, List.append_assoc]) 0 [] (Nat.zero_le _) (by simp)
    rw [M_ref10_All]
    rw [List.drop_zero, List.nil_append] at key
    have key' : M_ref10_All.l0 (([] : List T_api_Tree), 0, t) = some (t.Kids.flatMap T_api_Tree.tour) := key
    rw [key']
    simp only [Option.bind_eq_bind, Option.bind_some]
    rw [room_of (by
      have : (t.Kids.flatMap T_api_Tree.tour ++ [t]).length ≤ t.size := by rw [← tour_eq]; exact htl
      rw [List.length_append] at this
      omega)]
    simp only [Option.bind_some]
    rw [tour_eq]
theorem ref10_Tables_eq (t : T_api_Tree) (hsz : t.size ≤ 1000000000) : M_ref10_Tables t = some (tabs t) := by
  have htl := tour_len t
  have key : ∀ (l : List T_api_Tree), l.length ≤ 1000000000 → M_ref10_Tables.l0 (([] : List Int), l, 0) = some (leafTabs l) := by
    intro l hl
    have := loop_inv l (fun i acc => acc.length ≤ i) (fun i (acc : List Int) => M_ref10_Tables.l0 (acc, l, (i : Int))) (fun acc l => some (acc ++ leafTabs l))
      (fun acc ha => by
        show M_ref10_Tables.l0 _ = _
        rw [M_ref10_Tables.l0, if_neg (dge (by dsimp only; omega))]
        simp [leafTabs])
      (fun i acc h ha ih2 => by
        show M_ref10_Tables.l0 _ = _
        rw [M_ref10_Tables.l0, if_pos (dlt (by dsimp only; omega))]
        dsimp only
        rw [getI_nat h]
        simp only [Option.bind_eq_bind, Option.bind_some]
        rw [w64_succ (by omega)]
        by_cases hx : l[i].Kind = 0
        · rw [if_pos (by simpa using hx), room_of (by simp; omega)]
          simp only [Option.bind_some]
          have := ih2 (acc ++ [l[i].Table]) (by simp; omega)
          try dsimp only at this
          rw [this]
          rw [leafTabs_pos _ hx, List.append_assoc]; rfl
        · rw [if_neg (by simpa using hx)]
          have := ih2 acc (by omega)
          try dsimp only at this
          rw [this]
          rw [leafTabs_neg _ hx]) 0 [] (Nat.zero_le _) (by simp)
    rw [List.drop_zero, List.nil_append] at this
    exact this
  unfold M_ref10_Tables
  rw [ref10_All_eq t hsz]
  simp only [Option.bind_eq_bind, Option.bind_some]
  rw [key _ (by omega)]
  simp only [Option.bind_some]
  rw [ref01_Of_eq _ (by have := leafTabs_len t.tour; omega)]; rfl
end Go.Proofs.Ytakmilmckdllfaa.G
set_option linter.unusedVariables false
set_option linter.unusedSimpArgs false
set_option maxRecDepth 100000
namespace Go.Proofs.Ytakmilmckdllfaa.G
theorem lok_156 : (Try.f156.body.isSome && !(Try.f156.name == "runtime.NumGoroutine") && okL (bodyF Try.f156) Try.f156.ntmps (bodyF Try.f156)) = true := by kernel_rfl
mutual
def M_ref10_Seen.l0 (x : Set64 × Int × T_api_Tree) : Option (Set64) :=
  if (decide (x.2.1 < (x.2.2.Kids.length : Int))) = true then
    if (x.2.1 == 0) = true then
      (getI x.2.2.Kids x.2.1) >>= fun (e6 : T_api_Tree) =>
      M_ref10_Seen e6 >>= fun r8 =>
      M_ref10_Seen.l0 ((x.1 ||| r8), (w64 (x.2.1 + 1)), x.2.2)
    else
      if (x.2.2.Kind != 3) = true then
        if (x.2.2.Kind != 4) = true then
          (getI x.2.2.Kids x.2.1) >>= fun (e12 : T_api_Tree) =>
          M_ref10_Seen e12 >>= fun r14 =>
          M_ref10_Seen.l0 ((x.1 ||| r14), (w64 (x.2.1 + 1)), x.2.2)
        else
          M_ref10_Seen.l0 (x.1, (w64 (x.2.1 + 1)), x.2.2)
      else
        M_ref10_Seen.l0 (x.1, (w64 (x.2.1 + 1)), x.2.2)
  else
    some x.1
  partial_fixpoint
def M_ref10_Seen (x : T_api_Tree) : Option (Set64) :=
  if (x.Kind == 0) = true then
    M_ref01_Of ([x.Table]) >>= fun r2 =>
    some r2
  else
    M_ref10_Seen.l0 (0#64, 0, x) >>= fun (o16 : Set64) =>
    some o16
  partial_fixpoint
end
theorem M_ref10_Seen.l0.ws : (∀ (x : Set64 × Int × T_api_Tree) (o : Set64), M_ref10_Seen.l0 x = some o → (fun (x : Set64 × Int × T_api_Tree) (o : Set64) => ∀ (lo : Option Nat) (c : LCtx) (Q : Exit → LEnv → Prop) (hb : ∀ s : Set64, o = s → Q (.exit 0) ⟨[(3, .v (.w s))], []⟩), LLoop Try.prog 156 lo c 0 (VQ Q) ⟨[(1, .lref 1 0), (3, .v (.w x.1)), (4, .v (.i64 x.2.1))], [(1, [.v (.i64 x.2.2.Kind), .v (.i64 x.2.2.Table), .v (.slice .foreign (x.2.2.Kids.map T_api_Tree.av)), .v (.slice .foreign (x.2.2.Conj.map T_api_Pred.av)), .v (.bool x.2.2.Hash)])]⟩) x o) ∧ (∀ (x : T_api_Tree) (o : Set64), M_ref10_Seen x = some o → (fun (x : T_api_Tree) (r : Set64) => Fn Try.prog 156 [.agg (T_api_Tree.C x)] (.w r)) x o) := by
  refine M_ref10_Seen.l0.mutual_partial_correctness _ _ ?_ ?_
  · intro M_M_ref10_Seen_l0 M_M_ref10_Seen ih_M_ref10_Seen_l0 ih_M_ref10_Seen x o h
    intro lo c Q hb
    refine LLoop.step mix fn_156 (by kernel_rfl) ?_
    simp -implicitDefEqProofs only [go_sem, Try.f156]
    by_cases h4 : (decide (x.2.1 < (x.2.2.Kids.length : Int))) = true
    · replace h := ite_some h h4
      try simp -implicitDefEqProofs only [go_sem, h4]
      by_cases h5 : (x.2.1 == 0) = true
      · replace h := ite_some h h5
        try simp -implicitDefEqProofs only [go_sem, h4, h5]
        obtain ⟨e6, h7, h⟩ := bind_some' h; replace h7 := getI_some h7; obtain ⟨h7', h7⟩ := h7
        try simp -implicitDefEqProofs only [go_sem, h4, h5, h7, h7']
        obtain ⟨r8, h9, h⟩ := bind_some' h
        refine .plain _ _ rfl (ih_M_ref10_Seen e6 _ h9) ?_
        try simp -implicitDefEqProofs only [go_sem, h4, h5, h7, h7']
        exact LLoop.view [] (by (first | rfl | (simp -implicitDefEqProofs only [go_sem, h4, h5, h7, h7'] <;> rfl))) (ih_M_ref10_Seen_l0 _ _ h lo c Q hb)
      · replace h := ite_none h h5; replace h5 := bfalse h5
        try simp -implicitDefEqProofs only [go_sem, h4, h5]
        by_cases h10 : (x.2.2.Kind != 3) = true
        · replace h := ite_some h h10
          try simp -implicitDefEqProofs only [go_sem, h4, h5, h10]
          by_cases h11 : (x.2.2.Kind != 4) = true
          · replace h := ite_some h h11
            try simp -implicitDefEqProofs only [go_sem, h4, h5, h10, h11]
            obtain ⟨e12, h13, h⟩ := bind_some' h; replace h13 := getI_some h13; obtain ⟨h13', h13⟩ := h13
            try simp -implicitDefEqProofs only [go_sem, h4, h5, h10, h11, h13, h13']
            obtain ⟨r14, h15, h⟩ := bind_some' h
            refine .plain _ _ rfl (ih_M_ref10_Seen e12 _ h15) ?_
            try simp -implicitDefEqProofs only [go_sem, h4, h5, h10, h11, h13, h13']
            exact LLoop.view [] (by (first | rfl | (simp -implicitDefEqProofs only [go_sem, h4, h5, h10, h11, h13, h13'] <;> rfl))) (ih_M_ref10_Seen_l0 _ _ h lo c Q hb)
          · replace h := ite_none h h11; replace h11 := bfalse h11
            try simp -implicitDefEqProofs only [go_sem, h4, h5, h10, h11]
            exact LLoop.view [] (by (first | rfl | (simp -implicitDefEqProofs only [go_sem, h4, h5, h10, h11] <;> rfl))) (ih_M_ref10_Seen_l0 _ _ h lo c Q hb)
        · replace h := ite_none h h10; replace h10 := bfalse h10
          try simp -implicitDefEqProofs only [go_sem, h4, h5, h10]
          exact LLoop.view [] (by (first | rfl | (simp -implicitDefEqProofs only [go_sem, h4, h5, h10] <;> rfl))) (ih_M_ref10_Seen_l0 _ _ h lo c Q hb)
    · replace h := ite_none h h4; replace h4 := bfalse h4
      try simp -implicitDefEqProofs only [go_sem, h4]
      injection h with h; subst h
      exact .inr ⟨[], _, by (simp -implicitDefEqProofs only [go_sem, h4] <;> first | done | rfl | trivial), hb _ rfl⟩
  · intro M_M_ref10_Seen_l0 ih_M_ref10_Seen_l0 x r h
    refine Fn.of_lc mix fn_156 lok_156 (by rfl) (flC (T_api_Tree.flatC _) (flN)) (.atom _) ?_
    simp -implicitDefEqProofs only [go_sem, Try.f156]
    by_cases h1 : (x.Kind == 0) = true
    · replace h := ite_some h h1
      try simp -implicitDefEqProofs only [go_sem, h1]
      obtain ⟨r2, h3, h⟩ := bind_some' h
      have hw := M_ref01_Of.w ([x.Table]) _ h3
      simp -implicitDefEqProofs only [go_sem] at hw
      refine .plain _ _ rfl hw ?_
      clear hw
      try simp -implicitDefEqProofs only [go_sem, h1]
      injection h with h; subst h
      first | rfl | (simp -implicitDefEqProofs only [go_sem, h1] <;> rfl)
    · replace h := ite_none h h1; replace h1 := bfalse h1
      try simp -implicitDefEqProofs only [go_sem, h1]
      obtain ⟨o16, h17, h⟩ := bind_some' h
      refine LLoop.viewQ (LLoop.view [] (by (first | rfl | (simp -implicitDefEqProofs only [go_sem, h1] <;> rfl))) (ih_M_ref10_Seen_l0 (0#64, 0, x) _ h17 _ _ _ ?_))
      intro s' hs'; subst hs'
      try simp -implicitDefEqProofs only [go_sem, h1]
      injection h with h; subst h
      first | rfl | (simp -implicitDefEqProofs only [go_sem, h1] <;> rfl)
theorem M_ref10_Seen.w : type_of% (M_ref10_Seen.l0.ws.2) := M_ref10_Seen.l0.ws.2
end Go.Proofs.Ytakmilmckdllfaa.G
set_option linter.unusedVariables false
set_option linter.unusedSimpArgs false
set_option maxRecDepth 100000
namespace Go.Proofs.Ytakmilmckdllfaa.G
theorem lok_173 : (Try.f173.body.isSome && !(Try.f173.name == "runtime.NumGoroutine") && okL (bodyF Try.f173) Try.f173.ntmps (bodyF Try.f173)) = true := by kernel_rfl
mutual
def M_ref06_Columns.l0 (x : List A2_Int × Int × T_api_Pred) : Option (List A2_Int) :=
  if (decide (x.2.1 < (x.2.2.Parts.length : Int))) = true then
    (getI x.2.2.Parts x.2.1) >>= fun (e8 : T_api_Pred) =>
    M_ref06_Columns e8 >>= fun r10 =>
    (room 16 x.1 r10) >>= fun (z12 : List A2_Int) =>
    M_ref06_Columns.l0 (z12, (w64 (x.2.1 + 1)), x.2.2)
  else
    some x.1
  partial_fixpoint
def M_ref06_Columns (x : T_api_Pred) : Option (List A2_Int) :=
  if (x.A.Kind == 1) = true then
    (room 16 ([] : List A2_Int) ([(⟨x.A.Table, x.A.Col⟩ : A2_Int)])) >>= fun (z2 : List A2_Int) =>
    if (x.B.Kind == 1) = true then
      (room 16 z2 ([(⟨x.B.Table, x.B.Col⟩ : A2_Int)])) >>= fun (z5 : List A2_Int) =>
      M_ref06_Columns.l0 (z5, 0, x) >>= fun (o14 : List A2_Int) =>
      some o14
    else
      M_ref06_Columns.l0 (z2, 0, x) >>= fun (o16 : List A2_Int) =>
      some o16
  else
    if (x.B.Kind == 1) = true then
      (room 16 ([] : List A2_Int) ([(⟨x.B.Table, x.B.Col⟩ : A2_Int)])) >>= fun (z19 : List A2_Int) =>
      M_ref06_Columns.l0 (z19, 0, x) >>= fun (o21 : List A2_Int) =>
      some o21
    else
      M_ref06_Columns.l0 (([] : List A2_Int), 0, x) >>= fun (o23 : List A2_Int) =>
      some o23
  partial_fixpoint
end
theorem M_ref06_Columns.l0.ws : (∀ (x : List A2_Int × Int × T_api_Pred) (o : List A2_Int), M_ref06_Columns.l0 x = some o → (fun (x : List A2_Int × Int × T_api_Pred) (o : List A2_Int) => ∀ (lo : Option Nat) (c : LCtx) (Q : Exit → LEnv → Prop) (hb : ∀ s : List A2_Int, o = s → Q (.exit 0) ⟨[(3, .own 100300 2 (s.map A2_Int.av))], []⟩), LLoop Try.prog 173 lo c 0 (VQ Q) ⟨[(1, .lref 1 0), (3, .own 100300 2 (x.1.map A2_Int.av)), (4, .v (.i64 x.2.1))], [(1, [.v (.i64 x.2.2.Kind), .v (.i64 x.2.2.Truth), .v (.i64 x.2.2.Op), .v (.i64 x.2.2.A.Kind), .v (.i64 x.2.2.A.Table), .v (.i64 x.2.2.A.Col), .v (.bool x.2.2.A.Value.Null), .v (.i64 x.2.2.A.Value.N), .v (.i64 x.2.2.B.Kind), .v (.i64 x.2.2.B.Table), .v (.i64 x.2.2.B.Col), .v (.bool x.2.2.B.Value.Null), .v (.i64 x.2.2.B.Value.N), .v (.slice .foreign (x.2.2.Parts.map T_api_Pred.av))])]⟩) x o) ∧ (∀ (x : T_api_Pred) (o : List A2_Int), M_ref06_Columns x = some o → (fun (x : T_api_Pred) (r : List A2_Int) => Fn Try.prog 173 [.agg (T_api_Pred.C x)] (.slice .foreign (r.map A2_Int.av))) x o) := by
  refine M_ref06_Columns.l0.mutual_partial_correctness _ _ ?_ ?_
  · intro M_M_ref06_Columns_l0 M_M_ref06_Columns ih_M_ref06_Columns_l0 ih_M_ref06_Columns x o h
    intro lo c Q hb
    refine LLoop.step mix fn_173 (by kernel_rfl) ?_
    simp -implicitDefEqProofs only [go_sem, Try.f173]
    by_cases h7 : (decide (x.2.1 < (x.2.2.Parts.length : Int))) = true
    · replace h := ite_some h h7
      try simp -implicitDefEqProofs only [go_sem, h7]
      obtain ⟨e8, h9, h⟩ := bind_some' h; replace h9 := getI_some h9; obtain ⟨h9', h9⟩ := h9
      try simp -implicitDefEqProofs only [go_sem, h7, h9, h9']
      obtain ⟨r10, h11, h⟩ := bind_some' h
      refine .plain _ _ rfl (ih_M_ref06_Columns e8 _ h11) ?_
      try simp -implicitDefEqProofs only [go_sem, h7, h9, h9']
      obtain ⟨z12, h13, h⟩ := bind_some' h; replace h13 := room_some h13; obtain ⟨h13', rfl⟩ := h13
      refine LApp.map (F := A2_Int.av) (xs := x.1) (ys := r10) t198_elem t200_size t200_bytes t200_zsize rfl A2_Int.len (by (first | rfl | (simp -implicitDefEqProofs only [go_sem, h7, h9, h9'] <;> rfl))) (by (first | rfl | (simp -implicitDefEqProofs only [go_sem, h7, h9, h9'] <;> rfl))) h13' ?_
      try simp -implicitDefEqProofs only [go_sem, h7, h9, h9']
      exact LLoop.view [(100300, some 48)] (by (first | rfl | (simp -implicitDefEqProofs only [go_sem, h7, h9, h9'] <;> rfl))) (ih_M_ref06_Columns_l0 _ _ h lo c Q hb)
    · replace h := ite_none h h7; replace h7 := bfalse h7
      try simp -implicitDefEqProofs only [go_sem, h7]
      injection h with h; subst h
      exact .inr ⟨[(100300, some 100300)], _, by (simp -implicitDefEqProofs only [go_sem, h7] <;> first | done | rfl | trivial), hb _ rfl⟩
  · intro M_M_ref06_Columns_l0 ih_M_ref06_Columns_l0 x r h
    refine Fn.of_lc mix fn_173 lok_173 (by rfl) (flC (T_api_Pred.flatC _) (flN)) (flat_slice _ A2_Int.flat _) ?_
    simp -implicitDefEqProofs only [go_sem, Try.f173]
    by_cases h1 : (x.A.Kind == 1) = true
    · replace h := ite_some h h1
      try simp -implicitDefEqProofs only [go_sem, h1]
      obtain ⟨z2, h3, h⟩ := bind_some' h; replace h3 := room_some h3; obtain ⟨h3', rfl⟩ := h3
      refine LApp.mapFull (F := A2_Int.av) (xs := ([] : List A2_Int)) (ys := [(⟨x.A.Table, x.A.Col⟩ : A2_Int)]) t198_elem t200_size t200_bytes t200_zsize rfl A2_Int.len (by (first | rfl | (simp -implicitDefEqProofs only [go_sem, h1] <;> rfl))) (by (first | rfl | (simp -implicitDefEqProofs only [go_sem, h1] <;> rfl))) h3' ?_
      try simp -implicitDefEqProofs only [go_sem, h1]
      by_cases h4 : (x.B.Kind == 1) = true
      · replace h := ite_some h h4
        try simp -implicitDefEqProofs only [go_sem, h1, h4]
        obtain ⟨z5, h6, h⟩ := bind_some' h; replace h6 := room_some h6; obtain ⟨h6', rfl⟩ := h6
        refine LApp.map (F := A2_Int.av) (xs := (([] : List A2_Int) ++ [(⟨x.A.Table, x.A.Col⟩ : A2_Int)])) (ys := [(⟨x.B.Table, x.B.Col⟩ : A2_Int)]) t198_elem t200_size t200_bytes t200_zsize rfl A2_Int.len (by (first | rfl | (simp -implicitDefEqProofs only [go_sem, h1, h4] <;> rfl))) (by (first | rfl | (simp -implicitDefEqProofs only [go_sem, h1, h4] <;> rfl))) h6' ?_
        try simp -implicitDefEqProofs only [go_sem, h1, h4]
        obtain ⟨o14, h15, h⟩ := bind_some' h
        refine LLoop.viewQ (LLoop.view [(100300, some 33)] (by (first | rfl | (simp -implicitDefEqProofs only [go_sem, h1, h4] <;> rfl))) (ih_M_ref06_Columns_l0 (((([] : List A2_Int) ++ [(⟨x.A.Table, x.A.Col⟩ : A2_Int)]) ++ [(⟨x.B.Table, x.B.Col⟩ : A2_Int)]), 0, x) _ h15 _ _ _ ?_))
        intro s' hs'; subst hs'
        try simp -implicitDefEqProofs only [go_sem, h1, h4]
        injection h with h; subst h
        first | rfl | (simp -implicitDefEqProofs only [go_sem, h1, h4] <;> rfl)
      · replace h := ite_none h h4; replace h4 := bfalse h4
        try simp -implicitDefEqProofs only [go_sem, h1, h4]
        obtain ⟨o16, h17, h⟩ := bind_some' h
        refine LLoop.viewQ (LLoop.view [(100300, some 19)] (by (first | rfl | (simp -implicitDefEqProofs only [go_sem, h1, h4] <;> rfl))) (ih_M_ref06_Columns_l0 ((([] : List A2_Int) ++ [(⟨x.A.Table, x.A.Col⟩ : A2_Int)]), 0, x) _ h17 _ _ _ ?_))
        intro s' hs'; subst hs'
        try simp -implicitDefEqProofs only [go_sem, h1, h4]
        injection h with h; subst h
        first | rfl | (simp -implicitDefEqProofs only [go_sem, h1, h4] <;> rfl)
    · replace h := ite_none h h1; replace h1 := bfalse h1
      try simp -implicitDefEqProofs only [go_sem, h1]
      by_cases h18 : (x.B.Kind == 1) = true
      · replace h := ite_some h h18
        try simp -implicitDefEqProofs only [go_sem, h1, h18]
        obtain ⟨z19, h20, h⟩ := bind_some' h; replace h20 := room_some h20; obtain ⟨h20', rfl⟩ := h20
        refine LApp.mapFull (F := A2_Int.av) (xs := ([] : List A2_Int)) (ys := [(⟨x.B.Table, x.B.Col⟩ : A2_Int)]) t198_elem t200_size t200_bytes t200_zsize rfl A2_Int.len (by (first | rfl | (simp -implicitDefEqProofs only [go_sem, h1, h18] <;> rfl))) (by (first | rfl | (simp -implicitDefEqProofs only [go_sem, h1, h18] <;> rfl))) h20' ?_
        try simp -implicitDefEqProofs only [go_sem, h1, h18]
        obtain ⟨o21, h22, h⟩ := bind_some' h
        refine LLoop.viewQ (LLoop.view [(100300, some 33)] (by (first | rfl | (simp -implicitDefEqProofs only [go_sem, h1, h18] <;> rfl))) (ih_M_ref06_Columns_l0 ((([] : List A2_Int) ++ [(⟨x.B.Table, x.B.Col⟩ : A2_Int)]), 0, x) _ h22 _ _ _ ?_))
        intro s' hs'; subst hs'
        try simp -implicitDefEqProofs only [go_sem, h1, h18]
        injection h with h; subst h
        first | rfl | (simp -implicitDefEqProofs only [go_sem, h1, h18] <;> rfl)
      · replace h := ite_none h h18; replace h18 := bfalse h18
        try simp -implicitDefEqProofs only [go_sem, h1, h18]
        obtain ⟨o23, h24, h⟩ := bind_some' h
        refine LLoop.viewQ (LLoop.view [(100300, none)] (by (first | rfl | (simp -implicitDefEqProofs only [go_sem, h1, h18] <;> rfl))) (ih_M_ref06_Columns_l0 (([] : List A2_Int), 0, x) _ h24 _ _ _ ?_))
        intro s' hs'; subst hs'
        try simp -implicitDefEqProofs only [go_sem, h1, h18]
        injection h with h; subst h
        first | rfl | (simp -implicitDefEqProofs only [go_sem, h1, h18] <;> rfl)
theorem M_ref06_Columns.w : type_of% (M_ref06_Columns.l0.ws.2) := M_ref06_Columns.l0.ws.2
end Go.Proofs.Ytakmilmckdllfaa.G
set_option linter.unusedVariables false
set_option linter.unusedSimpArgs false
set_option maxRecDepth 100000
namespace Go.Proofs.Ytakmilmckdllfaa.G
theorem lok_184 : (Try.f184.body.isSome && !(Try.f184.name == "runtime.NumGoroutine") && okL (bodyF Try.f184) Try.f184.ntmps (bodyF Try.f184)) = true := by kernel_rfl
def M_ref03_Right (x : T_api_Value) : Option (Bool) :=
  if x.Null = true then
    some (x.N == 0)
  else
    some true
theorem M_ref03_Right.w : ∀ (x : T_api_Value) (r : Bool), M_ref03_Right x = some r → (fun (x : T_api_Value) (r : Bool) => Fn Try.prog 184 [.agg (T_api_Value.C x)] (.bool r)) x r := by
  intro x r h
  rw [M_ref03_Right] at h
  try dsimp only
  refine Fn.of_lc mix fn_184 lok_184 (by rfl) (flC (T_api_Value.flatC _) (flN)) (.atom _) ?_
  simp -implicitDefEqProofs only [go_sem, Try.f184]
  by_cases h1 : x.Null = true
  · replace h := ite_some h h1
    try simp -implicitDefEqProofs only [go_sem, h1]
    injection h with h; subst h
    first | rfl | (simp -implicitDefEqProofs only [go_sem, h1] <;> rfl)
  · replace h := ite_none h h1; replace h1 := bfalse h1
    try simp -implicitDefEqProofs only [go_sem, h1]
    injection h with h; subst h
    first | rfl | (simp -implicitDefEqProofs only [go_sem, h1] <;> rfl)
end Go.Proofs.Ytakmilmckdllfaa.G
set_option linter.unusedVariables false
set_option linter.unusedSimpArgs false
set_option maxRecDepth 100000
namespace Go.Proofs.Ytakmilmckdllfaa.G
theorem lok_181 : (Try.f181.body.isSome && !(Try.f181.name == "runtime.NumGoroutine") && okL (bodyF Try.f181) Try.f181.ntmps (bodyF Try.f181)) = true := by kernel_rfl
def M_ref05_Right (x : T_api_Term) : Option (Bool) :=
  if (x.Kind == 1) = true then
    if (decide (x.Table ≥ 0)) = true then
      if (decide (x.Table ≤ 63)) = true then
        if (decide (x.Col ≥ 0)) = true then
          if (decide (x.Col ≤ 3)) = true then
            if x.Value.Null = true then
              some false
            else
              some (x.Value.N == 0)
          else
            some false
        else
          some false
      else
        some false
    else
      some false
  else
    if (x.Kind == 2) = true then
      if (x.Table == 0) = true then
        if (x.Col == 0) = true then
          M_ref03_Right x.Value >>= fun r10 =>
          some r10
        else
          some false
      else
        some false
    else
      some false
theorem M_ref05_Right.w : ∀ (x : T_api_Term) (r : Bool), M_ref05_Right x = some r → (fun (x : T_api_Term) (r : Bool) => Fn Try.prog 181 [.agg (T_api_Term.C x)] (.bool r)) x r := by
  intro x r h
  rw [M_ref05_Right] at h
  try dsimp only
  refine Fn.of_lc mix fn_181 lok_181 (by rfl) (flC (T_api_Term.flatC _) (flN)) (.atom _) ?_
  simp -implicitDefEqProofs only [go_sem, Try.f181]
  by_cases h1 : (x.Kind == 1) = true
  · replace h := ite_some h h1
    try simp -implicitDefEqProofs only [go_sem, h1]
    by_cases h2 : (decide (x.Table ≥ 0)) = true
    · replace h := ite_some h h2
      try simp -implicitDefEqProofs only [go_sem, h1, h2]
      by_cases h3 : (decide (x.Table ≤ 63)) = true
      · replace h := ite_some h h3
        try simp -implicitDefEqProofs only [go_sem, h1, h2, h3]
        by_cases h4 : (decide (x.Col ≥ 0)) = true
        · replace h := ite_some h h4
          try simp -implicitDefEqProofs only [go_sem, h1, h2, h3, h4]
          by_cases h5 : (decide (x.Col ≤ 3)) = true
          · replace h := ite_some h h5
            try simp -implicitDefEqProofs only [go_sem, h1, h2, h3, h4, h5]
            by_cases h6 : x.Value.Null = true
            · replace h := ite_some h h6
              try simp -implicitDefEqProofs only [go_sem, h1, h2, h3, h4, h5, h6]
              injection h with h; subst h
              first | rfl | (simp -implicitDefEqProofs only [go_sem, h1, h2, h3, h4, h5, h6] <;> rfl)
            · replace h := ite_none h h6; replace h6 := bfalse h6
              try simp -implicitDefEqProofs only [go_sem, h1, h2, h3, h4, h5, h6]
              injection h with h; subst h
              first | rfl | (simp -implicitDefEqProofs only [go_sem, h1, h2, h3, h4, h5, h6] <;> rfl)
          · replace h := ite_none h h5; replace h5 := bfalse h5
            try simp -implicitDefEqProofs only [go_sem, h1, h2, h3, h4, h5]
            injection h with h; subst h
            first | rfl | (simp -implicitDefEqProofs only [go_sem, h1, h2, h3, h4, h5] <;> rfl)
        · replace h := ite_none h h4; replace h4 := bfalse h4
          try simp -implicitDefEqProofs only [go_sem, h1, h2, h3, h4]
          injection h with h; subst h
          first | rfl | (simp -implicitDefEqProofs only [go_sem, h1, h2, h3, h4] <;> rfl)
      · replace h := ite_none h h3; replace h3 := bfalse h3
        try simp -implicitDefEqProofs only [go_sem, h1, h2, h3]
        injection h with h; subst h
        first | rfl | (simp -implicitDefEqProofs only [go_sem, h1, h2, h3] <;> rfl)
    · replace h := ite_none h h2; replace h2 := bfalse h2
      try simp -implicitDefEqProofs only [go_sem, h1, h2]
      injection h with h; subst h
      first | rfl | (simp -implicitDefEqProofs only [go_sem, h1, h2] <;> rfl)
  · replace h := ite_none h h1; replace h1 := bfalse h1
    try simp -implicitDefEqProofs only [go_sem, h1]
    by_cases h7 : (x.Kind == 2) = true
    · replace h := ite_some h h7
      try simp -implicitDefEqProofs only [go_sem, h1, h7]
      by_cases h8 : (x.Table == 0) = true
      · replace h := ite_some h h8
        try simp -implicitDefEqProofs only [go_sem, h1, h7, h8]
        by_cases h9 : (x.Col == 0) = true
        · replace h := ite_some h h9
          try simp -implicitDefEqProofs only [go_sem, h1, h7, h8, h9]
          obtain ⟨r10, h11, h⟩ := bind_some' h
          refine .plain _ _ rfl (M_ref03_Right.w x.Value _ h11) ?_
          try simp -implicitDefEqProofs only [go_sem, h1, h7, h8, h9]
          injection h with h; subst h
          first | rfl | (simp -implicitDefEqProofs only [go_sem, h1, h7, h8, h9] <;> rfl)
        · replace h := ite_none h h9; replace h9 := bfalse h9
          try simp -implicitDefEqProofs only [go_sem, h1, h7, h8, h9]
          injection h with h; subst h
          first | rfl | (simp -implicitDefEqProofs only [go_sem, h1, h7, h8, h9] <;> rfl)
      · replace h := ite_none h h8; replace h8 := bfalse h8
        try simp -implicitDefEqProofs only [go_sem, h1, h7, h8]
        injection h with h; subst h
        first | rfl | (simp -implicitDefEqProofs only [go_sem, h1, h7, h8] <;> rfl)
    · replace h := ite_none h h7; replace h7 := bfalse h7
      try simp -implicitDefEqProofs only [go_sem, h1, h7]
      injection h with h; subst h
      first | rfl | (simp -implicitDefEqProofs only [go_sem, h1, h7] <;> rfl)
end Go.Proofs.Ytakmilmckdllfaa.G
set_option linter.unusedVariables false
set_option linter.unusedSimpArgs false
set_option maxRecDepth 100000
namespace Go.Proofs.Ytakmilmckdllfaa.G
theorem lok_178 : (Try.f178.body.isSome && !(Try.f178.name == "runtime.NumGoroutine") && okL (bodyF Try.f178) Try.f178.ntmps (bodyF Try.f178)) = true := by kernel_rfl
mutual
def M_ref06_at.l0 (x : Int × Int × T_api_Pred) : Option (Lp (Unit) (Bool)) :=
  if (decide (x.2.1 < (x.2.2.Parts.length : Int))) = true then
    (getI x.2.2.Parts x.2.1) >>= fun (e12 : T_api_Pred) =>
    M_ref06_at (e12, (w64 (x.1 + 1))) >>= fun r14 =>
    if r14 = true then
      M_ref06_at.l0 (x.1, (w64 (x.2.1 + 1)), x.2.2)
    else
      some (.ret false)
  else
    some (.brk ())
  partial_fixpoint
def M_ref06_at (x : T_api_Pred × Int) : Option (Bool) :=
  if (decide (x.2 > 4)) = true then
    some false
  else
    if (decide (x.1.Kind < 1)) = true then
      some false
    else
      if (decide (x.1.Kind > 6)) = true then
        some false
      else
        if (x.1.Kind != 1) = true then
          if (x.1.Truth != 0) = true then
            some false
          else
            if (x.1.Kind != 2) = true then
              if (x.1.Op != 0) = true then
                some false
              else
                if ((x.1.B.Kind == 0) && ((x.1.B.Table == 0) && ((x.1.B.Col == 0) && ((!x.1.B.Value.Null) && (x.1.B.Value.N == 0))))) = true then
                  if (x.1.Kind != 3) = true then
                    if ((x.1.A.Kind == 0) && ((x.1.A.Table == 0) && ((x.1.A.Col == 0) && ((!x.1.A.Value.Null) && (x.1.A.Value.N == 0))))) = true then
                      M_ref06_at.l0 (x.2, 0, x.1) >>= fun (o17 : Lp (Unit) (Bool)) => match o17 with
                      | .brk s20 =>
                        if (x.1.Kind == 6) = true then
                          some ((x.1.Parts.length : Int) == 1)
                        else
                          some (decide ((x.1.Parts.length : Int) ≤ 4))
                      | .ret r19 =>
                        some r19
                    else
                      some false
                  else
                    M_ref06_at.l0 (x.2, 0, x.1) >>= fun (o25 : Lp (Unit) (Bool)) => match o25 with
                    | .brk s28 =>
                      if ((x.1.Parts.length : Int) == 0) = true then
                        M_ref05_Right x.1.A >>= fun r33 =>
                        some r33
                      else
                        some false
                    | .ret r27 =>
                      some r27
                else
                  some false
            else
              M_ref06_at.l0 (x.2, 0, x.1) >>= fun (o35 : Lp (Unit) (Bool)) => match o35 with
              | .brk s38 =>
                if ((x.1.Parts.length : Int) == 0) = true then
                  if (decide (x.1.Op ≥ 1)) = true then
                    if (decide (x.1.Op ≤ 6)) = true then
                      M_ref05_Right x.1.A >>= fun r44 =>
                      if r44 = true then
                        M_ref05_Right x.1.B >>= fun r47 =>
                        some r47
                      else
                        some false
                    else
                      some false
                  else
                    some false
                else
                  some false
              | .ret r37 =>
                some r37
        else
          if (x.1.Op != 0) = true then
            some false
          else
            if ((x.1.B.Kind == 0) && ((x.1.B.Table == 0) && ((x.1.B.Col == 0) && ((!x.1.B.Value.Null) && (x.1.B.Value.N == 0))))) = true then
              if ((x.1.A.Kind == 0) && ((x.1.A.Table == 0) && ((x.1.A.Col == 0) && ((!x.1.A.Value.Null) && (x.1.A.Value.N == 0))))) = true then
                M_ref06_at.l0 (x.2, 0, x.1) >>= fun (o54 : Lp (Unit) (Bool)) => match o54 with
                | .brk s57 =>
                  if ((x.1.Parts.length : Int) == 0) = true then
                    if (decide (x.1.Truth ≥ 0)) = true then
                      some (decide (x.1.Truth ≤ 2))
                    else
                      some false
                  else
                    some false
                | .ret r56 =>
                  some r56
              else
                some false
            else
              some false
  partial_fixpoint
end
set_option maxHeartbeats 8000000 in
theorem M_ref06_at.l0.ws : (∀ (x : Int × Int × T_api_Pred) (o : Lp (Unit) (Bool)), M_ref06_at.l0 x = some o → (fun (x : Int × Int × T_api_Pred) (o : Lp (Unit) (Bool)) => ∀ (lo : Option Nat) (c : LCtx) (Q : Exit → LEnv → Prop) (hb : ∀ s : Unit, o = Lp.brk s → Q (.exit 0) ⟨[(2, .lref 2 0)], [(2, [.v (.i64 x.2.2.Kind), .v (.i64 x.2.2.Truth), .v (.i64 x.2.2.Op), .v (.i64 x.2.2.A.Kind), .v (.i64 x.2.2.A.Table), .v (.i64 x.2.2.A.Col), .v (.bool x.2.2.A.Value.Null), .v (.i64 x.2.2.A.Value.N), .v (.i64 x.2.2.B.Kind), .v (.i64 x.2.2.B.Table), .v (.i64 x.2.2.B.Col), .v (.bool x.2.2.B.Value.Null), .v (.i64 x.2.2.B.Value.N), .v (.slice .foreign (x.2.2.Parts.map T_api_Pred.av))])]⟩) (hr : ∀ (r : Bool) (L : LEnv), o = .ret r → LPostF Try.prog [.tmp 4] (.bool r) (fun _ => True) .ret L → Q .ret L), LLoop Try.prog 178 lo c 0 (VQ Q) ⟨[(1, .v (.i64 x.1)), (2, .lref 2 0), (6, .v (.i64 x.2.1))], [(2, [.v (.i64 x.2.2.Kind), .v (.i64 x.2.2.Truth), .v (.i64 x.2.2.Op), .v (.i64 x.2.2.A.Kind), .v (.i64 x.2.2.A.Table), .v (.i64 x.2.2.A.Col), .v (.bool x.2.2.A.Value.Null), .v (.i64 x.2.2.A.Value.N), .v (.i64 x.2.2.B.Kind), .v (.i64 x.2.2.B.Table), .v (.i64 x.2.2.B.Col), .v (.bool x.2.2.B.Value.Null), .v (.i64 x.2.2.B.Value.N), .v (.slice .foreign (x.2.2.Parts.map T_api_Pred.av))])]⟩) x o) ∧ (∀ (x : T_api_Pred × Int) (o : Bool), M_ref06_at x = some o → (fun (x : T_api_Pred × Int) (r : Bool) => Fn Try.prog 178 [.agg (T_api_Pred.C x.1), .i64 x.2] (.bool r)) x o) := by
  refine M_ref06_at.l0.mutual_partial_correctness _ _ ?_ ?_
  · intro M_M_ref06_at_l0 M_M_ref06_at ih_M_ref06_at_l0 ih_M_ref06_at x o h
    intro lo c Q hb hr
    refine LLoop.step mix fn_178 (by kernel_rfl) ?_
    simp -implicitDefEqProofs only [go_sem, Try.f178]
    by_cases h11 : (decide (x.2.1 < (x.2.2.Parts.length : Int))) = true
    · replace h := ite_some h h11
      try simp -implicitDefEqProofs only [go_sem, h11]
      obtain ⟨e12, h13, h⟩ := bind_some' h; replace h13 := getI_some h13; obtain ⟨h13', h13⟩ := h13
      try simp -implicitDefEqProofs only [go_sem, h11, h13, h13']
      obtain ⟨r14, h15, h⟩ := bind_some' h
      refine .plain _ _ rfl (ih_M_ref06_at (e12, (w64 (x.1 + 1))) _ h15) ?_
      try simp -implicitDefEqProofs only [go_sem, h11, h13, h13']
      by_cases h16 : r14 = true
      · replace h := ite_some h h16
        try simp -implicitDefEqProofs only [go_sem, h11, h13, h13', h16]
        exact LLoop.view [] (by (first | rfl | (simp -implicitDefEqProofs only [go_sem, h11, h13, h13', h16] <;> rfl))) (ih_M_ref06_at_l0 _ _ h lo c Q hb hr)
      · replace h := ite_none h h16; replace h16 := bfalse h16
        try simp -implicitDefEqProofs only [go_sem, h11, h13, h13', h16]
        injection h with h; subst h
        exact .inl (hr _ _ rfl (by (first | rfl | (simp -implicitDefEqProofs only [go_sem, h11, h13, h13', h16] <;> rfl))))
    · replace h := ite_none h h11; replace h11 := bfalse h11
      try simp -implicitDefEqProofs only [go_sem, h11]
      injection h with h; subst h
      exact .inr ⟨[], _, by (simp -implicitDefEqProofs only [go_sem, h11] <;> first | done | rfl | trivial), hb _ rfl⟩
  · intro M_M_ref06_at_l0 ih_M_ref06_at_l0 x r h
    refine Fn.of_lc mix fn_178 lok_178 (by rfl) (flC (T_api_Pred.flatC _) (flC (.atom _) (flN))) (.atom _) ?_
    simp -implicitDefEqProofs only [go_sem, Try.f178]
    by_cases h1 : (decide (x.2 > 4)) = true
    · replace h := ite_some h h1
      try simp -implicitDefEqProofs only [go_sem, h1]
      injection h with h; subst h
      first | rfl | (simp -implicitDefEqProofs only [go_sem, h1] <;> rfl)
    · replace h := ite_none h h1; replace h1 := bfalse h1
      try simp -implicitDefEqProofs only [go_sem, h1]
      by_cases h2 : (decide (x.1.Kind < 1)) = true
      · replace h := ite_some h h2
        try simp -implicitDefEqProofs only [go_sem, h1, h2]
        injection h with h; subst h
        first | rfl | (simp -implicitDefEqProofs only [go_sem, h1, h2] <;> rfl)
      · replace h := ite_none h h2; replace h2 := bfalse h2
        try simp -implicitDefEqProofs only [go_sem, h1, h2]
        by_cases h3 : (decide (x.1.Kind > 6)) = true
        · replace h := ite_some h h3
          try simp -implicitDefEqProofs only [go_sem, h1, h2, h3]
          injection h with h; subst h
          first | rfl | (simp -implicitDefEqProofs only [go_sem, h1, h2, h3] <;> rfl)
        · replace h := ite_none h h3; replace h3 := bfalse h3
          try simp -implicitDefEqProofs only [go_sem, h1, h2, h3]
          by_cases h4 : (x.1.Kind != 1) = true
          · replace h := ite_some h h4
            try simp -implicitDefEqProofs only [go_sem, h1, h2, h3, h4]
            by_cases h5 : (x.1.Truth != 0) = true
            · replace h := ite_some h h5
              try simp -implicitDefEqProofs only [go_sem, h1, h2, h3, h4, h5]
              injection h with h; subst h
              first | rfl | (simp -implicitDefEqProofs only [go_sem, h1, h2, h3, h4, h5] <;> rfl)
            · replace h := ite_none h h5; replace h5 := bfalse h5
              try simp -implicitDefEqProofs only [go_sem, h1, h2, h3, h4, h5]
              by_cases h6 : (x.1.Kind != 2) = true
              · replace h := ite_some h h6
                try simp -implicitDefEqProofs only [go_sem, h1, h2, h3, h4, h5, h6]
                by_cases h7 : (x.1.Op != 0) = true
                · replace h := ite_some h h7
                  try simp -implicitDefEqProofs only [go_sem, h1, h2, h3, h4, h5, h6, h7]
                  injection h with h; subst h
                  first | rfl | (simp -implicitDefEqProofs only [go_sem, h1, h2, h3, h4, h5, h6, h7] <;> rfl)
                · replace h := ite_none h h7; replace h7 := bfalse h7
                  try simp -implicitDefEqProofs only [go_sem, h1, h2, h3, h4, h5, h6, h7]
                  by_cases h8 : ((x.1.B.Kind == 0) && ((x.1.B.Table == 0) && ((x.1.B.Col == 0) && ((!x.1.B.Value.Null) && (x.1.B.Value.N == 0))))) = true
                  · replace h := ite_some h h8
                    try simp -implicitDefEqProofs only [go_sem, h1, h2, h3, h4, h5, h6, h7, h8]
                    by_cases h9 : (x.1.Kind != 3) = true
                    · replace h := ite_some h h9
                      try simp -implicitDefEqProofs only [go_sem, h1, h2, h3, h4, h5, h6, h7, h8, h9]
                      by_cases h10 : ((x.1.A.Kind == 0) && ((x.1.A.Table == 0) && ((x.1.A.Col == 0) && ((!x.1.A.Value.Null) && (x.1.A.Value.N == 0))))) = true
                      · replace h := ite_some h h10
                        try simp -implicitDefEqProofs only [go_sem, h1, h2, h3, h4, h5, h6, h7, h8, h9, h10]
                        obtain ⟨o17, h18, h⟩ := bind_some' h
                        refine LLoop.viewQ (LLoop.view [] (by (first | rfl | (simp -implicitDefEqProofs only [go_sem, h1, h2, h3, h4, h5, h6, h7, h8, h9, h10] <;> rfl))) (ih_M_ref06_at_l0 (x.2, 0, x.1) _ h18 _ _ _ ?_ ?_))
                        · intro s20 hs'; subst hs'
                          try simp -implicitDefEqProofs only [go_sem, h1, h2, h3, h4, h5, h6, h7, h8, h9, h10]
                          have h21 : (x.1.Kind == 1) = false := neb_t h4
                          try simp -implicitDefEqProofs only [go_sem, h1, h2, h3, h4, h5, h6, h7, h8, h9, h10, h21]
                          have h22 : (x.1.Kind == 2) = false := neb_t h6
                          try simp -implicitDefEqProofs only [go_sem, h1, h2, h3, h4, h5, h6, h7, h8, h9, h10, h21, h22]
                          have h23 : (x.1.Kind == 3) = false := neb_t h9
                          try simp -implicitDefEqProofs only [go_sem, h1, h2, h3, h4, h5, h6, h7, h8, h9, h10, h21, h22, h23]
                          by_cases h24 : (x.1.Kind == 6) = true
                          · replace h := ite_some h h24
                            try simp -implicitDefEqProofs only [go_sem, h1, h2, h3, h4, h5, h6, h7, h8, h9, h10, h21, h22, h23, h24]
                            injection h with h; subst h
                            first | rfl | (simp -implicitDefEqProofs only [go_sem, h1, h2, h3, h4, h5, h6, h7, h8, h9, h10, h21, h22, h23, h24] <;> rfl)
                          · replace h := ite_none h h24; replace h24 := bfalse h24
                            try simp -implicitDefEqProofs only [go_sem, h1, h2, h3, h4, h5, h6, h7, h8, h9, h10, h21, h22, h23, h24]
                            injection h with h; subst h
                            first | rfl | (simp -implicitDefEqProofs only [go_sem, h1, h2, h3, h4, h5, h6, h7, h8, h9, h10, h21, h22, h23, h24] <;> rfl)
                        · intro r19 L' hs' hL'; subst hs'
                          injection h with h; subst h
                          first | exact hL' | (simp -implicitDefEqProofs only [go_sem]; exact hL') | (simp -implicitDefEqProofs only [go_sem]; simp -implicitDefEqProofs only [go_sem] at hL'; exact hL')
                      · replace h := ite_none h h10; replace h10 := bfalse h10
                        try simp -implicitDefEqProofs only [go_sem, h1, h2, h3, h4, h5, h6, h7, h8, h9, h10]
                        injection h with h; subst h
                        first | rfl | (simp -implicitDefEqProofs only [go_sem, h1, h2, h3, h4, h5, h6, h7, h8, h9, h10] <;> rfl)
                    · replace h := ite_none h h9; replace h9 := bfalse h9
                      try simp -implicitDefEqProofs only [go_sem, h1, h2, h3, h4, h5, h6, h7, h8, h9]
                      obtain ⟨o25, h26, h⟩ := bind_some' h
                      refine LLoop.viewQ (LLoop.view [] (by (first | rfl | (simp -implicitDefEqProofs only [go_sem, h1, h2, h3, h4, h5, h6, h7, h8, h9] <;> rfl))) (ih_M_ref06_at_l0 (x.2, 0, x.1) _ h26 _ _ _ ?_ ?_))
                      · intro s28 hs'; subst hs'
                        try simp -implicitDefEqProofs only [go_sem, h1, h2, h3, h4, h5, h6, h7, h8, h9]
                        have h29 : (x.1.Kind == 1) = false := neb_t h4
                        try simp -implicitDefEqProofs only [go_sem, h1, h2, h3, h4, h5, h6, h7, h8, h9, h29]
                        have h30 : (x.1.Kind == 2) = false := neb_t h6
                        try simp -implicitDefEqProofs only [go_sem, h1, h2, h3, h4, h5, h6, h7, h8, h9, h29, h30]
                        have h31 : (x.1.Kind == 3) = true := neb_f h9
                        try simp -implicitDefEqProofs only [go_sem, h1, h2, h3, h4, h5, h6, h7, h8, h9, h29, h30, h31]
                        by_cases h32 : ((x.1.Parts.length : Int) == 0) = true
                        · replace h := ite_some h h32
                          try simp -implicitDefEqProofs only [go_sem, h1, h2, h3, h4, h5, h6, h7, h8, h9, h29, h30, h31, h32]
                          obtain ⟨r33, h34, h⟩ := bind_some' h
                          refine .plain _ _ rfl (M_ref05_Right.w x.1.A _ h34) ?_
                          try simp -implicitDefEqProofs only [go_sem, h1, h2, h3, h4, h5, h6, h7, h8, h9, h29, h30, h31, h32]
                          injection h with h; subst h
                          first | rfl | (simp -implicitDefEqProofs only [go_sem, h1, h2, h3, h4, h5, h6, h7, h8, h9, h29, h30, h31, h32] <;> rfl)
                        · replace h := ite_none h h32; replace h32 := bfalse h32
                          try simp -implicitDefEqProofs only [go_sem, h1, h2, h3, h4, h5, h6, h7, h8, h9, h29, h30, h31, h32]
                          injection h with h; subst h
                          first | rfl | (simp -implicitDefEqProofs only [go_sem, h1, h2, h3, h4, h5, h6, h7, h8, h9, h29, h30, h31, h32] <;> rfl)
                      · intro r27 L' hs' hL'; subst hs'
                        injection h with h; subst h
                        first | exact hL' | (simp -implicitDefEqProofs only [go_sem]; exact hL') | (simp -implicitDefEqProofs only [go_sem]; simp -implicitDefEqProofs only [go_sem] at hL'; exact hL')
                  · replace h := ite_none h h8; replace h8 := bfalse h8
                    try simp -implicitDefEqProofs only [go_sem, h1, h2, h3, h4, h5, h6, h7, h8]
                    injection h with h; subst h
                    first | rfl | (simp -implicitDefEqProofs only [go_sem, h1, h2, h3, h4, h5, h6, h7, h8] <;> rfl)
              · replace h := ite_none h h6; replace h6 := bfalse h6
                try simp -implicitDefEqProofs only [go_sem, h1, h2, h3, h4, h5, h6]
                obtain ⟨o35, h36, h⟩ := bind_some' h
                refine LLoop.viewQ (LLoop.view [] (by (first | rfl | (simp -implicitDefEqProofs only [go_sem, h1, h2, h3, h4, h5, h6] <;> rfl))) (ih_M_ref06_at_l0 (x.2, 0, x.1) _ h36 _ _ _ ?_ ?_))
                · intro s38 hs'; subst hs'
                  try simp -implicitDefEqProofs only [go_sem, h1, h2, h3, h4, h5, h6]
                  have h39 : (x.1.Kind == 1) = false := neb_t h4
                  try simp -implicitDefEqProofs only [go_sem, h1, h2, h3, h4, h5, h6, h39]
                  have h40 : (x.1.Kind == 2) = true := neb_f h6
                  try simp -implicitDefEqProofs only [go_sem, h1, h2, h3, h4, h5, h6, h39, h40]
                  by_cases h41 : ((x.1.Parts.length : Int) == 0) = true
                  · replace h := ite_some h h41
                    try simp -implicitDefEqProofs only [go_sem, h1, h2, h3, h4, h5, h6, h39, h40, h41]
                    by_cases h42 : (decide (x.1.Op ≥ 1)) = true
                    · replace h := ite_some h h42
                      try simp -implicitDefEqProofs only [go_sem, h1, h2, h3, h4, h5, h6, h39, h40, h41, h42]
                      by_cases h43 : (decide (x.1.Op ≤ 6)) = true
                      · replace h := ite_some h h43
                        try simp -implicitDefEqProofs only [go_sem, h1, h2, h3, h4, h5, h6, h39, h40, h41, h42, h43]
                        obtain ⟨r44, h45, h⟩ := bind_some' h
                        refine .plain _ _ rfl (M_ref05_Right.w x.1.A _ h45) ?_
                        try simp -implicitDefEqProofs only [go_sem, h1, h2, h3, h4, h5, h6, h39, h40, h41, h42, h43]
                        by_cases h46 : r44 = true
                        · replace h := ite_some h h46
                          try simp -implicitDefEqProofs only [go_sem, h1, h2, h3, h4, h5, h6, h39, h40, h41, h42, h43, h46]
                          obtain ⟨r47, h48, h⟩ := bind_some' h
                          refine .plain _ _ rfl (M_ref05_Right.w x.1.B _ h48) ?_
                          try simp -implicitDefEqProofs only [go_sem, h1, h2, h3, h4, h5, h6, h39, h40, h41, h42, h43, h46]
                          injection h with h; subst h
                          first | rfl | (simp -implicitDefEqProofs only [go_sem, h1, h2, h3, h4, h5, h6, h39, h40, h41, h42, h43, h46] <;> rfl)
                        · replace h := ite_none h h46; replace h46 := bfalse h46
                          try simp -implicitDefEqProofs only [go_sem, h1, h2, h3, h4, h5, h6, h39, h40, h41, h42, h43, h46]
                          injection h with h; subst h
                          first | rfl | (simp -implicitDefEqProofs only [go_sem, h1, h2, h3, h4, h5, h6, h39, h40, h41, h42, h43, h46] <;> rfl)
                      · replace h := ite_none h h43; replace h43 := bfalse h43
                        try simp -implicitDefEqProofs only [go_sem, h1, h2, h3, h4, h5, h6, h39, h40, h41, h42, h43]
                        injection h with h; subst h
                        first | rfl | (simp -implicitDefEqProofs only [go_sem, h1, h2, h3, h4, h5, h6, h39, h40, h41, h42, h43] <;> rfl)
                    · replace h := ite_none h h42; replace h42 := bfalse h42
                      try simp -implicitDefEqProofs only [go_sem, h1, h2, h3, h4, h5, h6, h39, h40, h41, h42]
                      injection h with h; subst h
                      first | rfl | (simp -implicitDefEqProofs only [go_sem, h1, h2, h3, h4, h5, h6, h39, h40, h41, h42] <;> rfl)
                  · replace h := ite_none h h41; replace h41 := bfalse h41
                    try simp -implicitDefEqProofs only [go_sem, h1, h2, h3, h4, h5, h6, h39, h40, h41]
                    injection h with h; subst h
                    first | rfl | (simp -implicitDefEqProofs only [go_sem, h1, h2, h3, h4, h5, h6, h39, h40, h41] <;> rfl)
                · intro r37 L' hs' hL'; subst hs'
                  injection h with h; subst h
                  first | exact hL' | (simp -implicitDefEqProofs only [go_sem]; exact hL') | (simp -implicitDefEqProofs only [go_sem]; simp -implicitDefEqProofs only [go_sem] at hL'; exact hL')
          · replace h := ite_none h h4; replace h4 := bfalse h4
            try simp -implicitDefEqProofs only [go_sem, h1, h2, h3, h4]
            have h49 : (x.1.Kind != 2) = true := by rw [nebI h4]; rfl
            try simp -implicitDefEqProofs only [go_sem, h1, h2, h3, h4, h49]
            by_cases h50 : (x.1.Op != 0) = true
            · replace h := ite_some h h50
              try simp -implicitDefEqProofs only [go_sem, h1, h2, h3, h4, h49, h50]
              injection h with h; subst h
              first | rfl | (simp -implicitDefEqProofs only [go_sem, h1, h2, h3, h4, h49, h50] <;> rfl)
            · replace h := ite_none h h50; replace h50 := bfalse h50
              try simp -implicitDefEqProofs only [go_sem, h1, h2, h3, h4, h49, h50]
              by_cases h51 : ((x.1.B.Kind == 0) && ((x.1.B.Table == 0) && ((x.1.B.Col == 0) && ((!x.1.B.Value.Null) && (x.1.B.Value.N == 0))))) = true
              · replace h := ite_some h h51
                try simp -implicitDefEqProofs only [go_sem, h1, h2, h3, h4, h49, h50, h51]
                have h52 : (x.1.Kind != 3) = true := by rw [nebI h4]; rfl
                try simp -implicitDefEqProofs only [go_sem, h1, h2, h3, h4, h49, h50, h51, h52]
                by_cases h53 : ((x.1.A.Kind == 0) && ((x.1.A.Table == 0) && ((x.1.A.Col == 0) && ((!x.1.A.Value.Null) && (x.1.A.Value.N == 0))))) = true
                · replace h := ite_some h h53
                  try simp -implicitDefEqProofs only [go_sem, h1, h2, h3, h4, h49, h50, h51, h52, h53]
                  obtain ⟨o54, h55, h⟩ := bind_some' h
                  refine LLoop.viewQ (LLoop.view [] (by (first | rfl | (simp -implicitDefEqProofs only [go_sem, h1, h2, h3, h4, h49, h50, h51, h52, h53] <;> rfl))) (ih_M_ref06_at_l0 (x.2, 0, x.1) _ h55 _ _ _ ?_ ?_))
                  · intro s57 hs'; subst hs'
                    try simp -implicitDefEqProofs only [go_sem, h1, h2, h3, h4, h49, h50, h51, h52, h53]
                    have h58 : (x.1.Kind == 1) = true := neb_f h4
                    try simp -implicitDefEqProofs only [go_sem, h1, h2, h3, h4, h49, h50, h51, h52, h53, h58]
                    by_cases h59 : ((x.1.Parts.length : Int) == 0) = true
                    · replace h := ite_some h h59
                      try simp -implicitDefEqProofs only [go_sem, h1, h2, h3, h4, h49, h50, h51, h52, h53, h58, h59]
                      by_cases h60 : (decide (x.1.Truth ≥ 0)) = true
                      · replace h := ite_some h h60
                        try simp -implicitDefEqProofs only [go_sem, h1, h2, h3, h4, h49, h50, h51, h52, h53, h58, h59, h60]
                        injection h with h; subst h
                        first | rfl | (simp -implicitDefEqProofs only [go_sem, h1, h2, h3, h4, h49, h50, h51, h52, h53, h58, h59, h60] <;> rfl)
                      · replace h := ite_none h h60; replace h60 := bfalse h60
                        try simp -implicitDefEqProofs only [go_sem, h1, h2, h3, h4, h49, h50, h51, h52, h53, h58, h59, h60]
                        injection h with h; subst h
                        first | rfl | (simp -implicitDefEqProofs only [go_sem, h1, h2, h3, h4, h49, h50, h51, h52, h53, h58, h59, h60] <;> rfl)
                    · replace h := ite_none h h59; replace h59 := bfalse h59
                      try simp -implicitDefEqProofs only [go_sem, h1, h2, h3, h4, h49, h50, h51, h52, h53, h58, h59]
                      injection h with h; subst h
                      first | rfl | (simp -implicitDefEqProofs only [go_sem, h1, h2, h3, h4, h49, h50, h51, h52, h53, h58, h59] <;> rfl)
                  · intro r56 L' hs' hL'; subst hs'
                    injection h with h; subst h
                    first | exact hL' | (simp -implicitDefEqProofs only [go_sem]; exact hL') | (simp -implicitDefEqProofs only [go_sem]; simp -implicitDefEqProofs only [go_sem] at hL'; exact hL')
                · replace h := ite_none h h53; replace h53 := bfalse h53
                  try simp -implicitDefEqProofs only [go_sem, h1, h2, h3, h4, h49, h50, h51, h52, h53]
                  injection h with h; subst h
                  first | rfl | (simp -implicitDefEqProofs only [go_sem, h1, h2, h3, h4, h49, h50, h51, h52, h53] <;> rfl)
              · replace h := ite_none h h51; replace h51 := bfalse h51
                try simp -implicitDefEqProofs only [go_sem, h1, h2, h3, h4, h49, h50, h51]
                injection h with h; subst h
                first | rfl | (simp -implicitDefEqProofs only [go_sem, h1, h2, h3, h4, h49, h50, h51] <;> rfl)
theorem M_ref06_at.w : type_of% (M_ref06_at.l0.ws.2) := M_ref06_at.l0.ws.2
end Go.Proofs.Ytakmilmckdllfaa.G
set_option linter.unusedVariables false
set_option linter.unusedSimpArgs false
set_option maxRecDepth 100000
namespace Go.Proofs.Ytakmilmckdllfaa.G
theorem lok_172 : (Try.f172.body.isSome && !(Try.f172.name == "runtime.NumGoroutine") && okL (bodyF Try.f172) Try.f172.ntmps (bodyF Try.f172)) = true := by kernel_rfl
def M_ref06_Right (x : T_api_Pred) : Option (Bool) :=
  M_ref06_at (x, 1) >>= fun r1 =>
  some r1
theorem M_ref06_Right.w : ∀ (x : T_api_Pred) (r : Bool), M_ref06_Right x = some r → (fun (x : T_api_Pred) (r : Bool) => Fn Try.prog 172 [.agg (T_api_Pred.C x)] (.bool r)) x r := by
  intro x r h
  rw [M_ref06_Right] at h
  try dsimp only
  refine Fn.of_lc mix fn_172 lok_172 (by rfl) (flC (T_api_Pred.flatC _) (flN)) (.atom _) ?_
  simp -implicitDefEqProofs only [go_sem, Try.f172]
  obtain ⟨r1, h2, h⟩ := bind_some' h
  refine .plain _ _ rfl (M_ref06_at.w (x, 1) _ h2) ?_
  try simp -implicitDefEqProofs only [go_sem]
  injection h with h; subst h
  first | rfl | (simp -implicitDefEqProofs only [go_sem] <;> rfl)
end Go.Proofs.Ytakmilmckdllfaa.G
set_option linter.unusedVariables false
set_option linter.unusedSimpArgs false
set_option maxRecDepth 100000
namespace Go.Proofs.Ytakmilmckdllfaa.G
theorem lok_132 : (Try.f132.body.isSome && !(Try.f132.name == "runtime.NumGoroutine") && okL (bodyF Try.f132) Try.f132.ntmps (bodyF Try.f132)) = true := by kernel_rfl
def M_ref05_Tables (x : T_api_Term) : Option (Set64) :=
  if (x.Kind != 1) = true then
    some (0#64)
  else
    M_ref01_Of ([x.Table]) >>= fun r2 =>
    some r2
theorem M_ref05_Tables.w : ∀ (x : T_api_Term) (r : Set64), M_ref05_Tables x = some r → (fun (x : T_api_Term) (r : Set64) => Fn Try.prog 132 [.agg (T_api_Term.C x)] (.w r)) x r := by
  intro x r h
  rw [M_ref05_Tables] at h
  try dsimp only
  refine Fn.of_lc mix fn_132 lok_132 (by rfl) (flC (T_api_Term.flatC _) (flN)) (.atom _) ?_
  simp -implicitDefEqProofs only [go_sem, Try.f132]
  by_cases h1 : (x.Kind != 1) = true
  · replace h := ite_some h h1
    try simp -implicitDefEqProofs only [go_sem, h1]
    injection h with h; subst h
    first | rfl | simp -implicitDefEqProofs only [go_sem, h1] <;> rfl
  · replace h := ite_none h h1; replace h1 := bfalse h1
    try simp -implicitDefEqProofs only [go_sem, h1]
    obtain ⟨r2, h3, h⟩ := bind_some' h
    have hw := M_ref01_Of.w ([x.Table]) _ h3
    simp -implicitDefEqProofs only [go_sem] at hw
    refine .plain _ _ rfl hw ?_
    clear hw
    try simp -implicitDefEqProofs only [go_sem, h1]
    injection h with h; subst h
    first | rfl | simp -implicitDefEqProofs only [go_sem, h1] <;> rfl
end Go.Proofs.Ytakmilmckdllfaa.G
set_option linter.unusedVariables false
set_option linter.unusedSimpArgs false
set_option maxRecDepth 100000
namespace Go.Proofs.Ytakmilmckdllfaa.G
@[go_sem] theorem lrp_85_1 : lrp Try.prog 85 1 = (8, []) := by kernel_rfl
theorem lok_85 : (Try.f85.body.isSome && !(Try.f85.name == "runtime.NumGoroutine") && okL (bodyF Try.f85) Try.f85.ntmps (bodyF Try.f85)) = true := by kernel_rfl
mutual
def M_ref06_Tables.l0 (x : Set64 × Int × T_api_Pred) : Option (Set64) :=
  if (decide (x.2.1 < (x.2.2.Parts.length : Int))) = true then
    (getI x.2.2.Parts x.2.1) >>= fun (e6 : T_api_Pred) =>
    M_ref06_Tables e6 >>= fun r8 =>
    M_ref06_Tables.l0 ((x.1 ||| r8), (w64 (x.2.1 + 1)), x.2.2)
  else
    some x.1
  partial_fixpoint
def M_ref06_Tables (x : T_api_Pred) : Option (Set64) :=
  M_ref05_Tables x.A >>= fun r1 =>
  M_ref05_Tables x.B >>= fun r3 =>
  M_ref06_Tables.l0 ((r1 ||| r3), 0, x) >>= fun (o10 : Set64) =>
  some o10
  partial_fixpoint
end
theorem M_ref06_Tables.l0.ws : (∀ (x : Set64 × Int × T_api_Pred) (o : Set64), M_ref06_Tables.l0 x = some o → (fun (x : Set64 × Int × T_api_Pred) (o : Set64) => ∀ (lo : Option Nat) (c : LCtx) (Q : Exit → LEnv → Prop) (hb : ∀ s : Set64, o = s → Q (.exit 0) ⟨[(3, .v (.w s))], []⟩), LLoop Try.prog 85 lo c 0 (VQ Q) ⟨[(1, .lref 1 0), (3, .v (.w x.1)), (4, .v (.i64 x.2.1))], [(1, [.v (.i64 x.2.2.Kind), .v (.i64 x.2.2.Truth), .v (.i64 x.2.2.Op), .v (.i64 x.2.2.A.Kind), .v (.i64 x.2.2.A.Table), .v (.i64 x.2.2.A.Col), .v (.bool x.2.2.A.Value.Null), .v (.i64 x.2.2.A.Value.N), .v (.i64 x.2.2.B.Kind), .v (.i64 x.2.2.B.Table), .v (.i64 x.2.2.B.Col), .v (.bool x.2.2.B.Value.Null), .v (.i64 x.2.2.B.Value.N), .v (.slice .foreign (x.2.2.Parts.map T_api_Pred.av))])]⟩) x o) ∧ (∀ (x : T_api_Pred) (o : Set64), M_ref06_Tables x = some o → (fun (x : T_api_Pred) (r : Set64) => Fn Try.prog 85 [.agg (T_api_Pred.C x)] (.w r)) x o) := by
  refine M_ref06_Tables.l0.mutual_partial_correctness _ _ ?_ ?_
  · intro M_M_ref06_Tables_l0 M_M_ref06_Tables ih_M_ref06_Tables_l0 ih_M_ref06_Tables x o h
    intro lo c Q hb
    refine LLoop.step mix fn_85 (by kernel_rfl) ?_
    simp -implicitDefEqProofs only [go_sem, Try.f85]
    by_cases h5 : (decide (x.2.1 < (x.2.2.Parts.length : Int))) = true
    · replace h := ite_some h h5
      try simp -implicitDefEqProofs only [go_sem, h5]
      obtain ⟨e6, h7, h⟩ := bind_some' h; replace h7 := getI_some h7; obtain ⟨h7', h7⟩ := h7
      try simp -implicitDefEqProofs only [go_sem, h5, h7, h7']
      obtain ⟨r8, h9, h⟩ := bind_some' h
      refine .plain _ _ rfl (ih_M_ref06_Tables e6 _ h9) ?_
      try simp -implicitDefEqProofs only [go_sem, h5, h7, h7']
      exact LLoop.view [] (by (first | rfl | simp -implicitDefEqProofs only [go_sem, h5, h7, h7'] <;> rfl)) (ih_M_ref06_Tables_l0 _ _ h lo c Q hb)
    · replace h := ite_none h h5; replace h5 := bfalse h5
      try simp -implicitDefEqProofs only [go_sem, h5]
      injection h with h; subst h
      exact .inr ⟨[], _, by (simp -implicitDefEqProofs only [go_sem, h5] <;> first | done | rfl | trivial), hb _ rfl⟩
  · intro M_M_ref06_Tables_l0 ih_M_ref06_Tables_l0 x r h
    refine Fn.of_lc mix fn_85 lok_85 (by rfl) (flC (T_api_Pred.flatC _) (flN)) (.atom _) ?_
    simp -implicitDefEqProofs only [go_sem, Try.f85]
    obtain ⟨r1, h2, h⟩ := bind_some' h
    refine .plain _ _ rfl (M_ref05_Tables.w x.A _ h2) ?_
    try simp -implicitDefEqProofs only [go_sem]
    obtain ⟨r3, h4, h⟩ := bind_some' h
    refine .plain _ _ rfl (M_ref05_Tables.w x.B _ h4) ?_
    try simp -implicitDefEqProofs only [go_sem]
    obtain ⟨o10, h11, h⟩ := bind_some' h
    refine LLoop.viewQ (LLoop.view [] (by (first | rfl | simp -implicitDefEqProofs only [go_sem] <;> rfl)) (ih_M_ref06_Tables_l0 ((r1 ||| r3), 0, x) _ h11 _ _ _ ?_))
    intro s' hs'; subst hs'
    try simp -implicitDefEqProofs only [go_sem]
    injection h with h; subst h
    first | rfl | simp -implicitDefEqProofs only [go_sem] <;> rfl
theorem M_ref06_Tables.w : type_of% (M_ref06_Tables.l0.ws.2) := M_ref06_Tables.l0.ws.2
end Go.Proofs.Ytakmilmckdllfaa.G
set_option linter.unusedVariables false
set_option linter.unusedSimpArgs false
set_option maxRecDepth 100000
namespace Go.Proofs.Ytakmilmckdllfaa.G
@[go_sem] theorem lrp_155_7 : lrp Try.prog 155 7 = (34, []) := by kernel_rfl
theorem lok_155 : (Try.f155.body.isSome && !(Try.f155.name == "runtime.NumGoroutine") && okL (bodyF Try.f155) Try.f155.ntmps (bodyF Try.f155)) = true := by kernel_rfl
def M_ref11_conj.l0 (x : List Int × Set64 × Set64 × List A2_Int × Int × T_api_Pred) : Option (Lp (Unit) (Int)) :=
  if (decide (x.2.2.2.2.1 < (x.2.2.2.1.length : Int))) = true then
    (getI x.2.2.2.1 x.2.2.2.2.1) >>= fun (e7 : A2_Int) =>
    M_ref01_Has (x.2.1, e7.e0) >>= fun r9 =>
    if r9 = true then
      (getI x.1 e7.e0) >>= fun (e12 : Int) =>
      if (decide (e7.e1 ≥ e12)) = true then
        some (.ret 10)
      else
        M_ref11_conj.l0 (x.1, x.2.1, x.2.2.1, x.2.2.2.1, (w64 (x.2.2.2.2.1 + 1)), x.2.2.2.2.2)
    else
      M_ref01_Has (x.2.2.1, e7.e0) >>= fun r15 =>
      if r15 = true then
        (getI x.1 e7.e0) >>= fun (e18 : Int) =>
        if (decide (e7.e1 ≥ e18)) = true then
          some (.ret 10)
        else
          M_ref11_conj.l0 (x.1, x.2.1, x.2.2.1, x.2.2.2.1, (w64 (x.2.2.2.2.1 + 1)), x.2.2.2.2.2)
      else
        some (.ret 10)
  else
    some (.brk ())
  partial_fixpoint
theorem M_ref11_conj.l0.ws : (∀ (x : List Int × Set64 × Set64 × List A2_Int × Int × T_api_Pred) (o : Lp (Unit) (Int)), M_ref11_conj.l0 x = some o → (fun (x : List Int × Set64 × Set64 × List A2_Int × Int × T_api_Pred) (o : Lp (Unit) (Int)) => ∀ (lo : Option Nat) (c : LCtx) (Q : Exit → LEnv → Prop) (hb : ∀ s : Unit, o = Lp.brk s → Q (.exit 0) ⟨[(2, .v (.w x.2.1)), (3, .v (.w x.2.2.1)), (4, .lref 4 0)], [(4, [.v (.i64 x.2.2.2.2.2.Kind), .v (.i64 x.2.2.2.2.2.Truth), .v (.i64 x.2.2.2.2.2.Op), .v (.i64 x.2.2.2.2.2.A.Kind), .v (.i64 x.2.2.2.2.2.A.Table), .v (.i64 x.2.2.2.2.2.A.Col), .v (.bool x.2.2.2.2.2.A.Value.Null), .v (.i64 x.2.2.2.2.2.A.Value.N), .v (.i64 x.2.2.2.2.2.B.Kind), .v (.i64 x.2.2.2.2.2.B.Table), .v (.i64 x.2.2.2.2.2.B.Col), .v (.bool x.2.2.2.2.2.B.Value.Null), .v (.i64 x.2.2.2.2.2.B.Value.N), .v (.slice .foreign (x.2.2.2.2.2.Parts.map T_api_Pred.av))])]⟩) (hr : ∀ (r : Int) (L : LEnv), o = .ret r → LPostF Try.prog [.tmp 8] (.i64 r) (fun _ => True) .ret L → Q .ret L), LLoop Try.prog 155 lo c 0 (VQ Q) ⟨[(1, .v (.slice .foreign (x.1.map AV.i64))), (2, .v (.w x.2.1)), (3, .v (.w x.2.2.1)), (4, .lref 4 0), (9, .v (.slice .foreign (x.2.2.2.1.map A2_Int.av))), (10, .v (.i64 x.2.2.2.2.1))], [(4, [.v (.i64 x.2.2.2.2.2.Kind), .v (.i64 x.2.2.2.2.2.Truth), .v (.i64 x.2.2.2.2.2.Op), .v (.i64 x.2.2.2.2.2.A.Kind), .v (.i64 x.2.2.2.2.2.A.Table), .v (.i64 x.2.2.2.2.2.A.Col), .v (.bool x.2.2.2.2.2.A.Value.Null), .v (.i64 x.2.2.2.2.2.A.Value.N), .v (.i64 x.2.2.2.2.2.B.Kind), .v (.i64 x.2.2.2.2.2.B.Table), .v (.i64 x.2.2.2.2.2.B.Col), .v (.bool x.2.2.2.2.2.B.Value.Null), .v (.i64 x.2.2.2.2.2.B.Value.N), .v (.slice .foreign (x.2.2.2.2.2.Parts.map T_api_Pred.av))])]⟩) x o) := by
  refine M_ref11_conj.l0.partial_correctness _ ?_
  · intro M_M_ref11_conj_l0 ih_M_ref11_conj_l0 x o h
    intro lo c Q hb hr
    refine LLoop.step mix fn_155 (by kernel_rfl) ?_
    simp -implicitDefEqProofs only [go_sem, Try.f155]
    by_cases h6 : (decide (x.2.2.2.2.1 < (x.2.2.2.1.length : Int))) = true
    · replace h := ite_some h h6
      try simp -implicitDefEqProofs only [go_sem, h6]
      obtain ⟨e7, h8, h⟩ := bind_some' h; replace h8 := getI_some h8; obtain ⟨h8', h8⟩ := h8
      try simp -implicitDefEqProofs only [go_sem, h6, h8, h8']
      obtain ⟨r9, h10, h⟩ := bind_some' h
      refine .plain _ _ rfl (M_ref01_Has.w (x.2.1, e7.e0) _ h10) ?_
      try simp -implicitDefEqProofs only [go_sem, h6, h8, h8']
      by_cases h11 : r9 = true
      · replace h := ite_some h h11
        try simp -implicitDefEqProofs only [go_sem, h6, h8, h8', h11]
        obtain ⟨e12, h13, h⟩ := bind_some' h; replace h13 := getI_some h13; obtain ⟨h13', h13⟩ := h13
        try simp -implicitDefEqProofs only [go_sem, h6, h8, h8', h11, h13, h13']
        by_cases h14 : (decide (e7.e1 ≥ e12)) = true
        · replace h := ite_some h h14
          try simp -implicitDefEqProofs only [go_sem, h6, h8, h8', h11, h13, h13', h14]
          injection h with h; subst h
          exact .inl (hr _ _ rfl (by (first | rfl | (simp -implicitDefEqProofs only [go_sem, h6, h8, h8', h11, h13, h13', h14] <;> rfl))))
        · replace h := ite_none h h14; replace h14 := bfalse h14
          try simp -implicitDefEqProofs only [go_sem, h6, h8, h8', h11, h13, h13', h14]
          exact LLoop.view [] (by (first | rfl | (simp -implicitDefEqProofs only [go_sem, h6, h8, h8', h11, h13, h13', h14] <;> rfl))) (ih_M_ref11_conj_l0 _ _ h lo c Q hb hr)
      · replace h := ite_none h h11; replace h11 := bfalse h11
        try simp -implicitDefEqProofs only [go_sem, h6, h8, h8', h11]
        obtain ⟨r15, h16, h⟩ := bind_some' h
        refine .plain _ _ rfl (M_ref01_Has.w (x.2.2.1, e7.e0) _ h16) ?_
        try simp -implicitDefEqProofs only [go_sem, h6, h8, h8', h11]
        by_cases h17 : r15 = true
        · replace h := ite_some h h17
          try simp -implicitDefEqProofs only [go_sem, h6, h8, h8', h11, h17]
          obtain ⟨e18, h19, h⟩ := bind_some' h; replace h19 := getI_some h19; obtain ⟨h19', h19⟩ := h19
          try simp -implicitDefEqProofs only [go_sem, h6, h8, h8', h11, h17, h19, h19']
          by_cases h20 : (decide (e7.e1 ≥ e18)) = true
          · replace h := ite_some h h20
            try simp -implicitDefEqProofs only [go_sem, h6, h8, h8', h11, h17, h19, h19', h20]
            injection h with h; subst h
            exact .inl (hr _ _ rfl (by (first | rfl | (simp -implicitDefEqProofs only [go_sem, h6, h8, h8', h11, h17, h19, h19', h20] <;> rfl))))
          · replace h := ite_none h h20; replace h20 := bfalse h20
            try simp -implicitDefEqProofs only [go_sem, h6, h8, h8', h11, h17, h19, h19', h20]
            exact LLoop.view [] (by (first | rfl | (simp -implicitDefEqProofs only [go_sem, h6, h8, h8', h11, h17, h19, h19', h20] <;> rfl))) (ih_M_ref11_conj_l0 _ _ h lo c Q hb hr)
        · replace h := ite_none h h17; replace h17 := bfalse h17
          try simp -implicitDefEqProofs only [go_sem, h6, h8, h8', h11, h17]
          injection h with h; subst h
          exact .inl (hr _ _ rfl (by (first | rfl | (simp -implicitDefEqProofs only [go_sem, h6, h8, h8', h11, h17] <;> rfl))))
    · replace h := ite_none h h6; replace h6 := bfalse h6
      try simp -implicitDefEqProofs only [go_sem, h6]
      injection h with h; subst h
      exact .inr ⟨[], _, by (simp -implicitDefEqProofs only [go_sem, h6] <;> first | done | rfl | trivial), hb _ rfl⟩
theorem M_ref11_conj.l0.w : type_of% (M_ref11_conj.l0.ws) := M_ref11_conj.l0.ws
def M_ref11_conj (x : T_api_Pred × List Int × Set64 × Set64) : Option (Int) :=
  M_ref06_Right x.1 >>= fun r1 =>
  if r1 = true then
    M_ref06_Columns x.1 >>= fun r4 =>
    M_ref11_conj.l0 (x.2.1, x.2.2.1, x.2.2.2, r4, 0, x.1) >>= fun (o21 : Lp (Unit) (Int)) => match o21 with
    | .brk s24 =>
      M_ref06_Tables x.1 >>= fun r25 =>
      if ((r25 &&& x.2.2.1) == 0#64) = true then
        some 11
      else
        if ((r25 &&& x.2.2.2) == 0#64) = true then
          some 11
        else
          some 0
    | .ret r23 =>
      some r23
  else
    some 9
theorem M_ref11_conj.w : ∀ (x : T_api_Pred × List Int × Set64 × Set64) (r : Int), M_ref11_conj x = some r → (fun (x : T_api_Pred × List Int × Set64 × Set64) (r : Int) => Fn Try.prog 155 [.agg (T_api_Pred.C x.1), .slice .foreign (x.2.1.map AV.i64), .w x.2.2.1, .w x.2.2.2] (.i64 r)) x r := by
  intro x r h
  rw [M_ref11_conj] at h
  try dsimp only
  refine Fn.of_lc mix fn_155 lok_155 (by rfl) (flC (T_api_Pred.flatC _) (flC (flat_slice _ (fun _ => .atom _) _) (flC (.atom _) (flC (.atom _) (flN))))) (.atom _) ?_
  simp -implicitDefEqProofs only [go_sem, Try.f155]
  obtain ⟨r1, h2, h⟩ := bind_some' h
  refine .plain _ _ rfl (M_ref06_Right.w x.1 _ h2) ?_
  try simp -implicitDefEqProofs only [go_sem]
  by_cases h3 : r1 = true
  · replace h := ite_some h h3
    try simp -implicitDefEqProofs only [go_sem, h3]
    obtain ⟨r4, h5, h⟩ := bind_some' h
    refine .plain _ _ rfl (M_ref06_Columns.w x.1 _ h5) ?_
    try simp -implicitDefEqProofs only [go_sem, h3]
    obtain ⟨o21, h22, h⟩ := bind_some' h
    refine LLoop.viewQ (LLoop.view [] (by (first | rfl | (simp -implicitDefEqProofs only [go_sem, h3] <;> rfl))) (M_ref11_conj.l0.w (x.2.1, x.2.2.1, x.2.2.2, r4, 0, x.1) _ h22 _ _ _ ?_ ?_))
    · intro s24 hs'; subst hs'
      try simp -implicitDefEqProofs only [go_sem, h3]
      obtain ⟨r25, h26, h⟩ := bind_some' h
      refine .plain _ _ rfl (M_ref06_Tables.w x.1 _ h26) ?_
      try simp -implicitDefEqProofs only [go_sem, h3]
      by_cases h27 : ((r25 &&& x.2.2.1) == 0#64) = true
      · replace h := ite_some h h27
        try simp -implicitDefEqProofs only [go_sem, h3, h27]
        injection h with h; subst h
        first | rfl | (simp -implicitDefEqProofs only [go_sem, h3, h27] <;> rfl)
      · replace h := ite_none h h27; replace h27 := bfalse h27
        try simp -implicitDefEqProofs only [go_sem, h3, h27]
        by_cases h28 : ((r25 &&& x.2.2.2) == 0#64) = true
        · replace h := ite_some h h28
          try simp -implicitDefEqProofs only [go_sem, h3, h27, h28]
          injection h with h; subst h
          first | rfl | (simp -implicitDefEqProofs only [go_sem, h3, h27, h28] <;> rfl)
        · replace h := ite_none h h28; replace h28 := bfalse h28
          try simp -implicitDefEqProofs only [go_sem, h3, h27, h28]
          injection h with h; subst h
          first | rfl | (simp -implicitDefEqProofs only [go_sem, h3, h27, h28] <;> rfl)
    · intro r23 L' hs' hL'; subst hs'
      injection h with h; subst h
      first | exact hL' | (simp -implicitDefEqProofs only [go_sem]; exact hL') | (simp -implicitDefEqProofs only [go_sem]; simp -implicitDefEqProofs only [go_sem] at hL'; exact hL')
  · replace h := ite_none h h3; replace h3 := bfalse h3
    try simp -implicitDefEqProofs only [go_sem, h3]
    injection h with h; subst h
    first | rfl | (simp -implicitDefEqProofs only [go_sem, h3] <;> rfl)
end Go.Proofs.Ytakmilmckdllfaa.G
set_option linter.unusedVariables false
set_option linter.unusedSimpArgs false
set_option maxRecDepth 100000
namespace Go.Proofs.Ytakmilmckdllfaa.G
@[go_sem] theorem lrp_127_15 : lrp Try.prog 127 15 = (7, []) := by kernel_rfl
@[go_sem] theorem lrp_127_27 : lrp Try.prog 127 27 = (18, []) := by kernel_rfl
theorem lok_127 : (Try.f127.body.isSome && !(Try.f127.name == "runtime.NumGoroutine") && okL (bodyF Try.f127) Try.f127.ntmps (bodyF Try.f127)) = true := by kernel_rfl
def M_ref11_one.l0 (x : List Int × Int × T_api_Tree) : Option (Lp (Unit) (Int)) :=
  if (decide (x.2.1 < (x.1.length : Int))) = true then
    (getI x.1 x.2.1) >>= fun (e10 : Int) =>
    if (e10 == x.2.2.Table) = true then
      some (.ret 6)
    else
      M_ref11_one.l0 (x.1, (w64 (x.2.1 + 1)), x.2.2)
  else
    some (.brk ())
  partial_fixpoint
theorem M_ref11_one.l0.ws : (∀ (x : List Int × Int × T_api_Tree) (o : Lp (Unit) (Int)), M_ref11_one.l0 x = some o → (fun (x : List Int × Int × T_api_Tree) (o : Lp (Unit) (Int)) => ∀ (lo : Option Nat) (c : LCtx) (Q : Exit → LEnv → Prop) (hb : ∀ s : Unit, o = Lp.brk s → Q (.exit 0) ⟨[], []⟩) (hr : ∀ (r : Int) (L : LEnv), o = .ret r → LPostF Try.prog [.tmp 8] (.i64 r) (fun _ => True) .ret L → Q .ret L), LLoop Try.prog 127 lo c 0 (VQ Q) ⟨[(2, .v (.slice .foreign (x.1.map AV.i64))), (4, .lref 4 0), (9, .v (.i64 x.2.1))], [(4, [.v (.i64 x.2.2.Kind), .v (.i64 x.2.2.Table), .v (.slice .foreign (x.2.2.Kids.map T_api_Tree.av)), .v (.slice .foreign (x.2.2.Conj.map T_api_Pred.av)), .v (.bool x.2.2.Hash)])]⟩) x o) := by
  refine M_ref11_one.l0.partial_correctness _ ?_
  · intro M_M_ref11_one_l0 ih_M_ref11_one_l0 x o h
    intro lo c Q hb hr
    refine LLoop.step mix fn_127 (by kernel_rfl) ?_
    simp -implicitDefEqProofs only [go_sem, Try.f127]
    by_cases h9 : (decide (x.2.1 < (x.1.length : Int))) = true
    · replace h := ite_some h h9
      try simp -implicitDefEqProofs only [go_sem, h9]
      obtain ⟨e10, h11, h⟩ := bind_some' h; replace h11 := getI_some h11; obtain ⟨h11', h11⟩ := h11
      try simp -implicitDefEqProofs only [go_sem, h9, h11, h11']
      by_cases h12 : (e10 == x.2.2.Table) = true
      · replace h := ite_some h h12
        try simp -implicitDefEqProofs only [go_sem, h9, h11, h11', h12]
        injection h with h; subst h
        exact .inl (hr _ _ rfl (by (first | rfl | (simp -implicitDefEqProofs only [go_sem, h9, h11, h11', h12] <;> rfl))))
      · replace h := ite_none h h12; replace h12 := bfalse h12
        try simp -implicitDefEqProofs only [go_sem, h9, h11, h11', h12]
        exact LLoop.view [] (by (first | rfl | (simp -implicitDefEqProofs only [go_sem, h9, h11, h11', h12] <;> rfl))) (ih_M_ref11_one_l0 _ _ h lo c Q hb hr)
    · replace h := ite_none h h9; replace h9 := bfalse h9
      try simp -implicitDefEqProofs only [go_sem, h9]
      injection h with h; subst h
      exact .inr ⟨[], _, by (simp -implicitDefEqProofs only [go_sem, h9] <;> first | done | rfl | trivial), hb _ rfl⟩
theorem M_ref11_one.l0.w : type_of% (M_ref11_one.l0.ws) := M_ref11_one.l0.ws
def M_ref11_one.l1 (x : List Int × Int × T_api_Tree) : Option (Lp (Unit) (Int)) :=
  if (decide (x.2.1 < (x.2.2.Conj.length : Int))) = true then
    (getI x.2.2.Conj x.2.1) >>= fun (e22 : T_api_Pred) =>
    (x.2.2.Kids[0]?) >>= fun (e24 : T_api_Tree) =>
    M_ref10_Seen e24 >>= fun r26 =>
    (x.2.2.Kids[1]?) >>= fun (e28 : T_api_Tree) =>
    M_ref10_Seen e28 >>= fun r30 =>
    M_ref11_conj (e22, x.1, r26, r30) >>= fun r32 =>
    if (r32 != 0) = true then
      some (.ret r32)
    else
      M_ref11_one.l1 (x.1, (w64 (x.2.1 + 1)), x.2.2)
  else
    some (.brk ())
  partial_fixpoint
theorem M_ref11_one.l1.ws : (∀ (x : List Int × Int × T_api_Tree) (o : Lp (Unit) (Int)), M_ref11_one.l1 x = some o → (fun (x : List Int × Int × T_api_Tree) (o : Lp (Unit) (Int)) => ∀ (lo : Option Nat) (c : LCtx) (Q : Exit → LEnv → Prop) (hb : ∀ s : Unit, o = Lp.brk s → Q (.exit 2) ⟨[], []⟩) (hr : ∀ (r : Int) (L : LEnv), o = .ret r → LPostF Try.prog [.tmp 8] (.i64 r) (fun _ => True) .ret L → Q .ret L), LLoop Try.prog 127 lo c 1 (VQ Q) ⟨[(1, .v (.slice .foreign (x.1.map AV.i64))), (4, .lref 4 0), (10, .v (.i64 x.2.1))], [(4, [.v (.i64 x.2.2.Kind), .v (.i64 x.2.2.Table), .v (.slice .foreign (x.2.2.Kids.map T_api_Tree.av)), .v (.slice .foreign (x.2.2.Conj.map T_api_Pred.av)), .v (.bool x.2.2.Hash)])]⟩) x o) := by
  refine M_ref11_one.l1.partial_correctness _ ?_
  · intro M_M_ref11_one_l1 ih_M_ref11_one_l1 x o h
    intro lo c Q hb hr
    refine LLoop.step mix fn_127 (by kernel_rfl) ?_
    simp -implicitDefEqProofs only [go_sem, Try.f127]
    by_cases h21 : (decide (x.2.1 < (x.2.2.Conj.length : Int))) = true
    · replace h := ite_some h h21
      try simp -implicitDefEqProofs only [go_sem, h21]
      obtain ⟨e22, h23, h⟩ := bind_some' h; replace h23 := getI_some h23; obtain ⟨h23', h23⟩ := h23
      try simp -implicitDefEqProofs only [go_sem, h21, h23, h23']
      obtain ⟨e24, h25, h⟩ := bind_some' h
      try simp -implicitDefEqProofs only [go_sem, h21, h23, h23', h25]
      obtain ⟨r26, h27, h⟩ := bind_some' h
      refine .plain _ _ rfl (M_ref10_Seen.w e24 _ h27) ?_
      try simp -implicitDefEqProofs only [go_sem, h21, h23, h23', h25]
      obtain ⟨e28, h29, h⟩ := bind_some' h
      try simp -implicitDefEqProofs only [go_sem, h21, h23, h23', h25, h29]
      obtain ⟨r30, h31, h⟩ := bind_some' h
      refine .plain _ _ rfl (M_ref10_Seen.w e28 _ h31) ?_
      try simp -implicitDefEqProofs only [go_sem, h21, h23, h23', h25, h29]
      obtain ⟨r32, h33, h⟩ := bind_some' h
      refine .plain _ _ rfl (M_ref11_conj.w (e22, x.1, r26, r30) _ h33) ?_
      try simp -implicitDefEqProofs only [go_sem, h21, h23, h23', h25, h29]
      by_cases h34 : (r32 != 0) = true
      · replace h := ite_some h h34
        try simp -implicitDefEqProofs only [go_sem, h21, h23, h23', h25, h29, h34]
        injection h with h; subst h
        exact .inl (hr _ _ rfl (by (first | rfl | (simp -implicitDefEqProofs only [go_sem, h21, h23, h23', h25, h29, h34] <;> rfl))))
      · replace h := ite_none h h34; replace h34 := bfalse h34
        try simp -implicitDefEqProofs only [go_sem, h21, h23, h23', h25, h29, h34]
        exact LLoop.view [] (by (first | rfl | (simp -implicitDefEqProofs only [go_sem, h21, h23, h23', h25, h29, h34] <;> rfl))) (ih_M_ref11_one_l1 _ _ h lo c Q hb hr)
    · replace h := ite_none h h21; replace h21 := bfalse h21
      try simp -implicitDefEqProofs only [go_sem, h21]
      injection h with h; subst h
      exact .inr ⟨[], _, by (simp -implicitDefEqProofs only [go_sem, h21] <;> first | done | rfl | trivial), hb _ rfl⟩
theorem M_ref11_one.l1.w : type_of% (M_ref11_one.l1.ws) := M_ref11_one.l1.ws
def M_ref11_one (x : T_api_Tree × List Int × List Int × Int) : Option (Int) :=
  if (decide (x.1.Kind < 0)) = true then
    some 4
  else
    if (decide (x.1.Kind > 4)) = true then
      some 4
    else
      if (x.1.Kind == 0) = true then
        if x.1.Hash = true then
          some 4
        else
          if (decide ((x.1.Kids.length : Int) > 0)) = true then
            some 7
          else
            if (decide ((x.1.Conj.length : Int) > 0)) = true then
              some 8
            else
              if (decide (x.1.Table < 0)) = true then
                some 5
              else
                if (decide (x.1.Table ≥ (x.2.1.length : Int))) = true then
                  some 5
                else
                  M_ref11_one.l0 (x.2.2.1, 0, x.1) >>= fun (o13 : Lp (Unit) (Int)) => match o13 with
                  | .brk s16 =>
                    some 0
                  | .ret r15 =>
                    some r15
      else
        if ((x.1.Kids.length : Int) != 2) = true then
          some 7
        else
          if ((x.1.Conj.length : Int) == 0) = true then
            some 8
          else
            if (decide ((w64 (x.2.2.2 + (x.1.Conj.length : Int))) > 64)) = true then
              some 8
            else
              if (x.1.Table != 0) = true then
                some 5
              else
                M_ref11_one.l1 (x.2.1, 0, x.1) >>= fun (o35 : Lp (Unit) (Int)) => match o35 with
                | .brk s38 =>
                  some 0
                | .ret r37 =>
                  some r37
theorem M_ref11_one.w : ∀ (x : T_api_Tree × List Int × List Int × Int) (r : Int), M_ref11_one x = some r → (fun (x : T_api_Tree × List Int × List Int × Int) (r : Int) => Fn Try.prog 127 [.agg (T_api_Tree.C x.1), .slice .foreign (x.2.1.map AV.i64), .slice .foreign (x.2.2.1.map AV.i64), .i64 x.2.2.2] (.i64 r)) x r := by
  intro x r h
  rw [M_ref11_one] at h
  try dsimp only
  refine Fn.of_lc mix fn_127 lok_127 (by rfl) (flC (T_api_Tree.flatC _) (flC (flat_slice _ (fun _ => .atom _) _) (flC (flat_slice _ (fun _ => .atom _) _) (flC (.atom _) (flN))))) (.atom _) ?_
  simp -implicitDefEqProofs only [go_sem, Try.f127]
  by_cases h1 : (decide (x.1.Kind < 0)) = true
  · replace h := ite_some h h1
    try simp -implicitDefEqProofs only [go_sem, h1]
    injection h with h; subst h
    first | rfl | (simp -implicitDefEqProofs only [go_sem, h1] <;> rfl)
  · replace h := ite_none h h1; replace h1 := bfalse h1
    try simp -implicitDefEqProofs only [go_sem, h1]
    by_cases h2 : (decide (x.1.Kind > 4)) = true
    · replace h := ite_some h h2
      try simp -implicitDefEqProofs only [go_sem, h1, h2]
      injection h with h; subst h
      first | rfl | (simp -implicitDefEqProofs only [go_sem, h1, h2] <;> rfl)
    · replace h := ite_none h h2; replace h2 := bfalse h2
      try simp -implicitDefEqProofs only [go_sem, h1, h2]
      by_cases h3 : (x.1.Kind == 0) = true
      · replace h := ite_some h h3
        try simp -implicitDefEqProofs only [go_sem, h1, h2, h3]
        by_cases h4 : x.1.Hash = true
        · replace h := ite_some h h4
          try simp -implicitDefEqProofs only [go_sem, h1, h2, h3, h4]
          injection h with h; subst h
          first | rfl | (simp -implicitDefEqProofs only [go_sem, h1, h2, h3, h4] <;> rfl)
        · replace h := ite_none h h4; replace h4 := bfalse h4
          try simp -implicitDefEqProofs only [go_sem, h1, h2, h3, h4]
          by_cases h5 : (decide ((x.1.Kids.length : Int) > 0)) = true
          · replace h := ite_some h h5
            try simp -implicitDefEqProofs only [go_sem, h1, h2, h3, h4, h5]
            injection h with h; subst h
            first | rfl | (simp -implicitDefEqProofs only [go_sem, h1, h2, h3, h4, h5] <;> rfl)
          · replace h := ite_none h h5; replace h5 := bfalse h5
            try simp -implicitDefEqProofs only [go_sem, h1, h2, h3, h4, h5]
            by_cases h6 : (decide ((x.1.Conj.length : Int) > 0)) = true
            · replace h := ite_some h h6
              try simp -implicitDefEqProofs only [go_sem, h1, h2, h3, h4, h5, h6]
              injection h with h; subst h
              first | rfl | (simp -implicitDefEqProofs only [go_sem, h1, h2, h3, h4, h5, h6] <;> rfl)
            · replace h := ite_none h h6; replace h6 := bfalse h6
              try simp -implicitDefEqProofs only [go_sem, h1, h2, h3, h4, h5, h6]
              by_cases h7 : (decide (x.1.Table < 0)) = true
              · replace h := ite_some h h7
                try simp -implicitDefEqProofs only [go_sem, h1, h2, h3, h4, h5, h6, h7]
                injection h with h; subst h
                first | rfl | (simp -implicitDefEqProofs only [go_sem, h1, h2, h3, h4, h5, h6, h7] <;> rfl)
              · replace h := ite_none h h7; replace h7 := bfalse h7
                try simp -implicitDefEqProofs only [go_sem, h1, h2, h3, h4, h5, h6, h7]
                by_cases h8 : (decide (x.1.Table ≥ (x.2.1.length : Int))) = true
                · replace h := ite_some h h8
                  try simp -implicitDefEqProofs only [go_sem, h1, h2, h3, h4, h5, h6, h7, h8]
                  injection h with h; subst h
                  first | rfl | (simp -implicitDefEqProofs only [go_sem, h1, h2, h3, h4, h5, h6, h7, h8] <;> rfl)
                · replace h := ite_none h h8; replace h8 := bfalse h8
                  try simp -implicitDefEqProofs only [go_sem, h1, h2, h3, h4, h5, h6, h7, h8]
                  obtain ⟨o13, h14, h⟩ := bind_some' h
                  refine LLoop.viewQ (LLoop.view [] (by (first | rfl | (simp -implicitDefEqProofs only [go_sem, h1, h2, h3, h4, h5, h6, h7, h8] <;> rfl))) (M_ref11_one.l0.w (x.2.2.1, 0, x.1) _ h14 _ _ _ ?_ ?_))
                  · intro s16 hs'; subst hs'
                    try simp -implicitDefEqProofs only [go_sem, h1, h2, h3, h4, h5, h6, h7, h8]
                    injection h with h; subst h
                    first | rfl | (simp -implicitDefEqProofs only [go_sem, h1, h2, h3, h4, h5, h6, h7, h8] <;> rfl)
                  · intro r15 L' hs' hL'; subst hs'
                    injection h with h; subst h
                    first | exact hL' | (simp -implicitDefEqProofs only [go_sem]; exact hL') | (simp -implicitDefEqProofs only [go_sem]; simp -implicitDefEqProofs only [go_sem] at hL'; exact hL')
      · replace h := ite_none h h3; replace h3 := bfalse h3
        try simp -implicitDefEqProofs only [go_sem, h1, h2, h3]
        by_cases h17 : ((x.1.Kids.length : Int) != 2) = true
        · replace h := ite_some h h17
          try simp -implicitDefEqProofs only [go_sem, h1, h2, h3, h17]
          injection h with h; subst h
          first | rfl | (simp -implicitDefEqProofs only [go_sem, h1, h2, h3, h17] <;> rfl)
        · replace h := ite_none h h17; replace h17 := bfalse h17
          try simp -implicitDefEqProofs only [go_sem, h1, h2, h3, h17]
          by_cases h18 : ((x.1.Conj.length : Int) == 0) = true
          · replace h := ite_some h h18
            try simp -implicitDefEqProofs only [go_sem, h1, h2, h3, h17, h18]
            injection h with h; subst h
            first | rfl | (simp -implicitDefEqProofs only [go_sem, h1, h2, h3, h17, h18] <;> rfl)
          · replace h := ite_none h h18; replace h18 := bfalse h18
            try simp -implicitDefEqProofs only [go_sem, h1, h2, h3, h17, h18]
            by_cases h19 : (decide ((w64 (x.2.2.2 + (x.1.Conj.length : Int))) > 64)) = true
            · replace h := ite_some h h19
              try simp -implicitDefEqProofs only [go_sem, h1, h2, h3, h17, h18, h19]
              injection h with h; subst h
              first | rfl | (simp -implicitDefEqProofs only [go_sem, h1, h2, h3, h17, h18, h19] <;> rfl)
            · replace h := ite_none h h19; replace h19 := bfalse h19
              try simp -implicitDefEqProofs only [go_sem, h1, h2, h3, h17, h18, h19]
              by_cases h20 : (x.1.Table != 0) = true
              · replace h := ite_some h h20
                try simp -implicitDefEqProofs only [go_sem, h1, h2, h3, h17, h18, h19, h20]
                injection h with h; subst h
                first | rfl | (simp -implicitDefEqProofs only [go_sem, h1, h2, h3, h17, h18, h19, h20] <;> rfl)
              · replace h := ite_none h h20; replace h20 := bfalse h20
                try simp -implicitDefEqProofs only [go_sem, h1, h2, h3, h17, h18, h19, h20]
                obtain ⟨o35, h36, h⟩ := bind_some' h
                refine LLoop.viewQ (LLoop.view [] (by (first | rfl | (simp -implicitDefEqProofs only [go_sem, h1, h2, h3, h17, h18, h19, h20] <;> rfl))) (M_ref11_one.l1.w (x.2.1, 0, x.1) _ h36 _ _ _ ?_ ?_))
                · intro s38 hs'; subst hs'
                  try simp -implicitDefEqProofs only [go_sem, h1, h2, h3, h17, h18, h19, h20]
                  injection h with h; subst h
                  first | rfl | (simp -implicitDefEqProofs only [go_sem, h1, h2, h3, h17, h18, h19, h20] <;> rfl)
                · intro r37 L' hs' hL'; subst hs'
                  injection h with h; subst h
                  first | exact hL' | (simp -implicitDefEqProofs only [go_sem]; exact hL') | (simp -implicitDefEqProofs only [go_sem]; simp -implicitDefEqProofs only [go_sem] at hL'; exact hL')
end Go.Proofs.Ytakmilmckdllfaa.G
set_option linter.unusedVariables false
set_option linter.unusedSimpArgs false
set_option maxRecDepth 100000
namespace Go.Proofs.Ytakmilmckdllfaa.G
@[go_sem] theorem lrp_77_14 : lrp Try.prog 77 14 = (10, []) := by kernel_rfl
theorem lok_77 : (Try.f77.body.isSome && !(Try.f77.name == "runtime.NumGoroutine") && okL (bodyF Try.f77) Try.f77.ntmps (bodyF Try.f77)) = true := by kernel_rfl
def M_ref11_Query.l0 (x : Int × T_api_Query) : Option (Lp (Unit) (Int)) :=
  if (decide (x.1 < (x.2.Cols.length : Int))) = true then
    (getI x.2.Cols x.1) >>= fun (e3 : Int) =>
    if (decide (e3 < 1)) = true then
      some (.ret 12)
    else
      if (decide (e3 > 4)) = true then
        some (.ret 12)
      else
        M_ref11_Query.l0 ((w64 (x.1 + 1)), x.2)
  else
    some (.brk ())
  partial_fixpoint
theorem M_ref11_Query.l0.ws : (∀ (x : Int × T_api_Query) (o : Lp (Unit) (Int)), M_ref11_Query.l0 x = some o → (fun (x : Int × T_api_Query) (o : Lp (Unit) (Int)) => ∀ (lo : Option Nat) (c : LCtx) (Q : Exit → LEnv → Prop) (hb : ∀ s : Unit, o = Lp.brk s → Q (.exit 0) ⟨[(1, .lref 1 0)], [(1, [.v (.slice .foreign (x.2.Cols.map AV.i64)), .v (.i64 x.2.Root.Kind), .v (.i64 x.2.Root.Table), .v (.slice .foreign (x.2.Root.Kids.map T_api_Tree.av)), .v (.slice .foreign (x.2.Root.Conj.map T_api_Pred.av)), .v (.bool x.2.Root.Hash)])]⟩) (hr : ∀ (r : Int) (L : LEnv), o = .ret r → LPostF Try.prog [.tmp 2] (.i64 r) (fun _ => True) .ret L → Q .ret L), LLoop Try.prog 77 lo c 0 (VQ Q) ⟨[(1, .lref 1 0), (3, .v (.i64 x.1))], [(1, [.v (.slice .foreign (x.2.Cols.map AV.i64)), .v (.i64 x.2.Root.Kind), .v (.i64 x.2.Root.Table), .v (.slice .foreign (x.2.Root.Kids.map T_api_Tree.av)), .v (.slice .foreign (x.2.Root.Conj.map T_api_Pred.av)), .v (.bool x.2.Root.Hash)])]⟩) x o) := by
  refine M_ref11_Query.l0.partial_correctness _ ?_
  · intro M_M_ref11_Query_l0 ih_M_ref11_Query_l0 x o h
    intro lo c Q hb hr
    refine LLoop.step mix fn_77 (by kernel_rfl) ?_
    simp -implicitDefEqProofs only [go_sem, Try.f77]
    by_cases h2 : (decide (x.1 < (x.2.Cols.length : Int))) = true
    · replace h := ite_some h h2
      try simp -implicitDefEqProofs only [go_sem, h2]
      obtain ⟨e3, h4, h⟩ := bind_some' h; replace h4 := getI_some h4; obtain ⟨h4', h4⟩ := h4
      try simp -implicitDefEqProofs only [go_sem, h2, h4, h4']
      by_cases h5 : (decide (e3 < 1)) = true
      · replace h := ite_some h h5
        try simp -implicitDefEqProofs only [go_sem, h2, h4, h4', h5]
        injection h with h; subst h
        exact .inl (hr _ _ rfl (by (first | rfl | (simp -implicitDefEqProofs only [go_sem, h2, h4, h4', h5] <;> rfl))))
      · replace h := ite_none h h5; replace h5 := bfalse h5
        try simp -implicitDefEqProofs only [go_sem, h2, h4, h4', h5]
        by_cases h6 : (decide (e3 > 4)) = true
        · replace h := ite_some h h6
          try simp -implicitDefEqProofs only [go_sem, h2, h4, h4', h5, h6]
          injection h with h; subst h
          exact .inl (hr _ _ rfl (by (first | rfl | (simp -implicitDefEqProofs only [go_sem, h2, h4, h4', h5, h6] <;> rfl))))
        · replace h := ite_none h h6; replace h6 := bfalse h6
          try simp -implicitDefEqProofs only [go_sem, h2, h4, h4', h5, h6]
          exact LLoop.view [] (by (first | rfl | (simp -implicitDefEqProofs only [go_sem, h2, h4, h4', h5, h6] <;> rfl))) (ih_M_ref11_Query_l0 _ _ h lo c Q hb hr)
    · replace h := ite_none h h2; replace h2 := bfalse h2
      try simp -implicitDefEqProofs only [go_sem, h2]
      injection h with h; subst h
      exact .inr ⟨[], _, by (simp -implicitDefEqProofs only [go_sem, h2] <;> first | done | rfl | trivial), hb _ rfl⟩
theorem M_ref11_Query.l0.w : type_of% (M_ref11_Query.l0.ws) := M_ref11_Query.l0.ws
def M_ref11_Query.l1 (x : List T_api_Tree × List Int × Int × Int × T_api_Query) : Option (Lp (Unit) (Int)) :=
  if (decide (x.2.2.2.1 < (x.1.length : Int))) = true then
    (getI x.1 x.2.2.2.1) >>= fun (e14 : T_api_Tree) =>
    M_ref11_one (e14, x.2.2.2.2.Cols, x.2.1, x.2.2.1) >>= fun r16 =>
    if (r16 != 0) = true then
      some (.ret r16)
    else
      if (e14.Kind == 0) = true then
        (room 8 x.2.1 ([e14.Table])) >>= fun (z20 : List Int) =>
        M_ref11_Query.l1 (x.1, z20, (w64 (x.2.2.1 + (e14.Conj.length : Int))), (w64 (x.2.2.2.1 + 1)), x.2.2.2.2)
      else
        M_ref11_Query.l1 (x.1, x.2.1, (w64 (x.2.2.1 + (e14.Conj.length : Int))), (w64 (x.2.2.2.1 + 1)), x.2.2.2.2)
  else
    some (.brk ())
  partial_fixpoint
theorem M_ref11_Query.l1.ws : (∀ (x : List T_api_Tree × List Int × Int × Int × T_api_Query) (o : Lp (Unit) (Int)), M_ref11_Query.l1 x = some o → (fun (x : List T_api_Tree × List Int × Int × Int × T_api_Query) (o : Lp (Unit) (Int)) => ∀ (lo : Option Nat) (c : LCtx) (Q : Exit → LEnv → Prop) (hb : ∀ s : Unit, o = Lp.brk s → Q (.exit 2) ⟨[], []⟩) (hr : ∀ (r : Int) (L : LEnv), o = .ret r → LPostF Try.prog [.tmp 2] (.i64 r) (fun _ => True) .ret L → Q .ret L), LLoop Try.prog 77 lo c 1 (VQ Q) ⟨[(1, .lref 1 0), (4, .v (.slice .foreign (x.1.map T_api_Tree.av))), (5, .own 100500 1 (x.2.1.map AV.i64)), (6, .v (.i64 x.2.2.1)), (7, .v (.i64 x.2.2.2.1))], [(1, [.v (.slice .foreign (x.2.2.2.2.Cols.map AV.i64)), .v (.i64 x.2.2.2.2.Root.Kind), .v (.i64 x.2.2.2.2.Root.Table), .v (.slice .foreign (x.2.2.2.2.Root.Kids.map T_api_Tree.av)), .v (.slice .foreign (x.2.2.2.2.Root.Conj.map T_api_Pred.av)), .v (.bool x.2.2.2.2.Root.Hash)])]⟩) x o) := by
  refine M_ref11_Query.l1.partial_correctness _ ?_
  · intro M_M_ref11_Query_l1 ih_M_ref11_Query_l1 x o h
    intro lo c Q hb hr
    refine LLoop.step mix fn_77 (by kernel_rfl) ?_
    simp -implicitDefEqProofs only [go_sem, Try.f77]
    by_cases h13 : (decide (x.2.2.2.1 < (x.1.length : Int))) = true
    · replace h := ite_some h h13
      try simp -implicitDefEqProofs only [go_sem, h13]
      obtain ⟨e14, h15, h⟩ := bind_some' h; replace h15 := getI_some h15; obtain ⟨h15', h15⟩ := h15
      try simp -implicitDefEqProofs only [go_sem, h13, h15, h15']
      obtain ⟨r16, h17, h⟩ := bind_some' h
      refine .plain _ _ rfl (M_ref11_one.w (e14, x.2.2.2.2.Cols, x.2.1, x.2.2.1) _ h17) ?_
      try simp -implicitDefEqProofs only [go_sem, h13, h15, h15']
      by_cases h18 : (r16 != 0) = true
      · replace h := ite_some h h18
        try simp -implicitDefEqProofs only [go_sem, h13, h15, h15', h18]
        injection h with h; subst h
        exact .inl (hr _ _ rfl (by (first | rfl | (simp -implicitDefEqProofs only [go_sem, h13, h15, h15', h18] <;> rfl))))
      · replace h := ite_none h h18; replace h18 := bfalse h18
        try simp -implicitDefEqProofs only [go_sem, h13, h15, h15', h18]
        by_cases h19 : (e14.Kind == 0) = true
        · replace h := ite_some h h19
          try simp -implicitDefEqProofs only [go_sem, h13, h15, h15', h18, h19]
          obtain ⟨z20, h21, h⟩ := bind_some' h; replace h21 := room_some h21; obtain ⟨h21', rfl⟩ := h21
          refine LApp.map (F := AV.i64) (xs := x.2.1) (ys := [e14.Table]) t22_elem t3_size t3_bytes t3_zsize rfl (fun _ => rfl) (by (first | rfl | (simp -implicitDefEqProofs only [go_sem, h13, h15, h15', h18, h19] <;> rfl))) (by (first | rfl | (simp -implicitDefEqProofs only [go_sem, h13, h15, h15', h18, h19] <;> rfl))) h21' ?_
          try simp -implicitDefEqProofs only [go_sem, h13, h15, h15', h18, h19]
          exact LLoop.view [(100500, some 77)] (by (first | rfl | (simp -implicitDefEqProofs only [go_sem, h13, h15, h15', h18, h19] <;> rfl))) (ih_M_ref11_Query_l1 _ _ h lo c Q hb hr)
        · replace h := ite_none h h19; replace h19 := bfalse h19
          try simp -implicitDefEqProofs only [go_sem, h13, h15, h15', h18, h19]
          exact LLoop.view [(100500, some 100500)] (by (first | rfl | (simp -implicitDefEqProofs only [go_sem, h13, h15, h15', h18, h19] <;> rfl))) (ih_M_ref11_Query_l1 _ _ h lo c Q hb hr)
    · replace h := ite_none h h13; replace h13 := bfalse h13
      try simp -implicitDefEqProofs only [go_sem, h13]
      injection h with h; subst h
      exact .inr ⟨[], _, by (simp -implicitDefEqProofs only [go_sem, h13] <;> first | done | rfl | trivial), hb _ rfl⟩
theorem M_ref11_Query.l1.w : type_of% (M_ref11_Query.l1.ws) := M_ref11_Query.l1.ws
def M_ref11_Query (x : T_api_Query) : Option (Int) :=
  if (decide ((x.Cols.length : Int) > 64)) = true then
    some 2
  else
    M_ref11_Query.l0 (0, x) >>= fun (o7 : Lp (Unit) (Int)) => match o7 with
    | .brk s10 =>
      M_ref10_All x.Root >>= fun r11 =>
      M_ref11_Query.l1 (r11, ([] : List Int), 0, 0, x) >>= fun (o22 : Lp (Unit) (Int)) => match o22 with
      | .brk s25 =>
        some 0
      | .ret r24 =>
        some r24
    | .ret r9 =>
      some r9
theorem M_ref11_Query.w : ∀ (x : T_api_Query) (r : Int), M_ref11_Query x = some r → (fun (x : T_api_Query) (r : Int) => Fn Try.prog 77 [.agg (T_api_Query.C x)] (.i64 r)) x r := by
  intro x r h
  rw [M_ref11_Query] at h
  try dsimp only
  refine Fn.of_lc mix fn_77 lok_77 (by rfl) (flC (T_api_Query.flatC _) (flN)) (.atom _) ?_
  simp -implicitDefEqProofs only [go_sem, Try.f77]
  by_cases h1 : (decide ((x.Cols.length : Int) > 64)) = true
  · replace h := ite_some h h1
    try simp -implicitDefEqProofs only [go_sem, h1]
    injection h with h; subst h
    first | rfl | (simp -implicitDefEqProofs only [go_sem, h1] <;> rfl)
  · replace h := ite_none h h1; replace h1 := bfalse h1
    try simp -implicitDefEqProofs only [go_sem, h1]
    obtain ⟨o7, h8, h⟩ := bind_some' h
    refine LLoop.viewQ (LLoop.view [] (by (first | rfl | (simp -implicitDefEqProofs only [go_sem, h1] <;> rfl))) (M_ref11_Query.l0.w (0, x) _ h8 _ _ _ ?_ ?_))
    · intro s10 hs'; subst hs'
      try simp -implicitDefEqProofs only [go_sem, h1]
      obtain ⟨r11, h12, h⟩ := bind_some' h
      refine .plain _ _ rfl (M_ref10_All.w x.Root _ h12) ?_
      try simp -implicitDefEqProofs only [go_sem, h1]
      obtain ⟨o22, h23, h⟩ := bind_some' h
      refine LLoop.viewQ (LLoop.view [(100500, none)] (by (first | rfl | (simp -implicitDefEqProofs only [go_sem, h1] <;> rfl))) (M_ref11_Query.l1.w (r11, ([] : List Int), 0, 0, x) _ h23 _ _ _ ?_ ?_))
      · intro s25 hs'; subst hs'
        try simp -implicitDefEqProofs only [go_sem, h1]
        injection h with h; subst h
        first | rfl | (simp -implicitDefEqProofs only [go_sem, h1] <;> rfl)
      · intro r24 L' hs' hL'; subst hs'
        injection h with h; subst h
        first | exact hL' | (simp -implicitDefEqProofs only [go_sem]; exact hL') | (simp -implicitDefEqProofs only [go_sem]; simp -implicitDefEqProofs only [go_sem] at hL'; exact hL')
    · intro r9 L' hs' hL'; subst hs'
      injection h with h; subst h
      first | exact hL' | (simp -implicitDefEqProofs only [go_sem]; exact hL') | (simp -implicitDefEqProofs only [go_sem]; simp -implicitDefEqProofs only [go_sem] at hL'; exact hL')
end Go.Proofs.Ytakmilmckdllfaa.G
set_option linter.unusedVariables false
set_option linter.unusedSimpArgs false
set_option maxRecDepth 100000
namespace Go.Proofs.Ytakmilmckdllfaa.G
theorem lok_31 : (Try.f31.body.isSome && !(Try.f31.name == "runtime.NumGoroutine") && okL (bodyF Try.f31) Try.f31.ntmps (bodyF Try.f31)) = true := by kernel_rfl
def M_ref11_Right (x : T_api_Query) : Option (Bool) :=
  M_ref11_Query x >>= fun r1 =>
  some (r1 == 0)
theorem M_ref11_Right.w : ∀ (x : T_api_Query) (r : Bool), M_ref11_Right x = some r → (fun (x : T_api_Query) (r : Bool) => Fn Try.prog 31 [.agg (T_api_Query.C x)] (.bool r)) x r := by
  intro x r h
  rw [M_ref11_Right] at h
  try dsimp only
  refine Fn.of_lc mix fn_31 lok_31 (by rfl) (flC (T_api_Query.flatC _) (flN)) (.atom _) ?_
  simp -implicitDefEqProofs only [go_sem, Try.f31]
  obtain ⟨r1, h2, h⟩ := bind_some' h
  refine .plain _ _ rfl (M_ref11_Query.w x _ h2) ?_
  try simp -implicitDefEqProofs only [go_sem]
  injection h with h; subst h
  first | rfl | (simp -implicitDefEqProofs only [go_sem] <;> rfl)
end Go.Proofs.Ytakmilmckdllfaa.G
set_option linter.unusedVariables false
set_option linter.unusedSimpArgs false
set_option maxRecDepth 100000
namespace Go.Proofs.Ytakmilmckdllfaa.G
theorem lok_30 : (Try.f30.body.isSome && !(Try.f30.name == "runtime.NumGoroutine") && okL (bodyF Try.f30) Try.f30.ntmps (bodyF Try.f30)) = true := by kernel_rfl
def M_law11_Few (x : T_api_Query) : Option (Bool) :=
  M_ref10_Size (x.Root, 601) >>= fun r1 =>
  some (decide (r1 ≤ 600))
theorem M_law11_Few.w : ∀ (x : T_api_Query) (r : Bool), M_law11_Few x = some r → (fun (x : T_api_Query) (r : Bool) => Fn Try.prog 30 [.agg (T_api_Query.C x)] (.bool r)) x r := by
  intro x r h
  rw [M_law11_Few] at h
  try dsimp only
  refine Fn.of_lc mix fn_30 lok_30 (by rfl) (flC (T_api_Query.flatC _) (flN)) (.atom _) ?_
  simp -implicitDefEqProofs only [go_sem, Try.f30]
  obtain ⟨r1, h2, h⟩ := bind_some' h
  refine .plain _ _ rfl (M_ref10_Size.w (x.Root, 601) _ h2) ?_
  try simp -implicitDefEqProofs only [go_sem]
  injection h with h; subst h
  first | rfl | (simp -implicitDefEqProofs only [go_sem] <;> rfl)
end Go.Proofs.Ytakmilmckdllfaa.G
set_option linter.unusedVariables false
set_option linter.unusedSimpArgs false
namespace Go.Proofs.Ytakmilmckdllfaa.G

def ttab (t : T_api_Term) : Set64 := if t.Kind = 1 then bitI t.Table else 0#64
theorem ref05_tab (t : T_api_Term) : M_ref05_Tables t = some (ttab t) := by
  unfold M_ref05_Tables ttab
  by_cases h : t.Kind = 1
  · rw [if_neg (by simpa using h), if_pos h, ref01_Of_eq _ (by simp)]
    simp -implicitDefEqProofs only [Option.bind_eq_bind, Option.bind_some]
    rw [ofL_cons, ofL_nil, BitVec.or_zero]
  · rw [if_pos (by simpa using h), if_neg h]
/-- The tables that a predicate names. -/
def T_api_Pred.tabs : T_api_Pred → Set64
  | ⟨_, _, _, a, b, ps⟩ => ttab a ||| ttab b ||| tabsL ps
where tabsL : List T_api_Pred → Set64
  | [] => 0#64
  | x :: l => x.tabs ||| tabsL l
theorem ptabs_eq (p : T_api_Pred) : p.tabs = ttab p.A ||| ttab p.B ||| T_api_Pred.tabs.tabsL p.Parts := by
  obtain ⟨a, b, c, d, e, ps⟩ := p
  simp only [T_api_Pred.tabs]
theorem part_size {p x : T_api_Pred} (h : x ∈ p.Parts) : x.size < p.size := by
  have := sum_mem T_api_Pred.size h
  rw [psize_eq p]; omega
theorem parts_len (p : T_api_Pred) : p.Parts.length < p.size := by
  have := len_sum T_api_Pred.size psize_pos p.Parts
  rw [psize_eq]; omega
theorem conj_size {t : T_api_Tree} {p : T_api_Pred} (h : p ∈ t.Conj) : p.size < t.size := by
  have := sum_mem T_api_Pred.size h
  rw [tsize_eq t]; omega
theorem ref06_Tables_eq (p : T_api_Pred) : p.size ≤ 1000000000 → M_ref06_Tables p = some p.tabs := by
  induction p using T_api_Pred.induct with
  | h p ih =>
    intro hsz
    have hpl := parts_len p
    have key := loop_all p.Parts (fun i (s : Set64) => M_ref06_Tables.l0 (s, (i : Int), p)) (fun s l => some (s ||| T_api_Pred.tabs.tabsL l)) (fun s => by
        show M_ref06_Tables.l0 _ = _
        rw [M_ref06_Tables.l0, if_neg (dge (by dsimp only; omega))]
        simp only [T_api_Pred.tabs.tabsL, BitVec.or_zero])
      (fun i s h ih2 => by
        show M_ref06_Tables.l0 _ = _
        rw [M_ref06_Tables.l0, if_pos (dlt (by dsimp only; omega))]
        dsimp only
        rw [getI_nat h]
        have hm := List.getElem_mem h
        have hs := part_size hm
        simp -implicitDefEqProofs only [Option.bind_eq_bind, Option.bind_some]
        rw [ih _ hm (by omega)]
        simp -implicitDefEqProofs only [Option.bind_some]
        rw [w64_succ (by omega)]
        have := ih2 (s ||| p.Parts[i].tabs)
        rw [this]
        simp only [T_api_Pred.tabs.tabsL, BitVec.or_assoc]) (ttab p.A ||| ttab p.B)
    rw [M_ref06_Tables, ref05_tab, ref05_tab]
    have key' : M_ref06_Tables.l0 ((ttab p.A ||| ttab p.B), 0, p) = _ := key
    simp -implicitDefEqProofs only [Option.bind_eq_bind, Option.bind_some]
    rw [key', ptabs_eq]; rfl
/-- The columns that a predicate names. -/
def T_api_Pred.cols : T_api_Pred → List A2_Int
  | ⟨_, _, _, a, b, ps⟩ => (if a.Kind = 1 then [⟨a.Table, a.Col⟩] else []) ++ (if b.Kind = 1 then [⟨b.Table, b.Col⟩] else []) ++ colsL ps
where colsL : List T_api_Pred → List A2_Int
  | [] => []
  | x :: l => x.cols ++ colsL l
theorem pcols_eq (p : T_api_Pred) : p.cols = (if p.A.Kind = 1 then [⟨p.A.Table, p.A.Col⟩] else []) ++ (if p.B.Kind = 1 then [⟨p.B.Table, p.B.Col⟩] else []) ++ T_api_Pred.cols.colsL p.Parts := by
  obtain ⟨a, b, c, d, e, ps⟩ := p
  simp only [T_api_Pred.cols]
theorem pcols_len (p : T_api_Pred) : p.cols.length ≤ 2 * p.size := by
  induction p using T_api_Pred.induct with
  | h p ih =>
    have hl : ∀ l : List T_api_Pred, (∀ x ∈ l, x.cols.length ≤ 2 * x.size) → (T_api_Pred.cols.colsL l).length ≤ 2 * (l.map T_api_Pred.size).sum := by
      intro l
      induction l with
      | nil => intro _; simp [T_api_Pred.cols.colsL]
      | cons x l ih2 =>
        intro h
        have h1 := h x List.mem_cons_self
        have h2 := ih2 fun y hy => h y (List.mem_cons_of_mem _ hy)
        simp only [T_api_Pred.cols.colsL, List.length_append, List.map_cons, List.sum_cons]; omega
    have := hl p.Parts ih
    rw [pcols_eq, psize_eq, List.length_append, List.length_append]
    have e1 : (if p.A.Kind = 1 then [(⟨p.A.Table, p.A.Col⟩ : A2_Int)] else []).length ≤ 1 := by split <;> simp
    have e2 : (if p.B.Kind = 1 then [(⟨p.B.Table, p.B.Col⟩ : A2_Int)] else []).length ≤ 1 := by split <;> simp
    omega
theorem ref06_Columns_eq (p : T_api_Pred) : p.size ≤ 1000000000 → M_ref06_Columns p = some p.cols := by
  induction p using T_api_Pred.induct with
  | h p ih =>
    intro hsz
    have hpl := parts_len p
    have hcl := pcols_len p
    have key : ∀ acc0 : List A2_Int, acc0.length ≤ 2 → M_ref06_Columns.l0 (acc0, 0, p) = some (acc0 ++ T_api_Pred.cols.colsL p.Parts) := by
      intro acc0 h0
      have := loop_inv p.Parts (fun i acc => acc.length ≤ 2 + 2 * ((p.Parts.take i).map T_api_Pred.size).sum) (fun i (acc : List A2_Int) => M_ref06_Columns.l0 (acc, (i : Int), p)) (fun acc l => some (acc ++ T_api_Pred.cols.colsL l)) (fun acc _ => by
          show M_ref06_Columns.l0 _ = _
          rw [M_ref06_Columns.l0, if_neg (dge (by dsimp only; omega))]
          simp only [T_api_Pred.cols.colsL, List.append_nil])
        (fun i acc h ha ih2 => by
          show M_ref06_Columns.l0 _ = _
          rw [M_ref06_Columns.l0, if_pos (dlt (by dsimp only; omega))]
          dsimp only
          rw [getI_nat h]
          have hm := List.getElem_mem h
          have hs := part_size hm
          have hc := pcols_len p.Parts[i]
          have htake : ((p.Parts.take i).map T_api_Pred.size).sum + p.Parts[i].size ≤ (p.Parts.map T_api_Pred.size).sum := by
            have e : p.Parts = p.Parts.take i ++ p.Parts[i] :: p.Parts.drop (i + 1) := by rw [← List.drop_eq_getElem_cons h, List.take_append_drop]
            conv => rhs; rw [e]
            simp only [List.map_append, List.map_cons, List.sum_append, List.sum_cons]; omega
          have hps := psize_eq p
          simp -implicitDefEqProofs only [Option.bind_eq_bind, Option.bind_some]
          rw [ih _ hm (by omega)]
          simp -implicitDefEqProofs only [Option.bind_some]
          rw [room_of (by omega)]
          simp -implicitDefEqProofs only [Option.bind_some]
          rw [w64_succ (by omega)]
          have := ih2 (acc ++ p.Parts[i].cols) (by
            rw [List.take_succ_eq_append_getElem h, List.map_append, List.sum_append, List.length_append]
            simp only [List.map_cons, List.map_nil, List.sum_cons, List.sum_nil]; omega)
          rw [this]
          simp only [T_api_Pred.cols.colsL, List.append_assoc]) 0 acc0 (Nat.zero_le _) (by simpa using h0)
      rw [List.drop_zero] at this
      exact this
    rw [M_ref06_Columns, pcols_eq]
    by_cases hA : p.A.Kind = 1
    · rw [if_pos (by simpa using hA), if_pos hA, room_of (by simp)]
      simp -implicitDefEqProofs only [Option.bind_eq_bind, Option.bind_some, List.nil_append]
      by_cases hB : p.B.Kind = 1
      · rw [if_pos (by simpa using hB), if_pos hB, room_of (by simp)]
        simp -implicitDefEqProofs only [Option.bind_some]
        rw [key _ (by simp)]; rfl
      · rw [if_neg (by simpa using hB), if_neg hB, key _ (by simp)]
        simp
    · rw [if_neg (by simpa using hA), if_neg hA]
      by_cases hB : p.B.Kind = 1
      · rw [if_pos (by simpa using hB), if_pos hB, room_of (by simp)]
        simp -implicitDefEqProofs only [Option.bind_eq_bind, Option.bind_some, List.nil_append]
        rw [key _ (by simp)]; rfl
      · rw [if_neg (by simpa using hB), if_neg hB, key _ (by simp)]
        simp
/-- The tables of a tree that are seen. -/
def T_api_Tree.seen : T_api_Tree → Set64
  | ⟨k, t, ks, _, _⟩ => if k = 0 then bitI t else if k = 3 ∨ k = 4 then seen1 ks else seenL ks
where
  seen1 : List T_api_Tree → Set64
  | [] => 0#64
  | x :: _ => x.seen
  seenL : List T_api_Tree → Set64
  | [] => 0#64
  | x :: l => x.seen ||| seenL l
theorem seen_eq (t : T_api_Tree) : t.seen = if t.Kind = 0 then bitI t.Table else if t.Kind = 3 ∨ t.Kind = 4 then T_api_Tree.seen.seen1 t.Kids else T_api_Tree.seen.seenL t.Kids := by
  obtain ⟨a, b, ks, c, d⟩ := t
  simp only [T_api_Tree.seen]
theorem ref10_Seen_eq (t : T_api_Tree) : t.size ≤ 1000000000 → M_ref10_Seen t = some t.seen := by
  induction t using T_api_Tree.induct with
  | h t ih =>
    intro hsz
    have hkl := kids_len t
    rw [M_ref10_Seen, seen_eq]
    by_cases h0 : t.Kind = 0
    · rw [if_pos (by simpa using h0), if_pos h0, ref01_Of_eq _ (by simp)]
      simp -implicitDefEqProofs only [Option.bind_eq_bind, Option.bind_some]
      rw [ofL_cons, ofL_nil, BitVec.or_zero]
    · rw [if_neg (by simpa using h0), if_neg h0]
      by_cases h34 : t.Kind = 3 ∨ t.Kind = 4
      · rw [if_pos h34]
        have key : ∀ n i s, t.Kids.length - i = n → 1 ≤ i → i ≤ t.Kids.length → M_ref10_Seen.l0 (s, (i : Int), t) = some s := by
          intro n
          induction n with
          | zero =>
            intro i s h1 h2 h3
            obtain rfl : i = t.Kids.length := by omega
            rw [M_ref10_Seen.l0, if_neg (dge (by dsimp only; omega))]
          | succ n ih2 =>
            intro i s h1 h2 h3
            have hi : i < t.Kids.length := by omega
            rw [M_ref10_Seen.l0, if_pos (dlt (by dsimp only; omega))]
            dsimp only
            rw [if_neg (by simp; omega), w64_succ (by omega), ih2 (i + 1) s (by omega) (by omega) (by omega)]
            rcases h34 with h | h
            · rw [if_neg (by simp [h])]
            · rw [if_pos (by simp [h]), if_neg (by simp [h])]
        cases hk : t.Kids with
        | nil =>
          rw [M_ref10_Seen.l0, if_neg (by simp [hk])]; rfl
        | cons x l =>
          have hx : x ∈ t.Kids := by rw [hk]; simp
          have hxs := kid_size hx
          rw [M_ref10_Seen.l0, if_pos (dlt (by dsimp only; rw [hk]; simp only [List.length_cons]; omega))]
          dsimp only
          have g0 : getI t.Kids 0 = some x := by rw [hk]; rfl
          rw [if_pos (by decide), g0]
          simp -implicitDefEqProofs only [Option.bind_eq_bind, Option.bind_some]
          rw [ih x hx (by omega)]
          simp -implicitDefEqProofs only [Option.bind_some]
          have w1 : w64 (0 + 1) = ((1 : Nat) : Int) := by decide
          rw [w1, key (t.Kids.length - 1) 1 _ (by omega) (by omega) (by rw [hk]; simp)]
          simp only [T_api_Tree.seen.seen1, BitVec.zero_or]; rfl
      · rw [if_neg h34]
        have key := loop_all t.Kids (fun i (s : Set64) => M_ref10_Seen.l0 (s, (i : Int), t)) (fun s l => some (s ||| T_api_Tree.seen.seenL l)) (fun s => by
            show M_ref10_Seen.l0 _ = _
            rw [M_ref10_Seen.l0, if_neg (dge (by dsimp only; omega))]
            simp only [T_api_Tree.seen.seenL, BitVec.or_zero])
          (fun i s h ih2 => by
            show M_ref10_Seen.l0 _ = _
            rw [M_ref10_Seen.l0, if_pos (dlt (by dsimp only; omega))]
            dsimp only
            have hm := List.getElem_mem h
            have hs := kid_size hm
            rw [getI_nat h, w64_succ (by omega)]
            simp -implicitDefEqProofs only [Option.bind_eq_bind, Option.bind_some]
            rw [ih _ hm (by omega)]
            simp -implicitDefEqProofs only [Option.bind_some]
            have := ih2 (s ||| t.Kids[i].seen)
            rw [this, if_pos (show (t.Kind != 3) = true by simp; omega), if_pos (show (t.Kind != 4) = true by simp; omega)]
            simp only [T_api_Tree.seen.seenL, BitVec.or_assoc, ite_self]) 0#64
        have key' : M_ref10_Seen.l0 (0#64, 0, t) = _ := key
        rw [key']
        simp -implicitDefEqProofs only [Option.bind_eq_bind, Option.bind_some, BitVec.zero_or]
theorem ex_ite {α : Type} {c : Prop} [Decidable c] {x y : Option α} (h : ∃ b, x = some b) (k : ∃ b, y = some b) : ∃ b, (if c then x else y) = some b := by
  split
  · exact h
  · exact k
theorem ref05_Right_some (t : T_api_Term) : ∃ b, M_ref05_Right t = some b := by
  unfold M_ref05_Right M_ref03_Right
  repeat' first | exact ⟨_, rfl⟩ | apply ex_ite | (simp -implicitDefEqProofs only [Option.bind_eq_bind, Option.bind_some])
  all_goals (split <;> exact ⟨_, rfl⟩)
theorem ref06_at_some (p : T_api_Pred) : p.size ≤ 1000000000 → ∀ d : Int, 1 ≤ d → d ≤ 5 → ∃ b, M_ref06_at (p, d) = some b := by
  induction p using T_api_Pred.induct with
  | h p ih =>
    intro hsz d hd1 hd2
    have hpl := parts_len p
    by_cases h4 : d > 4
    · rw [M_ref06_at, if_pos (by simpa using h4)]; exact ⟨_, rfl⟩
    · have key : ∀ n i, p.Parts.length - i = n → i ≤ p.Parts.length → ∃ o, M_ref06_at.l0 (d, (i : Int), p) = some o := by
        intro n
        induction n with
        | zero =>
          intro i h1 h2
          obtain rfl : i = p.Parts.length := by omega
          rw [M_ref06_at.l0, if_neg (dge (by dsimp only; omega))]; exact ⟨_, rfl⟩
        | succ n ih2 =>
          intro i h1 h2
          have hi : i < p.Parts.length := by omega
          rw [M_ref06_at.l0, if_pos (dlt (by dsimp only; omega))]
          dsimp only
          have hm := List.getElem_mem hi
          have hs := part_size hm
          rw [getI_nat hi, w64_of (by omega) (by omega)]
          obtain ⟨b, hb⟩ := ih _ hm (by omega) (d + 1) (by omega) (by omega)
          simp -implicitDefEqProofs only [Option.bind_eq_bind, Option.bind_some]
          rw [hb]
          simp -implicitDefEqProofs only [Option.bind_some]
          split
          · rw [w64_succ (by omega)]; exact ih2 (i + 1) (by omega) (by omega)
          · exact ⟨_, rfl⟩
      obtain ⟨o, ho⟩ := key p.Parts.length 0 (by omega) (by omega)
      rw [show ((0 : Nat) : Int) = 0 from rfl] at ho
      obtain ⟨a, ha⟩ := ref05_Right_some p.A
      obtain ⟨b, hb⟩ := ref05_Right_some p.B
      rw [M_ref06_at]
      dsimp only
      rw [ho, ha, hb]
      simp -implicitDefEqProofs only [Option.bind_eq_bind, Option.bind_some]
      cases o <;> dsimp only <;> (repeat' first | exact ⟨_, rfl⟩ | apply ex_ite)
theorem ref06_Right_some (p : T_api_Pred) (h : p.size ≤ 1000000000) : ∃ b, M_ref06_Right p = some b := by
  obtain ⟨b, hb⟩ := ref06_at_some p h 1 (by omega) (by omega)
  unfold M_ref06_Right
  rw [hb]; exact ⟨b, rfl⟩
end Go.Proofs.Ytakmilmckdllfaa.G
set_option linter.unusedVariables false
set_option linter.unusedSimpArgs false
namespace Go.Proofs.Ytakmilmckdllfaa.G

theorem two_kids' {t : T_api_Tree} (h : t.Kids.length = 2) : ∃ x y, t.Kids = [x, y] := by
  match hk : t.Kids with
  | [x, y] => exact ⟨x, y, rfl⟩
  | [] => rw [hk] at h; cases h
  | [_] => rw [hk] at h; cases h
  | _ :: _ :: _ :: _ => rw [hk] at h; simp at h
/-- A conjunct that may be, between what is seen on both sides. -/
structure OkConj (cols : List Int) (l r : Set64) (p : T_api_Pred) : Prop where
  right : M_ref06_Right p = some true
  col : ∀ c ∈ p.cols, (hasI l c.e0 = true ∨ hasI r c.e0 = true) ∧ ∃ n, getI cols c.e0 = some n ∧ c.e1 < n
  left : p.tabs &&& l ≠ 0#64
  rt : p.tabs &&& r ≠ 0#64
theorem ref11_conj_eq (p : T_api_Pred) (cols : List Int) (l r : Set64) (hsz : p.size ≤ 1000000) (hc : ∀ n, hasI l n = true ∨ hasI r n = true → ∃ x, getI cols n = some x) : ∃ e, M_ref11_conj (p, cols, l, r) = some e ∧ (e = 0 → OkConj cols l r p) := by
  unfold M_ref11_conj
  dsimp only
  obtain ⟨b, hb⟩ := ref06_Right_some p (by omega)
  rw [hb]
  simp -implicitDefEqProofs only [Option.bind_eq_bind, Option.bind_some]
  cases b with
  | false => rw [if_neg (by decide)]; exact ⟨9, rfl, fun h => by cases h⟩
  | true =>
    rw [if_pos rfl, ref06_Columns_eq p (by omega)]
    simp -implicitDefEqProofs only [Option.bind_some]
    have hcl := pcols_len p
    have key : ∀ n i, p.cols.length - i = n → i ≤ p.cols.length → M_ref11_conj.l0 (cols, l, r, p.cols, (i : Int), p) = some (.ret 10) ∨ (M_ref11_conj.l0 (cols, l, r, p.cols, (i : Int), p) = some (.brk ()) ∧ ∀ j (h : j < p.cols.length), i ≤ j → (hasI l p.cols[j].e0 = true ∨ hasI r p.cols[j].e0 = true) ∧ ∃ n, getI cols p.cols[j].e0 = some n ∧ p.cols[j].e1 < n) := by
      intro n
      induction n with
      | zero =>
        intro i h1 h2
        obtain rfl : i = p.cols.length := by omega
        rw [M_ref11_conj.l0, if_neg (dge (by dsimp only; omega))]
        exact .inr ⟨rfl, fun j h h' => by omega⟩
      | succ n ih =>
        intro i h1 h2
        have hi : i < p.cols.length := by omega
        rw [M_ref11_conj.l0, if_pos (dlt (by dsimp only; omega))]
        dsimp only
        rw [getI_nat hi, w64_succ (by omega)]
        simp -implicitDefEqProofs only [Option.bind_eq_bind, Option.bind_some, ref01_Has_eq]
        have ih := ih (i + 1) (by omega) (by omega)
        have more : ∀ (h : hasI l p.cols[i].e0 = true ∨ hasI r p.cols[i].e0 = true) (x : Int), getI cols p.cols[i].e0 = some x → (if (decide (p.cols[i].e1 ≥ x)) = true then some (Lp.ret 10) else M_ref11_conj.l0 (cols, l, r, p.cols, ((i + 1 : Nat) : Int), p)) = some (.ret 10) ∨ ((if (decide (p.cols[i].e1 ≥ x)) = true then some (Lp.ret 10) else M_ref11_conj.l0 (cols, l, r, p.cols, ((i + 1 : Nat) : Int), p)) = some (.brk ()) ∧ ∀ j (h : j < p.cols.length), i ≤ j → (hasI l p.cols[j].e0 = true ∨ hasI r p.cols[j].e0 = true) ∧ ∃ n, getI cols p.cols[j].e0 = some n ∧ p.cols[j].e1 < n) := by
          intro h x hx
          by_cases hge : p.cols[i].e1 ≥ x
          · rw [if_pos (by simpa using hge)]; exact .inl rfl
          · rw [if_neg (by simpa using hge)]
            rcases ih with ih | ⟨ih1, ih2⟩
            · exact .inl ih
            · refine .inr ⟨ih1, fun j hj hij => ?_⟩
              by_cases e : j = i
              · subst e; exact ⟨h, x, hx, by omega⟩
              · exact ih2 j hj (by omega)
        cases hl : hasI l p.cols[i].e0 with
        | true =>
          obtain ⟨x, hx⟩ := hc _ (.inl hl)
          rw [if_pos rfl, hx]
          simp -implicitDefEqProofs only [Option.bind_some]
          exact more (.inl hl) x hx
        | false =>
          rw [if_neg (by decide)]
          cases hr : hasI r p.cols[i].e0 with
          | true =>
            obtain ⟨x, hx⟩ := hc _ (.inr hr)
            rw [if_pos rfl, hx]
            simp -implicitDefEqProofs only [Option.bind_some]
            exact more (.inr hr) x hx
          | false => rw [if_neg (by decide)]; exact .inl rfl
    have h0 := key p.cols.length 0 (by omega) (by omega)
    rw [show ((0 : Nat) : Int) = 0 from rfl] at h0
    rcases h0 with h0 | ⟨h0, h1⟩
    · rw [h0]; exact ⟨10, rfl, fun h => by cases h⟩
    · rw [h0, ref06_Tables_eq p (by omega)]
      simp -implicitDefEqProofs only [Option.bind_some]
      by_cases hl : p.tabs &&& l = 0#64
      · rw [if_pos (by simpa using hl)]; exact ⟨11, rfl, fun h => by cases h⟩
      · rw [if_neg (by simpa using hl)]
        by_cases hr : p.tabs &&& r = 0#64
        · rw [if_pos (by simpa using hr)]; exact ⟨11, rfl, fun h => by cases h⟩
        · rw [if_neg (by simpa using hr)]
          refine ⟨0, rfl, fun _ => ⟨hb, fun c hc => ?_, hl, hr⟩⟩
          obtain ⟨j, hj, rfl⟩ := List.getElem_of_mem hc
          exact h1 j hj (Nat.zero_le _)

/-- A right node. -/
inductive OkNode (cols : List Int) (t : T_api_Tree) : Prop
  | leaf (hk : t.Kind = 0) (hks : t.Kids = []) (hc : t.Conj = []) (hh : t.Hash = false) (h0 : 0 ≤ t.Table) (h1 : t.Table < (cols.length : Int))
  | op (a b : T_api_Tree) (hk1 : 1 ≤ t.Kind) (hk2 : t.Kind ≤ 4) (hks : t.Kids = [a, b]) (hc : t.Conj ≠ []) (ht : t.Table = 0) (hp : ∀ p ∈ t.Conj, OkConj cols a.seen b.seen p)
/-- What is seen are tables of leaves. -/
theorem seen_tabs (t : T_api_Tree) : ∀ n, hasI t.seen n = true → n ∈ leafTabs t.tour := by
  have orI : ∀ (s u : Set64) n, hasI (s ||| u) n = true → hasI s n = true ∨ hasI u n = true := by
    intro s u n h
    unfold hasI at *
    simp only [Bool.and_eq_true, BitVec.getLsbD_or, Bool.or_eq_true] at *
    obtain ⟨h1, h2 | h2⟩ := h
    · exact .inl ⟨h1, h2⟩
    · exact .inr ⟨h1, h2⟩
  induction t using T_api_Tree.induct with
  | h t ih =>
    intro n hn
    have up : ∀ y ∈ t.Kids, n ∈ leafTabs y.tour → n ∈ leafTabs t.tour := by
      intro y hy h
      unfold leafTabs at *
      obtain ⟨z, hz, e⟩ := List.mem_map.1 h
      obtain ⟨h1, h2⟩ := List.mem_filter.1 hz
      exact List.mem_map.2 ⟨z, List.mem_filter.2 ⟨tour_kid hy z h1, h2⟩, e⟩
    rw [seen_eq] at hn
    by_cases h0 : t.Kind = 0
    · rw [if_pos h0] at hn
      unfold hasI at hn
      simp only [Bool.and_eq_true, decide_eq_true_eq] at hn
      rw [bitI_lsb] at hn
      simp only [Bool.and_eq_true, decide_eq_true_eq] at hn
      have : t.Table = n := by omega
      exact List.mem_map.2 ⟨t, List.mem_filter.2 ⟨tour_self t, by simp [h0]⟩, this⟩
    · rw [if_neg h0] at hn
      have z0 : hasI 0#64 n = false := by unfold hasI; simp
      by_cases h34 : t.Kind = 3 ∨ t.Kind = 4
      · rw [if_pos h34] at hn
        cases hk : t.Kids with
        | nil => rw [hk] at hn; simp only [T_api_Tree.seen.seen1, z0] at hn; cases hn
        | cons x l =>
          rw [hk] at hn
          simp only [T_api_Tree.seen.seen1] at hn
          have hx : x ∈ t.Kids := by rw [hk]; simp
          exact up x hx (ih x hx n hn)
      · rw [if_neg h34] at hn
        have : ∀ l : List T_api_Tree, (∀ y ∈ l, y ∈ t.Kids) → hasI (T_api_Tree.seen.seenL l) n = true → n ∈ leafTabs t.tour := by
          intro l
          induction l with
          | nil => intro _ h; simp only [T_api_Tree.seen.seenL, z0] at h; cases h
          | cons x l ih2 =>
            intro hl h
            simp only [T_api_Tree.seen.seenL] at h
            rcases orI _ _ _ h with h | h
            · exact up x (hl x List.mem_cons_self) (ih x (hl x List.mem_cons_self) n h)
            · exact ih2 (fun y hy => hl y (List.mem_cons_of_mem _ hy)) h
        exact this t.Kids (fun y hy => hy) hn

/-- A node, where those ahead are right. -/
theorem ref11_one_eq (t : T_api_Tree) (cols came : List Int) (conjs : Nat) (hsz : t.size ≤ 1000000) (hcm : came.length ≤ 1000000) (hcj : conjs ≤ 1000000) (hk : ∀ y ∈ t.Kids, ∀ n ∈ leafTabs y.tour, 0 ≤ n ∧ n < (cols.length : Int)) : ∃ e, M_ref11_one (t, cols, came, (conjs : Int)) = some e ∧ (e = 0 → OkNode cols t ∧ (t.Kind = 0 → t.Table ∉ came)) := by
  have hcl := conj_len t
  unfold M_ref11_one
  dsimp only
  by_cases k0 : t.Kind < 0
  · rw [if_pos (by simpa using k0)]; exact ⟨4, rfl, fun h => by cases h⟩
  rw [if_neg (by simpa using k0)]
  by_cases k4 : t.Kind > 4
  · rw [if_pos (by simpa using k4)]; exact ⟨4, rfl, fun h => by cases h⟩
  rw [if_neg (by simpa using k4)]
  by_cases kz : t.Kind = 0
  · rw [if_pos (by simpa using kz)]
    by_cases hh : t.Hash = true
    · rw [if_pos hh]; exact ⟨4, rfl, fun h => by cases h⟩
    rw [if_neg hh]
    by_cases hks : t.Kids = []
    · rw [if_neg (by simp [hks])]
      by_cases hcs : t.Conj = []
      · rw [if_neg (by simp [hcs])]
        by_cases h0 : t.Table < 0
        · rw [if_pos (by simpa using h0)]; exact ⟨5, rfl, fun h => by cases h⟩
        rw [if_neg (by simpa using h0)]
        by_cases h1 : t.Table ≥ (cols.length : Int)
        · rw [if_pos (by simpa using h1)]; exact ⟨5, rfl, fun h => by cases h⟩
        rw [if_neg (by simpa using h1)]
        have key : ∀ n i, came.length - i = n → i ≤ came.length → M_ref11_one.l0 (came, (i : Int), t) = some (.ret 6) ∨ (M_ref11_one.l0 (came, (i : Int), t) = some (.brk ()) ∧ ∀ j (h : j < came.length), i ≤ j → came[j] ≠ t.Table) := by
          intro n
          induction n with
          | zero =>
            intro i h1 h2
            obtain rfl : i = came.length := by omega
            rw [M_ref11_one.l0, if_neg (dge (by dsimp only; omega))]
            exact .inr ⟨rfl, fun j h h' => by omega⟩
          | succ n ih =>
            intro i h1 h2
            have hi : i < came.length := by omega
            rw [M_ref11_one.l0, if_pos (dlt (by dsimp only; omega))]
            dsimp only
            rw [getI_nat hi, w64_succ (by omega)]
            simp -implicitDefEqProofs only [Option.bind_eq_bind, Option.bind_some]
            by_cases e : came[i] = t.Table
            · rw [if_pos (by simpa using e)]; exact .inl rfl
            · rw [if_neg (by simpa using e)]
              rcases ih (i + 1) (by omega) (by omega) with ih | ⟨ih1, ih2⟩
              · exact .inl ih
              · refine .inr ⟨ih1, fun j hj hij => ?_⟩
                by_cases ej : j = i
                · subst ej; exact e
                · exact ih2 j hj (by omega)
        have h2 := key came.length 0 (by omega) (by omega)
        rw [show ((0 : Nat) : Int) = 0 from rfl] at h2
        rcases h2 with h2 | ⟨h2, h3⟩
        · rw [h2]; exact ⟨6, rfl, fun h => by cases h⟩
        · rw [h2]
          refine ⟨0, rfl, fun _ => ⟨.leaf kz hks hcs (by simpa using hh) (by omega) (by omega), fun _ hm => ?_⟩⟩
          obtain ⟨j, hj, e⟩ := List.getElem_of_mem hm
          exact h3 j hj (Nat.zero_le _) e
      · rw [if_pos (by simp; exact List.length_pos_iff.2 hcs)]; exact ⟨8, rfl, fun h => by cases h⟩
    · rw [if_pos (by simp; exact List.length_pos_iff.2 hks)]; exact ⟨7, rfl, fun h => by cases h⟩
  rw [if_neg (by simpa using kz)]
  by_cases h2 : t.Kids.length = 2
  · obtain ⟨a, b, hab⟩ := two_kids' h2
    rw [if_neg (by simp [h2])]
    by_cases hcs : t.Conj = []
    · rw [if_pos (by simp [hcs])]; exact ⟨8, rfl, fun h => by cases h⟩
    have hcp := List.length_pos_iff.2 hcs
    rw [if_neg (by simp; omega)]
    rw [w64_of (by omega) (by omega)]
    by_cases h64 : (conjs : Int) + (t.Conj.length : Int) > 64
    · rw [if_pos (by simpa using h64)]; exact ⟨8, rfl, fun h => by cases h⟩
    rw [if_neg (by simpa using h64)]
    by_cases ht : t.Table = 0
    · rw [if_neg (by simpa using ht)]
      have ha : a ∈ t.Kids := by rw [hab]; simp
      have hb : b ∈ t.Kids := by rw [hab]; simp
      have has := kid_size ha
      have hbs := kid_size hb
      have k0' : t.Kids[0]? = some a := by rw [hab]; rfl
      have k1' : t.Kids[1]? = some b := by rw [hab]; rfl
      have hidx : ∀ n, hasI a.seen n = true ∨ hasI b.seen n = true → ∃ x, getI cols n = some x := by
        intro n hn
        have : 0 ≤ n ∧ n < (cols.length : Int) := hn.elim (fun h => hk a ha n (seen_tabs a n h)) (fun h => hk b hb n (seen_tabs b n h))
        obtain ⟨k, rfl⟩ : ∃ k : Nat, n = k := ⟨n.toNat, by omega⟩
        exact ⟨_, getI_nat (by omega)⟩
      have key : ∀ n i, t.Conj.length - i = n → i ≤ t.Conj.length → ∃ o, M_ref11_one.l1 (cols, (i : Int), t) = some o ∧ ((∃ e, o = .ret e ∧ e ≠ 0) ∨ (o = .brk () ∧ ∀ j (h : j < t.Conj.length), i ≤ j → OkConj cols a.seen b.seen t.Conj[j])) := by
        intro n
        induction n with
        | zero =>
          intro i h1 h2
          obtain rfl : i = t.Conj.length := by omega
          rw [M_ref11_one.l1, if_neg (dge (by dsimp only; omega))]
          exact ⟨_, rfl, .inr ⟨rfl, fun j h h' => by omega⟩⟩
        | succ n ih =>
          intro i h1 h2
          have hi : i < t.Conj.length := by omega
          have hps := conj_size (List.getElem_mem hi)
          rw [M_ref11_one.l1, if_pos (dlt (by dsimp only; omega))]
          dsimp only
          rw [getI_nat hi, k0', k1', w64_succ (by omega)]
          simp -implicitDefEqProofs only [Option.bind_eq_bind, Option.bind_some]
          rw [ref10_Seen_eq a (by omega), ref10_Seen_eq b (by omega)]
          simp -implicitDefEqProofs only [Option.bind_some]
          obtain ⟨e, he, h0⟩ := ref11_conj_eq t.Conj[i] cols a.seen b.seen (by omega) hidx
          rw [he]
          simp -implicitDefEqProofs only [Option.bind_some]
          by_cases ez : e = 0
          · rw [if_neg (by simpa using ez)]
            obtain ⟨o, ho, hh⟩ := ih (i + 1) (by omega) (by omega)
            refine ⟨o, ho, hh.imp id fun ⟨e1, e2⟩ => ⟨e1, fun j hj hij => ?_⟩⟩
            by_cases ej : j = i
            · subst ej; exact h0 ez
            · exact e2 j hj (by omega)
          · rw [if_pos (by simpa using ez)]
            exact ⟨_, rfl, .inl ⟨e, rfl, ez⟩⟩
      obtain ⟨o, ho, hh⟩ := key t.Conj.length 0 (by omega) (by omega)
      rw [show ((0 : Nat) : Int) = 0 from rfl] at ho
      rw [ho]
      rcases hh with ⟨e, rfl, he⟩ | ⟨rfl, hall⟩
      · exact ⟨e, rfl, fun h => absurd h he⟩
      · refine ⟨0, rfl, fun _ => ⟨.op a b (by omega) (by omega) hab hcs ht (fun p hp => ?_), fun h => absurd h kz⟩⟩
        obtain ⟨j, hj, rfl⟩ := List.getElem_of_mem hp
        exact hall j hj (Nat.zero_le _)
    · rw [if_pos (by simpa using ht)]; exact ⟨5, rfl, fun h => by cases h⟩
  · rw [if_pos (by simp; omega)]; exact ⟨7, rfl, fun h => by cases h⟩
def nconj (l : List T_api_Tree) : Nat := (l.map fun y => y.Conj.length).sum
theorem nconj_append (l l' : List T_api_Tree) : nconj (l ++ l') = nconj l + nconj l' := by unfold nconj; rw [List.map_append, List.sum_append]
theorem nconj_cons (x : T_api_Tree) (l : List T_api_Tree) : nconj (x :: l) = x.Conj.length + nconj l := rfl
theorem nconj_tour (t : T_api_Tree) : nconj t.tour ≤ t.size := by
  induction t using T_api_Tree.induct with
  | h t ih =>
    rw [tour_eq, nconj_append, tsize_eq]
    have hl : ∀ l : List T_api_Tree, (∀ y ∈ l, nconj y.tour ≤ y.size) → nconj (l.flatMap T_api_Tree.tour) ≤ (l.map T_api_Tree.size).sum := by
      intro l
      induction l with
      | nil => intro _; simp [nconj]
      | cons y l ih2 =>
        intro h
        rw [List.flatMap_cons, nconj_append, List.map_cons, List.sum_cons]
        have h1 := h y List.mem_cons_self
        have h2 := ih2 fun z hz => h z (List.mem_cons_of_mem _ hz)
        omega
    have h1 := hl t.Kids ih
    have h2 := len_sum T_api_Pred.size psize_pos t.Conj
    have h3 : nconj [t] = t.Conj.length := by simp [nconj]
    omega
theorem leafTabs_append (l l' : List T_api_Tree) : leafTabs (l ++ l') = leafTabs l ++ leafTabs l' := by unfold leafTabs; rw [List.filter_append, List.map_append]
theorem leafTabs_ok {cols : List Int} {l : List T_api_Tree} (h : ∀ y ∈ l, OkNode cols y) : ∀ n ∈ leafTabs l, 0 ≤ n ∧ n < (cols.length : Int) := by
  intro n hn
  obtain ⟨y, hy, rfl⟩ := List.mem_map.1 hn
  obtain ⟨h1, h2⟩ := List.mem_filter.1 hy
  have hk : y.Kind = 0 := by simpa using h2
  cases h y h1 with
  | leaf _ _ _ _ h0 h1 => exact ⟨h0, h1⟩
  | op a b h3 => omega
theorem ref11_loop (q : T_api_Query) (all : List T_api_Tree) (hlen : all.length ≤ 1000) (hsz : ∀ y ∈ all, y.size ≤ 1000) : ∀ (t : T_api_Tree) (i : Nat) (came : List Int) (conjs : Nat) (rest : List T_api_Tree), all.drop i = t.tour ++ rest → came.length ≤ i → conjs + nconj (all.drop i) ≤ 1000 → came.Nodup →
    (∃ e, e ≠ 0 ∧ M_ref11_Query.l1 (all, came, (conjs : Int), (i : Int), q) = some (.ret e)) ∨
    (M_ref11_Query.l1 (all, came, (conjs : Int), (i : Int), q) = M_ref11_Query.l1 (all, came ++ leafTabs t.tour, ((conjs + nconj t.tour : Nat) : Int), ((i + t.tour.length : Nat) : Int), q) ∧ (∀ y ∈ t.tour, OkNode q.Cols y) ∧ (came ++ leafTabs t.tour).Nodup) := by
  intro t
  induction t using T_api_Tree.induct with
  | h t ih =>
    intro i came conjs rest hdrop hcl hcj hnd
    -- the kids
    have kids : ∀ (ks : List T_api_Tree), (∀ y ∈ ks, y ∈ t.Kids) → ∀ (i : Nat) (came : List Int) (conjs : Nat) (rest : List T_api_Tree), all.drop i = ks.flatMap T_api_Tree.tour ++ rest → came.length ≤ i → conjs + nconj (all.drop i) ≤ 1000 → came.Nodup →
        (∃ e, e ≠ 0 ∧ M_ref11_Query.l1 (all, came, (conjs : Int), (i : Int), q) = some (.ret e)) ∨
        (M_ref11_Query.l1 (all, came, (conjs : Int), (i : Int), q) = M_ref11_Query.l1 (all, came ++ leafTabs (ks.flatMap T_api_Tree.tour), ((conjs + nconj (ks.flatMap T_api_Tree.tour) : Nat) : Int), ((i + (ks.flatMap T_api_Tree.tour).length : Nat) : Int), q) ∧ (∀ y ∈ ks.flatMap T_api_Tree.tour, OkNode q.Cols y) ∧ (came ++ leafTabs (ks.flatMap T_api_Tree.tour)).Nodup) := by
      intro ks
      induction ks with
      | nil =>
        intro _ i came conjs rest _ _ _ hnd
        refine .inr ⟨?_, fun y hy => by simp at hy, by simpa [leafTabs] using hnd⟩
        simp [leafTabs, nconj]
      | cons k ks ih2 =>
        intro hks i came conjs rest hdrop hcl hcj hnd
        rw [List.flatMap_cons, List.append_assoc] at hdrop
        rcases ih k (hks k List.mem_cons_self) i came conjs _ hdrop hcl hcj hnd with h | ⟨h1, h2, h3⟩
        · exact .inl h
        · have hd2 : all.drop (i + k.tour.length) = ks.flatMap T_api_Tree.tour ++ rest := by
            rw [← List.drop_drop, hdrop, List.drop_left]
          have hc2 : (came ++ leafTabs k.tour).length ≤ i + k.tour.length := by rw [List.length_append]; have := leafTabs_len k.tour; omega
          have hj2 : conjs + nconj k.tour + nconj (all.drop (i + k.tour.length)) ≤ 1000 := by
            rw [hdrop, nconj_append] at hcj; rw [hd2]; omega
          rcases ih2 (fun y hy => hks y (List.mem_cons_of_mem _ hy)) (i + k.tour.length) (came ++ leafTabs k.tour) (conjs + nconj k.tour) rest hd2 hc2 hj2 h3 with ⟨e, he, h⟩ | ⟨g1, g2, g3⟩
          · exact .inl ⟨e, he, h1.trans h⟩
          · refine .inr ⟨?_, fun y hy => ?_, ?_⟩
            · rw [h1, g1, List.flatMap_cons, leafTabs_append, nconj_append, List.length_append, List.append_assoc, Nat.add_assoc conjs, Nat.add_assoc i]
            · rw [List.flatMap_cons] at hy
              exact (List.mem_append.1 hy).elim (h2 y) (g2 y)
            · rw [List.flatMap_cons, leafTabs_append, ← List.append_assoc]; exact g3
    rw [tour_eq, List.append_assoc] at hdrop
    rcases kids t.Kids (fun y hy => hy) i came conjs _ hdrop hcl hcj hnd with h | ⟨h1, h2, h3⟩
    · exact .inl h
    · have hd2 : all.drop (i + (t.Kids.flatMap T_api_Tree.tour).length) = [t] ++ rest := by rw [← List.drop_drop, hdrop, List.drop_left]
      have hlt : i + (t.Kids.flatMap T_api_Tree.tour).length < all.length := by
        rcases Nat.lt_or_ge (i + (t.Kids.flatMap T_api_Tree.tour).length) all.length with h | h
        · exact h
        · rw [List.drop_eq_nil_of_le h] at hd2; cases hd2
      have hget : all[i + (t.Kids.flatMap T_api_Tree.tour).length] = t := by
        have := List.drop_eq_getElem_cons hlt
        rw [hd2] at this
        injection this with h _
        exact h.symm
      have htm : t ∈ all := by rw [← hget]; exact List.getElem_mem hlt
      have hts := hsz t htm
      have hj2 : conjs + nconj (t.Kids.flatMap T_api_Tree.tour) + t.Conj.length ≤ 1000 := by
        rw [hdrop, nconj_append, List.cons_append, List.nil_append, nconj_cons] at hcj; omega
      have hc2 : (came ++ leafTabs (t.Kids.flatMap T_api_Tree.tour)).length ≤ i + (t.Kids.flatMap T_api_Tree.tour).length := by rw [List.length_append]; have := leafTabs_len (t.Kids.flatMap T_api_Tree.tour); omega
      obtain ⟨e, he, h0⟩ := ref11_one_eq t q.Cols (came ++ leafTabs (t.Kids.flatMap T_api_Tree.tour)) (conjs + nconj (t.Kids.flatMap T_api_Tree.tour)) (by omega) (by omega) (by omega) (fun y hy n hn => leafTabs_ok (cols := q.Cols) (l := y.tour) (fun z hz => h2 z (List.mem_flatMap.2 ⟨y, hy, hz⟩)) n hn)
      have hstep : M_ref11_Query.l1 (all, came ++ leafTabs (t.Kids.flatMap T_api_Tree.tour), ((conjs + nconj (t.Kids.flatMap T_api_Tree.tour) : Nat) : Int), ((i + (t.Kids.flatMap T_api_Tree.tour).length : Nat) : Int), q) =
          (if (e != 0) = true then some (.ret e) else M_ref11_Query.l1 (all, came ++ leafTabs t.tour, ((conjs + nconj t.tour : Nat) : Int), ((i + t.tour.length : Nat) : Int), q)) := by
        rw [M_ref11_Query.l1, if_pos (dlt (by dsimp only; omega))]
        dsimp only
        rw [getI_nat hlt, hget]
        simp -implicitDefEqProofs only [Option.bind_eq_bind, Option.bind_some]
        rw [he]
        simp -implicitDefEqProofs only [Option.bind_some]
        have w1 : w64 (((conjs + nconj (t.Kids.flatMap T_api_Tree.tour) : Nat) : Int) + (t.Conj.length : Int)) = ((conjs + nconj t.tour : Nat) : Int) := by
          rw [w64_of (by omega) (by omega), tour_eq t, nconj_append]
          have : nconj [t] = t.Conj.length := by simp [nconj]
          omega
        have w2 : w64 (((i + (t.Kids.flatMap T_api_Tree.tour).length : Nat) : Int) + 1) = ((i + t.tour.length : Nat) : Int) := by
          rw [w64_succ (by omega), tour_eq t, List.length_append]; simp only [List.length_cons, List.length_nil]; omega
        rw [w1, w2]
        by_cases ez : e = 0
        · have e1 : ¬ (e != 0) = true := by simpa using ez
          rw [if_neg e1, if_neg e1]
          by_cases hk : t.Kind = 0
          · rw [if_pos (by simpa using hk), room_of (by simp only [List.length_cons, List.length_nil]; omega)]
            simp -implicitDefEqProofs only [Option.bind_some]
            have : came ++ leafTabs (t.Kids.flatMap T_api_Tree.tour) ++ [t.Table] = came ++ leafTabs t.tour := by
              rw [tour_eq t, leafTabs_append, leafTabs_pos [] hk, List.append_assoc]; rfl
            rw [this]
          · rw [if_neg (by simpa using hk)]
            have : came ++ leafTabs (t.Kids.flatMap T_api_Tree.tour) = came ++ leafTabs t.tour := by
              rw [tour_eq t, leafTabs_append, leafTabs_neg [] hk]
              have : leafTabs [] = [] := rfl
              rw [this, List.append_nil]
            rw [this]
        · have e1 : (e != 0) = true := by simpa using ez
          rw [if_pos e1, if_pos e1]
      by_cases ez : e = 0
      · have e1 : ¬ (e != 0) = true := by simpa using ez
        rw [if_neg e1] at hstep
        obtain ⟨g1, g2⟩ := h0 ez
        refine .inr ⟨h1.trans hstep, fun y hy => ?_, ?_⟩
        · rw [tour_eq, List.mem_append] at hy
          rcases hy with hy | hy
          · exact h2 y hy
          · simp at hy; subst hy; exact g1
        · rw [tour_eq t, leafTabs_append, ← List.append_assoc]
          by_cases hk : t.Kind = 0
          · have e2 : leafTabs [t] = [t.Table] := leafTabs_pos [] hk
            rw [e2]
            refine List.nodup_append.2 ⟨h3, by simp, fun a ha b hb => ?_⟩
            simp at hb; subst hb
            exact fun e => g2 hk (e ▸ ha)
          · have e2 : leafTabs [t] = [] := leafTabs_neg [] hk
            rw [e2, List.append_nil]; exact h3
      · have e1 : (e != 0) = true := by simpa using ez
        rw [if_pos e1] at hstep
        exact .inl ⟨e, ez, h1.trans hstep⟩

/-- A right query. -/
structure RightQ (q : T_api_Query) : Prop where
  ncols : q.Cols.length ≤ 64
  colr : ∀ c ∈ q.Cols, 1 ≤ c ∧ c ≤ 4
  node : ∀ y ∈ q.Root.tour, OkNode q.Cols y
  nodup : (leafTabs q.Root.tour).Nodup
theorem ref11_Query_eq (q : T_api_Query) (hsz : q.Root.size ≤ 600) : ∃ e, M_ref11_Query q = some e ∧ (e = 0 → RightQ q) := by
  unfold M_ref11_Query
  by_cases h64 : (q.Cols.length : Int) > 64
  · rw [if_pos (by simpa using h64)]; exact ⟨2, rfl, fun h => by cases h⟩
  rw [if_neg (by simpa using h64)]
  have key : ∀ n i, q.Cols.length - i = n → i ≤ q.Cols.length → M_ref11_Query.l0 ((i : Int), q) = some (.ret 12) ∨ (M_ref11_Query.l0 ((i : Int), q) = some (.brk ()) ∧ ∀ j (h : j < q.Cols.length), i ≤ j → 1 ≤ q.Cols[j] ∧ q.Cols[j] ≤ 4) := by
    intro n
    induction n with
    | zero =>
      intro i h1 h2
      obtain rfl : i = q.Cols.length := by omega
      rw [M_ref11_Query.l0, if_neg (dge (by dsimp only; omega))]
      exact .inr ⟨rfl, fun j h h' => by omega⟩
    | succ n ih =>
      intro i h1 h2
      have hi : i < q.Cols.length := by omega
      rw [M_ref11_Query.l0, if_pos (dlt (by dsimp only; omega))]
      dsimp only
      rw [getI_nat hi, w64_succ (by omega)]
      simp -implicitDefEqProofs only [Option.bind_eq_bind, Option.bind_some]
      by_cases c1 : q.Cols[i] < 1
      · rw [if_pos (dlt c1)]; exact .inl rfl
      rw [if_neg (dge c1)]
      by_cases c4 : q.Cols[i] > 4
      · rw [if_pos (by simpa using c4)]; exact .inl rfl
      rw [if_neg (by simpa using c4)]
      rcases ih (i + 1) (by omega) (by omega) with ih | ⟨ih1, ih2⟩
      · exact .inl ih
      · refine .inr ⟨ih1, fun j hj hij => ?_⟩
        by_cases ej : j = i
        · subst ej; omega
        · exact ih2 j hj (by omega)
  have h0 := key q.Cols.length 0 (by omega) (by omega)
  rw [show ((0 : Nat) : Int) = 0 from rfl] at h0
  rcases h0 with h0 | ⟨h0, hcols⟩
  · rw [h0]; exact ⟨12, rfl, fun h => by cases h⟩
  rw [h0]
  simp -implicitDefEqProofs only [Option.bind_eq_bind, Option.bind_some]
  rw [ref10_All_eq _ (by omega)]
  simp -implicitDefEqProofs only [Option.bind_some]
  have htl := tour_len q.Root
  have hnc := nconj_tour q.Root
  have h1 := ref11_loop q q.Root.tour (by omega) (fun y hy => by have := tour_size q.Root y hy; omega) q.Root 0 [] 0 [] (by simp) (by simp) (by simp; omega) (by simp)
  rw [show ((0 : Nat) : Int) = 0 from rfl] at h1
  rcases h1 with ⟨e, he, h1⟩ | ⟨h1, h2, h3⟩
  · rw [h1]; exact ⟨e, rfl, fun h => absurd h he⟩
  · rw [h1, M_ref11_Query.l1, if_neg (dge (by dsimp only; omega))]
    refine ⟨0, rfl, fun _ => ⟨by omega, fun c hc => ?_, h2, by simpa using h3⟩⟩
    obtain ⟨j, hj, rfl⟩ := List.getElem_of_mem hc
    exact hcols j hj (Nat.zero_le _)
theorem ref11_Right_eq (q : T_api_Query) (hsz : q.Root.size ≤ 600) : ∃ b, M_ref11_Right q = some b ∧ (b = true → RightQ q) := by
  obtain ⟨e, he, h⟩ := ref11_Query_eq q hsz
  unfold M_ref11_Right
  rw [he]
  exact ⟨_, rfl, fun hb => h (by simpa using hb)⟩
theorem law11_Few_eq (q : T_api_Query) : M_law11_Few q = some (decide (q.Root.size ≤ 600)) := by
  unfold M_law11_Few
  have e := ref10_Size_eq q.Root 601 (by omega) (by omega)
  rw [show ((601 : Nat) : Int) = 601 from rfl] at e
  rw [e]
  simp -implicitDefEqProofs only [Option.bind_eq_bind, Option.bind_some]
  congr 1
  exact decide_eq_decide.2 (by omega)
end Go.Proofs.Ytakmilmckdllfaa.G
set_option linter.unusedVariables false
set_option linter.unusedSimpArgs false
set_option maxRecDepth 100000
namespace Go.Proofs.Ytakmilmckdllfaa.G
end Go.Proofs.Ytakmilmckdllfaa.G
set_option linter.unusedVariables false
set_option linter.unusedSimpArgs false
set_option maxRecDepth 100000
namespace Go.Proofs.Ytakmilmckdllfaa.G
theorem lok_129 : (Try.f129.body.isSome && !(Try.f129.name == "runtime.NumGoroutine") && okL (bodyF Try.f129) Try.f129.ntmps (bodyF Try.f129)) = true := by kernel_rfl
def M_levels_count.r0 (x : List T_api_Tree × Int) : Option (Int) :=
  match x.1 with
  | [] => some x.2
  | e3 :: l4 =>
    if (e3.Kind != 0) = true then
      if (e3.Kind != 1) = true then
        M_levels_count.r0 (l4, (w64 (x.2 + 1)))
      else
        M_levels_count.r0 (l4, x.2)
    else
      M_levels_count.r0 (l4, x.2)
  partial_fixpoint
theorem M_levels_count.r0.ws : (∀ (x : List T_api_Tree × Int) (o : Int), M_levels_count.r0 x = some o → (fun (x : List T_api_Tree × Int) (o : Int) => ∀ (Fin : Exit → List (Nat × List CV) → Prop) (hb : ∀ (s : Int), o = s → Fin .normal [(2100003, [.v (.i64 s)])]), RRun Try.prog 129 Try.f129 0 1 #[7] [(3, .lref 2100003 0)] Fin (x.1.map (fun (y : T_api_Tree) => [.agg (T_api_Tree.C y)])) [(2100003, [.v (.i64 x.2)])]) x o) := by
  refine M_levels_count.r0.partial_correctness _ ?_
  · intro M_M_levels_count_r0 ih_M_levels_count_r0 x o h
    intro Fin hb
    generalize hx1 : x.1 = ys at h ⊢
    cases ys with
    | nil => injection h with h; subst h; exact RRun.nil (hb _ rfl)
    | cons e3 l4 =>
      refine RRun.cons rfl fun l0 c1 hlo1 => ?_
      dsimp only at h
      simp -implicitDefEqProofs only [go_sem, Try.f129]
      refine RMid.mk (by rfl) fun c2 hlo2 => ?_
      simp -implicitDefEqProofs only [go_sem, Try.f129]
      by_cases h5 : (e3.Kind != 0) = true
      · replace h := ite_some h h5
        try simp -implicitDefEqProofs only [go_sem, h5]
        by_cases h6 : (e3.Kind != 1) = true
        · replace h := ite_some h h6
          try simp -implicitDefEqProofs only [go_sem, h5, h6]
          exact REnd.next [] (by rfl) (by (first | rfl | (simp -implicitDefEqProofs only [go_sem, h5, h6] <;> rfl))) (by rfl) (ih_M_levels_count_r0 (l4, (w64 (x.2 + 1))) _ h Fin hb)
        · replace h := ite_none h h6; replace h6 := bfalse h6
          try simp -implicitDefEqProofs only [go_sem, h5, h6]
          exact REnd.next [] (by rfl) (by (first | rfl | (simp -implicitDefEqProofs only [go_sem, h5, h6] <;> rfl))) (by rfl) (ih_M_levels_count_r0 (l4, x.2) _ h Fin hb)
      · replace h := ite_none h h5; replace h5 := bfalse h5
        try simp -implicitDefEqProofs only [go_sem, h5]
        exact REnd.next [] (by rfl) (by (first | rfl | (simp -implicitDefEqProofs only [go_sem, h5] <;> rfl))) (by rfl) (ih_M_levels_count_r0 (l4, x.2) _ h Fin hb)
theorem M_levels_count.r0.w : type_of% (M_levels_count.r0.ws) := M_levels_count.r0.ws
def M_levels_count (x : T_api_Tree) : Option (Int) :=
  M_tree_Walk x >>= fun l1 =>
  M_levels_count.r0 (l1, 0) >>= fun (s9 : Int) =>
  some s9
theorem M_levels_count.w : ∀ (x : T_api_Tree) (r : Int), M_levels_count x = some r → (fun (x : T_api_Tree) (r : Int) => Fn Try.prog 129 [.agg (T_api_Tree.C x)] (.i64 r)) x r := by
  intro x r h
  rw [M_levels_count] at h
  try dsimp only
  refine Fn.of_lc mix fn_129 lok_129 (by rfl) (flC (T_api_Tree.flatC _) (flN)) (.atom _) ?_
  simp -implicitDefEqProofs only [go_sem, Try.f129]
  obtain ⟨l1, h2, h⟩ := bind_some' h
  refine .iter _ _ rfl (M_tree_Walk.w x _ h2) ?_
  try simp -implicitDefEqProofs only [go_sem]
  obtain ⟨s9, h8, h⟩ := bind_some' h
  refine LRange.iter mix fn_129 (LoOk.none _) (by kernel_rfl) (by kernel_rfl) (by rfl) rfl [] [(2100003, 3)] (by rfl) (by rfl) (by (first | rfl | (simp -implicitDefEqProofs only [go_sem] <;> rfl))) (by (first | rfl | (simp -implicitDefEqProofs only [go_sem] <;> rfl))) (M_levels_count.r0.w (l1, 0) _ h8 _ ?_)
  intro s0 hs'; subst hs'
  try simp -implicitDefEqProofs only [go_sem]
  injection h with h; subst h
  first | rfl | (simp -implicitDefEqProofs only [go_sem] <;> rfl)
end Go.Proofs.Ytakmilmckdllfaa.G
