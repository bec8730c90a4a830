/-
Part 4 of the proof of CostTells: merged by mkclaim.py (a program of this repo) out of texts of wip/g and printed models.
-/
import Derived.Test.YtcfekacmmfdggaaCostTells3
set_option linter.unusedVariables false
set_option linter.unusedSimpArgs false
set_option linter.unusedSectionVars false
namespace Go.Proofs.Ytcfekacmmfdggaa.G

variable [Mu]
section
variable {P : Program} {fr : Fro} {ℓ : Nat → Nat} {ρ : Nat → Own} {c : LCtx} {L : LEnv} {env : List AV} {m : Mem} {f : FuncId} {lo : Option Nat} {σ : List (Nat × Option Nat)}

/-- Where a function's one result is an own slice. -/
def LPostR (P : Program) (rs : List ResultVar) (j s : Nat) (es : List AV) (N' : List (Nat × List CV)) : Exit → LEnv → Prop
  | .ret, L | .normal, L => ∃ x, rs = [x] ∧ ∃ σ, sgOk σ = true ∧ vwN σ [] L.N N' ∧ vw σ (lresult P L x) (.own j s es)
  | _, _ => False

/-- From a body to its one result. -/
theorem LC.resultR {fn : Func} {cb : Code} {args : List AV} {x : ResultVar} {Q : LEnv → Prop} (hmix : P.follows .mixedOrders = true) (hf : P.funcs[f]? = some fn) (hbb : fn.body = some cb) (h2 : (fn.name == "runtime.NumGoroutine") = false) (h3 : okL (bodyF fn) fn.ntmps (bodyF fn) = true) (ha : args.length ≤ fn.ntmps) {L : LEnv}
    (hrel : Rel P c L (args ++ List.replicate (fn.ntmps - args.length) AV.undef) m) (hx : fn.results.toList = [x])
    (h : LC P f none c (slimC 0 (bodyF fn)) (fun e L => (e = .ret ∨ e = .normal) ∧ Q L) L) :
    ∃ env' m' fr ℓ ρ L', RelW P fr ℓ ρ c L' env' m' ∧ Q L' ∧ ∀ v, lresult P L' x = some v → v ≠ .dead → ∃ a, SRel P fr ℓ ρ v a ∧ (∀ i s es, v.has i s es → Vis L' i s es) ∧ ACalls P f args m a.stripR m' := by
  have e : bodyF fn = cb := by simp [bodyF, hbb]
  have e2 : bodyOf P f = cb := by simp [bodyOf, hf, hbb]
  have e3 : fn.ntmps = ntmpsOf P f := by simp [ntmpsOf, hf]
  rw [e] at h h3
  have hlen : (args ++ List.replicate (fn.ntmps - args.length) AV.undef).length = ntmpsOf P f := by rw [← e3]; simp; omega
  obtain ⟨z, env', m', g1, g2, L', ⟨fr, ℓ, ρ, g3⟩, hz, hQ⟩ := LC.exec (f := f) (c := c) hmix hlen hrel (by rw [e2, ← e3]; exact h3) (fun i hi => by rw [e2, Nat.zero_add]) h
  refine ⟨env', m', fr, ℓ, ρ, L', g3, hQ, fun v k1 hd => ?_⟩
  have hres : ∀ a, aresult P env' m' x = some a → ACalls P f args m a.stripR m' := by
    intro a k
    have : aresults P fn env' m' = some a := by
      simp only [aresults, hx, List.mapM_cons, List.mapM_nil, k, Option.pure_def, Option.bind_eq_bind, Option.bind_some, Option.map_some, retOf]
    exact .of_body hf hbb h2 g1 hz this
  cases x with
  | tmp t =>
    simp only [lresult] at k1
    obtain ⟨b, k3, k4⟩ := g3.slot t v k1 hd
    exact ⟨b, k4, fun i s es hh => .inl ⟨t, v, k1, hh⟩, hres b k3⟩
  | cell q t =>
    simp only [lresult] at k1
    split at k1
    · rename_i n off hc
      obtain ⟨b, k3, k4⟩ := g3.slot q _ hc (by simp)
      simp only [SRel] at k4; subst k4
      obtain ⟨cs, k5, k6⟩ := bind_some' k1
      obtain ⟨asx, k7, k8⟩ := g3.locs n cs k5
      obtain ⟨d, k9, k10, k11⟩ := lsub_ok (P := P) (fr := fr) k6 k8
      exact ⟨d, k10, fun i s es hh => .inr ⟨n, cs, k5, k11 i s es hh⟩, hres d (by simp only [aresult, k3, Option.bind_some, aload, k7, k9])⟩
    · cases k1

/-- **The contract of a function whose result is an own slice.** -/
theorem FnR.of_lc {fn : Func} {N N' : List (Nat × List CV)} {args : List LA} {j0 s0 : Nat} {es0 : List AV} (hmix : P.follows .mixedOrders = true) (hf : P.funcs[f]? = some fn) (hok : (fn.body.isSome && !(fn.name == "runtime.NumGoroutine") && okL (bodyF fn) fn.ntmps (bodyF fn)) = true) (ha : decide (args.length ≤ fn.ntmps) = true) (hN : (namesB N && (rnOk [] N' && (sameNames N N' && closedN N N'))) = true)
    (h : ∀ c, LC P f none c (slimC 0 (bodyF fn)) (LPostR P fn.results.toList j0 s0 es0 N') ⟨largsB 0 args, N⟩) : FnR P f N args (.own j0 s0 es0) N' := by
  intro m ℓ ρ hmode hh
  simp only [Bool.and_eq_true, Bool.not_eq_true'] at hok hN
  obtain ⟨⟨h1, h2⟩, h3⟩ := hok
  simp only [decide_eq_true_eq] at ha
  have hlen : ∀ {l : List LA}, (LAs.av ℓ l).length = l.length := by
    intro l; induction l with
    | nil => rfl
    | cons x l ih => simp only [LAs.av, List.length_cons, ih]
  have hgetl : ∀ {l : List LA} {j : Nat} {x : LA}, l[j]? = some x → (LAs.av ℓ l)[j]? = some (LA.av ℓ x) := by
    intro l; induction l with
    | nil => intro j x h; simp at h
    | cons y l ih =>
      intro j x h
      cases j with
      | zero => simp at h; subst h; rfl
      | succ j => simp only [LAs.av, List.getElem?_cons_succ] at h ⊢; exact ih h
  cases hbb : fn.body with
  | none => rw [hbb] at h1; cases h1
  | some cb =>
    let cc : LCtx := ⟨m, bsOf ℓ N, fun id => ∃ i s es, TokIn N i s es ∧ ρ i = .row id, fun p hp => (bsOf_mem hN.1 p hp).1⟩
    have visN : ∀ {i s es}, Vis ⟨largsB 0 args, N⟩ i s es → TokIn N i s es := by
      rintro i s es (⟨t, v, h4, h5⟩ | h4)
      · exact ((largsB_get (P := P) (ℓ := ℓ) args 0 t v h4).2.2 i s es h5).elim
      · exact h4
    have hrel : Rel P cc ⟨largsB 0 args, N⟩ (LAs.av ℓ args ++ List.replicate (fn.ntmps - (LAs.av ℓ args).length) AV.undef) m := by
      refine ⟨[], ℓ, ρ, hmode, fun t v h4 _ => ?_, hh.locs, fun i s es hv => hh.tok i s es (visN hv), fun i s es j s' es' hv hv' => hh.apart i s es j s' es' (visN hv) (visN hv'), hh.inj, fun p hp => ?_, fun t cs h4 => ?_, fun i s es hv id hid => .inr ⟨i, s, es, visN hv, hid⟩, ⟨Nat.le_refl _, Nat.le_refl _⟩, fun l b h4 _ => h4, fun id x h4 _ => h4, fun q hq => (by cases hq), fun q hq => (by cases hq)⟩
      · obtain ⟨_, ⟨x, h5, h6⟩, _⟩ := largsB_get (P := P) (ℓ := ℓ) args 0 t v h4
        rw [Nat.sub_zero] at h5
        have h7 := hgetl h5
        exact ⟨_, by rw [List.getElem?_append_left (List.getElem?_eq_some_iff.1 h7).1]; exact h7, h6⟩
      · obtain ⟨_, h6, h7⟩ := bsOf_mem hN.1 p hp
        exact ⟨h7, h6.symm⟩
      · exact .inr (.inl ⟨_, bsOf_has h4, rfl⟩)
    -- one result
    have hres : ∃ x, fn.results.toList = [x] := by
      rcases hr : fn.results.toList with _ | ⟨x, _ | ⟨y, l⟩⟩
      · exfalso
        obtain ⟨z, _, _, _, _, _, _, g⟩ := LC.exec (f := f) (c := cc) (lo := none) (Q := LPostR P fn.results.toList j0 s0 es0 N') hmix (by rw [show ntmpsOf P f = fn.ntmps by simp [ntmpsOf, hf]]; simp; rw [hlen]; omega) hrel (by rw [show bodyOf P f = bodyF fn by simp [bodyOf, bodyF, hf], show ntmpsOf P f = fn.ntmps by simp [ntmpsOf, hf]]; exact h3) (k := 0) (fun i hi => by rw [show bodyOf P f = bodyF fn by simp [bodyOf, bodyF, hf], Nat.zero_add]) (h cc)
        rw [hr] at g
        cases z <;> simp [LPostR] at g
      · exact ⟨x, rfl⟩
      · exfalso
        obtain ⟨z, _, _, _, _, _, _, g⟩ := LC.exec (f := f) (c := cc) (lo := none) (Q := LPostR P fn.results.toList j0 s0 es0 N') hmix (by rw [show ntmpsOf P f = fn.ntmps by simp [ntmpsOf, hf]]; simp; rw [hlen]; omega) hrel (by rw [show bodyOf P f = bodyF fn by simp [bodyOf, bodyF, hf], show ntmpsOf P f = fn.ntmps by simp [ntmpsOf, hf]]; exact h3) (k := 0) (fun i hi => by rw [show bodyOf P f = bodyF fn by simp [bodyOf, bodyF, hf], Nat.zero_add]) (h cc)
        rw [hr] at g
        cases z <;> simp [LPostR] at g
    obtain ⟨x, hx⟩ := hres
    obtain ⟨env', m', fr, ℓ', ρ', L', g3, ⟨σ, g4, g5, g6⟩, gR⟩ := LC.resultR (c := cc) (x := x) (Q := fun L => ∃ σ, sgOk σ = true ∧ vwN σ [] L.N N' ∧ vw σ (lresult P L x) (.own j0 s0 es0)) hmix hf hbb h2 h3 (by rw [hlen]; exact ha) hrel hx (LC.mono (fun e L h => by
      rw [hx] at h
      cases e <;> first | exact h.elim | skip
      · obtain ⟨y, e, h⟩ := h; injection e with e; subst e; exact ⟨.inr rfl, h⟩
      · obtain ⟨y, e, h⟩ := h; injection e with e; subst e; exact ⟨.inl rfl, h⟩) (h cc))
    obtain ⟨hn1, hn2, hn3, hn4⟩ := hN
    have hℓ : ∀ t cs, aget N t = some cs → ℓ' t = ℓ t := fun t cs ht => (g3.bor _ (bsOf_has (ℓ := ℓ) ht)).2
    have hh' : Held ℓ' (vρ σ ρ') m' N' := g3.held.view (τ := []) g4 hn2 g5
    have hnm : ∀ t cs, aget N' t = some cs → ∃ k, aget N t = some k := fun t cs ht => sameNames_get hn3 t cs ht
    -- the result
    have hv : ∃ a, SRel P [] ℓ (vρ σ ρ') (.own j0 s0 es0) a ∧ ACalls P f (LAs.av ℓ args) m a m' ∧ ((sg σ j0 = none ∧ (isV j0 = true → es0 = [])) ∨ ∃ i, sg σ j0 = some i ∧ Vis L' i s0 es0) := by
      cases hl : lresult P L' x with
      | none => rw [hl] at g6; exact g6.elim
      | some v =>
        rw [hl] at g6
        have hd : v ≠ .dead := by rintro rfl; exact g6.elim
        obtain ⟨a, k1, k2, k3⟩ := gR v hl hd
        cases v with
        | v y =>
          obtain ⟨q1, q2, q3⟩ := g6
          have e : a = y := k1
          subst e
          subst q2
          refine ⟨_, ?_, k3, .inl ⟨q1, fun hv => (q3 hv).1⟩⟩
          simp only [SRel, vρ, q1]
          rw [ownAV_full (fun hv => (q3 hv).2)]; rfl
        | own i s es =>
          obtain ⟨q1, q2, q3⟩ := g6
          subst q2 q3
          have e : a = ownAV i s (ρ' i) es := k1
          subst e
          rw [(ownAV_strip i s (ρ' i) es).1] at k3
          refine ⟨_, ?_, k3, .inr ⟨i, q1, k2 i s es ⟨rfl, rfl, rfl⟩⟩⟩
          simp only [SRel, vρ, q1]
          rw [ownAV_kind (sgOk_kind g4 j0 i q1)]
        | _ => exact g6.elim
    obtain ⟨a, ha1, ha2, ha3⟩ := hv
    have was : ∀ j s es, ResTok N' (.own j0 s0 es0) j s es → (sg σ j = none ∧ (isV j = true → es = [])) ∨ ∃ i, sg σ j = some i ∧ Vis L' i s es := by
      rintro j s es (h | ⟨rfl, rfl, rfl⟩)
      · exact (vwN_tok' g5 h).imp id fun ⟨i, q1, q2⟩ => ⟨i, q1, q2.vis⟩
      · exact ha3
    refine ⟨m', vρ σ ρ', a, ha2, ha1, fun t cs ht => ?_, fun j s es hj => ?_, fun j s es k s' es' hj hk hne => ?_, ⟨g3.mode, g3.len, fun l b hb hne => ?_, fun id x hx hne => ?_⟩, fun j s es hj id hid => ?_⟩
    · obtain ⟨asx, k1, k2⟩ := hh'.locs t cs ht
      obtain ⟨k, hk⟩ := hnm t cs ht
      rw [hℓ t k hk] at k1
      exact ⟨asx, k1, crels_inN hℓ (closedN_get hn4 t cs ht) k2⟩
    · rcases was j s es hj with ⟨h1, h0⟩ | ⟨i, h1, h2⟩
      · simp only [vρ, h1]; exact .full h0
      · simp only [vρ, h1]; exact (g3.tok i s es h2).kind (sgOk_kind g4 j i h1)
    · rcases was j s es hj with ⟨q1, _⟩ | ⟨i, q1, q2⟩
      · left; simp only [vρ, q1]
      · rcases was k s' es' hk with ⟨k1, _⟩ | ⟨i', k1, k2⟩
        · simp only [vρ, q1, k1]
          cases hj : ρ' i with
          | full => exact .inl rfl
          | _ => exact .inr (by simp)
        · simp only [vρ, q1, k1]
          exact g3.apart i s es i' s' es' q2 k2 (fun e => hne (sgOk_spec g4 j k i q1 (by rw [k1, e])))
    · refine g3.frame l b hb (fun p hp hlt e => ?_)
      obtain ⟨_, k2, k, k3⟩ := bsOf_mem hn1 p hp
      exact hne p.1 k k3 hlt (by rw [← k2, e])
    · exact g3.rframe id x hx (fun ⟨i, s, es, k1, k2⟩ => hne i s es k1 k2)
    · rcases was j s es hj with ⟨k1, _⟩ | ⟨i', k1, k2⟩
      · simp only [vρ, k1] at hid; cases hid
      · simp only [vρ, k1] at hid
        rcases g3.rlow i' s es k2 id hid with k3 | ⟨i0, s0, es0, k3, k4⟩
        · exact .inl k3
        · exact .inr ⟨i0, s0, es0, k3, k4⟩

/- Results with such slices in their parts. -/
/-- A part of a result: what it is when it is handed back. -/
def vwR1 (σ : List (Nat × Option Nat)) : CV → CV → Prop
  | .own i s es, .own j s' es' => sg σ j = some i ∧ s = s' ∧ es = es'
  | .own i _ es, .v b => isV i = false ∧ b = .slice .foreign es
  | .v a, .v b => a.strip1 = b
  | _, _ => False
def vwRs (σ : List (Nat × Option Nat)) : List CV → List CV → Prop
  | [], [] => True
  | c :: cs, d :: ds => vwR1 σ c d ∧ vwRs σ cs ds
  | _, _ => False
/-- All slices of parts are such. -/
def allB : List CV → Bool
  | [] => true
  | .own i _ _ :: l => isB i && allB l
  | .v _ :: l => allB l
  | _ :: _ => false
def vwG (σ : List (Nat × Option Nat)) : Option LV → List CV → Prop
  | some (.ag cs), ds => vwRs σ cs ds
  | _, _ => False
/-- Where a function's one result is a value with slices of its own. -/
def LPostG (P : Program) (rs : List ResultVar) (ds : List CV) (N' : List (Nat × List CV)) : Exit → LEnv → Prop
  | .ret, L | .normal, L => ∃ x, rs = [x] ∧ ∃ σ, sgOk σ = true ∧ vwN σ [] L.N N' ∧ vwG σ (lresult P L x) ds
  | _, _ => False
theorem allB_fn : ∀ {ds : List CV}, allB ds = true → ∀ {f : FuncId} {a b : List LA}, CV.fn f a b ∈ ds → False := by
  intro ds
  induction ds with
  | nil => intro _ f a b h; cases h
  | cons d ds ih =>
    intro h f a b hm
    rcases List.mem_cons.1 hm with e | e
    · subst e; cases h
    · cases d with
      | v a => exact ih h e
      | own j s' es' => simp only [allB, Bool.and_eq_true] at h; exact ih h.2 e
      | fn f a b => cases h
      | dead => cases h
theorem vwRs_rel {cs ds : List CV} {bs : List AV} (hσ : sgOk σ = true) (hB : allB ds = true) : ∀ {cs : List CV} {bs : List AV}, vwRs σ cs ds → CRels ℓ ρ cs bs → CRels ℓ (vρ σ ρ) ds (bs.map AV.strip1) ∧ ∀ j s es, CV.own j s es ∈ ds → ∃ i, sg σ j = some i ∧ CV.own i s es ∈ cs := by
  induction ds with
  | nil =>
    intro cs bs h hr
    cases cs with
    | nil => have := hr.1; simp at this; subst this; exact ⟨⟨rfl, fun j x a h => by simp at h⟩, fun j s es h => by cases h⟩
    | cons c cs => exact h.elim
  | cons d ds ih =>
    intro cs bs h hr
    cases cs with
    | nil => exact h.elim
    | cons c cs =>
      obtain ⟨h1, h2⟩ := h
      cases bs with
      | nil => have := hr.1; simp at this
      | cons b bs =>
        have hB2 : allB ds = true := by cases d <;> simp_all [allB]
        obtain ⟨k1, k2⟩ := ih hB2 h2 ⟨by simpa using hr.1, fun j x a hx ha => hr.2 (j + 1) x a (by simpa using hx) (by simpa using ha)⟩
        have h0 := hr.2 0 c b rfl rfl
        have hd : CRel ℓ (vρ σ ρ) d b.strip1 ∧ ∀ j s es, d = .own j s es → ∃ i, sg σ j = some i ∧ c = .own i s es := by
          cases c with
          | v a =>
            cases d with
            | v y => simp only [vwR1] at h1; have e : b = a := h0; subst e; exact ⟨h1, fun j s es e => by cases e⟩
            | _ => exact h1.elim
          | own i s es =>
            have e : b = ownAV i s (ρ i) es := h0
            cases d with
            | v y =>
              obtain ⟨h3, h4⟩ := h1
              subst e h4
              refine ⟨?_, fun j s es e => by cases e⟩
              simp only [CRel]; rw [(ownAV_strip i s (ρ i) es).2.2.2, h3]
            | own j s' es' =>
              obtain ⟨h3, h4, h5⟩ := h1
              subst h4 h5
              have hbj : isB j = true := by simp only [allB, Bool.and_eq_true] at hB; exact hB.1
              obtain ⟨q1, q2⟩ := sgOk_kind hσ j i h3
              have hvj : isV j = true := by simp only [isB, isV, decide_eq_true_eq] at hbj ⊢; omega
              refine ⟨?_, fun j' s' es' e => by injection e with e1 e2 e3; subst e1 e2 e3; exact ⟨i, h3, rfl⟩⟩
              simp only [CRel, vρ, h3]
              rw [e, (ownAV_strip i s (ρ i) es).2.2.2, q1, hvj]
              unfold ownAV
              rw [hvj, hbj]
              cases ρ i <;> rfl
            | _ => exact h1.elim
          | _ => cases d <;> exact h1.elim
        refine ⟨⟨by simpa using k1.1, fun j x a hx ha => ?_⟩, fun j s es hm => ?_⟩
        · cases j with
          | zero => simp at hx ha; subst hx ha; exact hd.1
          | succ j => exact k1.2 j x a (by simpa using hx) (by simpa using ha)
        · rcases List.mem_cons.1 hm with e | e
          · obtain ⟨i, q1, q2⟩ := hd.2 j s es e.symm
            exact ⟨i, q1, by rw [← q2]; exact List.mem_cons_self⟩
          · obtain ⟨i, q1, q2⟩ := k2 j s es e
            exact ⟨i, q1, List.mem_cons_of_mem _ q2⟩

/-- **The contract of a function whose result has own slices in its parts.** -/
theorem FnR.of_lcG {fn : Func} {N N' : List (Nat × List CV)} {args : List LA} {ds : List CV} (hmix : P.follows .mixedOrders = true) (hf : P.funcs[f]? = some fn) (hok : (fn.body.isSome && !(fn.name == "runtime.NumGoroutine") && okL (bodyF fn) fn.ntmps (bodyF fn)) = true) (ha : decide (args.length ≤ fn.ntmps) = true) (hN : (namesB N && (rnOk [] N' && (sameNames N N' && closedN N N'))) = true)
    (hB : allB ds = true) (hone : fn.results.toList.length = 1) (h : ∀ c, LC P f none c (slimC 0 (bodyF fn)) (LPostG P fn.results.toList ds N') ⟨largsB 0 args, N⟩) : FnR P f N args (.ag ds) N' := by
  intro m ℓ ρ hmode hh
  simp only [Bool.and_eq_true, Bool.not_eq_true'] at hok hN
  obtain ⟨⟨h1, h2⟩, h3⟩ := hok
  simp only [decide_eq_true_eq] at ha
  have hlen : ∀ {l : List LA}, (LAs.av ℓ l).length = l.length := by
    intro l; induction l with
    | nil => rfl
    | cons x l ih => simp only [LAs.av, List.length_cons, ih]
  have hgetl : ∀ {l : List LA} {j : Nat} {x : LA}, l[j]? = some x → (LAs.av ℓ l)[j]? = some (LA.av ℓ x) := by
    intro l; induction l with
    | nil => intro j x h; simp at h
    | cons y l ih =>
      intro j x h
      cases j with
      | zero => simp at h; subst h; rfl
      | succ j => simp only [LAs.av, List.getElem?_cons_succ] at h ⊢; exact ih h
  cases hbb : fn.body with
  | none => rw [hbb] at h1; cases h1
  | some cb =>
    let cc : LCtx := ⟨m, bsOf ℓ N, fun id => ∃ i s es, TokIn N i s es ∧ ρ i = .row id, fun p hp => (bsOf_mem hN.1 p hp).1⟩
    have visN : ∀ {i s es}, Vis ⟨largsB 0 args, N⟩ i s es → TokIn N i s es := by
      rintro i s es (⟨t, v, h4, h5⟩ | h4)
      · exact ((largsB_get (P := P) (ℓ := ℓ) args 0 t v h4).2.2 i s es h5).elim
      · exact h4
    have hrel : Rel P cc ⟨largsB 0 args, N⟩ (LAs.av ℓ args ++ List.replicate (fn.ntmps - (LAs.av ℓ args).length) AV.undef) m := by
      refine ⟨[], ℓ, ρ, hmode, fun t v h4 _ => ?_, hh.locs, fun i s es hv => hh.tok i s es (visN hv), fun i s es j s' es' hv hv' => hh.apart i s es j s' es' (visN hv) (visN hv'), hh.inj, fun p hp => ?_, fun t cs h4 => ?_, fun i s es hv id hid => .inr ⟨i, s, es, visN hv, hid⟩, ⟨Nat.le_refl _, Nat.le_refl _⟩, fun l b h4 _ => h4, fun id x h4 _ => h4, fun q hq => (by cases hq), fun q hq => (by cases hq)⟩
      · obtain ⟨_, ⟨x, h5, h6⟩, _⟩ := largsB_get (P := P) (ℓ := ℓ) args 0 t v h4
        rw [Nat.sub_zero] at h5
        have h7 := hgetl h5
        exact ⟨_, by rw [List.getElem?_append_left (List.getElem?_eq_some_iff.1 h7).1]; exact h7, h6⟩
      · obtain ⟨_, h6, h7⟩ := bsOf_mem hN.1 p hp
        exact ⟨h7, h6.symm⟩
      · exact .inr (.inl ⟨_, bsOf_has h4, rfl⟩)
    obtain ⟨x, hx⟩ : ∃ x, fn.results.toList = [x] := by
      rcases hr : fn.results.toList with _ | ⟨x, _ | ⟨y, l⟩⟩
      · rw [hr] at hone; cases hone
      · exact ⟨x, rfl⟩
      · rw [hr] at hone; cases hone
    obtain ⟨env', m', fr, ℓ', ρ', L', g3, ⟨σ, g4, g5, g6⟩, gR⟩ := LC.resultR (c := cc) (x := x) (Q := fun L => ∃ σ, sgOk σ = true ∧ vwN σ [] L.N N' ∧ vwG σ (lresult P L x) ds) hmix hf hbb h2 h3 (by rw [hlen]; exact ha) hrel hx (LC.mono (fun e L h => by
      rw [hx] at h
      cases e <;> first | exact h.elim | skip
      · obtain ⟨y, e, h⟩ := h; injection e with e; subst e; exact ⟨.inr rfl, h⟩
      · obtain ⟨y, e, h⟩ := h; injection e with e; subst e; exact ⟨.inl rfl, h⟩) (h cc))
    obtain ⟨hn1, hn2, hn3, hn4⟩ := hN
    have hℓ : ∀ t cs, aget N t = some cs → ℓ' t = ℓ t := fun t cs ht => (g3.bor _ (bsOf_has (ℓ := ℓ) ht)).2
    have hh' : Held ℓ' (vρ σ ρ') m' N' := g3.held.view (τ := []) g4 hn2 g5
    have hnm : ∀ t cs, aget N' t = some cs → ∃ k, aget N t = some k := fun t cs ht => sameNames_get hn3 t cs ht
    have hv : ∃ a, SRel P [] ℓ (vρ σ ρ') (.ag ds) a ∧ ACalls P f (LAs.av ℓ args) m a m' ∧ ∀ j s es, CV.own j s es ∈ ds → ∃ i, sg σ j = some i ∧ Vis L' i s es := by
      cases hl : lresult P L' x with
      | none => rw [hl] at g6; exact g6.elim
      | some v =>
        rw [hl] at g6
        cases v with
        | ag cs =>
          obtain ⟨a, k1, k2, k3⟩ := gR _ hl (by simp)
          obtain ⟨bs, rfl, k4⟩ := k1
          obtain ⟨k5, k6⟩ := vwRs_rel (ℓ := ℓ') (ρ := ρ') (cs := cs) (bs := bs) g4 hB g6 k4
          refine ⟨_, ⟨bs.map AV.strip1, rfl, k5.1, fun j x a hx ha => ?_⟩, k3, fun j s es hm => ?_⟩
          · have := k5.2 j x a hx ha
            cases x with
            | fn g a b => exact (allB_fn hB (List.mem_of_getElem? hx)).elim
            | _ => exact this
          · obtain ⟨i, q1, q2⟩ := k6 j s es hm
            exact ⟨i, q1, k2 i s es q2⟩
        | _ => exact g6.elim
    obtain ⟨a, ha1, ha2, ha3⟩ := hv
    have was : ∀ j s es, ResTok N' (.ag ds) j s es → (sg σ j = none ∧ (isV j = true → es = [])) ∨ ∃ i, sg σ j = some i ∧ Vis L' i s es := by
      rintro j s es (h | h)
      · exact (vwN_tok' g5 h).imp id fun ⟨i, q1, q2⟩ => ⟨i, q1, q2.vis⟩
      · exact .inr (ha3 j s es h)
    refine ⟨m', vρ σ ρ', a, ha2, ha1, fun t cs ht => ?_, fun j s es hj => ?_, fun j s es k s' es' hj hk hne => ?_, ⟨g3.mode, g3.len, fun l b hb hne => ?_, fun id x hx hne => ?_⟩, fun j s es hj id hid => ?_⟩
    · obtain ⟨asx, k1, k2⟩ := hh'.locs t cs ht
      obtain ⟨k, hk⟩ := hnm t cs ht
      rw [hℓ t k hk] at k1
      exact ⟨asx, k1, crels_inN hℓ (closedN_get hn4 t cs ht) k2⟩
    · rcases was j s es hj with ⟨h1, h0⟩ | ⟨i, h1, h2⟩
      · simp only [vρ, h1]; exact .full h0
      · simp only [vρ, h1]; exact (g3.tok i s es h2).kind (sgOk_kind g4 j i h1)
    · rcases was j s es hj with ⟨q1, _⟩ | ⟨i, q1, q2⟩
      · left; simp only [vρ, q1]
      · rcases was k s' es' hk with ⟨k1, _⟩ | ⟨i', k1, k2⟩
        · simp only [vρ, q1, k1]
          cases hj : ρ' i with
          | full => exact .inl rfl
          | _ => exact .inr (by simp)
        · simp only [vρ, q1, k1]
          exact g3.apart i s es i' s' es' q2 k2 (fun e => hne (sgOk_spec g4 j k i q1 (by rw [k1, e])))
    · refine g3.frame l b hb (fun p hp hlt e => ?_)
      obtain ⟨_, k2, k, k3⟩ := bsOf_mem hn1 p hp
      exact hne p.1 k k3 hlt (by rw [← k2, e])
    · exact g3.rframe id x hx (fun ⟨i, s, es, k1, k2⟩ => hne i s es k1 k2)
    · rcases was j s es hj with ⟨k1, _⟩ | ⟨i', k1, k2⟩
      · simp only [vρ, k1] at hid; cases hid
      · simp only [vρ, k1] at hid
        rcases g3.rlow i' s es k2 id hid with k3 | ⟨i0, s0, es0, k3, k4⟩
        · exact .inl k3
        · exact .inr ⟨i0, s0, es0, k3, k4⟩
omit [Mu] in
theorem scN : ∀ c ∈ ([] : List AV), Scal c := fun c h => by cases h
omit [Mu] in
theorem scC {a : AV} {l : List AV} (h : Scal a) (k : ∀ c ∈ l, Scal c) : ∀ c ∈ a :: l, Scal c := fun c hc => (List.mem_cons.1 hc).elim (fun e => e ▸ h) (k c)
end
attribute [go_sem] vwG vwRs vwR1 Option.some_or Option.none_or not_true_eq_false not_false_eq_true if_true if_false List.getElem?_map Option.map_some Option.bind_some List.getElem?_cons_zero List.getElem?_cons_succ LV.toks LV.resOk CV.resOk List.append_nil List.nil_append List.cons_append
end Go.Proofs.Ytcfekacmmfdggaa.G
set_option linter.unusedVariables false
set_option linter.unusedSimpArgs false
set_option maxRecDepth 100000
namespace Go.Proofs.Ytcfekacmmfdggaa.G
structure T_api_Stats where
  Rows : List Set64
  Sel : List Set64
def T_api_Stats.C (x : T_api_Stats) : List AV := [.slice .foreign (x.Rows.map AV.w), .slice .foreign (x.Sel.map AV.w)]
attribute [go_sem] T_api_Stats.C
theorem T_api_Stats.flatC (x : T_api_Stats) : Flat (.agg x.C) := .agg _ (flC (flat_slice _ (fun _ => .atom _) _) (flC (flat_slice _ (fun _ => .atom _) _) (flN)))
structure T_api_Value where
  Null : Bool
  N : Int
def T_api_Value.C (x : T_api_Value) : List AV := [.bool x.Null, .i64 x.N]
attribute [go_sem] T_api_Value.C
theorem T_api_Value.flatC (x : T_api_Value) : Flat (.agg x.C) := .agg _ (flC (.atom _) (flC (.atom _) (flN)))
structure T_api_Term where
  Kind : Int
  Table : Int
  Col : Int
  Value : T_api_Value
def T_api_Term.C (x : T_api_Term) : List AV := [.i64 x.Kind, .i64 x.Table, .i64 x.Col, .bool x.Value.Null, .i64 x.Value.N]
attribute [go_sem] T_api_Term.C
theorem T_api_Term.flatC (x : T_api_Term) : Flat (.agg x.C) := .agg _ (flC (.atom _) (flC (.atom _) (flC (.atom _) (flC (.atom _) (flC (.atom _) (flN))))))
structure T_api_Pred where
  Kind : Int
  Truth : Int
  Op : Int
  A : T_api_Term
  B : T_api_Term
  Parts : List T_api_Pred
def T_api_Pred.av : T_api_Pred → AV
  | ⟨a0, a1, a2, a3, a4, a5⟩ => .agg [.i64 a0, .i64 a1, .i64 a2, .i64 a3.Kind, .i64 a3.Table, .i64 a3.Col, .bool a3.Value.Null, .i64 a3.Value.N, .i64 a4.Kind, .i64 a4.Table, .i64 a4.Col, .bool a4.Value.Null, .i64 a4.Value.N, .slice .foreign (a5.map T_api_Pred.av)]
def T_api_Pred.C (x : T_api_Pred) : List AV := [.i64 x.Kind, .i64 x.Truth, .i64 x.Op, .i64 x.A.Kind, .i64 x.A.Table, .i64 x.A.Col, .bool x.A.Value.Null, .i64 x.A.Value.N, .i64 x.B.Kind, .i64 x.B.Table, .i64 x.B.Col, .bool x.B.Value.Null, .i64 x.B.Value.N, .slice .foreign (x.Parts.map T_api_Pred.av)]
theorem T_api_Pred.av_eq (x : T_api_Pred) : x.av = .agg x.C := by cases x; simp only [T_api_Pred.av, T_api_Pred.C]
attribute [go_sem] T_api_Pred.C T_api_Pred.av_eq
theorem T_api_Pred.induct {M : T_api_Pred → Prop} (h : ∀ x : T_api_Pred, (∀ y ∈ x.Parts, M y) → M x) : ∀ x, M x := by
  intro x
  refine T_api_Pred.rec (motive_1 := M) (motive_2 := fun l => ∀ y ∈ l, M y) ?_ ?_ ?_ x
  · intro a0 a1 a2 a3 a4 a5 ih; exact h ⟨a0, a1, a2, a3, a4, a5⟩ ih
  · intro y hy; cases hy
  · intro y l h1 h2 z hz
    rcases List.mem_cons.1 hz with rfl | hz
    · exact h1
    · exact h2 z hz
theorem T_api_Pred.flat (x : T_api_Pred) : Flat x.av := by
  induction x using T_api_Pred.induct with
  | h x ih =>
    rw [T_api_Pred.av_eq]
    refine .agg _ (flC (.atom _) (flC (.atom _) (flC (.atom _) (flC (.atom _) (flC (.atom _) (flC (.atom _) (flC (.atom _) (flC (.atom _) (flC (.atom _) (flC (.atom _) (flC (.atom _) (flC (.atom _) (flC (.atom _) (flC ?_ (flN)))))))))))))))
    refine .slice .foreign _ (fun id h => by cases h) (fun e he c hc => ?_)
    obtain ⟨p, hp, rfl⟩ := List.mem_map.1 he
    exact flat_cells (ih p hp) c hc
theorem T_api_Pred.flatC (x : T_api_Pred) : Flat (.agg x.C) := by rw [← T_api_Pred.av_eq]; exact x.flat
theorem T_api_Pred.len (x : T_api_Pred) : x.av.cells.length = 14 := by rw [T_api_Pred.av_eq]; rfl
structure T_api_Edge where
  Kind : Int
  Preds : List T_api_Pred
  Uses : Set64
  Left : Set64
  Right : Set64
def T_api_Edge.C (x : T_api_Edge) : List AV := [.i64 x.Kind, .slice .foreign (x.Preds.map T_api_Pred.av), .w x.Uses, .w x.Left, .w x.Right]
def T_api_Edge.av (x : T_api_Edge) : AV := .agg x.C
attribute [go_sem] T_api_Edge.C T_api_Edge.av
theorem T_api_Edge.flatC (x : T_api_Edge) : Flat (.agg x.C) := .agg _ (flC (.atom _) (flC (flat_slice _ T_api_Pred.flat _) (flC (.atom _) (flC (.atom _) (flC (.atom _) (flN))))))
theorem T_api_Edge.flat (x : T_api_Edge) : Flat x.av := x.flatC
theorem T_api_Edge.len (x : T_api_Edge) : x.av.cells.length = 5 := rfl
structure T_cost_Model where
  Kind : Int
  Edges : List T_api_Edge
  Stats : T_api_Stats
def T_cost_Model.C (x : T_cost_Model) : List AV := [.i64 x.Kind, .slice .foreign (x.Edges.map T_api_Edge.av), .slice .foreign (x.Stats.Rows.map AV.w), .slice .foreign (x.Stats.Sel.map AV.w)]
attribute [go_sem] T_cost_Model.C
theorem T_cost_Model.flatC (x : T_cost_Model) : Flat (.agg x.C) := .agg _ (flC (.atom _) (flC (flat_slice _ T_api_Edge.flat _) (flC (flat_slice _ (fun _ => .atom _) _) (flC (flat_slice _ (fun _ => .atom _) _) (flN)))))
structure T_api_Tree where
  Kind : Int
  Table : Int
  Kids : List T_api_Tree
  Conj : List T_api_Pred
  Hash : Bool
def T_api_Tree.av : T_api_Tree → AV
  | ⟨a0, a1, a2, a3, a4⟩ => .agg [.i64 a0, .i64 a1, .slice .foreign (a2.map T_api_Tree.av), .slice .foreign (a3.map T_api_Pred.av), .bool a4]
def T_api_Tree.C (x : T_api_Tree) : List AV := [.i64 x.Kind, .i64 x.Table, .slice .foreign (x.Kids.map T_api_Tree.av), .slice .foreign (x.Conj.map T_api_Pred.av), .bool x.Hash]
theorem T_api_Tree.av_eq (x : T_api_Tree) : x.av = .agg x.C := by cases x; simp only [T_api_Tree.av, T_api_Tree.C]
attribute [go_sem] T_api_Tree.C T_api_Tree.av_eq
theorem T_api_Tree.induct {M : T_api_Tree → Prop} (h : ∀ x : T_api_Tree, (∀ y ∈ x.Kids, M y) → M x) : ∀ x, M x := by
  intro x
  refine T_api_Tree.rec (motive_1 := M) (motive_2 := fun l => ∀ y ∈ l, M y) ?_ ?_ ?_ x
  · intro a0 a1 a2 a3 a4 ih; exact h ⟨a0, a1, a2, a3, a4⟩ ih
  · intro y hy; cases hy
  · intro y l h1 h2 z hz
    rcases List.mem_cons.1 hz with rfl | hz
    · exact h1
    · exact h2 z hz
theorem T_api_Tree.flat (x : T_api_Tree) : Flat x.av := by
  induction x using T_api_Tree.induct with
  | h x ih =>
    rw [T_api_Tree.av_eq]
    refine .agg _ (flC (.atom _) (flC (.atom _) (flC ?_ (flC (flat_slice _ T_api_Pred.flat _) (flC (.atom _) (flN))))))
    refine .slice .foreign _ (fun id h => by cases h) (fun e he c hc => ?_)
    obtain ⟨p, hp, rfl⟩ := List.mem_map.1 he
    exact flat_cells (ih p hp) c hc
theorem T_api_Tree.flatC (x : T_api_Tree) : Flat (.agg x.C) := by rw [← T_api_Tree.av_eq]; exact x.flat
theorem T_api_Tree.len (x : T_api_Tree) : x.av.cells.length = 5 := by rw [T_api_Tree.av_eq]; rfl
structure A2_Set64 where
  e0 : Set64
  e1 : Set64
def A2_Set64.C (x : A2_Set64) : List AV := [.w x.e0, .w x.e1]
attribute [go_sem] A2_Set64.C
theorem A2_Set64.flatC (x : A2_Set64) : Flat (.agg x.C) := .agg _ (flC (.atom _) (flC (.atom _) (flN)))
structure T_ref28_Model where
  Kind : Int
  Edges : List T_api_Edge
  Stats : T_api_Stats
def T_ref28_Model.C (x : T_ref28_Model) : List AV := [.i64 x.Kind, .slice .foreign (x.Edges.map T_api_Edge.av), .slice .foreign (x.Stats.Rows.map AV.w), .slice .foreign (x.Stats.Sel.map AV.w)]
attribute [go_sem] T_ref28_Model.C
theorem T_ref28_Model.flatC (x : T_ref28_Model) : Flat (.agg x.C) := .agg _ (flC (.atom _) (flC (flat_slice _ T_api_Edge.flat _) (flC (flat_slice _ (fun _ => .atom _) _) (flC (flat_slice _ (fun _ => .atom _) _) (flN)))))
structure T_ref18_Join where
  Pred : T_api_Pred
  Left : Set64
  Right : Set64
  Home : Int
def T_ref18_Join.C (x : T_ref18_Join) : List AV := [.i64 x.Pred.Kind, .i64 x.Pred.Truth, .i64 x.Pred.Op, .i64 x.Pred.A.Kind, .i64 x.Pred.A.Table, .i64 x.Pred.A.Col, .bool x.Pred.A.Value.Null, .i64 x.Pred.A.Value.N, .i64 x.Pred.B.Kind, .i64 x.Pred.B.Table, .i64 x.Pred.B.Col, .bool x.Pred.B.Value.Null, .i64 x.Pred.B.Value.N, .slice .foreign (x.Pred.Parts.map T_api_Pred.av), .w x.Left, .w x.Right, .i64 x.Home]
def T_ref18_Join.av (x : T_ref18_Join) : AV := .agg x.C
attribute [go_sem] T_ref18_Join.C T_ref18_Join.av
theorem T_ref18_Join.flatC (x : T_ref18_Join) : Flat (.agg x.C) := .agg _ (flC (.atom _) (flC (.atom _) (flC (.atom _) (flC (.atom _) (flC (.atom _) (flC (.atom _) (flC (.atom _) (flC (.atom _) (flC (.atom _) (flC (.atom _) (flC (.atom _) (flC (.atom _) (flC (.atom _) (flC (flat_slice _ T_api_Pred.flat _) (flC (.atom _) (flC (.atom _) (flC (.atom _) (flN))))))))))))))))))
theorem T_ref18_Join.flat (x : T_ref18_Join) : Flat x.av := x.flatC
theorem T_ref18_Join.len (x : T_ref18_Join) : x.av.cells.length = 17 := rfl
structure T_ref18_Op where
  Kind : Int
  Conj : List T_api_Pred
  Left : Set64
  Right : Set64
  Own : Set64
  Home : Int
def T_ref18_Op.C (x : T_ref18_Op) : List AV := [.i64 x.Kind, .slice .foreign (x.Conj.map T_api_Pred.av), .w x.Left, .w x.Right, .w x.Own, .i64 x.Home]
def T_ref18_Op.av (x : T_ref18_Op) : AV := .agg x.C
attribute [go_sem] T_ref18_Op.C T_ref18_Op.av
theorem T_ref18_Op.flatC (x : T_ref18_Op) : Flat (.agg x.C) := .agg _ (flC (.atom _) (flC (flat_slice _ T_api_Pred.flat _) (flC (.atom _) (flC (.atom _) (flC (.atom _) (flC (.atom _) (flN)))))))
theorem T_ref18_Op.flat (x : T_ref18_Op) : Flat x.av := x.flatC
theorem T_ref18_Op.len (x : T_ref18_Op) : x.av.cells.length = 6 := rfl
structure T_ref18_Levels where
  Joins : List T_ref18_Join
  Ops : List T_ref18_Op
def T_ref18_Levels.C (x : T_ref18_Levels) : List AV := [.slice .foreign (x.Joins.map T_ref18_Join.av), .slice .foreign (x.Ops.map T_ref18_Op.av)]
attribute [go_sem] T_ref18_Levels.C
theorem T_ref18_Levels.flatC (x : T_ref18_Levels) : Flat (.agg x.C) := .agg _ (flC (flat_slice _ T_ref18_Join.flat _) (flC (flat_slice _ T_ref18_Op.flat _) (flN)))
structure A2_T_api_Term where
  e0 : T_api_Term
  e1 : T_api_Term
def A2_T_api_Term.C (x : A2_T_api_Term) : List AV := [.i64 x.e0.Kind, .i64 x.e0.Table, .i64 x.e0.Col, .bool x.e0.Value.Null, .i64 x.e0.Value.N, .i64 x.e1.Kind, .i64 x.e1.Table, .i64 x.e1.Col, .bool x.e1.Value.Null, .i64 x.e1.Value.N]
def A2_T_api_Term.av (x : A2_T_api_Term) : AV := .agg x.C
attribute [go_sem] A2_T_api_Term.C A2_T_api_Term.av
theorem A2_T_api_Term.flatC (x : A2_T_api_Term) : Flat (.agg x.C) := .agg _ (flC (.atom _) (flC (.atom _) (flC (.atom _) (flC (.atom _) (flC (.atom _) (flC (.atom _) (flC (.atom _) (flC (.atom _) (flC (.atom _) (flC (.atom _) (flN)))))))))))
theorem A2_T_api_Term.flat (x : A2_T_api_Term) : Flat x.av := x.flatC
theorem A2_T_api_Term.len (x : A2_T_api_Term) : x.av.cells.length = 10 := rfl
@[go_sem] theorem muT_22 [Mu] : muT Try.prog 22 = seatMu 93 := by unfold muT; rw [show elemT Try.prog 22 = some 93 by kernel_rfl]
@[go_sem] theorem muT_23 [Mu] : muT Try.prog 23 = seatMu 32 := by unfold muT; rw [show elemT Try.prog 23 = some 32 by kernel_rfl]
@[go_sem] theorem muT_28 [Mu] : muT Try.prog 28 = seatMu 31 := by unfold muT; rw [show elemT Try.prog 28 = some 31 by kernel_rfl]
@[go_sem] theorem muT_29 [Mu] : muT Try.prog 29 = seatMu 66 := by unfold muT; rw [show elemT Try.prog 29 = some 66 by kernel_rfl]
@[go_sem] theorem muT_45 [Mu] : muT Try.prog 45 = seatMu 3 := by unfold muT; rw [show elemT Try.prog 45 = some 3 by kernel_rfl]
@[go_sem] theorem muT_70 [Mu] : muT Try.prog 70 = seatMu 119 := by unfold muT; rw [show elemT Try.prog 70 = some 119 by kernel_rfl]
@[go_sem] theorem muT_84 [Mu] : muT Try.prog 84 = seatMu 91 := by unfold muT; rw [show elemT Try.prog 84 = some 91 by kernel_rfl]
@[go_sem] theorem muT_85 [Mu] : muT Try.prog 85 = seatMu 96 := by unfold muT; rw [show elemT Try.prog 85 = some 96 by kernel_rfl]
@[reducible] def mu_96 : Mu := ⟨fun t => [96].contains t⟩
@[go_sem] theorem mu_96_at_91 : @seatMu mu_96 91 = false := by kernel_rfl
@[go_sem] theorem mu_96_at_96 : @seatMu mu_96 96 = true := by kernel_rfl
end Go.Proofs.Ytcfekacmmfdggaa.G
set_option linter.unusedVariables false
set_option linter.unusedSimpArgs false
set_option maxRecDepth 100000
namespace Go.Proofs.Ytcfekacmmfdggaa.G
attribute [go_sem] List.set_cons_zero List.set_cons_succ List.getElem?_cons_zero List.getElem?_cons_succ
/-- The nodes, kids ahead. -/
def T_api_Tree.tour : T_api_Tree → List T_api_Tree
  | ⟨a, b, ks, c, d⟩ => tourL ks ++ [⟨a, b, ks, c, d⟩]
where tourL : List T_api_Tree → List T_api_Tree
  | [] => []
  | x :: l => x.tour ++ tourL l
theorem tourL_eq' (l : List T_api_Tree) : T_api_Tree.tour.tourL l = l.flatMap T_api_Tree.tour := by
  induction l with
  | nil => simp only [T_api_Tree.tour.tourL, List.flatMap_nil]
  | cons x l ih => simp only [T_api_Tree.tour.tourL, List.flatMap_cons, ih]
theorem tour_eq (x : T_api_Tree) : x.tour = x.Kids.flatMap T_api_Tree.tour ++ [x] := by
  obtain ⟨a, b, ks, c, d⟩ := x
  simp only [T_api_Tree.tour, tourL_eq']
/-- The tour's function, called on a node: of what is yielded from the place i on. -/
theorem walk_tour (x : T_api_Tree) : ∀ (hsm : ∀ y ∈ x.tour, y.Kids.length < 9223372036854775808) (b : Nat) (yv : AV) (xs : List T_api_Tree) (I : Nat → Mem → Prop) (D : Mem → Prop) (lt ly : Nat), yv.strip = yv → b ≤ lt → b ≤ ly → (∀ i m m', I i m → Ext m m' → I i m') → (∀ m m', D m → Ext m m' → D m') →
    (∀ i x m1, xs[i]? = some x → I i m1 → DoesV Try.prog yv [.agg x.C] m1 fun r m2 => KeepB b m1 m2 ∧ ((r = .bool true ∧ I (i + 1) m2) ∨ (r = .bool false ∧ D m2))) →
    ∀ (i : Nat) (m : Mem), I i m → m.boxes[lt]? = some (.cells [.func 132 [] [.ptr lt 0, .ptr ly 0]]) → m.boxes[ly]? = some (.cells [yv]) → (∃ rest, xs.drop i = x.tour ++ rest) →
    Does Try.prog 132 [.agg x.C, .ptr lt 0, .ptr ly 0] m fun r m' => KeepB b m m' ∧ ((r = .bool true ∧ I (i + x.tour.length) m') ∨ (r = .bool false ∧ D m')) := by
  induction x using T_api_Tree.induct with
  | h x ih =>
    intro hsm b yv xs I D lt ly hy hbt hby hI hD hY i m h0 h1 h2 ⟨rest, hr⟩
    rw [tour_eq] at hr hsm ⊢
    have hkl : x.Kids.length < 9223372036854775808 := hsm (x) (by simp)
    obtain ⟨B, R, μ⟩ := m
    dsimp only at h1 h2
    have hlt := (List.getElem?_eq_some_iff.1 h1).1
    refine Does.of_slim mix fn_132 ok_132 (by rfl) ?_; simp -implicitDefEqProofs only [go_sem, Try.f132]
    refine SLoop.induct mix fn_132 (by kernel_rfl) (fun n e m' => ∃ (j : Nat), e = [(1, .ptr lt 0), (2, .ptr ly 0), (3, .ptr B.length 0), (8, .slice .foreign (x.Kids.map T_api_Tree.av)), (9, .i64 x.Kids.length), (10, .i64 j)] ∧ KeepB b ⟨B ++ [.cells (x.C)], R, μ⟩ m' ∧ I (i + ((x.Kids.take j).flatMap T_api_Tree.tour).length) m' ∧ j ≤ x.Kids.length ∧ n = x.Kids.length - j) x.Kids.length ⟨0, rfl, KeepB.refl _ _, hI _ _ _ h0 (Ext.mkB _ _ _ _), by omega, by omega⟩ (by simp -implicitDefEqProofs only [go_sem] <;> repeat' (first | rfl | apply And.intro)) ?_
    rintro n e m' ⟨j, rfl, hk, hi, hj, hn⟩ ih2
    obtain ⟨B', R', μ'⟩ := m'
    have b1 := hk.1 lt _ hbt (app_old h1 _)
    have b2 := hk.1 ly _ hby (app_old h2 _)
    have b3 := hk.1 B.length (.cells (x.C)) (by omega) (by simp)
    dsimp only at b1 b2 b3
    simp -implicitDefEqProofs only [go_sem, Try.f132]
    refine SCond_dec (fun hc => ?_) fun hc => ?_
    · have hj' : j < x.Kids.length := by omega
      simp -implicitDefEqProofs only [go_sem, getL hj', app_old b1, app_old b2, app_old b3]
      have hsp : x.Kids.flatMap T_api_Tree.tour = (x.Kids.take j).flatMap T_api_Tree.tour ++ (x.Kids[j].tour ++ (x.Kids.drop (j + 1)).flatMap T_api_Tree.tour) := by
        conv => lhs; rw [← List.take_append_drop j x.Kids, List.drop_eq_getElem_cons hj', List.flatMap_append, List.flatMap_cons]
      have hdr : xs.drop (i + ((x.Kids.take j).flatMap T_api_Tree.tour).length) = x.Kids[j].tour ++ ((x.Kids.drop (j + 1)).flatMap T_api_Tree.tour ++ [x] ++ rest) := by
        rw [← List.drop_drop, hr, hsp]
        simp [List.append_assoc]
      refine (DoesV.func (first := []) (args := [.agg x.Kids[j].C]) (cap := [.ptr lt 0, .ptr ly 0]) (ih x.Kids[j] (List.getElem_mem hj') (fun y hy => hsm y (List.mem_append_left _ (List.mem_flatMap.2 ⟨_, List.getElem_mem hj', hy⟩))) b yv xs I D lt ly hy hbt hby hI hD hY (i + ((x.Kids.take j).flatMap T_api_Tree.tour).length) _ (hI _ _ _ hi (Ext.mkB _ _ _ _)) (app_old b1 _) (app_old b2 _) ⟨_, hdr⟩)).mono ?_
      rintro r m2 ⟨hk2, hcase⟩
      refine ⟨False.elim, ?_⟩
      have hk3 := (hk.trans ((Ext.mkB B' [.cells x.Kids[j].C] R' μ').keepB b)).trans hk2
      rcases hcase with ⟨rfl, hi2⟩ | ⟨rfl, hd2⟩
      · simp -implicitDefEqProofs only [go_sem, inc64 j (by omega)]
        refine ih2 (x.Kids.length - (j + 1)) _ _ _ (by omega) ⟨j + 1, rfl, hk3, ?_, by omega, rfl⟩ (by simp -implicitDefEqProofs only [go_sem] <;> repeat' (first | rfl | apply And.intro))
        rw [List.take_succ_eq_append_getElem hj', List.flatMap_append, List.length_append, ← Nat.add_assoc]
        simpa using hi2
      · simp -implicitDefEqProofs only [go_sem]
        exact ⟨((Ext.mkB B [.cells (x.C)] R μ).keepB b).trans hk3, .inr hd2⟩
    · have hjj : j = x.Kids.length := by omega
      subst hjj
      rw [List.take_length] at hi
      have hx : xs[i + (x.Kids.flatMap T_api_Tree.tour).length]? = some (x) := by
        rw [← List.getElem?_drop, hr]
        simp [List.append_assoc]
      simp -implicitDefEqProofs only [go_sem, b1, b2, b3]
      have hy1 := hY _ _ _ hx hi
      refine hy1.mono ?_
      rintro r m2 ⟨hk2, hcase⟩
      refine ⟨False.elim, ?_⟩
      have hk3 := ((Ext.mkB B [.cells (x.C)] R μ).keepB b).trans (hk.trans hk2)
      rcases hcase with ⟨rfl, hi2⟩ | ⟨rfl, hd2⟩
      · simp -implicitDefEqProofs only [go_sem]
        exact ⟨hk3, by simpa [Nat.add_assoc] using hi2⟩
      · simp -implicitDefEqProofs only [go_sem]
        exact ⟨hk3, .inr hd2⟩
/-- **tree.Walk's iterator yields the tour.** -/
theorem walk_iter (x : T_api_Tree) (hsm : ∀ y ∈ x.tour, y.Kids.length < 9223372036854775808) (l : Nat) : Iter Try.prog 131 [] [.ptr l 0] (fun m => m.boxes[l]? = some (.cells x.C)) (x.tour.map fun y => [.agg y.C]) := by
  intro b yv I D m hy hb hC hI hD h0 hY
  obtain ⟨B, R, μ⟩ := m
  dsimp only at hb
  have hbl := hC 0 _ h0
  dsimp only at hbl
  show Does Try.prog 131 [yv, .ptr l 0] _ _
  have z : zeroT Try.prog 151 = some [.atom .nilFunc] := by kernel_rfl
  refine Does.of_slim mix fn_131 ok_131 (by rfl) ?_; simp -implicitDefEqProofs only [go_sem, Try.f131]
  simp -implicitDefEqProofs only [go_sem, hy.1, hy.2.1, hy.2.2, app_old hbl, z]
  refine (DoesV.func (first := []) (args := [.agg x.C]) (cap := [.ptr (B.length + 1) 0, .ptr B.length 0]) (walk_tour x hsm b yv x.tour (fun i m1 => I i m1 ∧ KeepB b ⟨B, R, μ⟩ m1) D (B.length + 1) B.length hy.1 (by omega) hb (fun i m m' h he => ⟨hI i m m' h.1 he, h.2.trans (he.keepB b)⟩) hD (fun i y m1 hx hi => ?_) 0 _ ⟨hI _ _ _ h0 (Ext.mkB _ _ _ _), (Ext.mkB _ _ _ _).keepB b⟩ (by simp) (by simp) ⟨[], by simp⟩)).mono ?_
  · refine (hY i [.agg y.C] m1 (by simp [hx]) hi.2 hi.1).mono ?_
    rintro r m2 ⟨hk, h | h⟩
    · exact ⟨hk, .inl ⟨h.1, h.2, hi.2.trans hk⟩⟩
    · exact ⟨hk, .inr h⟩
  · rintro r m2 ⟨hk, h⟩
    refine ⟨False.elim, ?_⟩
    simp -implicitDefEqProofs only [go_sem]
    refine ⟨((Ext.mkB B _ R μ).keepB b).trans hk, ?_⟩
    rcases h with ⟨_, h, _⟩ | ⟨_, h⟩
    · left; simpa using h
    · exact .inr h
@[go_sem] theorem constAV_nilFunc' : constAV .nilFunc = some (.atom .nilFunc) := rfl
theorem tree_Walk (x : T_api_Tree) (B : List ABox) (R : List (Option (Nat × List AV))) (μ : TypeId → Bool) : Does Try.prog 89 [.agg x.C] ⟨B, R, μ⟩ fun r m1 => r = .func 131 [] [.ptr B.length 0] ∧ m1 = ⟨B ++ [.cells x.C], R, μ⟩ := by
  refine Does.of_slim mix fn_89 ok_89 (by rfl) ?_; simp -implicitDefEqProofs only [go_sem, Try.f89]
/-- The nodes, kids ahead, where all are counted by numbers that Go has. -/
def M_tree_Walk (x : T_api_Tree) : Option (List T_api_Tree) := if (x.tour.all fun y => decide (y.Kids.length < 9223372036854775808)) = true then some x.tour else none
theorem M_tree_Walk.w : ∀ (x : T_api_Tree) (r : List T_api_Tree), M_tree_Walk x = some r → FnI Try.prog 89 [.agg x.C] (r.map fun y => [.agg y.C]) := by
  intro x r h m
  unfold M_tree_Walk at h
  split at h
  · rename_i hs
    injection h with h
    subst h
    have hs : ∀ y ∈ x.tour, y.Kids.length < 9223372036854775808 := fun y hy => of_decide_eq_true (List.all_eq_true.1 hs y hy)
    obtain ⟨B, R, μ⟩ := m
    obtain ⟨r, m', h1, rfl, rfl⟩ := tree_Walk x B R μ
    refine ⟨_, _, _, _, [(B.length, .cells x.C)], h1, ⟨⟨[.cells x.C], rfl⟩, ⟨[], by simp⟩, rfl⟩, ?_, ?_, ?_⟩
    · intro q hq
      rcases List.mem_cons.1 hq with rfl | hq
      · simp
      · cases hq
    · intro b yv I D m hy hb hC hI hD h0 hY
      exact walk_iter x hs B.length b yv I D m hy hb (fun i m h => hC i m h (B.length, .cells x.C) (List.mem_cons_self)) hI hD h0 hY
    · intro q hq
      rcases List.mem_cons.1 hq with rfl | hq
      · exact Nat.le_refl _
      · cases hq
  · cases h
end Go.Proofs.Ytcfekacmmfdggaa.G
set_option linter.unusedVariables false
set_option linter.unusedSimpArgs false
set_option maxRecDepth 100000
namespace Go.Proofs.Ytcfekacmmfdggaa.G
theorem lok_124 : (Try.f124.body.isSome && !(Try.f124.name == "runtime.NumGoroutine") && okL (bodyF Try.f124) Try.f124.ntmps (bodyF Try.f124)) = true := by kernel_rfl
def M_sets_one (x : Int) : Option (Set64) :=
  if (decide (x < 0)) = true then
    some (0#64)
  else
    if (decide (x ≥ 64)) = true then
      some (0#64)
    else
      some (1#64 <<< ((BitVec.ofInt 64 x)).toNat)
set_option maxHeartbeats 8000000 in
theorem M_sets_one.w : ∀ (x : Int) (r : Set64), M_sets_one x = some r → (fun (x : Int) (r : Set64) => Fn Try.prog 124 [.i64 x] (.w r)) x r := by
  intro x r h
  rw [M_sets_one] at h
  try dsimp only
  refine Fn.of_lc mix fn_124 lok_124 (by rfl) (flC (.atom _) (flN)) (.atom _) ?_
  simp -implicitDefEqProofs only [go_sem, Try.f124]
  by_cases h1 : (decide (x < 0)) = true
  · replace h := ite_some h h1
    try simp -implicitDefEqProofs only [go_sem, h1]
    injection h with h; subst h
    first | rfl | simp -implicitDefEqProofs only [go_sem, h1] <;> rfl
  · replace h := ite_none h h1; replace h1 := bfalse h1
    try simp -implicitDefEqProofs only [go_sem, h1]
    by_cases h2 : (decide (x ≥ 64)) = true
    · replace h := ite_some h h2
      try simp -implicitDefEqProofs only [go_sem, h1, h2]
      injection h with h; subst h
      first | rfl | simp -implicitDefEqProofs only [go_sem, h1, h2] <;> rfl
    · replace h := ite_none h h2; replace h2 := bfalse h2
      try simp -implicitDefEqProofs only [go_sem, h1, h2]
      injection h with h; subst h
      first | rfl | simp -implicitDefEqProofs only [go_sem, h1, h2] <;> rfl
end Go.Proofs.Ytcfekacmmfdggaa.G
set_option linter.unusedVariables false
set_option linter.unusedSimpArgs false
set_option maxRecDepth 100000
namespace Go.Proofs.Ytcfekacmmfdggaa.G
theorem lok_81 : (Try.f81.body.isSome && !(Try.f81.name == "runtime.NumGoroutine") && okL (bodyF Try.f81) Try.f81.ntmps (bodyF Try.f81)) = true := by kernel_rfl
def M_sets_Has (x : Set64 × Int) : Option (Bool) :=
  M_sets_one x.2 >>= fun r1 =>
  some ((x.1 &&& r1) != 0#64)
set_option maxHeartbeats 8000000 in
theorem M_sets_Has.w : ∀ (x : Set64 × Int) (r : Bool), M_sets_Has x = some r → (fun (x : Set64 × Int) (r : Bool) => Fn Try.prog 81 [.w x.1, .i64 x.2] (.bool r)) x r := by
  intro x r h
  rw [M_sets_Has] at h
  try dsimp only
  refine Fn.of_lc mix fn_81 lok_81 (by rfl) (flC (.atom _) (flC (.atom _) (flN))) (.atom _) ?_
  simp -implicitDefEqProofs only [go_sem, Try.f81]
  obtain ⟨r1, h2, h⟩ := bind_some' h
  refine .plain _ _ rfl (M_sets_one.w x.2 _ h2) ?_
  try simp -implicitDefEqProofs only [go_sem]
  injection h with h; subst h
  first | rfl | simp -implicitDefEqProofs only [go_sem] <;> rfl
end Go.Proofs.Ytcfekacmmfdggaa.G
set_option linter.unusedVariables false
set_option linter.unusedSimpArgs false
set_option maxRecDepth 100000
namespace Go.Proofs.Ytcfekacmmfdggaa.G

/-- A set's members, rising. -/
def memb (s : Set64) : List Int := ((List.range 64).filter fun i => s.getLsbD i).map fun (i : Nat) => (i : Int)
theorem has_bit (s : Set64) (i : Nat) (h : i < 64) : M_sets_Has (s, (i : Int)) = some (s.getLsbD i) := by
  have h1 : decide ((i : Int) < 0) = false := by simp
  have h2 : decide ((i : Int) ≥ 64) = false := by simp; omega
  have h3 : (BitVec.ofInt 64 (i : Int)).toNat = i := by
    rw [BitVec.ofInt_natCast, BitVec.toNat_ofNat]; omega
  have e : M_sets_one (i : Int) = some (1#64 <<< i) := by
    unfold M_sets_one
    rw [h1, h2, h3]; rfl
  unfold M_sets_Has
  simp only [e, Option.bind_eq_bind, Option.bind_some]
  congr 1
  have h4 : s &&& 1#64 <<< i = if s.getLsbD i then BitVec.twoPow 64 i else 0#64 := by
    rw [← BitVec.and_twoPow]; rfl
  rw [h4]
  split
  · rename_i hb
    rw [hb]
    have h5 : BitVec.twoPow 64 i ≠ 0#64 := by
      intro e
      have := congrArg (fun x => x.getLsbD i) e
      simp [BitVec.getLsbD_twoPow, h] at this
    simp [h5]
  · rename_i hb
    simp at hb
    simp [hb]
theorem memb_get (s : Set64) (j : Nat) (h : j < 64) (hb : s.getLsbD j = true) : (memb s)[((List.range j).filter fun i => s.getLsbD i).length]? = some (j : Int) := by
  have e : List.range 64 = List.range j ++ (j :: (List.range' (j + 1) (63 - j))) := by
    rw [List.range_eq_range', List.range_eq_range', ← List.range'_succ, show 63 - j + 1 = 64 - j by omega]
    have := List.range'_append (s := 0) (m := j) (n := 64 - j) (step := 1)
    simp at this
    rw [show j + (64 - j) = 64 by omega] at this
    exact this.symm
  unfold memb
  rw [e, List.filter_append, List.filter_cons_of_pos (by simpa using hb), List.map_append]
  rw [List.getElem?_append_right (by simp)]
  simp
theorem members_iter (s : Set64) (l : Nat) : Iter Try.prog 153 [] [.ptr l 0] (fun m => m.boxes[l]? = some (.cells [.w s])) ((memb s).map fun i => [.i64 i]) := by
  intro b yv I D m hy hb hC hI hD h0 hY
  obtain ⟨B, R, μ⟩ := m
  dsimp only at hb
  show Does Try.prog 153 [yv, .ptr l 0] _ _
  have hlen : ∀ j, j = 64 → ((List.range j).filter fun i => s.getLsbD i).length = ((memb s).map fun i => [AV.i64 i]).length := by
    rintro j rfl
    simp [memb]
  refine Does.of_slim mix fn_153 ok_153 (by rfl) ?_; simp -implicitDefEqProofs only [go_sem, Try.f153]
  refine SLoop.induct mix fn_153 (by kernel_rfl) (fun n e m' => ∃ (j : Nat), e = [(0, yv), (1, .ptr l 0), (4, .i64 j)] ∧ KeepB b ⟨B, R, μ⟩ m' ∧ I ((List.range j).filter fun i => s.getLsbD i).length m' ∧ j ≤ 64 ∧ n = 64 - j) 64 ⟨0, rfl, KeepB.refl _ _, h0, by omega, by omega⟩ (by simp -implicitDefEqProofs only [go_sem] <;> repeat' (first | rfl | apply And.intro)) ?_
  rintro n e m' ⟨j, rfl, hk, hi, hj, hn⟩ ih2
  obtain ⟨B', R', μ'⟩ := m'
  have b1 := hC _ _ hi
  dsimp only at b1
  simp -implicitDefEqProofs only [go_sem, Try.f153]
  refine SCond_dec (fun hc => ?_) fun hc => ?_
  · have hj' : j < 64 := by omega
    have hnx : ∀ bb, s.getLsbD j = bb → ((List.range (j + 1)).filter fun i => s.getLsbD i).length = ((List.range j).filter fun i => s.getLsbD i).length + (if bb = true then 1 else 0) := by
      intro bb h
      rw [List.range_succ, List.filter_append, List.length_append]
      cases bb <;> simp [h]
    simp -implicitDefEqProofs only [go_sem, b1]
    refine DoesV.fn (M_sets_Has.w (s, (j : Int)) _ (has_bit s j hj')) ?_
    cases hbit : s.getLsbD j with
    | false =>
      simp -implicitDefEqProofs only [go_sem, inc64 j (by omega)]
      refine ih2 (64 - (j + 1)) _ _ _ (by omega) ⟨j + 1, rfl, hk, ?_, by omega, rfl⟩ (by simp -implicitDefEqProofs only [go_sem] <;> repeat' (first | rfl | apply And.intro))
      rw [hnx false hbit]; exact hi
    | true =>
      simp -implicitDefEqProofs only [go_sem]
      have hx : ((memb s).map fun i => [AV.i64 i])[((List.range j).filter fun i => s.getLsbD i).length]? = some [.i64 j] := by
        rw [List.getElem?_map, memb_get s j hj' hbit]; rfl
      refine (hY _ _ _ hx hk hi).mono ?_
      rintro r m2 ⟨hk2, hcase⟩
      refine ⟨False.elim, ?_⟩
      have hk3 := hk.trans hk2
      rcases hcase with ⟨rfl, hi2⟩ | ⟨rfl, hd2⟩
      · simp -implicitDefEqProofs only [go_sem, inc64 j (by omega)]
        refine ih2 (64 - (j + 1)) _ _ _ (by omega) ⟨j + 1, rfl, hk3, ?_, by omega, rfl⟩ (by simp -implicitDefEqProofs only [go_sem] <;> repeat' (first | rfl | apply And.intro))
        rw [hnx true hbit]; exact hi2
      · simp -implicitDefEqProofs only [go_sem]
        exact ⟨hk3, .inr hd2⟩
  · have hjj : j = 64 := by omega
    rw [hlen j hjj] at hi
    simp -implicitDefEqProofs only [go_sem]
    exact ⟨hk, .inl (by simpa using hi)⟩
theorem sets_members (s : Set64) (B : List ABox) (R : List (Option (Nat × List AV))) (μ : TypeId → Bool) : Does Try.prog 147 [.w s] ⟨B, R, μ⟩ fun r m1 => r = .func 153 [] [.ptr B.length 0] ∧ m1 = ⟨B ++ [.cells [.w s]], R, μ⟩ := by
  refine Does.of_slim mix fn_147 ok_147 (by rfl) ?_; simp -implicitDefEqProofs only [go_sem, Try.f147]
def M_sets_members (s : Set64) : Option (List Int) := some (memb s)
theorem M_sets_members.w : ∀ (x : Set64) (r : List Int), M_sets_members x = some r → FnI Try.prog 147 [.w x] (r.map fun y => [.i64 y]) := by
  intro s r h m
  injection h with h
  subst h
  obtain ⟨B, R, μ⟩ := m
  obtain ⟨r, m', h1, rfl, rfl⟩ := sets_members s B R μ
  refine ⟨_, _, _, _, [(B.length, .cells [.w s])], h1, ⟨⟨[.cells [.w s]], rfl⟩, ⟨[], by simp⟩, rfl⟩, ?_, ?_, ?_⟩
  · intro q hq
    rcases List.mem_cons.1 hq with rfl | hq
    · simp
    · cases hq
  · intro b yv I D m hy hb hC hI hD h0 hY
    exact members_iter s B.length b yv I D m hy hb (fun i m h => hC i m h (B.length, .cells [.w s]) (List.mem_cons_self)) hI hD h0 hY
  · intro q hq
    rcases List.mem_cons.1 hq with rfl | hq
    · exact Nat.le_refl _
    · cases hq
end Go.Proofs.Ytcfekacmmfdggaa.G
set_option linter.unusedVariables false
set_option linter.unusedSimpArgs false
set_option maxRecDepth 100000
namespace Go.Proofs.Ytcfekacmmfdggaa.G
theorem lok_90 : (Try.f90.body.isSome && !(Try.f90.name == "runtime.NumGoroutine") && okL (bodyF Try.f90) Try.f90.ntmps (bodyF Try.f90)) = true := by kernel_rfl
def M_sets_Of.l0 (x : Set64 × List Int × Int × Int) : Option (Set64) :=
  if (decide (x.2.2.2 < x.2.2.1)) = true then
    (getI x.2.1 x.2.2.2) >>= fun (e2 : Int) =>
    M_sets_one e2 >>= fun r4 =>
    M_sets_Of.l0 ((x.1 ||| r4), x.2.1, x.2.2.1, (w64 (x.2.2.2 + 1)))
  else
    some x.1
  partial_fixpoint
theorem M_sets_Of.l0.ws : (∀ (x : Set64 × List Int × Int × Int) (o : Set64), M_sets_Of.l0 x = some o → (fun (x : Set64 × List Int × Int × Int) (o : Set64) => ∀ (lo : Option Nat) (c : LCtx) (Q : Exit → LEnv → Prop) (hb : ∀ s : Set64, o = s → Q (.exit 0) ⟨[(3, .v (.w s))], []⟩), LLoop Try.prog 90 lo c 0 (VQ Q) ⟨[(3, .v (.w x.1)), (6, .v (.slice .foreign (x.2.1.map AV.i64))), (7, .v (.i64 x.2.2.1)), (8, .v (.i64 x.2.2.2))], []⟩) x o) := by
  refine M_sets_Of.l0.partial_correctness _ ?_
  · intro M_M_sets_Of_l0 ih_M_sets_Of_l0 x o h
    intro lo c Q hb
    refine LLoop.step mix fn_90 (by kernel_rfl) ?_
    simp -implicitDefEqProofs only [go_sem, Try.f90]
    by_cases h1 : (decide (x.2.2.2 < x.2.2.1)) = true
    · replace h := ite_some h h1
      try simp -implicitDefEqProofs only [go_sem, h1]
      obtain ⟨e2, h3, h⟩ := bind_some' h; replace h3 := getI_some h3; obtain ⟨h3', h3⟩ := h3
      try simp -implicitDefEqProofs only [go_sem, h1, h3, h3']
      obtain ⟨r4, h5, h⟩ := bind_some' h
      refine .plain _ _ rfl (M_sets_one.w e2 _ h5) ?_
      try simp -implicitDefEqProofs only [go_sem, h1, h3, h3']
      exact LLoop.view [] (by (first | rfl | simp -implicitDefEqProofs only [go_sem, h1, h3, h3'] <;> rfl)) (ih_M_sets_Of_l0 _ _ h lo c Q hb)
    · replace h := ite_none h h1; replace h1 := bfalse h1
      try simp -implicitDefEqProofs only [go_sem, h1]
      injection h with h; subst h
      exact .inr ⟨[], _, by (simp -implicitDefEqProofs only [go_sem, h1] <;> first | done | rfl | trivial), hb _ rfl⟩
theorem M_sets_Of.l0.w : type_of% @M_sets_Of.l0.ws := @M_sets_Of.l0.ws
def M_sets_Of (x : List Int) : Option (Set64) :=
  M_sets_Of.l0 (0#64, x, (x.length : Int), 0) >>= fun (o6 : Set64) =>
  some o6
set_option maxHeartbeats 8000000 in
theorem M_sets_Of.w : ∀ (x : List Int) (r : Set64), M_sets_Of x = some r → (fun (x : List Int) (r : Set64) => Fn Try.prog 90 [.slice .foreign (x.map AV.i64)] (.w r)) x r := by
  intro x r h
  rw [M_sets_Of] at h
  try dsimp only
  refine Fn.of_lc mix fn_90 lok_90 (by rfl) (flC (flat_slice _ (fun _ => .atom _) _) (flN)) (.atom _) ?_
  simp -implicitDefEqProofs only [go_sem, Try.f90]
  obtain ⟨o6, h7, h⟩ := bind_some' h
  refine LLoop.viewQ (LLoop.view [] (by (first | rfl | simp -implicitDefEqProofs only [go_sem] <;> rfl)) (M_sets_Of.l0.w (0#64, x, (x.length : Int), 0) _ h7 _ _ _ ?_))
  intro s' hs'; subst hs'
  try simp -implicitDefEqProofs only [go_sem]
  injection h with h; subst h
  first | rfl | simp -implicitDefEqProofs only [go_sem] <;> rfl
end Go.Proofs.Ytcfekacmmfdggaa.G
set_option linter.unusedVariables false
set_option linter.unusedSimpArgs false
set_option maxRecDepth 100000
namespace Go.Proofs.Ytcfekacmmfdggaa.G
theorem lok_125 : (Try.f125.body.isSome && !(Try.f125.name == "runtime.NumGoroutine") && okL (bodyF Try.f125) Try.f125.ntmps (bodyF Try.f125)) = true := by kernel_rfl
def M_sets_List.r0 (x : List Int × List Int) : Option (List Int) :=
  match x.1 with
  | [] => some x.2
  | e3 :: l4 =>
    (room 8 x.2 ([e3])) >>= fun (z5 : List Int) =>
    M_sets_List.r0 (l4, z5)
  partial_fixpoint
theorem M_sets_List.r0.ws : (∀ (x : List Int × List Int) (o : List Int), M_sets_List.r0 x = some o → (fun (x : List Int × List Int) (o : List Int) => ∀ (Fin : Exit → List (Nat × List CV) → Prop) (hb : ∀ (s : List Int), o = s → Fin .normal [(2100003, [.own 32000300 1 (s.map AV.i64)])]), RRun Try.prog 125 Try.f125 0 1 #[7] [(3, .lref 2100003 0)] Fin (x.1.map (fun (y : Int) => [.i64 y])) [(2100003, [.own 32000300 1 (x.2.map AV.i64)])]) x o) := by
  refine M_sets_List.r0.partial_correctness _ ?_
  · intro M_M_sets_List_r0 ih_M_sets_List_r0 x o h
    intro Fin hb
    generalize hx1 : x.1 = ys at h ⊢
    cases ys with
    | nil => injection h with h; subst h; exact RRun.nil (hb _ rfl)
    | cons e3 l4 =>
      refine RRun.cons rfl fun l0 c1 hlo1 => ?_
      dsimp only at h
      simp -implicitDefEqProofs only [go_sem, Try.f125]
      refine RMid.mk (by rfl) fun c2 hlo2 => ?_
      simp -implicitDefEqProofs only [go_sem, Try.f125]
      obtain ⟨z5, h6, h⟩ := bind_some' h; replace h6 := room_some h6; obtain ⟨h6', rfl⟩ := h6
      refine LApp.map (F := AV.i64) (xs := x.2) (ys := [e3]) t45_elem t3_size t3_bytes t3_zsize rfl (fun _ => rfl) (by (first | rfl | simp -implicitDefEqProofs only [go_sem] <;> rfl)) (by (first | rfl | simp -implicitDefEqProofs only [go_sem] <;> rfl)) h6' ?_
      try simp -implicitDefEqProofs only [go_sem]
      exact REnd.next [(32000300, some 11)] (by rfl) (by (first | rfl | simp -implicitDefEqProofs only [go_sem] <;> rfl)) (by rfl) (ih_M_sets_List_r0 (l4, (x.2 ++ [e3])) _ h Fin hb)
theorem M_sets_List.r0.w : type_of% @M_sets_List.r0.ws := @M_sets_List.r0.ws
def M_sets_List (x : Set64) : Option (List Int) :=
  M_sets_members x >>= fun l1 =>
  M_sets_List.r0 (l1, ([] : List Int)) >>= fun (s9 : List Int) =>
  some s9
set_option maxHeartbeats 8000000 in
theorem M_sets_List.w : ∀ (x : Set64) (r : List Int), M_sets_List x = some r → (fun (x : Set64) (r : List Int) => Fn Try.prog 125 [.w x] (.slice .foreign (r.map AV.i64))) x r := by
  intro x r h
  rw [M_sets_List] at h
  try dsimp only
  refine Fn.of_lc mix fn_125 lok_125 (by rfl) (flC (.atom _) (flN)) (flat_slice _ (fun _ => .atom _) _) ?_
  simp -implicitDefEqProofs only [go_sem, Try.f125]
  obtain ⟨l1, h2, h⟩ := bind_some' h
  refine .iter _ _ rfl (M_sets_members.w x _ h2) ?_
  try simp -implicitDefEqProofs only [go_sem]
  obtain ⟨s9, h8, h⟩ := bind_some' h
  refine LRange.iter mix fn_125 (LoOk.none _) (by kernel_rfl) (by kernel_rfl) (by rfl) rfl [(32000300, none)] [(2100003, 3)] (by rfl) (by rfl) (by (first | rfl | simp -implicitDefEqProofs only [go_sem] <;> rfl)) (by (first | rfl | simp -implicitDefEqProofs only [go_sem] <;> rfl)) (M_sets_List.r0.w (l1, ([] : List Int)) _ h8 _ ?_)
  intro s0 hs'; subst hs'
  try simp -implicitDefEqProofs only [go_sem]
  injection h with h; subst h
  first | rfl | simp -implicitDefEqProofs only [go_sem] <;> rfl
end Go.Proofs.Ytcfekacmmfdggaa.G
set_option linter.unusedVariables false
set_option linter.unusedSimpArgs false
set_option maxRecDepth 100000
namespace Go.Proofs.Ytcfekacmmfdggaa.G
theorem lok_93 : (Try.f93.body.isSome && !(Try.f93.name == "runtime.NumGoroutine") && okL (bodyF Try.f93) Try.f93.ntmps (bodyF Try.f93)) = true := by kernel_rfl
def M_ref01_power.l0 (x : Int × Set64 × Int) : Option (Set64) :=
  if (decide (x.2.2 < x.1)) = true then
    M_ref01_power.l0 (x.1, (x.2.1 * 2#64), (w64 (x.2.2 + 1)))
  else
    some x.2.1
  partial_fixpoint
theorem M_ref01_power.l0.ws : (∀ (x : Int × Set64 × Int) (o : Set64), M_ref01_power.l0 x = some o → (fun (x : Int × Set64 × Int) (o : Set64) => ∀ (lo : Option Nat) (c : LCtx) (Q : Exit → LEnv → Prop) (hb : ∀ s : Set64, o = s → Q (.exit 0) ⟨[(3, .v (.w s))], []⟩), LLoop Try.prog 93 lo c 0 (VQ Q) ⟨[(0, .v (.i64 x.1)), (3, .v (.w x.2.1)), (4, .v (.i64 x.2.2))], []⟩) x o) := by
  refine M_ref01_power.l0.partial_correctness _ ?_
  · intro M_M_ref01_power_l0 ih_M_ref01_power_l0 x o h
    intro lo c Q hb
    refine LLoop.step mix fn_93 (by kernel_rfl) ?_
    simp -implicitDefEqProofs only [go_sem, Try.f93]
    by_cases h1 : (decide (x.2.2 < x.1)) = true
    · replace h := ite_some h h1
      try simp -implicitDefEqProofs only [go_sem, h1]
      exact LLoop.view [] (by (first | rfl | simp -implicitDefEqProofs only [go_sem, h1] <;> rfl)) (ih_M_ref01_power_l0 _ _ h lo c Q hb)
    · replace h := ite_none h h1; replace h1 := bfalse h1
      try simp -implicitDefEqProofs only [go_sem, h1]
      injection h with h; subst h
      exact .inr ⟨[], _, by (simp -implicitDefEqProofs only [go_sem, h1] <;> first | done | rfl | trivial), hb _ rfl⟩
theorem M_ref01_power.l0.w : type_of% @M_ref01_power.l0.ws := @M_ref01_power.l0.ws
def M_ref01_power (x : Int) : Option (Set64) :=
  M_ref01_power.l0 (x, 1#64, 0) >>= fun (o2 : Set64) =>
  some o2
set_option maxHeartbeats 8000000 in
theorem M_ref01_power.w : ∀ (x : Int) (r : Set64), M_ref01_power x = some r → (fun (x : Int) (r : Set64) => Fn Try.prog 93 [.i64 x] (.w r)) x r := by
  intro x r h
  rw [M_ref01_power] at h
  try dsimp only
  refine Fn.of_lc mix fn_93 lok_93 (by rfl) (flC (.atom _) (flN)) (.atom _) ?_
  simp -implicitDefEqProofs only [go_sem, Try.f93]
  obtain ⟨o2, h3, h⟩ := bind_some' h
  refine LLoop.viewQ (LLoop.view [] (by (first | rfl | simp -implicitDefEqProofs only [go_sem] <;> rfl)) (M_ref01_power.l0.w (x, 1#64, 0) _ h3 _ _ _ ?_))
  intro s' hs'; subst hs'
  try simp -implicitDefEqProofs only [go_sem]
  injection h with h; subst h
  first | rfl | simp -implicitDefEqProofs only [go_sem] <;> rfl
end Go.Proofs.Ytcfekacmmfdggaa.G
set_option linter.unusedVariables false
set_option linter.unusedSimpArgs false
set_option maxRecDepth 100000
namespace Go.Proofs.Ytcfekacmmfdggaa.G
theorem lok_57 : (Try.f57.body.isSome && !(Try.f57.name == "runtime.NumGoroutine") && okL (bodyF Try.f57) Try.f57.ntmps (bodyF Try.f57)) = true := by kernel_rfl
def M_ref01_Of.l1 (x : List Int × Set64 × Int × Int) : Option (Set64) :=
  if (decide (x.2.2.2 < (x.1.length : Int))) = true then
    (getI x.1 x.2.2.2) >>= fun (e3 : Int) =>
    if (e3 == x.2.2.1) = true then
      M_ref01_power x.2.2.1 >>= fun r6 =>
      some (x.2.1 + r6)
    else
      M_ref01_Of.l1 (x.1, x.2.1, x.2.2.1, (w64 (x.2.2.2 + 1)))
  else
    some x.2.1
  partial_fixpoint
theorem M_ref01_Of.l1.ws : (∀ (x : List Int × Set64 × Int × Int) (o : Set64), M_ref01_Of.l1 x = some o → (fun (x : List Int × Set64 × Int × Int) (o : Set64) => ∀ (lo : Option Nat) (c : LCtx) (Q : Exit → LEnv → Prop) (hb : ∀ s : Set64, o = s → Q (.exit 2) ⟨[(0, .v (.slice .foreign (x.1.map AV.i64))), (3, .v (.w s)), (4, .v (.i64 x.2.2.1))], []⟩), LLoop Try.prog 57 lo c 1 (VQ Q) ⟨[(0, .v (.slice .foreign (x.1.map AV.i64))), (3, .v (.w x.2.1)), (4, .v (.i64 x.2.2.1)), (5, .v (.i64 x.2.2.2))], []⟩) x o) := by
  refine M_ref01_Of.l1.partial_correctness _ ?_
  · intro M_M_ref01_Of_l1 ih_M_ref01_Of_l1 x o h
    intro lo c Q hb
    refine LLoop.step mix fn_57 (by kernel_rfl) ?_
    simp -implicitDefEqProofs only [go_sem, Try.f57]
    by_cases h2 : (decide (x.2.2.2 < (x.1.length : Int))) = true
    · replace h := ite_some h h2
      try simp -implicitDefEqProofs only [go_sem, h2]
      obtain ⟨e3, h4, h⟩ := bind_some' h; replace h4 := getI_some h4; obtain ⟨h4', h4⟩ := h4
      try simp -implicitDefEqProofs only [go_sem, h2, h4, h4']
      by_cases h5 : (e3 == x.2.2.1) = true
      · replace h := ite_some h h5
        try simp -implicitDefEqProofs only [go_sem, h2, h4, h4', h5]
        obtain ⟨r6, h7, h⟩ := bind_some' h
        refine .plain _ _ rfl (M_ref01_power.w x.2.2.1 _ h7) ?_
        try simp -implicitDefEqProofs only [go_sem, h2, h4, h4', h5]
        injection h with h; subst h
        exact .inr ⟨[], _, by (simp -implicitDefEqProofs only [go_sem, h2, h4, h4', h5] <;> first | done | rfl | trivial), hb _ rfl⟩
      · replace h := ite_none h h5; replace h5 := bfalse h5
        try simp -implicitDefEqProofs only [go_sem, h2, h4, h4', h5]
        exact LLoop.view [] (by (first | rfl | simp -implicitDefEqProofs only [go_sem, h2, h4, h4', h5] <;> rfl)) (ih_M_ref01_Of_l1 _ _ h lo c Q hb)
    · replace h := ite_none h h2; replace h2 := bfalse h2
      try simp -implicitDefEqProofs only [go_sem, h2]
      injection h with h; subst h
      exact .inr ⟨[], _, by (simp -implicitDefEqProofs only [go_sem, h2] <;> first | done | rfl | trivial), hb _ rfl⟩
theorem M_ref01_Of.l1.w : type_of% @M_ref01_Of.l1.ws := @M_ref01_Of.l1.ws
def M_ref01_Of.l0 (x : List Int × Set64 × Int) : Option (Set64) :=
  if (decide (x.2.2 < 64)) = true then
    M_ref01_Of.l1 (x.1, x.2.1, x.2.2, 0) >>= fun (o8 : Set64) =>
    M_ref01_Of.l0 (x.1, o8, (w64 (x.2.2 + 1)))
  else
    some x.2.1
  partial_fixpoint
theorem M_ref01_Of.l0.ws : (∀ (x : List Int × Set64 × Int) (o : Set64), M_ref01_Of.l0 x = some o → (fun (x : List Int × Set64 × Int) (o : Set64) => ∀ (lo : Option Nat) (c : LCtx) (Q : Exit → LEnv → Prop) (hb : ∀ s : Set64, o = s → Q (.exit 0) ⟨[(3, .v (.w s))], []⟩), LLoop Try.prog 57 lo c 0 (VQ Q) ⟨[(0, .v (.slice .foreign (x.1.map AV.i64))), (3, .v (.w x.2.1)), (4, .v (.i64 x.2.2))], []⟩) x o) := by
  refine M_ref01_Of.l0.partial_correctness _ ?_
  · intro M_M_ref01_Of_l0 ih_M_ref01_Of_l0 x o h
    intro lo c Q hb
    refine LLoop.step mix fn_57 (by kernel_rfl) ?_
    simp -implicitDefEqProofs only [go_sem, Try.f57]
    by_cases h1 : (decide (x.2.2 < 64)) = true
    · replace h := ite_some h h1
      try simp -implicitDefEqProofs only [go_sem, h1]
      obtain ⟨o8, h9, h⟩ := bind_some' h
      refine LLoop.viewQ (LLoop.view [] (by (first | rfl | simp -implicitDefEqProofs only [go_sem, h1] <;> rfl)) (M_ref01_Of.l1.w (x.1, x.2.1, x.2.2, 0) _ h9 _ _ _ ?_))
      intro s' hs'; subst hs'
      try simp -implicitDefEqProofs only [go_sem, h1]
      exact LLoop.view [] (by (first | rfl | simp -implicitDefEqProofs only [go_sem, h1] <;> rfl)) (ih_M_ref01_Of_l0 _ _ h lo c Q hb)
    · replace h := ite_none h h1; replace h1 := bfalse h1
      try simp -implicitDefEqProofs only [go_sem, h1]
      injection h with h; subst h
      exact .inr ⟨[], _, by (simp -implicitDefEqProofs only [go_sem, h1] <;> first | done | rfl | trivial), hb _ rfl⟩
theorem M_ref01_Of.l0.w : type_of% @M_ref01_Of.l0.ws := @M_ref01_Of.l0.ws
def M_ref01_Of (x : List Int) : Option (Set64) :=
  M_ref01_Of.l0 (x, 0#64, 0) >>= fun (o10 : Set64) =>
  some o10
set_option maxHeartbeats 8000000 in
theorem M_ref01_Of.w : ∀ (x : List Int) (r : Set64), M_ref01_Of x = some r → (fun (x : List Int) (r : Set64) => Fn Try.prog 57 [.slice .foreign (x.map AV.i64)] (.w r)) x r := by
  intro x r h
  rw [M_ref01_Of] at h
  try dsimp only
  refine Fn.of_lc mix fn_57 lok_57 (by rfl) (flC (flat_slice _ (fun _ => .atom _) _) (flN)) (.atom _) ?_
  simp -implicitDefEqProofs only [go_sem, Try.f57]
  obtain ⟨o10, h11, h⟩ := bind_some' h
  refine LLoop.viewQ (LLoop.view [] (by (first | rfl | simp -implicitDefEqProofs only [go_sem] <;> rfl)) (M_ref01_Of.l0.w (x, 0#64, 0) _ h11 _ _ _ ?_))
  intro s' hs'; subst hs'
  try simp -implicitDefEqProofs only [go_sem]
  injection h with h; subst h
  first | rfl | simp -implicitDefEqProofs only [go_sem] <;> rfl
end Go.Proofs.Ytcfekacmmfdggaa.G
set_option linter.unusedVariables false
set_option linter.unusedSimpArgs false
set_option maxRecDepth 100000
namespace Go.Proofs.Ytcfekacmmfdggaa.G
theorem lok_83 : (Try.f83.body.isSome && !(Try.f83.name == "runtime.NumGoroutine") && okL (bodyF Try.f83) Try.f83.ntmps (bodyF Try.f83)) = true := by kernel_rfl
def M_ref01_Has (x : Set64 × Int) : Option (Bool) :=
  if (decide (x.2 ≥ 0)) = true then
    if (decide (x.2 < 64)) = true then
      M_ref01_power x.2 >>= fun r3 =>
      if r3 = 0#64 then none else
      some (((x.1 / r3) % 2#64) == 1#64)
    else
      some false
  else
    some false
set_option maxHeartbeats 8000000 in
theorem M_ref01_Has.w : ∀ (x : Set64 × Int) (r : Bool), M_ref01_Has x = some r → (fun (x : Set64 × Int) (r : Bool) => Fn Try.prog 83 [.w x.1, .i64 x.2] (.bool r)) x r := by
  intro x r h
  rw [M_ref01_Has] at h
  try dsimp only
  refine Fn.of_lc mix fn_83 lok_83 (by rfl) (flC (.atom _) (flC (.atom _) (flN))) (.atom _) ?_
  simp -implicitDefEqProofs only [go_sem, Try.f83]
  by_cases h1 : (decide (x.2 ≥ 0)) = true
  · replace h := ite_some h h1
    try simp -implicitDefEqProofs only [go_sem, h1]
    by_cases h2 : (decide (x.2 < 64)) = true
    · replace h := ite_some h h2
      try simp -implicitDefEqProofs only [go_sem, h1, h2]
      obtain ⟨r3, h4, h⟩ := bind_some' h
      refine .plain _ _ rfl (M_ref01_power.w x.2 _ h4) ?_
      try simp -implicitDefEqProofs only [go_sem, h1, h2]
      obtain ⟨h5, h⟩ := nz_some h
      try simp -implicitDefEqProofs only [go_sem, h1, h2, h5]
      injection h with h; subst h
      first | rfl | simp -implicitDefEqProofs only [go_sem, h1, h2, h5] <;> rfl
    · replace h := ite_none h h2; replace h2 := bfalse h2
      try simp -implicitDefEqProofs only [go_sem, h1, h2]
      injection h with h; subst h
      first | rfl | simp -implicitDefEqProofs only [go_sem, h1, h2] <;> rfl
  · replace h := ite_none h h1; replace h1 := bfalse h1
    try simp -implicitDefEqProofs only [go_sem, h1]
    injection h with h; subst h
    first | rfl | simp -implicitDefEqProofs only [go_sem, h1] <;> rfl
end Go.Proofs.Ytcfekacmmfdggaa.G
set_option linter.unusedVariables false
set_option linter.unusedSimpArgs false
set_option maxRecDepth 100000
namespace Go.Proofs.Ytcfekacmmfdggaa.G
theorem lok_97 : (Try.f97.body.isSome && !(Try.f97.name == "runtime.NumGoroutine") && okL (bodyF Try.f97) Try.f97.ntmps (bodyF Try.f97)) = true := by kernel_rfl
def M_ref01_In.l0 (x : Set64 × Set64 × Int) : Option (Lp (Unit) (Bool)) :=
  if (decide (x.2.2 < 64)) = true then
    M_ref01_Has (x.1, x.2.2) >>= fun r2 =>
    if r2 = true then
      M_ref01_Has (x.2.1, x.2.2) >>= fun r5 =>
      if r5 = true then
        M_ref01_In.l0 (x.1, x.2.1, (w64 (x.2.2 + 1)))
      else
        some (.ret false)
    else
      M_ref01_In.l0 (x.1, x.2.1, (w64 (x.2.2 + 1)))
  else
    some (.brk ())
  partial_fixpoint
theorem M_ref01_In.l0.ws : (∀ (x : Set64 × Set64 × Int) (o : Lp (Unit) (Bool)), M_ref01_In.l0 x = some o → (fun (x : Set64 × Set64 × Int) (o : Lp (Unit) (Bool)) => ∀ (lo : Option Nat) (c : LCtx) (Q : Exit → LEnv → Prop) (hb : ∀ s : Unit, o = Lp.brk s → Q (.exit 0) ⟨[], []⟩) (hr : ∀ (r : Bool) (L : LEnv), o = .ret r → LPostF Try.prog [.tmp 4] (.bool r) (fun _ => True) .ret L → Q .ret L), LLoop Try.prog 97 lo c 0 (VQ Q) ⟨[(0, .v (.w x.1)), (1, .v (.w x.2.1)), (5, .v (.i64 x.2.2))], []⟩) x o) := by
  refine M_ref01_In.l0.partial_correctness _ ?_
  · intro M_M_ref01_In_l0 ih_M_ref01_In_l0 x o h
    intro lo c Q hb hr
    refine LLoop.step mix fn_97 (by kernel_rfl) ?_
    simp -implicitDefEqProofs only [go_sem, Try.f97]
    by_cases h1 : (decide (x.2.2 < 64)) = true
    · replace h := ite_some h h1
      try simp -implicitDefEqProofs only [go_sem, h1]
      obtain ⟨r2, h3, h⟩ := bind_some' h
      refine .plain _ _ rfl (M_ref01_Has.w (x.1, x.2.2) _ h3) ?_
      try simp -implicitDefEqProofs only [go_sem, h1]
      by_cases h4 : r2 = true
      · replace h := ite_some h h4
        try simp -implicitDefEqProofs only [go_sem, h1, h4]
        obtain ⟨r5, h6, h⟩ := bind_some' h
        refine .plain _ _ rfl (M_ref01_Has.w (x.2.1, x.2.2) _ h6) ?_
        try simp -implicitDefEqProofs only [go_sem, h1, h4]
        by_cases h7 : r5 = true
        · replace h := ite_some h h7
          try simp -implicitDefEqProofs only [go_sem, h1, h4, h7]
          exact LLoop.view [] (by (first | rfl | simp -implicitDefEqProofs only [go_sem, h1, h4, h7] <;> rfl)) (ih_M_ref01_In_l0 _ _ h lo c Q hb hr)
        · replace h := ite_none h h7; replace h7 := bfalse h7
          try simp -implicitDefEqProofs only [go_sem, h1, h4, h7]
          injection h with h; subst h
          exact .inl (hr _ _ rfl (by (first | rfl | simp -implicitDefEqProofs only [go_sem, h1, h4, h7] <;> rfl)))
      · replace h := ite_none h h4; replace h4 := bfalse h4
        try simp -implicitDefEqProofs only [go_sem, h1, h4]
        exact LLoop.view [] (by (first | rfl | simp -implicitDefEqProofs only [go_sem, h1, h4] <;> rfl)) (ih_M_ref01_In_l0 _ _ h lo c Q hb hr)
    · replace h := ite_none h h1; replace h1 := bfalse h1
      try simp -implicitDefEqProofs only [go_sem, h1]
      injection h with h; subst h
      exact .inr ⟨[], _, by (simp -implicitDefEqProofs only [go_sem, h1] <;> first | done | rfl | trivial), hb _ rfl⟩
theorem M_ref01_In.l0.w : type_of% @M_ref01_In.l0.ws := @M_ref01_In.l0.ws
def M_ref01_In (x : Set64 × Set64) : Option (Bool) :=
  M_ref01_In.l0 (x.1, x.2, 0) >>= fun (o8 : Lp (Unit) (Bool)) => match o8 with
  | .brk s11 =>
    some true
  | .ret r10 =>
    some r10
set_option maxHeartbeats 8000000 in
theorem M_ref01_In.w : ∀ (x : Set64 × Set64) (r : Bool), M_ref01_In x = some r → (fun (x : Set64 × Set64) (r : Bool) => Fn Try.prog 97 [.w x.1, .w x.2] (.bool r)) x r := by
  intro x r h
  rw [M_ref01_In] at h
  try dsimp only
  refine Fn.of_lc mix fn_97 lok_97 (by rfl) (flC (.atom _) (flC (.atom _) (flN))) (.atom _) ?_
  simp -implicitDefEqProofs only [go_sem, Try.f97]
  obtain ⟨o8, h9, h⟩ := bind_some' h
  refine LLoop.viewQ (LLoop.view [] (by (first | rfl | simp -implicitDefEqProofs only [go_sem] <;> rfl)) (M_ref01_In.l0.w (x.1, x.2, 0) _ h9 _ _ _ ?_ ?_))
  · intro s11 hs'; subst hs'
    try simp -implicitDefEqProofs only [go_sem]
    injection h with h; subst h
    first | rfl | simp -implicitDefEqProofs only [go_sem] <;> rfl
  · intro r10 L' hs' hL'; subst hs'
    injection h with h; subst h
    first | exact hL' | (simp -implicitDefEqProofs only [go_sem]; exact hL') | (simp -implicitDefEqProofs only [go_sem]; simp -implicitDefEqProofs only [go_sem] at hL'; exact hL')
end Go.Proofs.Ytcfekacmmfdggaa.G
set_option linter.unusedVariables false
set_option linter.unusedSimpArgs false
set_option maxRecDepth 100000
namespace Go.Proofs.Ytcfekacmmfdggaa.G
theorem lok_94 : (Try.f94.body.isSome && !(Try.f94.name == "runtime.NumGoroutine") && okL (bodyF Try.f94) Try.f94.ntmps (bodyF Try.f94)) = true := by kernel_rfl
def M_ref01_List.l0 (x : Set64 × List Int × Int) : Option (List Int) :=
  if (decide (x.2.2 < 64)) = true then
    M_ref01_Has (x.1, x.2.2) >>= fun r2 =>
    if r2 = true then
      (room 8 x.2.1 ([x.2.2])) >>= fun (z5 : List Int) =>
      M_ref01_List.l0 (x.1, z5, (w64 (x.2.2 + 1)))
    else
      M_ref01_List.l0 (x.1, x.2.1, (w64 (x.2.2 + 1)))
  else
    some x.2.1
  partial_fixpoint
theorem M_ref01_List.l0.ws : (∀ (x : Set64 × List Int × Int) (o : List Int), M_ref01_List.l0 x = some o → (fun (x : Set64 × List Int × Int) (o : List Int) => ∀ (lo : Option Nat) (c : LCtx) (Q : Exit → LEnv → Prop) (hb : ∀ s : List Int, o = s → Q (.exit 0) ⟨[(3, .own 100300 1 (s.map AV.i64))], []⟩), LLoop Try.prog 94 lo c 0 (VQ Q) ⟨[(0, .v (.w x.1)), (3, .own 100300 1 (x.2.1.map AV.i64)), (4, .v (.i64 x.2.2))], []⟩) x o) := by
  refine M_ref01_List.l0.partial_correctness _ ?_
  · intro M_M_ref01_List_l0 ih_M_ref01_List_l0 x o h
    intro lo c Q hb
    refine LLoop.step mix fn_94 (by kernel_rfl) ?_
    simp -implicitDefEqProofs only [go_sem, Try.f94]
    by_cases h1 : (decide (x.2.2 < 64)) = true
    · replace h := ite_some h h1
      try simp -implicitDefEqProofs only [go_sem, h1]
      obtain ⟨r2, h3, h⟩ := bind_some' h
      refine .plain _ _ rfl (M_ref01_Has.w (x.1, x.2.2) _ h3) ?_
      try simp -implicitDefEqProofs only [go_sem, h1]
      by_cases h4 : r2 = true
      · replace h := ite_some h h4
        try simp -implicitDefEqProofs only [go_sem, h1, h4]
        obtain ⟨z5, h6, h⟩ := bind_some' h; replace h6 := room_some h6; obtain ⟨h6', rfl⟩ := h6
        refine LApp.map (F := AV.i64) (xs := x.2.1) (ys := [x.2.2]) t45_elem t3_size t3_bytes t3_zsize rfl (fun _ => rfl) (by (first | rfl | simp -implicitDefEqProofs only [go_sem, h1, h4] <;> rfl)) (by (first | rfl | simp -implicitDefEqProofs only [go_sem, h1, h4] <;> rfl)) h6' ?_
        try simp -implicitDefEqProofs only [go_sem, h1, h4]
        exact LLoop.view [(100300, some 16)] (by (first | rfl | simp -implicitDefEqProofs only [go_sem, h1, h4] <;> rfl)) (ih_M_ref01_List_l0 _ _ h lo c Q hb)
      · replace h := ite_none h h4; replace h4 := bfalse h4
        try simp -implicitDefEqProofs only [go_sem, h1, h4]
        exact LLoop.view [(100300, some 100300)] (by (first | rfl | simp -implicitDefEqProofs only [go_sem, h1, h4] <;> rfl)) (ih_M_ref01_List_l0 _ _ h lo c Q hb)
    · replace h := ite_none h h1; replace h1 := bfalse h1
      try simp -implicitDefEqProofs only [go_sem, h1]
      injection h with h; subst h
      exact .inr ⟨[(100300, some 100300)], _, by (simp -implicitDefEqProofs only [go_sem, h1] <;> first | done | rfl | trivial), hb _ rfl⟩
theorem M_ref01_List.l0.w : type_of% @M_ref01_List.l0.ws := @M_ref01_List.l0.ws
def M_ref01_List (x : Set64) : Option (List Int) :=
  M_ref01_List.l0 (x, ([] : List Int), 0) >>= fun (o7 : List Int) =>
  some o7
set_option maxHeartbeats 8000000 in
theorem M_ref01_List.w : ∀ (x : Set64) (r : List Int), M_ref01_List x = some r → (fun (x : Set64) (r : List Int) => Fn Try.prog 94 [.w x] (.slice .foreign (r.map AV.i64))) x r := by
  intro x r h
  rw [M_ref01_List] at h
  try dsimp only
  refine Fn.of_lc mix fn_94 lok_94 (by rfl) (flC (.atom _) (flN)) (flat_slice _ (fun _ => .atom _) _) ?_
  simp -implicitDefEqProofs only [go_sem, Try.f94]
  obtain ⟨o7, h8, h⟩ := bind_some' h
  refine LLoop.viewQ (LLoop.view [(100300, none)] (by (first | rfl | simp -implicitDefEqProofs only [go_sem] <;> rfl)) (M_ref01_List.l0.w (x, ([] : List Int), 0) _ h8 _ _ _ ?_))
  intro s' hs'; subst hs'
  try simp -implicitDefEqProofs only [go_sem]
  injection h with h; subst h
  first | rfl | simp -implicitDefEqProofs only [go_sem] <;> rfl
end Go.Proofs.Ytcfekacmmfdggaa.G
set_option linter.unusedVariables false
set_option linter.unusedSimpArgs false
namespace Go.Proofs.Ytcfekacmmfdggaa.G

theorem w64_of {x : Int} (h1 : -9223372036854775808 ≤ x) (h2 : x < 9223372036854775808) : w64 x = x := by
  simp only [w64, IntKind.wrap, IntKind.bits, IntKind.signed, Bool.true_and, decide_eq_true_eq, Nat.reduceSub, Int.reducePow, ge_iff_le]
  split <;> omega
theorem w64_succ {i : Nat} (h : i + 1 < 9223372036854775808) : w64 ((i : Int) + 1) = ((i + 1 : Nat) : Int) := by
  rw [w64_of (by omega) (by omega)]; omega
theorem getI_nat {α : Type} {l : List α} {i : Nat} (h : i < l.length) : getI l (i : Int) = some l[i] := by
  unfold getI
  rw [if_pos (by omega), Int.toNat_natCast, List.getElem?_eq_getElem h]
theorem room_of {α : Type} {b : Nat} {xs ys : List α} (h : (xs.length + ys.length) * b ≤ 140737488355328) : room b xs ys = some (xs ++ ys) := if_pos h
/-- A loop over a list, from a place on. -/
theorem loop_inv {α σ ρ : Type} (l : List α) (I : Nat → σ → Prop) (F : Nat → σ → ρ) (G : σ → List α → ρ) (h0 : ∀ s, I l.length s → F l.length s = G s [])
    (hs : ∀ i s (h : i < l.length), I i s → (∀ s', I (i + 1) s' → F (i + 1) s' = G s' (l.drop (i + 1))) → F i s = G s (l[i] :: l.drop (i + 1))) : ∀ i s, i ≤ l.length → I i s → F i s = G s (l.drop i) := by
  have key : ∀ n i s, l.length - i = n → i ≤ l.length → I i s → F i s = G s (l.drop i) := by
    intro n
    induction n with
    | zero =>
      intro i s h1 h2 hi
      obtain rfl : i = l.length := by omega
      rw [List.drop_length]; exact h0 s hi
    | succ n ih =>
      intro i s h1 h2 hi
      have hlt : i < l.length := by omega
      rw [List.drop_eq_getElem_cons hlt]
      exact hs i s hlt hi (fun s' hi' => ih (i + 1) s' (by omega) (by omega) hi')
  intro i s h hi
  exact key _ i s rfl h hi
theorem loop_all {α σ ρ : Type} (l : List α) (F : Nat → σ → ρ) (G : σ → List α → ρ) (h0 : ∀ s, F l.length s = G s [])
    (hs : ∀ i s (h : i < l.length), (∀ s', F (i + 1) s' = G s' (l.drop (i + 1))) → F i s = G s (l[i] :: l.drop (i + 1))) (s : σ) : F 0 s = G s l := by
  have := loop_inv l (fun _ _ => True) F G (fun s _ => h0 s) (fun i s h _ ih => hs i s h (fun s' => ih s' trivial)) 0 s (Nat.zero_le _) trivial
  rwa [List.drop_zero] at this
theorem dlt {a b : Int} (h : a < b) : (decide (a < b)) = true := decide_eq_true h
theorem dge {a b : Int} (h : ¬ a < b) : ¬ (decide (a < b)) = true := by simpa using h

/- Sets. -/
def bitI (n : Int) : Set64 := if 0 ≤ n ∧ n < 64 then 1#64 <<< n.toNat else 0#64
def hasI (s : Set64) (n : Int) : Bool := decide (0 ≤ n ∧ n < 64) && s.getLsbD n.toNat
def ofL (l : List Int) : Set64 := l.foldl (fun s n => s ||| bitI n) 0#64
theorem bitI_lsb (n : Int) (i : Nat) : (bitI n).getLsbD i = (decide (i < 64) && decide (n = (i : Int))) := by
  unfold bitI
  split
  · rename_i h
    obtain ⟨k, rfl⟩ : ∃ k : Nat, n = k := ⟨n.toNat, by omega⟩
    rw [Int.toNat_natCast]
    have : (1#64 <<< k) = BitVec.twoPow 64 k := rfl
    rw [this, BitVec.getLsbD_twoPow]
    rw [Bool.eq_iff_iff]
    simp only [Bool.and_eq_true, decide_eq_true_eq]
    omega
  · rename_i h
    rw [BitVec.getLsbD_zero]
    by_cases h1 : i < 64
    · have : n ≠ (i : Int) := by omega
      simp [this]
    · simp [h1]
theorem sets_one_eq (n : Int) : M_sets_one n = some (bitI n) := by
  unfold M_sets_one bitI
  by_cases h1 : n < 0
  · rw [if_pos (by simpa using h1), if_neg (by omega)]
  · rw [if_neg (by simpa using h1)]
    by_cases h2 : n ≥ 64
    · rw [if_pos (by simpa using h2), if_neg (by omega)]
    · rw [if_neg (by simpa using h2), if_pos (by omega)]
      congr 2
      rw [BitVec.toNat_ofInt]; omega
theorem sets_Has_eq (s : Set64) (n : Int) : M_sets_Has (s, n) = some (hasI s n) := by
  unfold hasI
  by_cases h : 0 ≤ n ∧ n < 64
  · obtain ⟨k, rfl⟩ : ∃ k : Nat, n = k := ⟨n.toNat, by omega⟩
    rw [has_bit s k (by omega)]
    simp; omega
  · unfold M_sets_Has
    rw [sets_one_eq]
    simp only [Option.bind_eq_bind, Option.bind_some, bitI, if_neg h, h, decide_false, Bool.false_and]
    simp
theorem foldl_or (l : List Int) (s : Set64) : l.foldl (fun s n => s ||| bitI n) s = s ||| ofL l := by
  unfold ofL
  have : ∀ (l : List Int) (s : Set64), l.foldl (fun s n => s ||| bitI n) s = s ||| l.foldl (fun s n => s ||| bitI n) 0#64 := by
    intro l
    induction l with
    | nil => intro s; simp
    | cons x l ih =>
      intro s
      simp only [List.foldl_cons]
      rw [ih (s ||| bitI x), ih (0#64 ||| bitI x), BitVec.zero_or, BitVec.or_assoc]
  exact this l s
theorem ofL_cons (x : Int) (l : List Int) : ofL (x :: l) = bitI x ||| ofL l := by
  unfold ofL
  simp only [List.foldl_cons]
  rw [foldl_or, BitVec.zero_or]; rfl
theorem ofL_nil : ofL [] = 0#64 := rfl
theorem ofL_lsb (l : List Int) (i : Nat) (h : i < 64) : (ofL l).getLsbD i = l.any fun n => decide (n = (i : Int)) := by
  induction l with
  | nil => simp [ofL_nil]
  | cons x l ih => rw [ofL_cons, BitVec.getLsbD_or, ih, bitI_lsb, List.any_cons]; simp [h]
theorem sets_Of_eq (l : List Int) (hl : l.length < 9223372036854775808) : M_sets_Of l = some (ofL l) := by
  have key := loop_all l (fun i (s : Set64) => M_sets_Of.l0 (s, l, (l.length : Int), (i : Int))) (fun s l => some (l.foldl (fun s n => s ||| bitI n) s)) (fun s => by
      show M_sets_Of.l0 _ = _
      rw [M_sets_Of.l0, if_neg (dge (by dsimp only; omega))]; rfl)
    (fun i s h ih => by
      show M_sets_Of.l0 _ = _
      rw [M_sets_Of.l0, if_pos (dlt (by dsimp only; omega))]
      dsimp only
      rw [getI_nat h]
      simp only [Option.bind_eq_bind, Option.bind_some, sets_one_eq]
      rw [w64_succ (by omega)]
      exact ih (s ||| bitI l[i])) 0#64
  unfold M_sets_Of
  have key' : M_sets_Of.l0 (0#64, l, (l.length : Int), 0) = some (ofL l) := key
  rw [key']; rfl

theorem power_eq (n : Nat) (h : n < 64) : M_ref01_power (n : Int) = some (BitVec.twoPow 64 n) := by
  have key : ∀ k i, n - i = k → i ≤ n → M_ref01_power.l0 ((n : Int), BitVec.twoPow 64 i, (i : Int)) = some (BitVec.twoPow 64 n) := by
    intro k
    induction k with
    | zero =>
      intro i h1 h2
      obtain rfl : i = n := by omega
      rw [M_ref01_power.l0, if_neg (dge (by dsimp only; omega))]
    | succ k ih =>
      intro i h1 h2
      rw [M_ref01_power.l0, if_pos (dlt (by dsimp only; omega))]
      dsimp only
      rw [w64_succ (by omega)]
      have : BitVec.twoPow 64 i * 2#64 = BitVec.twoPow 64 (i + 1) := by
        apply BitVec.eq_of_toNat_eq
        rw [BitVec.toNat_mul, BitVec.toNat_twoPow, BitVec.toNat_twoPow]
        simp only [BitVec.toNat_ofNat]
        rw [Nat.pow_succ]
        omega
      rw [this]
      exact ih (i + 1) (by omega) (by omega)
  unfold M_ref01_power
  have := key n 0 (by omega) (by omega)
  rw [show BitVec.twoPow 64 0 = 1#64 from rfl] at this
  rw [show ((0 : Nat) : Int) = 0 from rfl] at this
  rw [this]; rfl
theorem ref01_Has_eq (s : Set64) (n : Int) : M_ref01_Has (s, n) = some (hasI s n) := by
  unfold M_ref01_Has hasI
  dsimp only
  by_cases h1 : n ≥ 0
  · rw [if_pos (by simpa using h1)]
    by_cases h2 : n < 64
    · rw [if_pos (by simpa using h2)]
      obtain ⟨k, rfl⟩ : ∃ k : Nat, n = k := ⟨n.toNat, by omega⟩
      rw [power_eq k (by omega)]
      simp only [Option.bind_eq_bind, Option.bind_some, Int.toNat_natCast]
      have hk : k < 64 := by omega
      have h0 : BitVec.twoPow 64 k ≠ 0#64 := by
        intro e
        have := congrArg (fun x => x.getLsbD k) e
        simp [BitVec.getLsbD_twoPow, hk] at this
      rw [if_neg h0]
      congr 1
      have h3 : (0 ≤ (k : Int) ∧ (k : Int) < 64) := by omega
      simp only [h3, decide_true, Bool.true_and]
      rw [Bool.eq_iff_iff, beq_iff_eq, ← BitVec.toNat_inj, BitVec.toNat_umod, BitVec.toNat_udiv, BitVec.toNat_twoPow]
      have e : (2 ^ k % 2 ^ 64) = 2 ^ k := Nat.mod_eq_of_lt (Nat.pow_lt_pow_right (by omega) hk)
      rw [e]
      simp only [BitVec.toNat_ofNat]
      show s.toNat / 2 ^ k % 2 = 1 ↔ s.toNat.testBit k = true
      rw [Nat.testBit_eq_decide_div_mod_eq]
      simp
    · rw [if_neg (by simpa using h2)]
      simp only [h2, and_false, decide_false, Bool.false_and]
  · rw [if_neg (by simpa using h1)]
    have : ¬ (0 ≤ n ∧ n < 64) := by omega
    simp only [this, decide_false, Bool.false_and]
theorem hasI_nat (s : Set64) (k : Nat) (h : k < 64) : hasI s (k : Int) = s.getLsbD k := by
  unfold hasI
  have : (0 ≤ (k : Int) ∧ (k : Int) < 64) := by omega
  rw [decide_eq_true this, Bool.true_and, Int.toNat_natCast]
/-- The members below a place. -/
def upTo (f : Nat → Bool) : Nat → Set64
  | 0 => 0#64
  | i + 1 => if f i = true then upTo f i + BitVec.twoPow 64 i else upTo f i
theorem upTo_lsb (f : Nat → Bool) : ∀ (n : Nat), n ≤ 64 → ∀ j, (upTo f n).getLsbD j = (decide (j < n) && f j) := by
  intro n
  induction n with
  | zero => intro _ j; simp [upTo]
  | succ n ih =>
    intro hn j
    have ih := ih (by omega)
    simp only [upTo]
    split
    · rename_i hf
      have h0 : upTo f n &&& BitVec.twoPow 64 n = 0#64 := by
        apply BitVec.eq_of_getLsbD_eq
        intro k hk
        rw [BitVec.getLsbD_and, ih, BitVec.getLsbD_twoPow, BitVec.getLsbD_zero]
        by_cases e : n = k
        · subst e; simp
        · simp [e]
      rw [BitVec.add_eq_or_of_and_eq_zero _ _ h0, BitVec.getLsbD_or, ih, BitVec.getLsbD_twoPow]
      rw [Bool.eq_iff_iff]
      simp only [Bool.or_eq_true, Bool.and_eq_true, decide_eq_true_eq]
      constructor
      · rintro (⟨h1, h2⟩ | ⟨h1, h2⟩)
        · exact ⟨by omega, h2⟩
        · exact ⟨by omega, h2 ▸ hf⟩
      · rintro ⟨h1, h2⟩
        by_cases e : j = n
        · exact .inr ⟨by omega, e.symm⟩
        · exact .inl ⟨by omega, h2⟩
    · rename_i hf
      rw [ih]
      rw [Bool.eq_iff_iff]
      simp only [Bool.and_eq_true, decide_eq_true_eq]
      constructor
      · rintro ⟨h1, h2⟩; exact ⟨by omega, h2⟩
      · rintro ⟨h1, h2⟩
        refine ⟨?_, h2⟩
        rcases Nat.lt_or_ge j n with h3 | h3
        · exact h3
        · obtain rfl : j = n := by omega
          exact absurd h2 hf
theorem ref01_Of_eq (l : List Int) (hl : l.length < 9223372036854775808) : M_ref01_Of l = some (ofL l) := by
  have inner : ∀ (i : Nat), i < 64 → ∀ s, M_ref01_Of.l1 (l, s, (i : Int), 0) = some (if (l.any fun n => decide (n = (i : Int))) = true then s + BitVec.twoPow 64 i else s) := by
    intro i hi s
    exact loop_all l (fun k (s : Set64) => M_ref01_Of.l1 (l, s, (i : Int), (k : Int))) (fun s l => some (if (l.any fun n => decide (n = (i : Int))) = true then s + BitVec.twoPow 64 i else s)) (fun s => by
      show M_ref01_Of.l1 _ = _
      rw [M_ref01_Of.l1, if_neg (dge (by dsimp only; omega))]; simp)
      (fun k s h ih => by
      show M_ref01_Of.l1 _ = _
      rw [M_ref01_Of.l1, if_pos (dlt (by dsimp only; omega))]
      dsimp only
      rw [getI_nat h]
      simp only [Option.bind_eq_bind, Option.bind_some]
      by_cases e : l[k] = (i : Int)
      · rw [if_pos (by simpa using e), power_eq i hi]
        simp [e]
      · rw [if_neg (by simpa using e), w64_succ (by omega)]
        rw [ih s, List.any_cons, decide_eq_false e, Bool.false_or]) s
  have outer : ∀ k i, 64 - i = k → i ≤ 64 → M_ref01_Of.l0 (l, upTo (fun j => l.any fun n => decide (n = (j : Int))) i, (i : Int)) = some (upTo (fun j => l.any fun n => decide (n = (j : Int))) 64) := by
    intro k
    induction k with
    | zero =>
      intro i h1 h2
      obtain rfl : i = 64 := by omega
      rw [M_ref01_Of.l0, if_neg (dge (by dsimp only; omega))]
    | succ k ih =>
      intro i h1 h2
      rw [M_ref01_Of.l0, if_pos (dlt (by dsimp only; omega))]
      dsimp only
      rw [inner i (by omega)]
      simp only [Option.bind_eq_bind, Option.bind_some]
      rw [w64_succ (by omega)]
      have := ih (i + 1) (by omega) (by omega)
      simp only [upTo] at this
      exact this
  unfold M_ref01_Of
  have h := outer 64 0 (by omega) (by omega)
  rw [show ((0 : Nat) : Int) = 0 from rfl, show upTo (fun j => l.any fun n => decide (n = (j : Int))) 0 = 0#64 from rfl] at h
  rw [h]
  simp only [Option.bind_eq_bind, Option.bind_some]
  congr 1
  apply BitVec.eq_of_getLsbD_eq
  intro j hj
  rw [upTo_lsb _ 64 (by omega), ofL_lsb l j hj]
  simp [hj]
def inS (a b : Set64) : Bool := (a &&& ~~~b) == 0#64
theorem inS_iff (a b : Set64) : inS a b = true ↔ ∀ j, j < 64 → a.getLsbD j = true → b.getLsbD j = true := by
  unfold inS
  rw [beq_iff_eq]
  constructor
  · intro h j hj ha
    have := congrArg (fun x => x.getLsbD j) h
    simp only [BitVec.getLsbD_and, BitVec.getLsbD_not, hj, decide_true, Bool.true_and, BitVec.getLsbD_zero, ha] at this
    simpa using this
  · intro h
    apply BitVec.eq_of_getLsbD_eq
    intro j hj
    simp only [BitVec.getLsbD_and, BitVec.getLsbD_not, hj, decide_true, Bool.true_and, BitVec.getLsbD_zero]
    cases ha : a.getLsbD j with
    | false => simp
    | true => rw [h j hj ha]; simp
theorem ref01_In_eq (a b : Set64) : M_ref01_In (a, b) = some (inS a b) := by
  have key : ∀ (k i : Nat), 64 - i = k → i ≤ 64 → M_ref01_In.l0 (a, b, (i : Int)) = some (if (∀ j : Nat, j < 64 → i ≤ j → a.getLsbD j = true → b.getLsbD j = true) then .brk () else .ret false) := by
    intro k
    induction k with
    | zero =>
      intro i h1 h2
      obtain rfl : i = 64 := by omega
      rw [M_ref01_In.l0, if_neg (dge (by dsimp only; omega)), if_pos (fun j h3 h4 => by omega)]
    | succ k ih =>
      intro i h1 h2
      have hi : i < 64 := by omega
      rw [M_ref01_In.l0, if_pos (dlt (by dsimp only; omega))]
      dsimp only
      rw [ref01_Has_eq, ref01_Has_eq, hasI_nat _ _ hi, hasI_nat _ _ hi, w64_succ (by omega)]
      simp only [Option.bind_eq_bind, Option.bind_some]
      rw [ih (i + 1) (by omega) (by omega)]
      have split : (∀ j, j < 64 → i ≤ j → a.getLsbD j = true → b.getLsbD j = true) ↔ (a.getLsbD i = true → b.getLsbD i = true) ∧ ∀ j, j < 64 → i + 1 ≤ j → a.getLsbD j = true → b.getLsbD j = true := by
        constructor
        · intro h; exact ⟨h i hi (Nat.le_refl _), fun j h3 h4 => h j h3 (by omega)⟩
        · rintro ⟨h, h'⟩ j h3 h4 h5
          by_cases e : j = i
          · subst e; exact h h5
          · exact h' j h3 (by omega) h5
      cases ha : a.getLsbD i with
      | false =>
        rw [if_neg (by simp)]
        congr 1
        simp only [split, ha]
        simp
      | true =>
        rw [if_pos rfl]
        cases hb : b.getLsbD i with
        | false =>
          rw [if_neg (by simp), if_neg (by rw [split, ha, hb]; simp)]
        | true =>
          rw [if_pos rfl]
          congr 1
          simp only [split, ha, hb]
          simp
  unfold M_ref01_In
  have h := key 64 0 (by omega) (by omega)
  rw [show ((0 : Nat) : Int) = 0 from rfl] at h
  dsimp only
  rw [h]
  by_cases hi : inS a b = true
  · rw [if_pos (fun j h1 _ h2 => (inS_iff a b).1 hi j h1 h2), hi]; rfl
  · rw [if_neg (fun hh => hi ((inS_iff a b).2 fun j h1 h2 => hh j h1 (Nat.zero_le _) h2))]
    simp only [Bool.not_eq_true] at hi
    rw [hi]; rfl
end Go.Proofs.Ytcfekacmmfdggaa.G
set_option linter.unusedVariables false
set_option linter.unusedSimpArgs false
set_option maxRecDepth 100000
namespace Go.Proofs.Ytcfekacmmfdggaa.G
theorem lok_86 : (Try.f86.body.isSome && !(Try.f86.name == "runtime.NumGoroutine") && okL (bodyF Try.f86) Try.f86.ntmps (bodyF Try.f86)) = true := by kernel_rfl
def M_sat_plus (x : Set64 × Set64) : Option (Set64) :=
  if (decide (x.1 > (18446744073709551615#64 - x.2))) = true then
    some (18446744073709551615#64)
  else
    some (x.1 + x.2)
set_option maxHeartbeats 8000000 in
theorem M_sat_plus.w : ∀ (x : Set64 × Set64) (r : Set64), M_sat_plus x = some r → (fun (x : Set64 × Set64) (r : Set64) => Fn Try.prog 86 [.w x.1, .w x.2] (.w r)) x r := by
  intro x r h
  rw [M_sat_plus] at h
  try dsimp only
  refine Fn.of_lc mix fn_86 lok_86 (by rfl) (flC (.atom _) (flC (.atom _) (flN))) (.atom _) ?_
  simp -implicitDefEqProofs only [go_sem, Try.f86]
  by_cases h1 : (decide (x.1 > (18446744073709551615#64 - x.2))) = true
  · replace h := ite_some h h1
    try simp -implicitDefEqProofs only [go_sem, h1]
    injection h with h; subst h
    first | rfl | simp -implicitDefEqProofs only [go_sem, h1] <;> rfl
  · replace h := ite_none h h1; replace h1 := bfalse h1
    try simp -implicitDefEqProofs only [go_sem, h1]
    injection h with h; subst h
    first | rfl | simp -implicitDefEqProofs only [go_sem, h1] <;> rfl
end Go.Proofs.Ytcfekacmmfdggaa.G
set_option linter.unusedVariables false
set_option linter.unusedSimpArgs false
set_option maxRecDepth 100000
namespace Go.Proofs.Ytcfekacmmfdggaa.G
theorem lok_85 : (Try.f85.body.isSome && !(Try.f85.name == "runtime.NumGoroutine") && okL (bodyF Try.f85) Try.f85.ntmps (bodyF Try.f85)) = true := by kernel_rfl
theorem lok_47 : (Try.f47.body.isSome && !(Try.f47.name == "runtime.NumGoroutine") && okL (bodyF Try.f47) Try.f47.ntmps (bodyF Try.f47)) = true := by kernel_rfl
def M_sat_fold_uint64__sat_plus.l0 (x : List Set64 × Set64 × Int × Int) : Option (Set64) :=
  if (decide (x.2.2.2 < x.2.2.1)) = true then
    (getI x.1 x.2.2.2) >>= fun (e2 : Set64) =>
    M_sat_plus (x.2.1, e2) >>= fun r4 =>
    M_sat_fold_uint64__sat_plus.l0 (x.1, r4, x.2.2.1, (w64 (x.2.2.2 + 1)))
  else
    some x.2.1
  partial_fixpoint
theorem M_sat_fold_uint64__sat_plus.l0.ws : (∀ (x : List Set64 × Set64 × Int × Int) (o : Set64), M_sat_fold_uint64__sat_plus.l0 x = some o → (fun (x : List Set64 × Set64 × Int × Int) (o : Set64) => ∀ (lo : Option Nat) (c : LCtx) (Q : Exit → LEnv → Prop) (hb : ∀ s : Set64, o = s → Q (.exit 0) ⟨[(1, .v (.w s))], []⟩), LLoop Try.prog 85 lo c 0 (VQ Q) ⟨[(0, .v (.slice .foreign (x.1.map AV.w))), (1, .v (.w x.2.1)), (2, .v (.func 86 [] [])), (9, .v (.i64 x.2.2.1)), (10, .v (.i64 x.2.2.2))], []⟩) x o) := by
  refine M_sat_fold_uint64__sat_plus.l0.partial_correctness _ ?_
  · intro M_M_sat_fold_uint64__sat_plus_l0 ih_M_sat_fold_uint64__sat_plus_l0 x o h
    intro lo c Q hb
    refine LLoop.step mix fn_85 (by kernel_rfl) ?_
    simp -implicitDefEqProofs only [go_sem, Try.f85]
    by_cases h1 : (decide (x.2.2.2 < x.2.2.1)) = true
    · replace h := ite_some h h1
      try simp -implicitDefEqProofs only [go_sem, h1]
      obtain ⟨e2, h3, h⟩ := bind_some' h; replace h3 := getI_some h3; obtain ⟨h3', h3⟩ := h3
      try simp -implicitDefEqProofs only [go_sem, h1, h3, h3']
      obtain ⟨r4, h5, h⟩ := bind_some' h
      refine .plain _ _ rfl (M_sat_plus.w (x.2.1, e2) _ h5) ?_
      try simp -implicitDefEqProofs only [go_sem, h1, h3, h3']
      exact LLoop.view [] (by (first | rfl | simp -implicitDefEqProofs only [go_sem, h1, h3, h3'] <;> rfl)) (ih_M_sat_fold_uint64__sat_plus_l0 _ _ h lo c Q hb)
    · replace h := ite_none h h1; replace h1 := bfalse h1
      try simp -implicitDefEqProofs only [go_sem, h1]
      injection h with h; subst h
      exact .inr ⟨[], _, by (simp -implicitDefEqProofs only [go_sem, h1] <;> first | done | rfl | trivial), hb _ rfl⟩
theorem M_sat_fold_uint64__sat_plus.l0.w : type_of% @M_sat_fold_uint64__sat_plus.l0.ws := @M_sat_fold_uint64__sat_plus.l0.ws
def M_sat_fold_uint64__sat_plus (x : List Set64 × Set64) : Option (Set64) :=
  M_sat_fold_uint64__sat_plus.l0 (x.1, x.2, (x.1.length : Int), 0) >>= fun (o6 : Set64) =>
  some o6
set_option maxHeartbeats 8000000 in
theorem M_sat_fold_uint64__sat_plus.w : ∀ (x : List Set64 × Set64) (r : Set64), M_sat_fold_uint64__sat_plus x = some r → (fun (x : List Set64 × Set64) (r : Set64) => Fn Try.prog 85 [.slice .foreign (x.1.map AV.w), .w x.2, .func 86 [] []] (.w r)) x r := by
  intro x r h
  rw [M_sat_fold_uint64__sat_plus] at h
  try dsimp only
  refine Fn.of_lc mix fn_85 lok_85 (by rfl) (flC (flat_slice _ (fun _ => .atom _) _) (flC (.atom _) (flC (.func _ _ _ (flN) (flN)) (flN)))) (.atom _) ?_
  simp -implicitDefEqProofs only [go_sem, Try.f85]
  obtain ⟨o6, h7, h⟩ := bind_some' h
  refine LLoop.viewQ (LLoop.view [] (by (first | rfl | simp -implicitDefEqProofs only [go_sem] <;> rfl)) (M_sat_fold_uint64__sat_plus.l0.w (x.1, x.2, (x.1.length : Int), 0) _ h7 _ _ _ ?_))
  intro s' hs'; subst hs'
  try simp -implicitDefEqProofs only [go_sem]
  injection h with h; subst h
  first | rfl | simp -implicitDefEqProofs only [go_sem] <;> rfl
def M_sat_Add (x : List Set64) : Option (Set64) :=
  M_sat_fold_uint64__sat_plus (x, 0#64) >>= fun r1 =>
  some r1
set_option maxHeartbeats 8000000 in
theorem M_sat_Add.w : ∀ (x : List Set64) (r : Set64), M_sat_Add x = some r → (fun (x : List Set64) (r : Set64) => Fn Try.prog 47 [.slice .foreign (x.map AV.w)] (.w r)) x r := by
  intro x r h
  rw [M_sat_Add] at h
  try dsimp only
  refine Fn.of_lc mix fn_47 lok_47 (by rfl) (flC (flat_slice _ (fun _ => .atom _) _) (flN)) (.atom _) ?_
  simp -implicitDefEqProofs only [go_sem, Try.f47]
  obtain ⟨r1, h2, h⟩ := bind_some' h
  refine .plain _ _ rfl (M_sat_fold_uint64__sat_plus.w (x, 0#64) _ h2) ?_
  try simp -implicitDefEqProofs only [go_sem]
  injection h with h; subst h
  first | rfl | simp -implicitDefEqProofs only [go_sem] <;> rfl
end Go.Proofs.Ytcfekacmmfdggaa.G
set_option linter.unusedVariables false
set_option linter.unusedSimpArgs false
set_option maxRecDepth 100000
namespace Go.Proofs.Ytcfekacmmfdggaa.G
theorem lok_87 : (Try.f87.body.isSome && !(Try.f87.name == "runtime.NumGoroutine") && okL (bodyF Try.f87) Try.f87.ntmps (bodyF Try.f87)) = true := by kernel_rfl
def M_sat_wide (x : Set64 × Set64) : Option (Set64 × Set64) :=
  some (((((x.1 >>> (32#64).toNat) * (x.2 >>> (32#64).toNat)) + ((((x.1 >>> (32#64).toNat) * (x.2 &&& 4294967295#64)) + (((x.1 &&& 4294967295#64) * (x.2 &&& 4294967295#64)) >>> (32#64).toNat)) >>> (32#64).toNat)) + ((((((x.1 >>> (32#64).toNat) * (x.2 &&& 4294967295#64)) + (((x.1 &&& 4294967295#64) * (x.2 &&& 4294967295#64)) >>> (32#64).toNat)) &&& 4294967295#64) + ((x.1 &&& 4294967295#64) * (x.2 >>> (32#64).toNat))) >>> (32#64).toNat)), (x.1 * x.2))
set_option maxHeartbeats 8000000 in
theorem M_sat_wide.w : ∀ (x : Set64 × Set64) (r : Set64 × Set64), M_sat_wide x = some r → (fun (x : Set64 × Set64) (r : Set64 × Set64) => Fn Try.prog 87 [.w x.1, .w x.2] (.tuple [.w r.1, .w r.2])) x r := by
  intro x r h
  rw [M_sat_wide] at h
  try dsimp only
  refine Fn.of_lc mix fn_87 lok_87 (by rfl) (flC (.atom _) (flC (.atom _) (flN))) (.tuple _ (flC (.atom _) (flC (.atom _) (flN)))) ?_
  simp -implicitDefEqProofs only [go_sem, Try.f87]
  injection h with h; subst h
  first | rfl | simp -implicitDefEqProofs only [go_sem] <;> rfl
end Go.Proofs.Ytcfekacmmfdggaa.G
set_option linter.unusedVariables false
set_option linter.unusedSimpArgs false
set_option maxRecDepth 100000
namespace Go.Proofs.Ytcfekacmmfdggaa.G
theorem lok_48 : (Try.f48.body.isSome && !(Try.f48.name == "runtime.NumGoroutine") && okL (bodyF Try.f48) Try.f48.ntmps (bodyF Try.f48)) = true := by kernel_rfl
def M_sat_Mul (x : Set64 × Set64) : Option (Set64) :=
  M_sat_wide (x.1, x.2) >>= fun r1 =>
  if (decide (r1.1 > 0#64)) = true then
    some (18446744073709551615#64)
  else
    some r1.2
set_option maxHeartbeats 8000000 in
theorem M_sat_Mul.w : ∀ (x : Set64 × Set64) (r : Set64), M_sat_Mul x = some r → (fun (x : Set64 × Set64) (r : Set64) => Fn Try.prog 48 [.w x.1, .w x.2] (.w r)) x r := by
  intro x r h
  rw [M_sat_Mul] at h
  try dsimp only
  refine Fn.of_lc mix fn_48 lok_48 (by rfl) (flC (.atom _) (flC (.atom _) (flN))) (.atom _) ?_
  simp -implicitDefEqProofs only [go_sem, Try.f48]
  obtain ⟨r1, h2, h⟩ := bind_some' h
  refine .plain _ _ rfl (M_sat_wide.w (x.1, x.2) _ h2) ?_
  try simp -implicitDefEqProofs only [go_sem]
  by_cases h3 : (decide (r1.1 > 0#64)) = true
  · replace h := ite_some h h3
    try simp -implicitDefEqProofs only [go_sem, h3]
    injection h with h; subst h
    first | rfl | simp -implicitDefEqProofs only [go_sem, h3] <;> rfl
  · replace h := ite_none h h3; replace h3 := bfalse h3
    try simp -implicitDefEqProofs only [go_sem, h3]
    injection h with h; subst h
    first | rfl | simp -implicitDefEqProofs only [go_sem, h3] <;> rfl
end Go.Proofs.Ytcfekacmmfdggaa.G
set_option linter.unusedVariables false
set_option linter.unusedSimpArgs false
set_option maxRecDepth 100000
namespace Go.Proofs.Ytcfekacmmfdggaa.G
theorem lok_129 : (Try.f129.body.isSome && !(Try.f129.name == "runtime.NumGoroutine") && okL (bodyF Try.f129) Try.f129.ntmps (bodyF Try.f129)) = true := by kernel_rfl
def M_sat_Share (x : Set64 × Set64) : Option (Set64) :=
  M_sat_wide (x.1, x.2) >>= fun r1 =>
  if (decide (r1.1 ≥ 65536#64)) = true then
    some (18446744073709551615#64)
  else
    some ((r1.1 <<< (48#64).toNat) ||| (r1.2 >>> (16#64).toNat))
set_option maxHeartbeats 8000000 in
theorem M_sat_Share.w : ∀ (x : Set64 × Set64) (r : Set64), M_sat_Share x = some r → (fun (x : Set64 × Set64) (r : Set64) => Fn Try.prog 129 [.w x.1, .w x.2] (.w r)) x r := by
  intro x r h
  rw [M_sat_Share] at h
  try dsimp only
  refine Fn.of_lc mix fn_129 lok_129 (by rfl) (flC (.atom _) (flC (.atom _) (flN))) (.atom _) ?_
  simp -implicitDefEqProofs only [go_sem, Try.f129]
  obtain ⟨r1, h2, h⟩ := bind_some' h
  refine .plain _ _ rfl (M_sat_wide.w (x.1, x.2) _ h2) ?_
  try simp -implicitDefEqProofs only [go_sem]
  by_cases h3 : (decide (r1.1 ≥ 65536#64)) = true
  · replace h := ite_some h h3
    try simp -implicitDefEqProofs only [go_sem, h3]
    injection h with h; subst h
    first | rfl | simp -implicitDefEqProofs only [go_sem, h3] <;> rfl
  · replace h := ite_none h h3; replace h3 := bfalse h3
    try simp -implicitDefEqProofs only [go_sem, h3]
    injection h with h; subst h
    first | rfl | simp -implicitDefEqProofs only [go_sem, h3] <;> rfl
end Go.Proofs.Ytcfekacmmfdggaa.G
set_option linter.unusedVariables false
set_option linter.unusedSimpArgs false
set_option maxRecDepth 100000
namespace Go.Proofs.Ytcfekacmmfdggaa.G
theorem lok_50 : (Try.f50.body.isSome && !(Try.f50.name == "runtime.NumGoroutine") && okL (bodyF Try.f50) Try.f50.ntmps (bodyF Try.f50)) = true := by kernel_rfl
def M_ref02_Add (x : Set64 × Set64) : Option (Set64) :=
  if (decide (x.2 > (18446744073709551615#64 - x.1))) = true then
    some (18446744073709551615#64)
  else
    some (x.1 + x.2)
set_option maxHeartbeats 8000000 in
theorem M_ref02_Add.w : ∀ (x : Set64 × Set64) (r : Set64), M_ref02_Add x = some r → (fun (x : Set64 × Set64) (r : Set64) => Fn Try.prog 50 [.w x.1, .w x.2] (.w r)) x r := by
  intro x r h
  rw [M_ref02_Add] at h
  try dsimp only
  refine Fn.of_lc mix fn_50 lok_50 (by rfl) (flC (.atom _) (flC (.atom _) (flN))) (.atom _) ?_
  simp -implicitDefEqProofs only [go_sem, Try.f50]
  by_cases h1 : (decide (x.2 > (18446744073709551615#64 - x.1))) = true
  · replace h := ite_some h h1
    try simp -implicitDefEqProofs only [go_sem, h1]
    injection h with h; subst h
    first | rfl | simp -implicitDefEqProofs only [go_sem, h1] <;> rfl
  · replace h := ite_none h h1; replace h1 := bfalse h1
    try simp -implicitDefEqProofs only [go_sem, h1]
    injection h with h; subst h
    first | rfl | simp -implicitDefEqProofs only [go_sem, h1] <;> rfl
end Go.Proofs.Ytcfekacmmfdggaa.G
set_option linter.unusedVariables false
set_option linter.unusedSimpArgs false
set_option maxRecDepth 100000
namespace Go.Proofs.Ytcfekacmmfdggaa.G
theorem lok_51 : (Try.f51.body.isSome && !(Try.f51.name == "runtime.NumGoroutine") && okL (bodyF Try.f51) Try.f51.ntmps (bodyF Try.f51)) = true := by kernel_rfl
def M_ref02_Mul (x : Set64 × Set64) : Option (Set64) :=
  if (x.1 != 0#64) = true then
    if x.1 = 0#64 then none else
    if (decide (x.2 > (18446744073709551615#64 / x.1))) = true then
      some (18446744073709551615#64)
    else
      some (x.1 * x.2)
  else
    some (x.1 * x.2)
set_option maxHeartbeats 8000000 in
theorem M_ref02_Mul.w : ∀ (x : Set64 × Set64) (r : Set64), M_ref02_Mul x = some r → (fun (x : Set64 × Set64) (r : Set64) => Fn Try.prog 51 [.w x.1, .w x.2] (.w r)) x r := by
  intro x r h
  rw [M_ref02_Mul] at h
  try dsimp only
  refine Fn.of_lc mix fn_51 lok_51 (by rfl) (flC (.atom _) (flC (.atom _) (flN))) (.atom _) ?_
  simp -implicitDefEqProofs only [go_sem, Try.f51]
  by_cases h1 : (x.1 != 0#64) = true
  · replace h := ite_some h h1
    try simp -implicitDefEqProofs only [go_sem, h1]
    obtain ⟨h2, h⟩ := nz_some h
    try simp -implicitDefEqProofs only [go_sem, h1, h2]
    by_cases h3 : (decide (x.2 > (18446744073709551615#64 / x.1))) = true
    · replace h := ite_some h h3
      try simp -implicitDefEqProofs only [go_sem, h1, h2, h3]
      injection h with h; subst h
      first | rfl | simp -implicitDefEqProofs only [go_sem, h1, h2, h3] <;> rfl
    · replace h := ite_none h h3; replace h3 := bfalse h3
      try simp -implicitDefEqProofs only [go_sem, h1, h2, h3]
      injection h with h; subst h
      first | rfl | simp -implicitDefEqProofs only [go_sem, h1, h2, h3] <;> rfl
  · replace h := ite_none h h1; replace h1 := bfalse h1
    try simp -implicitDefEqProofs only [go_sem, h1]
    injection h with h; subst h
    first | rfl | simp -implicitDefEqProofs only [go_sem, h1] <;> rfl
end Go.Proofs.Ytcfekacmmfdggaa.G
set_option linter.unusedVariables false
set_option linter.unusedSimpArgs false
set_option maxRecDepth 100000
namespace Go.Proofs.Ytcfekacmmfdggaa.G
theorem lok_130 : (Try.f130.body.isSome && !(Try.f130.name == "runtime.NumGoroutine") && okL (bodyF Try.f130) Try.f130.ntmps (bodyF Try.f130)) = true := by kernel_rfl
def M_ref02_Share (x : Set64 × Set64) : Option (Set64) :=
  M_ref02_Mul ((x.1 / 65536#64), x.2) >>= fun r1 =>
  M_ref02_Mul ((x.1 % 65536#64), (x.2 / 65536#64)) >>= fun r3 =>
  M_ref02_Add (r3, (((x.1 % 65536#64) * (x.2 % 65536#64)) / 65536#64)) >>= fun r5 =>
  M_ref02_Add (r1, r5) >>= fun r7 =>
  some r7
set_option maxHeartbeats 8000000 in
theorem M_ref02_Share.w : ∀ (x : Set64 × Set64) (r : Set64), M_ref02_Share x = some r → (fun (x : Set64 × Set64) (r : Set64) => Fn Try.prog 130 [.w x.1, .w x.2] (.w r)) x r := by
  intro x r h
  rw [M_ref02_Share] at h
  try dsimp only
  refine Fn.of_lc mix fn_130 lok_130 (by rfl) (flC (.atom _) (flC (.atom _) (flN))) (.atom _) ?_
  simp -implicitDefEqProofs only [go_sem, Try.f130]
  obtain ⟨r1, h2, h⟩ := bind_some' h
  refine .plain _ _ rfl (M_ref02_Mul.w ((x.1 / 65536#64), x.2) _ h2) ?_
  try simp -implicitDefEqProofs only [go_sem]
  obtain ⟨r3, h4, h⟩ := bind_some' h
  refine .plain _ _ rfl (M_ref02_Mul.w ((x.1 % 65536#64), (x.2 / 65536#64)) _ h4) ?_
  try simp -implicitDefEqProofs only [go_sem]
  obtain ⟨r5, h6, h⟩ := bind_some' h
  refine .plain _ _ rfl (M_ref02_Add.w (r3, (((x.1 % 65536#64) * (x.2 % 65536#64)) / 65536#64)) _ h6) ?_
  try simp -implicitDefEqProofs only [go_sem]
  obtain ⟨r7, h8, h⟩ := bind_some' h
  refine .plain _ _ rfl (M_ref02_Add.w (r1, r5) _ h8) ?_
  try simp -implicitDefEqProofs only [go_sem]
  injection h with h; subst h
  first | rfl | simp -implicitDefEqProofs only [go_sem] <;> rfl
end Go.Proofs.Ytcfekacmmfdggaa.G
set_option linter.unusedVariables false
set_option linter.unusedSimpArgs false
namespace Go.Proofs.Ytcfekacmmfdggaa.G

def most : Nat := 18446744073709551615
def satN (n : Nat) : Set64 := BitVec.ofNat 64 (min n most)
theorem satN_toNat (n : Nat) : (satN n).toNat = min n most := by
  unfold satN most
  rw [BitVec.toNat_ofNat]
  omega
theorem sat_add (a b : Set64) : (if a > 18446744073709551615#64 - b then 18446744073709551615#64 else a + b) = satN (a.toNat + b.toNat) := by
  apply BitVec.eq_of_toNat_eq
  rw [satN_toNat]
  have ha := a.isLt; have hb := b.isLt
  have e : (18446744073709551615#64 - b).toNat = 18446744073709551615 - b.toNat := by
    rw [BitVec.toNat_sub]; simp only [BitVec.toNat_ofNat]; omega
  unfold most
  split
  · rename_i h
    have h : (18446744073709551615#64 - b).toNat < a.toNat := h
    rw [e] at h
    simp only [BitVec.toNat_ofNat]; omega
  · rename_i h
    have h : ¬ (18446744073709551615#64 - b).toNat < a.toNat := h
    rw [e] at h
    rw [BitVec.toNat_add]; omega
theorem low_toNat (a : Set64) : (a &&& 4294967295#64).toNat = a.toNat % 4294967296 := by
  rw [BitVec.toNat_and]
  have : (4294967295#64).toNat = 2 ^ 32 - 1 := by decide
  rw [this, Nat.and_two_pow_sub_one_eq_mod]
theorem shr32 (a : Set64) : (a >>> (32#64).toNat).toNat = a.toNat / 4294967296 := by
  rw [BitVec.toNat_ushiftRight]; show a.toNat >>> 32 = _; rw [Nat.shiftRight_eq_div_pow]
def wideHi (x y : Set64) : Set64 := ((x >>> (32#64).toNat) * (y >>> (32#64).toNat)) + ((((x >>> (32#64).toNat) * (y &&& 4294967295#64)) + (((x &&& 4294967295#64) * (y &&& 4294967295#64)) >>> (32#64).toNat)) >>> (32#64).toNat) + ((((((x >>> (32#64).toNat) * (y &&& 4294967295#64)) + (((x &&& 4294967295#64) * (y &&& 4294967295#64)) >>> (32#64).toNat)) &&& 4294967295#64) + ((x &&& 4294967295#64) * (y >>> (32#64).toNat))) >>> (32#64).toNat)
theorem mul_toNat {a b : Set64} (ha : a.toNat ≤ 4294967295) (hb : b.toNat ≤ 4294967295) : (a * b).toNat = a.toNat * b.toNat ∧ a.toNat * b.toNat ≤ 18446744065119617025 := by
  have h : a.toNat * b.toNat ≤ 4294967295 * 4294967295 := Nat.mul_le_mul ha hb
  rw [BitVec.toNat_mul]
  constructor
  · rw [Nat.mod_eq_of_lt]; omega
  · omega
theorem mul_parts (A B C D k : Nat) : (A * k + B) * (C * k + D) = A * C * (k * k) + (A * D + B * C) * k + B * D := by
  rw [Nat.add_mul, Nat.mul_add, Nat.mul_add, Nat.mul_mul_mul_comm, Nat.mul_right_comm A k D, ← Nat.mul_assoc B C k, Nat.add_mul]
  omega
theorem wideHi_toNat (x y : Set64) : (wideHi x y).toNat = x.toNat * y.toNat / 18446744073709551616 := by
  have hx := x.isLt; have hy := y.isLt
  have a1 := shr32 x; have b1 := shr32 y; have a0 := low_toNat x; have b0 := low_toNat y
  unfold wideHi
  generalize hA1 : x >>> (32#64).toNat = A1 at *
  generalize hB1 : y >>> (32#64).toNat = B1 at *
  generalize hA0 : x &&& 4294967295#64 = A0 at *
  generalize hB0 : y &&& 4294967295#64 = B0 at *
  have e11 := mul_toNat (a := A1) (b := B1) (by omega) (by omega)
  have e10 := mul_toNat (a := A1) (b := B0) (by omega) (by omega)
  have e01 := mul_toNat (a := A0) (b := B1) (by omega) (by omega)
  have e00 := mul_toNat (a := A0) (b := B0) (by omega) (by omega)
  have hxy : x.toNat * y.toNat = (A1.toNat * B1.toNat) * 18446744073709551616 + (A1.toNat * B0.toNat + A0.toNat * B1.toNat) * 4294967296 + A0.toNat * B0.toNat := by
    have h1 : x.toNat = A1.toNat * 4294967296 + A0.toNat := by omega
    have h2 : y.toNat = B1.toNat * 4294967296 + B0.toNat := by omega
    rw [h1, h2]
    exact mul_parts _ _ _ _ _
  rw [hxy]
  generalize A1.toNat * B1.toNat = P11 at *
  generalize A1.toNat * B0.toNat = P10 at *
  generalize A0.toNat * B1.toNat = P01 at *
  generalize A0.toNat * B0.toNat = P00 at *
  have s1 := shr32 (A0 * B0)
  have hmid : (A1 * B0 + (A0 * B0) >>> (32#64).toNat).toNat = P10 + P00 / 4294967296 := by
    rw [BitVec.toNat_add, s1, e10.1, e00.1]; omega
  generalize A1 * B0 + (A0 * B0) >>> (32#64).toNat = MID at *
  have s2 := shr32 MID
  have l2 := low_toNat MID
  have hcross : ((MID &&& 4294967295#64) + A0 * B1).toNat = (P10 + P00 / 4294967296) % 4294967296 + P01 := by
    rw [BitVec.toNat_add, l2, e01.1, hmid]; omega
  generalize (MID &&& 4294967295#64) + A0 * B1 = CR at *
  have s3 := shr32 CR
  rw [BitVec.toNat_add, BitVec.toNat_add, s2, s3, e11.1, hmid, hcross]
  omega
theorem sat_mul (a b : Set64) : (if wideHi a b > 0#64 then 18446744073709551615#64 else a * b) = satN (a.toNat * b.toNat) := by
  apply BitVec.eq_of_toNat_eq
  rw [satN_toNat]
  have h := wideHi_toNat a b
  unfold most
  split
  · rename_i h1
    have h1 : (0#64).toNat < (wideHi a b).toNat := h1
    rw [h] at h1
    simp only [BitVec.toNat_ofNat] at h1 ⊢
    omega
  · rename_i h1
    have h1 : ¬ (0#64).toNat < (wideHi a b).toNat := h1
    rw [h] at h1
    rw [BitVec.toNat_mul]
    simp only [BitVec.toNat_ofNat] at h1
    omega
theorem sat_share (a b : Set64) : (if wideHi a b ≥ 65536#64 then 18446744073709551615#64 else (wideHi a b <<< (48#64).toNat) ||| ((a * b) >>> (16#64).toNat)) = satN (a.toNat * b.toNat / 65536) := by
  apply BitVec.eq_of_toNat_eq
  rw [satN_toNat]
  have h := wideHi_toNat a b
  unfold most
  split
  · rename_i h1
    have h1 : (65536#64).toNat ≤ (wideHi a b).toNat := h1
    rw [h] at h1
    simp only [BitVec.toNat_ofNat] at h1 ⊢
    omega
  · rename_i h1
    have h1 : ¬ (65536#64).toNat ≤ (wideHi a b).toNat := h1
    rw [h] at h1
    simp only [BitVec.toNat_ofNat] at h1
    rw [BitVec.toNat_or, BitVec.toNat_shiftLeft, BitVec.toNat_ushiftRight, h, BitVec.toNat_mul]
    show (a.toNat * b.toNat / 18446744073709551616) <<< 48 % 18446744073709551616 ||| (a.toNat * b.toNat % 18446744073709551616) >>> 16 = _
    generalize a.toNat * b.toNat = N at *
    rw [Nat.shiftLeft_eq, Nat.shiftRight_eq_div_pow]
    have e1 : N / 18446744073709551616 * 2 ^ 48 % 18446744073709551616 = 2 ^ 48 * (N / 18446744073709551616) := by omega
    rw [e1, ← Nat.two_pow_add_eq_or_of_lt (by omega)]
    omega
theorem ref_mul (a b : Set64) : (if a != 0#64 then (if b > 18446744073709551615#64 / a then 18446744073709551615#64 else a * b) else a * b) = satN (a.toNat * b.toNat) := by
  apply BitVec.eq_of_toNat_eq
  rw [satN_toNat]
  have ha := a.isLt; have hb := b.isLt
  unfold most
  by_cases h0 : a = 0#64
  · subst h0; simp
  · have hpos : 0 < a.toNat := by
      rcases Nat.eq_zero_or_pos a.toNat with h | h
      · exact absurd (BitVec.eq_of_toNat_eq (by simpa using h)) h0
      · exact h
    rw [if_pos (by simpa using h0)]
    have e : (18446744073709551615#64 / a).toNat = 18446744073709551615 / a.toNat := by rw [BitVec.toNat_udiv]; rfl
    have key : b.toNat ≤ 18446744073709551615 / a.toNat ↔ a.toNat * b.toNat ≤ 18446744073709551615 := by
      rw [Nat.le_div_iff_mul_le hpos, Nat.mul_comm]
    split
    · rename_i h1
      have h1 : (18446744073709551615#64 / a).toNat < b.toNat := h1
      rw [e] at h1
      have : ¬ a.toNat * b.toNat ≤ 18446744073709551615 := fun h => absurd (key.2 h) (by omega)
      simp only [BitVec.toNat_ofNat]; omega
    · rename_i h1
      have h1 : ¬ (18446744073709551615#64 / a).toNat < b.toNat := h1
      rw [e] at h1
      have := key.1 (by omega)
      rw [BitVec.toNat_mul]; omega
theorem ref_share (a b : Set64) : satN ((satN ((a / 65536#64).toNat * b.toNat)).toNat + (satN ((satN ((a % 65536#64).toNat * (b / 65536#64).toNat)).toNat + (((a % 65536#64) * (b % 65536#64)) / 65536#64).toNat)).toNat) = satN (a.toNat * b.toNat / 65536) := by
  have ha := a.isLt; have hb := b.isLt
  apply BitVec.eq_of_toNat_eq
  simp only [satN_toNat]
  have e1 : (a / 65536#64).toNat = a.toNat / 65536 := by rw [BitVec.toNat_udiv]; rfl
  have e2 : (a % 65536#64).toNat = a.toNat % 65536 := by rw [BitVec.toNat_umod]; rfl
  have e3 : (b / 65536#64).toNat = b.toNat / 65536 := by rw [BitVec.toNat_udiv]; rfl
  have e4 : (b % 65536#64).toNat = b.toNat % 65536 := by rw [BitVec.toNat_umod]; rfl
  have hrs : (a.toNat % 65536) * (b.toNat % 65536) ≤ 65535 * 65535 := Nat.mul_le_mul (by omega) (by omega)
  have e5 : (((a % 65536#64) * (b % 65536#64)) / 65536#64).toNat = (a.toNat % 65536) * (b.toNat % 65536) / 65536 := by
    rw [BitVec.toNat_udiv, BitVec.toNat_mul, e2, e4, Nat.mod_eq_of_lt (by omega)]; rfl
  rw [e1, e2, e3, e5]
  have hsum : a.toNat * b.toNat / 65536 = (a.toNat / 65536) * b.toNat + (a.toNat % 65536) * (b.toNat / 65536) + (a.toNat % 65536) * (b.toNat % 65536) / 65536 := by
    have q : a.toNat = a.toNat / 65536 * 65536 + a.toNat % 65536 := by omega
    have p : b.toNat = b.toNat / 65536 * 65536 + b.toNat % 65536 := by omega
    have h1 : a.toNat * b.toNat = ((a.toNat / 65536) * b.toNat + (a.toNat % 65536) * (b.toNat / 65536)) * 65536 + (a.toNat % 65536) * (b.toNat % 65536) := by
      generalize hA : a.toNat / 65536 = A at *
      generalize hR : a.toNat % 65536 = R at *
      generalize hB : b.toNat / 65536 = B at *
      generalize hS : b.toNat % 65536 = S at *
      rw [q]
      rw [Nat.add_mul, Nat.mul_right_comm]
      have : R * b.toNat = R * B * 65536 + R * S := by
        conv => lhs; rw [p]
        rw [Nat.mul_add, Nat.mul_assoc]
      rw [this]; omega
    rw [h1]; omega
  rw [hsum]
  generalize (a.toNat / 65536) * b.toNat = U
  generalize (a.toNat % 65536) * (b.toNat / 65536) = V
  generalize (a.toNat % 65536) * (b.toNat % 65536) / 65536 = W
  unfold most
  omega

theorem satN_add (m n : Nat) : satN ((satN m).toNat + n) = satN (m + n) := by
  apply BitVec.eq_of_toNat_eq
  simp only [satN_toNat]
  unfold most; omega
theorem satN_self (a : Set64) : satN a.toNat = a := by
  apply BitVec.eq_of_toNat_eq
  rw [satN_toNat]
  have := a.isLt
  unfold most; omega
theorem sat_plus_eq (a b : Set64) : M_sat_plus (a, b) = some (satN (a.toNat + b.toNat)) := by
  unfold M_sat_plus
  rw [← sat_add]
  dsimp only
  by_cases h : a > 18446744073709551615#64 - b
  · rw [if_pos (by simpa using h), if_pos h]
  · rw [if_neg (by simpa using h), if_neg h]
theorem ref02_Add_eq (a b : Set64) : M_ref02_Add (a, b) = some (satN (a.toNat + b.toNat)) := by
  unfold M_ref02_Add
  rw [Nat.add_comm, ← sat_add]
  dsimp only
  by_cases h : b > 18446744073709551615#64 - a
  · rw [if_pos (by simpa using h), if_pos h]
  · rw [if_neg (by simpa using h), if_neg h, BitVec.add_comm]
def sumN (l : List Set64) : Nat := (l.map BitVec.toNat).sum
theorem sat_Add_eq (l : List Set64) (hl : l.length < 9223372036854775808) : M_sat_Add l = some (satN (sumN l)) := by
  have key := loop_all l (fun i (s : Set64) => M_sat_fold_uint64__sat_plus.l0 (l, s, (l.length : Int), (i : Int))) (fun s l => some (satN (s.toNat + sumN l))) (fun s => by
      show M_sat_fold_uint64__sat_plus.l0 _ = _
      rw [M_sat_fold_uint64__sat_plus.l0, if_neg (dge (by dsimp only; omega))]
      simp only [sumN, List.map_nil, List.sum_nil, Nat.add_zero, satN_self])
    (fun i s h ih => by
      show M_sat_fold_uint64__sat_plus.l0 _ = _
      rw [M_sat_fold_uint64__sat_plus.l0, if_pos (dlt (by dsimp only; omega))]
      dsimp only
      rw [getI_nat h]
      simp only [Option.bind_eq_bind, Option.bind_some, sat_plus_eq]
      rw [w64_succ (by omega)]
      have := ih (satN (s.toNat + l[i].toNat))
      rw [this, satN_add]
      simp only [sumN, List.map_cons, List.sum_cons, Nat.add_assoc]) 0#64
  unfold M_sat_Add M_sat_fold_uint64__sat_plus
  have key' : M_sat_fold_uint64__sat_plus.l0 (l, 0#64, (l.length : Int), 0) = some (satN ((0#64).toNat + sumN l)) := key
  simp only [key', Option.bind_eq_bind, Option.bind_some]
  simp
theorem sat_wide_eq (a b : Set64) : M_sat_wide (a, b) = some (wideHi a b, a * b) := rfl
theorem sat_Mul_eq (a b : Set64) : M_sat_Mul (a, b) = some (satN (a.toNat * b.toNat)) := by
  unfold M_sat_Mul
  rw [sat_wide_eq, ← sat_mul]
  simp only [Option.bind_eq_bind, Option.bind_some]
  by_cases h : wideHi a b > 0#64
  · rw [if_pos (by simpa using h), if_pos h]
  · rw [if_neg (by simpa using h), if_neg h]
theorem sat_Share_eq (a b : Set64) : M_sat_Share (a, b) = some (satN (a.toNat * b.toNat / 65536)) := by
  unfold M_sat_Share
  rw [sat_wide_eq, ← sat_share]
  simp only [Option.bind_eq_bind, Option.bind_some]
  by_cases h : wideHi a b ≥ 65536#64
  · rw [if_pos (by simpa using h), if_pos h]
  · rw [if_neg (by simpa using h), if_neg h]
theorem ref02_Mul_eq (a b : Set64) : M_ref02_Mul (a, b) = some (satN (a.toNat * b.toNat)) := by
  unfold M_ref02_Mul
  rw [← ref_mul]
  dsimp only
  by_cases h0 : a = 0#64
  · subst h0; simp
  · have hA : (a != 0#64) = true := by simpa using h0
    rw [if_pos hA, if_pos hA, if_neg h0]
    by_cases h : b > 18446744073709551615#64 / a
    · rw [if_pos (by simpa using h), if_pos h]
    · rw [if_neg (by simpa using h), if_neg h]
theorem ref02_Share_eq (a b : Set64) : M_ref02_Share (a, b) = some (satN (a.toNat * b.toNat / 65536)) := by
  unfold M_ref02_Share
  simp only [ref02_Mul_eq, ref02_Add_eq, Option.bind_eq_bind, Option.bind_some]
  rw [ref_share]
end Go.Proofs.Ytcfekacmmfdggaa.G
set_option linter.unusedVariables false
set_option linter.unusedSimpArgs false
set_option maxRecDepth 100000
namespace Go.Proofs.Ytcfekacmmfdggaa.G
theorem lok_38 : (Try.f38.body.isSome && !(Try.f38.name == "runtime.NumGoroutine") && okL (bodyF Try.f38) Try.f38.ntmps (bodyF Try.f38)) = true := by kernel_rfl
mutual
def M_ref06_Size.l0 (x : Int × Int × Int × T_api_Pred) : Option (Int) :=
  if (decide (x.2.2.1 < (x.2.2.2.Parts.length : Int))) = true then
    if (decide (x.2.1 < x.1)) = true then
      (getI x.2.2.2.Parts x.2.2.1) >>= fun (e3 : T_api_Pred) =>
      M_ref06_Size (e3, (w64 (x.1 - x.2.1))) >>= fun r5 =>
      M_ref06_Size.l0 (x.1, (w64 (x.2.1 + r5)), (w64 (x.2.2.1 + 1)), x.2.2.2)
    else
      some x.2.1
  else
    some x.2.1
  partial_fixpoint
def M_ref06_Size (x : T_api_Pred × Int) : Option (Int) :=
  M_ref06_Size.l0 (x.2, 1, 0, x.1) >>= fun (o7 : Int) =>
  some o7
  partial_fixpoint
end
theorem M_ref06_Size.l0.ws : (∀ (x : Int × Int × Int × T_api_Pred) (o : Int), M_ref06_Size.l0 x = some o → (fun (x : Int × Int × Int × T_api_Pred) (o : Int) => ∀ (lo : Option Nat) (c : LCtx) (Q : Exit → LEnv → Prop) (hb : ∀ s : Int, o = s → Q (.exit 0) ⟨[(5, .v (.i64 s))], []⟩), LLoop Try.prog 38 lo c 0 (VQ Q) ⟨[(1, .v (.i64 x.1)), (2, .lref 2 0), (5, .v (.i64 x.2.1)), (6, .v (.i64 x.2.2.1))], [(2, [.v (.i64 x.2.2.2.Kind), .v (.i64 x.2.2.2.Truth), .v (.i64 x.2.2.2.Op), .v (.i64 x.2.2.2.A.Kind), .v (.i64 x.2.2.2.A.Table), .v (.i64 x.2.2.2.A.Col), .v (.bool x.2.2.2.A.Value.Null), .v (.i64 x.2.2.2.A.Value.N), .v (.i64 x.2.2.2.B.Kind), .v (.i64 x.2.2.2.B.Table), .v (.i64 x.2.2.2.B.Col), .v (.bool x.2.2.2.B.Value.Null), .v (.i64 x.2.2.2.B.Value.N), .v (.slice .foreign (x.2.2.2.Parts.map T_api_Pred.av))])]⟩) x o) ∧ (∀ (x : T_api_Pred × Int) (o : Int), M_ref06_Size x = some o → (fun (x : T_api_Pred × Int) (r : Int) => Fn Try.prog 38 [.agg (T_api_Pred.C x.1), .i64 x.2] (.i64 r)) x o) := by
  refine M_ref06_Size.l0.mutual_partial_correctness _ _ ?_ ?_
  · intro M_M_ref06_Size_l0 M_M_ref06_Size ih_M_ref06_Size_l0 ih_M_ref06_Size x o h
    intro lo c Q hb
    refine LLoop.step mix fn_38 (by kernel_rfl) ?_
    simp -implicitDefEqProofs only [go_sem, Try.f38]
    by_cases h1 : (decide (x.2.2.1 < (x.2.2.2.Parts.length : Int))) = true
    · replace h := ite_some h h1
      try simp -implicitDefEqProofs only [go_sem, h1]
      by_cases h2 : (decide (x.2.1 < x.1)) = true
      · replace h := ite_some h h2
        try simp -implicitDefEqProofs only [go_sem, h1, h2]
        obtain ⟨e3, h4, h⟩ := bind_some' h; replace h4 := getI_some h4; obtain ⟨h4', h4⟩ := h4
        try simp -implicitDefEqProofs only [go_sem, h1, h2, h4, h4']
        obtain ⟨r5, h6, h⟩ := bind_some' h
        refine .plain _ _ rfl (ih_M_ref06_Size (e3, (w64 (x.1 - x.2.1))) _ h6) ?_
        try simp -implicitDefEqProofs only [go_sem, h1, h2, h4, h4']
        exact LLoop.view [] (by (first | rfl | simp -implicitDefEqProofs only [go_sem, h1, h2, h4, h4'] <;> rfl)) (ih_M_ref06_Size_l0 _ _ h lo c Q hb)
      · replace h := ite_none h h2; replace h2 := bfalse h2
        try simp -implicitDefEqProofs only [go_sem, h1, h2]
        injection h with h; subst h
        exact .inr ⟨[], _, by (simp -implicitDefEqProofs only [go_sem, h1, h2] <;> first | done | rfl | trivial), hb _ rfl⟩
    · replace h := ite_none h h1; replace h1 := bfalse h1
      try simp -implicitDefEqProofs only [go_sem, h1]
      injection h with h; subst h
      exact .inr ⟨[], _, by (simp -implicitDefEqProofs only [go_sem, h1] <;> first | done | rfl | trivial), hb _ rfl⟩
  · intro M_M_ref06_Size_l0 ih_M_ref06_Size_l0 x r h
    refine Fn.of_lc mix fn_38 lok_38 (by rfl) (flC (T_api_Pred.flatC _) (flC (.atom _) (flN))) (.atom _) ?_
    simp -implicitDefEqProofs only [go_sem, Try.f38]
    obtain ⟨o7, h8, h⟩ := bind_some' h
    refine LLoop.viewQ (LLoop.view [] (by (first | rfl | simp -implicitDefEqProofs only [go_sem] <;> rfl)) (ih_M_ref06_Size_l0 (x.2, 1, 0, x.1) _ h8 _ _ _ ?_))
    intro s' hs'; subst hs'
    try simp -implicitDefEqProofs only [go_sem]
    injection h with h; subst h
    first | rfl | simp -implicitDefEqProofs only [go_sem] <;> rfl
theorem M_ref06_Size.w : type_of% (M_ref06_Size.l0.ws.2) := (M_ref06_Size.l0.ws.2)
end Go.Proofs.Ytcfekacmmfdggaa.G
set_option linter.unusedVariables false
set_option linter.unusedSimpArgs false
set_option maxRecDepth 100000
namespace Go.Proofs.Ytcfekacmmfdggaa.G
theorem lok_10 : (Try.f10.body.isSome && !(Try.f10.name == "runtime.NumGoroutine") && okL (bodyF Try.f10) Try.f10.ntmps (bodyF Try.f10)) = true := by kernel_rfl
def M_ref10_Size.l0 (x : Int × Int × Int × T_api_Tree) : Option (Int) :=
  if (decide (x.2.2.1 < (x.2.2.2.Conj.length : Int))) = true then
    if (decide (x.2.1 < x.1)) = true then
      (getI x.2.2.2.Conj x.2.2.1) >>= fun (e3 : T_api_Pred) =>
      M_ref06_Size (e3, (w64 (x.1 - x.2.1))) >>= fun r5 =>
      M_ref10_Size.l0 (x.1, (w64 (x.2.1 + r5)), (w64 (x.2.2.1 + 1)), x.2.2.2)
    else
      some x.2.1
  else
    some x.2.1
  partial_fixpoint
theorem M_ref10_Size.l0.ws : (∀ (x : Int × Int × Int × T_api_Tree) (o : Int), M_ref10_Size.l0 x = some o → (fun (x : Int × Int × Int × T_api_Tree) (o : Int) => ∀ (lo : Option Nat) (c : LCtx) (Q : Exit → LEnv → Prop) (hb : ∀ s : Int, o = s → Q (.exit 0) ⟨[(1, .v (.i64 x.1)), (2, .lref 2 0), (5, .v (.i64 s))], [(2, [.v (.i64 x.2.2.2.Kind), .v (.i64 x.2.2.2.Table), .v (.slice .foreign (x.2.2.2.Kids.map T_api_Tree.av)), .v (.slice .foreign (x.2.2.2.Conj.map T_api_Pred.av)), .v (.bool x.2.2.2.Hash)])]⟩), LLoop Try.prog 10 lo c 0 (VQ Q) ⟨[(1, .v (.i64 x.1)), (2, .lref 2 0), (5, .v (.i64 x.2.1)), (6, .v (.i64 x.2.2.1))], [(2, [.v (.i64 x.2.2.2.Kind), .v (.i64 x.2.2.2.Table), .v (.slice .foreign (x.2.2.2.Kids.map T_api_Tree.av)), .v (.slice .foreign (x.2.2.2.Conj.map T_api_Pred.av)), .v (.bool x.2.2.2.Hash)])]⟩) x o) := by
  refine M_ref10_Size.l0.partial_correctness _ ?_
  · intro M_M_ref10_Size_l0 ih_M_ref10_Size_l0 x o h
    intro lo c Q hb
    refine LLoop.step mix fn_10 (by kernel_rfl) ?_
    simp -implicitDefEqProofs only [go_sem, Try.f10]
    by_cases h1 : (decide (x.2.2.1 < (x.2.2.2.Conj.length : Int))) = true
    · replace h := ite_some h h1
      try simp -implicitDefEqProofs only [go_sem, h1]
      by_cases h2 : (decide (x.2.1 < x.1)) = true
      · replace h := ite_some h h2
        try simp -implicitDefEqProofs only [go_sem, h1, h2]
        obtain ⟨e3, h4, h⟩ := bind_some' h; replace h4 := getI_some h4; obtain ⟨h4', h4⟩ := h4
        try simp -implicitDefEqProofs only [go_sem, h1, h2, h4, h4']
        obtain ⟨r5, h6, h⟩ := bind_some' h
        refine .plain _ _ rfl (M_ref06_Size.w (e3, (w64 (x.1 - x.2.1))) _ h6) ?_
        try simp -implicitDefEqProofs only [go_sem, h1, h2, h4, h4']
        exact LLoop.view [] (by (first | rfl | simp -implicitDefEqProofs only [go_sem, h1, h2, h4, h4'] <;> rfl)) (ih_M_ref10_Size_l0 _ _ h lo c Q hb)
      · replace h := ite_none h h2; replace h2 := bfalse h2
        try simp -implicitDefEqProofs only [go_sem, h1, h2]
        injection h with h; subst h
        exact .inr ⟨[], _, by (simp -implicitDefEqProofs only [go_sem, h1, h2] <;> first | done | rfl | trivial), hb _ rfl⟩
    · replace h := ite_none h h1; replace h1 := bfalse h1
      try simp -implicitDefEqProofs only [go_sem, h1]
      injection h with h; subst h
      exact .inr ⟨[], _, by (simp -implicitDefEqProofs only [go_sem, h1] <;> first | done | rfl | trivial), hb _ rfl⟩
theorem M_ref10_Size.l0.w : type_of% @M_ref10_Size.l0.ws := @M_ref10_Size.l0.ws
mutual
def M_ref10_Size.l1 (x : Int × Int × Int × T_api_Tree) : Option (Int) :=
  if (decide (x.2.2.1 < (x.2.2.2.Kids.length : Int))) = true then
    if (decide (x.2.1 < x.1)) = true then
      (getI x.2.2.2.Kids x.2.2.1) >>= fun (e11 : T_api_Tree) =>
      M_ref10_Size (e11, (w64 (x.1 - x.2.1))) >>= fun r13 =>
      M_ref10_Size.l1 (x.1, (w64 (x.2.1 + r13)), (w64 (x.2.2.1 + 1)), x.2.2.2)
    else
      some x.2.1
  else
    some x.2.1
  partial_fixpoint
def M_ref10_Size (x : T_api_Tree × Int) : Option (Int) :=
  M_ref10_Size.l0 (x.2, 1, 0, x.1) >>= fun (o7 : Int) =>
  M_ref10_Size.l1 (x.2, o7, 0, x.1) >>= fun (o15 : Int) =>
  some o15
  partial_fixpoint
end
theorem M_ref10_Size.l1.ws : (∀ (x : Int × Int × Int × T_api_Tree) (o : Int), M_ref10_Size.l1 x = some o → (fun (x : Int × Int × Int × T_api_Tree) (o : Int) => ∀ (lo : Option Nat) (c : LCtx) (Q : Exit → LEnv → Prop) (hb : ∀ s : Int, o = s → Q (.exit 2) ⟨[(5, .v (.i64 s))], []⟩), LLoop Try.prog 10 lo c 1 (VQ Q) ⟨[(1, .v (.i64 x.1)), (2, .lref 2 0), (5, .v (.i64 x.2.1)), (7, .v (.i64 x.2.2.1))], [(2, [.v (.i64 x.2.2.2.Kind), .v (.i64 x.2.2.2.Table), .v (.slice .foreign (x.2.2.2.Kids.map T_api_Tree.av)), .v (.slice .foreign (x.2.2.2.Conj.map T_api_Pred.av)), .v (.bool x.2.2.2.Hash)])]⟩) x o) ∧ (∀ (x : T_api_Tree × Int) (o : Int), M_ref10_Size x = some o → (fun (x : T_api_Tree × Int) (r : Int) => Fn Try.prog 10 [.agg (T_api_Tree.C x.1), .i64 x.2] (.i64 r)) x o) := by
  refine M_ref10_Size.l1.mutual_partial_correctness _ _ ?_ ?_
  · intro M_M_ref10_Size_l1 M_M_ref10_Size ih_M_ref10_Size_l1 ih_M_ref10_Size x o h
    intro lo c Q hb
    refine LLoop.step mix fn_10 (by kernel_rfl) ?_
    simp -implicitDefEqProofs only [go_sem, Try.f10]
    by_cases h9 : (decide (x.2.2.1 < (x.2.2.2.Kids.length : Int))) = true
    · replace h := ite_some h h9
      try simp -implicitDefEqProofs only [go_sem, h9]
      by_cases h10 : (decide (x.2.1 < x.1)) = true
      · replace h := ite_some h h10
        try simp -implicitDefEqProofs only [go_sem, h9, h10]
        obtain ⟨e11, h12, h⟩ := bind_some' h; replace h12 := getI_some h12; obtain ⟨h12', h12⟩ := h12
        try simp -implicitDefEqProofs only [go_sem, h9, h10, h12, h12']
        obtain ⟨r13, h14, h⟩ := bind_some' h
        refine .plain _ _ rfl (ih_M_ref10_Size (e11, (w64 (x.1 - x.2.1))) _ h14) ?_
        try simp -implicitDefEqProofs only [go_sem, h9, h10, h12, h12']
        exact LLoop.view [] (by (first | rfl | simp -implicitDefEqProofs only [go_sem, h9, h10, h12, h12'] <;> rfl)) (ih_M_ref10_Size_l1 _ _ h lo c Q hb)
      · replace h := ite_none h h10; replace h10 := bfalse h10
        try simp -implicitDefEqProofs only [go_sem, h9, h10]
        injection h with h; subst h
        exact .inr ⟨[], _, by (simp -implicitDefEqProofs only [go_sem, h9, h10] <;> first | done | rfl | trivial), hb _ rfl⟩
    · replace h := ite_none h h9; replace h9 := bfalse h9
      try simp -implicitDefEqProofs only [go_sem, h9]
      injection h with h; subst h
      exact .inr ⟨[], _, by (simp -implicitDefEqProofs only [go_sem, h9] <;> first | done | rfl | trivial), hb _ rfl⟩
  · intro M_M_ref10_Size_l1 ih_M_ref10_Size_l1 x r h
    refine Fn.of_lc mix fn_10 lok_10 (by rfl) (flC (T_api_Tree.flatC _) (flC (.atom _) (flN))) (.atom _) ?_
    simp -implicitDefEqProofs only [go_sem, Try.f10]
    obtain ⟨o7, h8, h⟩ := bind_some' h
    refine LLoop.viewQ (LLoop.view [] (by (first | rfl | simp -implicitDefEqProofs only [go_sem] <;> rfl)) (M_ref10_Size.l0.w (x.2, 1, 0, x.1) _ h8 _ _ _ ?_))
    intro s' hs'; subst hs'
    try simp -implicitDefEqProofs only [go_sem]
    obtain ⟨o15, h16, h⟩ := bind_some' h
    refine LLoop.viewQ (LLoop.view [] (by (first | rfl | simp -implicitDefEqProofs only [go_sem] <;> rfl)) (ih_M_ref10_Size_l1 (x.2, o7, 0, x.1) _ h16 _ _ _ ?_))
    intro s' hs'; subst hs'
    try simp -implicitDefEqProofs only [go_sem]
    injection h with h; subst h
    first | rfl | simp -implicitDefEqProofs only [go_sem] <;> rfl
theorem M_ref10_Size.w : type_of% (M_ref10_Size.l1.ws.2) := (M_ref10_Size.l1.ws.2)
end Go.Proofs.Ytcfekacmmfdggaa.G
set_option linter.unusedVariables false
set_option linter.unusedSimpArgs false
set_option maxRecDepth 100000
namespace Go.Proofs.Ytcfekacmmfdggaa.G
theorem lok_56 : (Try.f56.body.isSome && !(Try.f56.name == "runtime.NumGoroutine") && okL (bodyF Try.f56) Try.f56.ntmps (bodyF Try.f56)) = true := by kernel_rfl
mutual
def M_ref10_All.l0 (x : List T_api_Tree × Int × T_api_Tree) : Option (List T_api_Tree) :=
  if (decide (x.2.1 < (x.2.2.Kids.length : Int))) = true then
    (getI x.2.2.Kids x.2.1) >>= fun (e2 : T_api_Tree) =>
    M_ref10_All e2 >>= fun r4 =>
    (room 72 x.1 r4) >>= fun (z6 : List T_api_Tree) =>
    M_ref10_All.l0 (z6, (w64 (x.2.1 + 1)), x.2.2)
  else
    some x.1
  partial_fixpoint
def M_ref10_All (x : T_api_Tree) : Option (List T_api_Tree) :=
  M_ref10_All.l0 (([] : List T_api_Tree), 0, x) >>= fun (o8 : List T_api_Tree) =>
  (room 72 o8 ([x])) >>= fun (z10 : List T_api_Tree) =>
  some z10
  partial_fixpoint
end
theorem M_ref10_All.l0.ws : (∀ (x : List T_api_Tree × Int × T_api_Tree) (o : List T_api_Tree), M_ref10_All.l0 x = some o → (fun (x : List T_api_Tree × Int × T_api_Tree) (o : List T_api_Tree) => ∀ (lo : Option Nat) (c : LCtx) (Q : Exit → LEnv → Prop) (hb : ∀ s : List T_api_Tree, o = s → Q (.exit 0) ⟨[(1, .lref 1 0), (3, .own 100300 5 (s.map T_api_Tree.av))], [(1, [.v (.i64 x.2.2.Kind), .v (.i64 x.2.2.Table), .v (.slice .foreign (x.2.2.Kids.map T_api_Tree.av)), .v (.slice .foreign (x.2.2.Conj.map T_api_Pred.av)), .v (.bool x.2.2.Hash)])]⟩), LLoop Try.prog 56 lo c 0 (VQ Q) ⟨[(1, .lref 1 0), (3, .own 100300 5 (x.1.map T_api_Tree.av)), (4, .v (.i64 x.2.1))], [(1, [.v (.i64 x.2.2.Kind), .v (.i64 x.2.2.Table), .v (.slice .foreign (x.2.2.Kids.map T_api_Tree.av)), .v (.slice .foreign (x.2.2.Conj.map T_api_Pred.av)), .v (.bool x.2.2.Hash)])]⟩) x o) ∧ (∀ (x : T_api_Tree) (o : List T_api_Tree), M_ref10_All x = some o → (fun (x : T_api_Tree) (r : List T_api_Tree) => Fn Try.prog 56 [.agg (T_api_Tree.C x)] (.slice .foreign (r.map T_api_Tree.av))) x o) := by
  refine M_ref10_All.l0.mutual_partial_correctness _ _ ?_ ?_
  · intro M_M_ref10_All_l0 M_M_ref10_All ih_M_ref10_All_l0 ih_M_ref10_All x o h
    intro lo c Q hb
    refine LLoop.step mix fn_56 (by kernel_rfl) ?_
    simp -implicitDefEqProofs only [go_sem, Try.f56]
    by_cases h1 : (decide (x.2.1 < (x.2.2.Kids.length : Int))) = true
    · replace h := ite_some h h1
      try simp -implicitDefEqProofs only [go_sem, h1]
      obtain ⟨e2, h3, h⟩ := bind_some' h; replace h3 := getI_some h3; obtain ⟨h3', h3⟩ := h3
      try simp -implicitDefEqProofs only [go_sem, h1, h3, h3']
      obtain ⟨r4, h5, h⟩ := bind_some' h
      refine .plain _ _ rfl (ih_M_ref10_All e2 _ h5) ?_
      try simp -implicitDefEqProofs only [go_sem, h1, h3, h3']
      obtain ⟨z6, h7, h⟩ := bind_some' h; replace h7 := room_some h7; obtain ⟨h7', rfl⟩ := h7
      refine LApp.map (F := T_api_Tree.av) (xs := x.1) (ys := r4) t28_elem t31_size t31_bytes t31_zsize rfl T_api_Tree.len (by (first | rfl | simp -implicitDefEqProofs only [go_sem, h1, h3, h3'] <;> rfl)) (by (first | rfl | simp -implicitDefEqProofs only [go_sem, h1, h3, h3'] <;> rfl)) h7' ?_
      try simp -implicitDefEqProofs only [go_sem, h1, h3, h3']
      exact LLoop.view [(100300, some 20)] (by (first | rfl | simp -implicitDefEqProofs only [go_sem, h1, h3, h3'] <;> rfl)) (ih_M_ref10_All_l0 _ _ h lo c Q hb)
    · replace h := ite_none h h1; replace h1 := bfalse h1
      try simp -implicitDefEqProofs only [go_sem, h1]
      injection h with h; subst h
      exact .inr ⟨[(100300, some 100300)], _, by (simp -implicitDefEqProofs only [go_sem, h1] <;> first | done | rfl | trivial), hb _ rfl⟩
  · intro M_M_ref10_All_l0 ih_M_ref10_All_l0 x r h
    refine Fn.of_lc mix fn_56 lok_56 (by rfl) (flC (T_api_Tree.flatC _) (flN)) (flat_slice _ T_api_Tree.flat _) ?_
    simp -implicitDefEqProofs only [go_sem, Try.f56]
    obtain ⟨o8, h9, h⟩ := bind_some' h
    refine LLoop.viewQ (LLoop.view [(100300, none)] (by (first | rfl | simp -implicitDefEqProofs only [go_sem] <;> rfl)) (ih_M_ref10_All_l0 (([] : List T_api_Tree), 0, x) _ h9 _ _ _ ?_))
    intro s' hs'; subst hs'
    try simp -implicitDefEqProofs only [go_sem]
    obtain ⟨z10, h11, h⟩ := bind_some' h; replace h11 := room_some h11; obtain ⟨h11', rfl⟩ := h11
    refine LApp.map (F := T_api_Tree.av) (xs := o8) (ys := [x]) t28_elem t31_size t31_bytes t31_zsize rfl T_api_Tree.len (by (first | rfl | simp -implicitDefEqProofs only [go_sem] <;> rfl)) (by (first | rfl | simp -implicitDefEqProofs only [go_sem] <;> rfl)) h11' ?_
    try simp -implicitDefEqProofs only [go_sem]
    injection h with h; subst h
    first | rfl | simp -implicitDefEqProofs only [go_sem] <;> rfl
theorem M_ref10_All.w : type_of% (M_ref10_All.l0.ws.2) := (M_ref10_All.l0.ws.2)
end Go.Proofs.Ytcfekacmmfdggaa.G
set_option linter.unusedVariables false
set_option linter.unusedSimpArgs false
set_option maxRecDepth 100000
namespace Go.Proofs.Ytcfekacmmfdggaa.G
theorem lok_21 : (Try.f21.body.isSome && !(Try.f21.name == "runtime.NumGoroutine") && okL (bodyF Try.f21) Try.f21.ntmps (bodyF Try.f21)) = true := by kernel_rfl
def M_ref10_Tables.l0 (x : List Int × List T_api_Tree × Int) : Option (List Int) :=
  if (decide (x.2.2 < (x.2.1.length : Int))) = true then
    (getI x.2.1 x.2.2) >>= fun (e4 : T_api_Tree) =>
    if (e4.Kind == 0) = true then
      (room 8 x.1 ([e4.Table])) >>= fun (z7 : List Int) =>
      M_ref10_Tables.l0 (z7, x.2.1, (w64 (x.2.2 + 1)))
    else
      M_ref10_Tables.l0 (x.1, x.2.1, (w64 (x.2.2 + 1)))
  else
    some x.1
  partial_fixpoint
theorem M_ref10_Tables.l0.ws : (∀ (x : List Int × List T_api_Tree × Int) (o : List Int), M_ref10_Tables.l0 x = some o → (fun (x : List Int × List T_api_Tree × Int) (o : List Int) => ∀ (lo : Option Nat) (c : LCtx) (Q : Exit → LEnv → Prop) (hb : ∀ s : List Int, o = s → Q (.exit 0) ⟨[(3, .own 100300 1 (s.map AV.i64))], []⟩), LLoop Try.prog 21 lo c 0 (VQ Q) ⟨[(3, .own 100300 1 (x.1.map AV.i64)), (4, .v (.slice .foreign (x.2.1.map T_api_Tree.av))), (5, .v (.i64 x.2.2))], []⟩) x o) := by
  refine M_ref10_Tables.l0.partial_correctness _ ?_
  · intro M_M_ref10_Tables_l0 ih_M_ref10_Tables_l0 x o h
    intro lo c Q hb
    refine LLoop.step mix fn_21 (by kernel_rfl) ?_
    simp -implicitDefEqProofs only [go_sem, Try.f21]
    by_cases h3 : (decide (x.2.2 < (x.2.1.length : Int))) = true
    · replace h := ite_some h h3
      try simp -implicitDefEqProofs only [go_sem, h3]
      obtain ⟨e4, h5, h⟩ := bind_some' h; replace h5 := getI_some h5; obtain ⟨h5', h5⟩ := h5
      try simp -implicitDefEqProofs only [go_sem, h3, h5, h5']
      by_cases h6 : (e4.Kind == 0) = true
      · replace h := ite_some h h6
        try simp -implicitDefEqProofs only [go_sem, h3, h5, h5', h6]
        obtain ⟨z7, h8, h⟩ := bind_some' h; replace h8 := room_some h8; obtain ⟨h8', rfl⟩ := h8
        refine LApp.map (F := AV.i64) (xs := x.1) (ys := [e4.Table]) t45_elem t3_size t3_bytes t3_zsize rfl (fun _ => rfl) (by (first | rfl | simp -implicitDefEqProofs only [go_sem, h3, h5, h5', h6] <;> rfl)) (by (first | rfl | simp -implicitDefEqProofs only [go_sem, h3, h5, h5', h6] <;> rfl)) h8' ?_
        try simp -implicitDefEqProofs only [go_sem, h3, h5, h5', h6]
        exact LLoop.view [(100300, some 28)] (by (first | rfl | simp -implicitDefEqProofs only [go_sem, h3, h5, h5', h6] <;> rfl)) (ih_M_ref10_Tables_l0 _ _ h lo c Q hb)
      · replace h := ite_none h h6; replace h6 := bfalse h6
        try simp -implicitDefEqProofs only [go_sem, h3, h5, h5', h6]
        exact LLoop.view [(100300, some 100300)] (by (first | rfl | simp -implicitDefEqProofs only [go_sem, h3, h5, h5', h6] <;> rfl)) (ih_M_ref10_Tables_l0 _ _ h lo c Q hb)
    · replace h := ite_none h h3; replace h3 := bfalse h3
      try simp -implicitDefEqProofs only [go_sem, h3]
      injection h with h; subst h
      exact .inr ⟨[(100300, some 100300)], _, by (simp -implicitDefEqProofs only [go_sem, h3] <;> first | done | rfl | trivial), hb _ rfl⟩
theorem M_ref10_Tables.l0.w : type_of% @M_ref10_Tables.l0.ws := @M_ref10_Tables.l0.ws
def M_ref10_Tables (x : T_api_Tree) : Option (Set64) :=
  M_ref10_All x >>= fun r1 =>
  M_ref10_Tables.l0 (([] : List Int), r1, 0) >>= fun (o9 : List Int) =>
  M_ref01_Of o9 >>= fun r11 =>
  some r11
set_option maxHeartbeats 8000000 in
theorem M_ref10_Tables.w : ∀ (x : T_api_Tree) (r : Set64), M_ref10_Tables x = some r → (fun (x : T_api_Tree) (r : Set64) => Fn Try.prog 21 [.agg (T_api_Tree.C x)] (.w r)) x r := by
  intro x r h
  rw [M_ref10_Tables] at h
  try dsimp only
  refine Fn.of_lc mix fn_21 lok_21 (by rfl) (flC (T_api_Tree.flatC _) (flN)) (.atom _) ?_
  simp -implicitDefEqProofs only [go_sem, Try.f21]
  obtain ⟨r1, h2, h⟩ := bind_some' h
  refine .plain _ _ rfl (M_ref10_All.w x _ h2) ?_
  try simp -implicitDefEqProofs only [go_sem]
  obtain ⟨o9, h10, h⟩ := bind_some' h
  refine LLoop.viewQ (LLoop.view [(100300, none)] (by (first | rfl | simp -implicitDefEqProofs only [go_sem] <;> rfl)) (M_ref10_Tables.l0.w (([] : List Int), r1, 0) _ h10 _ _ _ ?_))
  intro s' hs'; subst hs'
  try simp -implicitDefEqProofs only [go_sem]
  obtain ⟨r11, h12, h⟩ := bind_some' h
  refine .plain _ _ rfl (M_ref01_Of.w o9 _ h12) ?_
  try simp -implicitDefEqProofs only [go_sem]
  injection h with h; subst h
  first | rfl | simp -implicitDefEqProofs only [go_sem] <;> rfl
end Go.Proofs.Ytcfekacmmfdggaa.G
set_option linter.unusedVariables false
set_option linter.unusedSimpArgs false
set_option maxRecDepth 100000
namespace Go.Proofs.Ytcfekacmmfdggaa.G
@[go_sem] theorem lrp_52_5 : lrp Try.prog 52 5 = (6, []) := by kernel_rfl
theorem lok_52 : (Try.f52.body.isSome && !(Try.f52.name == "runtime.NumGoroutine") && okL (bodyF Try.f52) Try.f52.ntmps (bodyF Try.f52)) = true := by kernel_rfl
def M_tree_Tables.r0 (x : List T_api_Tree × Set64) : Option (Set64) :=
  match x.1 with
  | [] => some x.2
  | e3 :: l4 =>
    if (e3.Kind == 0) = true then
      M_sets_Of ([e3.Table]) >>= fun r6 =>
      M_tree_Tables.r0 (l4, (x.2 ||| r6))
    else
      M_tree_Tables.r0 (l4, x.2)
  partial_fixpoint
theorem M_tree_Tables.r0.ws : (∀ (x : List T_api_Tree × Set64) (o : Set64), M_tree_Tables.r0 x = some o → (fun (x : List T_api_Tree × Set64) (o : Set64) => ∀ (Fin : Exit → List (Nat × List CV) → Prop) (hb : ∀ (s : Set64), o = s → Fin .normal [(2100003, [.v (.w s)])]), RRun Try.prog 52 Try.f52 0 1 #[7] [(3, .lref 2100003 0)] Fin (x.1.map (fun (y : T_api_Tree) => [.agg (T_api_Tree.C y)])) [(2100003, [.v (.w x.2)])]) x o) := by
  refine M_tree_Tables.r0.partial_correctness _ ?_
  · intro M_M_tree_Tables_r0 ih_M_tree_Tables_r0 x o h
    intro Fin hb
    generalize hx1 : x.1 = ys at h ⊢
    cases ys with
    | nil => injection h with h; subst h; exact RRun.nil (hb _ rfl)
    | cons e3 l4 =>
      refine RRun.cons rfl fun l0 c1 hlo1 => ?_
      dsimp only at h
      simp -implicitDefEqProofs only [go_sem, Try.f52]
      refine RMid.mk (by rfl) fun c2 hlo2 => ?_
      simp -implicitDefEqProofs only [go_sem, Try.f52]
      by_cases h5 : (e3.Kind == 0) = true
      · replace h := ite_some h h5
        try simp -implicitDefEqProofs only [go_sem, h5]
        obtain ⟨r6, h7, h⟩ := bind_some' h
        have hw := M_sets_Of.w ([e3.Table]) _ h7
        simp -implicitDefEqProofs only [go_sem] at hw
        refine .plain _ _ rfl hw ?_
        clear hw
        try simp -implicitDefEqProofs only [go_sem, h5]
        exact REnd.next [] (by rfl) (by (first | rfl | simp -implicitDefEqProofs only [go_sem, h5] <;> rfl)) (by rfl) (ih_M_tree_Tables_r0 (l4, (x.2 ||| r6)) _ h Fin hb)
      · replace h := ite_none h h5; replace h5 := bfalse h5
        try simp -implicitDefEqProofs only [go_sem, h5]
        exact REnd.next [] (by rfl) (by (first | rfl | simp -implicitDefEqProofs only [go_sem, h5] <;> rfl)) (by rfl) (ih_M_tree_Tables_r0 (l4, x.2) _ h Fin hb)
theorem M_tree_Tables.r0.w : type_of% @M_tree_Tables.r0.ws := @M_tree_Tables.r0.ws
def M_tree_Tables (x : T_api_Tree) : Option (Set64) :=
  M_tree_Walk x >>= fun l1 =>
  M_tree_Tables.r0 (l1, 0#64) >>= fun (s10 : Set64) =>
  some s10
set_option maxHeartbeats 8000000 in
theorem M_tree_Tables.w : ∀ (x : T_api_Tree) (r : Set64), M_tree_Tables x = some r → (fun (x : T_api_Tree) (r : Set64) => Fn Try.prog 52 [.agg (T_api_Tree.C x)] (.w r)) x r := by
  intro x r h
  rw [M_tree_Tables] at h
  try dsimp only
  refine Fn.of_lc mix fn_52 lok_52 (by rfl) (flC (T_api_Tree.flatC _) (flN)) (.atom _) ?_
  simp -implicitDefEqProofs only [go_sem, Try.f52]
  obtain ⟨l1, h2, h⟩ := bind_some' h
  refine .iter _ _ rfl (M_tree_Walk.w x _ h2) ?_
  try simp -implicitDefEqProofs only [go_sem]
  obtain ⟨s10, h9, h⟩ := bind_some' h
  refine LRange.iter mix fn_52 (LoOk.none _) (by kernel_rfl) (by kernel_rfl) (by rfl) rfl [] [(2100003, 3)] (by rfl) (by rfl) (by (first | rfl | simp -implicitDefEqProofs only [go_sem] <;> rfl)) (by (first | rfl | simp -implicitDefEqProofs only [go_sem] <;> rfl)) (M_tree_Tables.r0.w (l1, 0#64) _ h9 _ ?_)
  intro s0 hs'; subst hs'
  try simp -implicitDefEqProofs only [go_sem]
  injection h with h; subst h
  first | rfl | simp -implicitDefEqProofs only [go_sem] <;> rfl
end Go.Proofs.Ytcfekacmmfdggaa.G
set_option linter.unusedVariables false
set_option linter.unusedSimpArgs false
namespace Go.Proofs.Ytcfekacmmfdggaa.G

def T_api_Pred.size : T_api_Pred → Nat
  | ⟨a, b, c, d, e, ps⟩ => 1 + sizeL ps
where sizeL : List T_api_Pred → Nat
  | [] => 0
  | x :: l => x.size + sizeL l
theorem predSizeL (l : List T_api_Pred) : T_api_Pred.size.sizeL l = (l.map T_api_Pred.size).sum := by
  induction l with
  | nil => simp only [T_api_Pred.size.sizeL, List.map_nil, List.sum_nil]
  | cons x l ih => simp only [T_api_Pred.size.sizeL, List.map_cons, List.sum_cons, ih]
theorem psize_eq (x : T_api_Pred) : x.size = 1 + (x.Parts.map T_api_Pred.size).sum := by
  obtain ⟨a, b, c, d, e, ps⟩ := x
  simp only [T_api_Pred.size, predSizeL]
def T_api_Tree.size : T_api_Tree → Nat
  | ⟨a, b, ks, c, d⟩ => 1 + (c.map T_api_Pred.size).sum + sizeL ks
where sizeL : List T_api_Tree → Nat
  | [] => 0
  | x :: l => x.size + sizeL l
theorem treeSizeL (l : List T_api_Tree) : T_api_Tree.size.sizeL l = (l.map T_api_Tree.size).sum := by
  induction l with
  | nil => simp only [T_api_Tree.size.sizeL, List.map_nil, List.sum_nil]
  | cons x l ih => simp only [T_api_Tree.size.sizeL, List.map_cons, List.sum_cons, ih]
theorem tsize_eq (x : T_api_Tree) : x.size = 1 + (x.Conj.map T_api_Pred.size).sum + (x.Kids.map T_api_Tree.size).sum := by
  obtain ⟨a, b, ks, c, d⟩ := x
  simp only [T_api_Tree.size, treeSizeL]
theorem psize_pos (x : T_api_Pred) : 1 ≤ x.size := by rw [psize_eq]; omega
theorem tsize_pos (x : T_api_Tree) : 1 ≤ x.size := by rw [tsize_eq]; omega
theorem sum_mem {α : Type} (f : α → Nat) : ∀ {l : List α} {x : α}, x ∈ l → f x ≤ (l.map f).sum := by
  intro l
  induction l with
  | nil => intro x h; cases h
  | cons y l ih =>
    intro x h
    simp only [List.map_cons, List.sum_cons]
    rcases List.mem_cons.1 h with rfl | h
    · omega
    · have := ih h; omega
theorem len_sum {α : Type} (f : α → Nat) (h1 : ∀ x, 1 ≤ f x) : ∀ (l : List α), l.length ≤ (l.map f).sum := by
  intro l
  induction l with
  | nil => simp
  | cons y l ih => simp only [List.map_cons, List.sum_cons, List.length_cons]; have := h1 y; omega
theorem ref06_Size_eq (p : T_api_Pred) : ∀ k : Nat, 1 ≤ k → k < 9223372036854775808 → M_ref06_Size (p, (k : Int)) = some ((min p.size k : Nat) : Int) := by
  induction p using T_api_Pred.induct with
  | h p ih =>
    intro k hk1 hk2
    have key := loop_inv p.Parts (fun i n => 1 ≤ n ∧ n ≤ k ∧ i < n) (fun i (n : Nat) => M_ref06_Size.l0 ((k : Int), (n : Int), (i : Int), p)) (fun n l => some ((min (n + (l.map T_api_Pred.size).sum) k : Nat) : Int))
      (fun n hn => by
        show M_ref06_Size.l0 _ = _
        rw [M_ref06_Size.l0, if_neg (dge (by dsimp only; omega))]
        simp only [List.map_nil, List.sum_nil, Nat.add_zero]
        rw [Nat.min_eq_left hn.2.1])
      (fun i n h hn ih2 => by
        show M_ref06_Size.l0 _ = _
        rw [M_ref06_Size.l0, if_pos (dlt (by dsimp only; omega))]
        dsimp only
        by_cases h1 : n < k
        · rw [if_pos (dlt (by omega)), getI_nat h]
          have e1 : w64 ((k : Int) - (n : Int)) = ((k - n : Nat) : Int) := by rw [w64_of (by omega) (by omega)]; omega
          simp only [Option.bind_eq_bind, Option.bind_some]
          rw [e1, ih _ (List.getElem_mem h) (k - n) (by omega) (by omega)]
          simp only [Option.bind_some]
          have hp := psize_pos p.Parts[i]
          have e2 : w64 ((n : Int) + ((min p.Parts[i].size (k - n) : Nat) : Int)) = ((min (n + p.Parts[i].size) k : Nat) : Int) := by rw [w64_of (by omega) (by omega)]; omega
          rw [e2, w64_succ (by omega)]
          have := ih2 (min (n + p.Parts[i].size) k) (by omega)
          try dsimp only at this
          rw [this]
          simp only [List.map_cons, List.sum_cons]
          congr 2; omega
        · rw [if_neg (dge (by omega))]
          congr 2; omega) 0 1 (Nat.zero_le _) (by omega)
    rw [M_ref06_Size]
    rw [List.drop_zero] at key
    have key' : M_ref06_Size.l0 ((k : Int), 1, 0, p) = _ := key
    dsimp only
    rw [key', psize_eq]; rfl
theorem ref10_Size_eq (t : T_api_Tree) : ∀ k : Nat, 1 ≤ k → k < 9223372036854775808 → M_ref10_Size (t, (k : Int)) = some ((min t.size k : Nat) : Int) := by
  induction t using T_api_Tree.induct with
  | h t ih =>
    intro k hk1 hk2
    have key := loop_inv t.Conj (fun i n => 1 ≤ n ∧ n ≤ k ∧ i < n) (fun i (n : Nat) => M_ref10_Size.l0 ((k : Int), (n : Int), (i : Int), t)) (fun n l => some ((min (n + (l.map T_api_Pred.size).sum) k : Nat) : Int))
      (fun n hn => by
        show M_ref10_Size.l0 _ = _
        rw [M_ref10_Size.l0, if_neg (dge (by dsimp only; omega))]
        simp only [List.map_nil, List.sum_nil, Nat.add_zero]
        rw [Nat.min_eq_left hn.2.1])
      (fun i n h hn ih2 => by
        show M_ref10_Size.l0 _ = _
        rw [M_ref10_Size.l0, if_pos (dlt (by dsimp only; omega))]
        dsimp only
        by_cases h1 : n < k
        · rw [if_pos (dlt (by omega)), getI_nat h]
          have e1 : w64 ((k : Int) - (n : Int)) = ((k - n : Nat) : Int) := by rw [w64_of (by omega) (by omega)]; omega
          simp only [Option.bind_eq_bind, Option.bind_some]
          rw [e1, ref06_Size_eq _ (k - n) (by omega) (by omega)]
          simp only [Option.bind_some]
          have hp := psize_pos t.Conj[i]
          have e2 : w64 ((n : Int) + ((min t.Conj[i].size (k - n) : Nat) : Int)) = ((min (n + t.Conj[i].size) k : Nat) : Int) := by rw [w64_of (by omega) (by omega)]; omega
          rw [e2, w64_succ (by omega)]
          have := ih2 (min (n + t.Conj[i].size) k) (by omega)
          try dsimp only at this
          rw [this]
          simp only [List.map_cons, List.sum_cons]
          congr 2; omega
        · rw [if_neg (dge (by omega))]
          congr 2; omega) 0 1 (Nat.zero_le _) (by omega)
    have key2 := fun n0 (h0 : 1 ≤ n0 ∧ n0 ≤ k) => loop_inv t.Kids (fun i n => 1 ≤ n ∧ n ≤ k ∧ i < n) (fun i (n : Nat) => M_ref10_Size.l1 ((k : Int), (n : Int), (i : Int), t)) (fun n l => some ((min (n + (l.map T_api_Tree.size).sum) k : Nat) : Int))
      (fun n hn => by
        show M_ref10_Size.l1 _ = _
        rw [M_ref10_Size.l1, if_neg (dge (by dsimp only; omega))]
        simp only [List.map_nil, List.sum_nil, Nat.add_zero]
        rw [Nat.min_eq_left hn.2.1])
      (fun i n h hn ih2 => by
        show M_ref10_Size.l1 _ = _
        rw [M_ref10_Size.l1, if_pos (dlt (by dsimp only; omega))]
        dsimp only
        by_cases h1 : n < k
        · rw [if_pos (dlt (by omega)), getI_nat h]
          have e1 : w64 ((k : Int) - (n : Int)) = ((k - n : Nat) : Int) := by rw [w64_of (by omega) (by omega)]; omega
          simp only [Option.bind_eq_bind, Option.bind_some]
          rw [e1, ih _ (List.getElem_mem h) (k - n) (by omega) (by omega)]
          simp only [Option.bind_some]
          have hp := tsize_pos t.Kids[i]
          have e2 : w64 ((n : Int) + ((min t.Kids[i].size (k - n) : Nat) : Int)) = ((min (n + t.Kids[i].size) k : Nat) : Int) := by rw [w64_of (by omega) (by omega)]; omega
          rw [e2, w64_succ (by omega)]
          have := ih2 (min (n + t.Kids[i].size) k) (by omega)
          try dsimp only at this
          rw [this]
          simp only [List.map_cons, List.sum_cons]
          congr 2; omega
        · rw [if_neg (dge (by omega))]
          congr 2; omega) 0 n0 (Nat.zero_le _) (by omega)
    rw [M_ref10_Size]
    rw [List.drop_zero] at key
    have key' : M_ref10_Size.l0 ((k : Int), 1, 0, t) = _ := key
    dsimp only
    rw [key']
    simp only [Option.bind_eq_bind, Option.bind_some]
    have k2 := key2 (min (1 + (t.Conj.map T_api_Pred.size).sum) k) (by omega)
    rw [List.drop_zero] at k2
    have k3 : M_ref10_Size.l1 ((k : Int), ((min (1 + (t.Conj.map T_api_Pred.size).sum) k : Nat) : Int), 0, t) = _ := k2
    rw [k3, tsize_eq]
    simp only [Option.bind_some]
    congr 2; omega

/- Tables. -/
theorem kid_size {t y : T_api_Tree} (h : y ∈ t.Kids) : y.size < t.size := by
  have := sum_mem T_api_Tree.size h
  rw [tsize_eq t]; omega
theorem tour_size (t : T_api_Tree) : ∀ y ∈ t.tour, y.size ≤ t.size := by
  induction t using T_api_Tree.induct with
  | h t ih =>
    intro y hy
    rw [tour_eq, List.mem_append] at hy
    rcases hy with hy | hy
    · obtain ⟨k, hk, hy⟩ := List.mem_flatMap.1 hy
      have := ih k hk y hy
      have := kid_size hk
      omega
    · simp at hy; subst hy; exact Nat.le_refl _
theorem kids_len (t : T_api_Tree) : t.Kids.length < t.size := by
  have := len_sum T_api_Tree.size tsize_pos t.Kids
  rw [tsize_eq]; omega
theorem conj_len (t : T_api_Tree) : t.Conj.length < t.size := by
  have := len_sum T_api_Pred.size psize_pos t.Conj
  rw [tsize_eq]; omega
theorem tour_len (t : T_api_Tree) : t.tour.length ≤ t.size := by
  induction t using T_api_Tree.induct with
  | h t ih =>
    rw [tour_eq, List.length_append, tsize_eq, List.length_flatMap]
    have : ∀ l : List T_api_Tree, (∀ y ∈ l, y.tour.length ≤ y.size) → (l.map fun y => y.tour.length).sum ≤ (l.map T_api_Tree.size).sum := by
      intro l
      induction l with
      | nil => intro _; simp
      | cons y l ih => intro h; simp only [List.map_cons, List.sum_cons]; have := ih fun z hz => h z (List.mem_cons_of_mem _ hz); have := h y List.mem_cons_self; omega
    have := this t.Kids ih
    simp; omega
def leafTabs (l : List T_api_Tree) : List Int := (l.filter fun y => y.Kind == 0).map T_api_Tree.Table
theorem leafTabs_pos {x : T_api_Tree} (l : List T_api_Tree) (h : x.Kind = 0) : leafTabs (x :: l) = x.Table :: leafTabs l := by simp [leafTabs, h]
theorem leafTabs_neg {x : T_api_Tree} (l : List T_api_Tree) (h : ¬ x.Kind = 0) : leafTabs (x :: l) = leafTabs l := by simp [leafTabs, h]
/-- A tree's tables. -/
def tabs (t : T_api_Tree) : Set64 := ofL (leafTabs t.tour)
theorem leafTabs_len (l : List T_api_Tree) : (leafTabs l).length ≤ l.length := by
  unfold leafTabs
  rw [List.length_map]; exact List.length_filter_le _ _
theorem tree_Walk_eq (t : T_api_Tree) (h : t.size < 9223372036854775808) : M_tree_Walk t = some t.tour := by
  unfold M_tree_Walk
  rw [if_pos]
  rw [List.all_eq_true]
  intro y hy
  have := tour_size t y hy
  have := kids_len y
  simp; omega
theorem tree_Tables_eq (t : T_api_Tree) (h : t.size < 9223372036854775808) : M_tree_Tables t = some (tabs t) := by
  have key : ∀ (l : List T_api_Tree) (s : Set64), M_tree_Tables.r0 (l, s) = some (s ||| ofL (leafTabs l)) := by
    intro l
    induction l with
    | nil => intro s; rw [M_tree_Tables.r0]; simp [leafTabs, ofL_nil]
    | cons x l ih =>
      intro s
      rw [M_tree_Tables.r0]
      dsimp only
      by_cases hx : x.Kind = 0
      · rw [if_pos (by simpa using hx), sets_Of_eq _ (by simp)]
        simp only [Option.bind_eq_bind, Option.bind_some, ih]
        have : leafTabs (x :: l) = x.Table :: leafTabs l := by simp [leafTabs, hx]
        rw [this, ofL_cons, ofL_cons, ofL_nil, BitVec.or_zero, BitVec.or_assoc]
      · rw [if_neg (by simpa using hx), ih]
        have : leafTabs (x :: l) = leafTabs l := by simp [leafTabs, hx]
        rw [this]
  unfold M_tree_Tables
  rw [tree_Walk_eq t h]
  simp only [Option.bind_eq_bind, Option.bind_some, key, BitVec.zero_or]; rfl
theorem ref10_All_eq (t : T_api_Tree) : t.size ≤ 1000000000 → M_ref10_All t = some t.tour := by
  induction t using T_api_Tree.induct with
  | h t ih =>
    intro hsz
    have hk := kids_len t
    have htl := tour_len t
    have key := loop_inv t.Kids (fun i acc => acc = (t.Kids.take i).flatMap T_api_Tree.tour) (fun i (acc : List T_api_Tree) => M_ref10_All.l0 (acc, (i : Int), t)) (fun acc l => some (acc ++ l.flatMap T_api_Tree.tour))
      (fun acc ha => by
        show M_ref10_All.l0 _ = _
        rw [M_ref10_All.l0, if_neg (dge (by dsimp only; omega))]
        simp)
      (fun i acc h ha ih2 => by
        show M_ref10_All.l0 _ = _
        rw [M_ref10_All.l0, if_pos (dlt (by dsimp only; omega))]
        dsimp only
        rw [getI_nat h]
        have hm := List.getElem_mem h
        have hks := kid_size hm
        simp only [Option.bind_eq_bind, Option.bind_some]
        rw [ih _ hm (by omega)]
        simp only [Option.bind_some]
        have e : acc ++ t.Kids[i].tour = (t.Kids.take (i + 1)).flatMap T_api_Tree.tour := by
          rw [List.take_succ_eq_append_getElem h, List.flatMap_append, ha]; simp
        have hle : (acc ++ t.Kids[i].tour).length ≤ t.tour.length := by
          rw [e, tour_eq, List.length_append]
          have : t.Kids.flatMap T_api_Tree.tour = (t.Kids.take (i + 1)).flatMap T_api_Tree.tour ++ (t.Kids.drop (i + 1)).flatMap T_api_Tree.tour := by rw [← List.flatMap_append, List.take_append_drop]
          rw [this, List.length_append]; omega
        rw [room_of (by rw [← List.length_append]; omega)]
        simp only [Option.bind_some]
        rw [w64_succ (by omega)]
        have := ih2 (acc ++ t.Kids[i].tour) e
        try dsimp only at this
        rw [this]
        simp only [List.flatMap_cons, List.append_assoc]) 0 [] (Nat.zero_le _) (by simp)
    rw [M_ref10_All]
    rw [List.drop_zero, List.nil_append] at key
    have key' : M_ref10_All.l0 (([] : List T_api_Tree), 0, t) = some (t.Kids.flatMap T_api_Tree.tour) := key
    rw [key']
    simp only [Option.bind_eq_bind, Option.bind_some]
    rw [room_of (by
      have : (t.Kids.flatMap T_api_Tree.tour ++ [t]).length ≤ t.size := by rw [← tour_eq]; exact htl
      rw [List.length_append] at this
      omega)]
    simp only [Option.bind_some]
    rw [tour_eq]
theorem ref10_Tables_eq (t : T_api_Tree) (hsz : t.size ≤ 1000000000) : M_ref10_Tables t = some (tabs t) := by
  have htl := tour_len t
  have key : ∀ (l : List T_api_Tree), l.length ≤ 1000000000 → M_ref10_Tables.l0 (([] : List Int), l, 0) = some (leafTabs l) := by
    intro l hl
    have := loop_inv l (fun i acc => acc.length ≤ i) (fun i (acc : List Int) => M_ref10_Tables.l0 (acc, l, (i : Int))) (fun acc l => some (acc ++ leafTabs l))
      (fun acc ha => by
        show M_ref10_Tables.l0 _ = _
        rw [M_ref10_Tables.l0, if_neg (dge (by dsimp only; omega))]
        simp [leafTabs])
      (fun i acc h ha ih2 => by
        show M_ref10_Tables.l0 _ = _
        rw [M_ref10_Tables.l0, if_pos (dlt (by dsimp only; omega))]
        dsimp only
        rw [getI_nat h]
        simp only [Option.bind_eq_bind, Option.bind_some]
        rw [w64_succ (by omega)]
        by_cases hx : l[i].Kind = 0
        · rw [if_pos (by simpa using hx), room_of (by simp; omega)]
          simp only [Option.bind_some]
          have := ih2 (acc ++ [l[i].Table]) (by simp; omega)
          try dsimp only at this
          rw [this]
          rw [leafTabs_pos _ hx, List.append_assoc]; rfl
        · rw [if_neg (by simpa using hx)]
          have := ih2 acc (by omega)
          try dsimp only at this
          rw [this]
          rw [leafTabs_neg _ hx]) 0 [] (Nat.zero_le _) (by simp)
    rw [List.drop_zero, List.nil_append] at this
    exact this
  unfold M_ref10_Tables
  rw [ref10_All_eq t hsz]
  simp only [Option.bind_eq_bind, Option.bind_some]
  rw [key _ (by omega)]
  simp only [Option.bind_some]
  rw [ref01_Of_eq _ (by have := leafTabs_len t.tour; omega)]; rfl
end Go.Proofs.Ytcfekacmmfdggaa.G
set_option linter.unusedVariables false
set_option linter.unusedSimpArgs false
set_option maxRecDepth 100000
namespace Go.Proofs.Ytcfekacmmfdggaa.G
theorem lok_41 : (Try.f41.body.isSome && !(Try.f41.name == "runtime.NumGoroutine") && okL (bodyF Try.f41) Try.f41.ntmps (bodyF Try.f41)) = true := by kernel_rfl
def M_guess_Hidden.l0 (x : Set64 × List T_api_Edge × Int × Int) : Option (Set64) :=
  if (decide (x.2.2.2 < x.2.2.1)) = true then
    (getI x.2.1 x.2.2.2) >>= fun (e2 : T_api_Edge) =>
    if (e2.Kind == 3) = true then
      M_guess_Hidden.l0 ((x.1 ||| e2.Right), x.2.1, x.2.2.1, (w64 (x.2.2.2 + 1)))
    else
      if (e2.Kind == 4) = true then
        M_guess_Hidden.l0 ((x.1 ||| e2.Right), x.2.1, x.2.2.1, (w64 (x.2.2.2 + 1)))
      else
        M_guess_Hidden.l0 (x.1, x.2.1, x.2.2.1, (w64 (x.2.2.2 + 1)))
  else
    some x.1
  partial_fixpoint
theorem M_guess_Hidden.l0.ws : (∀ (x : Set64 × List T_api_Edge × Int × Int) (o : Set64), M_guess_Hidden.l0 x = some o → (fun (x : Set64 × List T_api_Edge × Int × Int) (o : Set64) => ∀ (lo : Option Nat) (c : LCtx) (Q : Exit → LEnv → Prop) (hb : ∀ s : Set64, o = s → Q (.exit 0) ⟨[(3, .v (.w s))], []⟩), LLoop Try.prog 41 lo c 0 (VQ Q) ⟨[(3, .v (.w x.1)), (6, .v (.slice .foreign (x.2.1.map T_api_Edge.av))), (7, .v (.i64 x.2.2.1)), (8, .v (.i64 x.2.2.2))], []⟩) x o) := by
  refine M_guess_Hidden.l0.partial_correctness _ ?_
  · intro M_M_guess_Hidden_l0 ih_M_guess_Hidden_l0 x o h
    intro lo c Q hb
    refine LLoop.step mix fn_41 (by kernel_rfl) ?_
    simp -implicitDefEqProofs only [go_sem, Try.f41]
    by_cases h1 : (decide (x.2.2.2 < x.2.2.1)) = true
    · replace h := ite_some h h1
      try simp -implicitDefEqProofs only [go_sem, h1]
      obtain ⟨e2, h3, h⟩ := bind_some' h; replace h3 := getI_some h3; obtain ⟨h3', h3⟩ := h3
      try simp -implicitDefEqProofs only [go_sem, h1, h3, h3']
      by_cases h4 : (e2.Kind == 3) = true
      · replace h := ite_some h h4
        try simp -implicitDefEqProofs only [go_sem, h1, h3, h3', h4]
        exact LLoop.view [] (by (first | rfl | simp -implicitDefEqProofs only [go_sem, h1, h3, h3', h4] <;> rfl)) (ih_M_guess_Hidden_l0 _ _ h lo c Q hb)
      · replace h := ite_none h h4; replace h4 := bfalse h4
        try simp -implicitDefEqProofs only [go_sem, h1, h3, h3', h4]
        by_cases h5 : (e2.Kind == 4) = true
        · replace h := ite_some h h5
          try simp -implicitDefEqProofs only [go_sem, h1, h3, h3', h4, h5]
          exact LLoop.view [] (by (first | rfl | simp -implicitDefEqProofs only [go_sem, h1, h3, h3', h4, h5] <;> rfl)) (ih_M_guess_Hidden_l0 _ _ h lo c Q hb)
        · replace h := ite_none h h5; replace h5 := bfalse h5
          try simp -implicitDefEqProofs only [go_sem, h1, h3, h3', h4, h5]
          exact LLoop.view [] (by (first | rfl | simp -implicitDefEqProofs only [go_sem, h1, h3, h3', h4, h5] <;> rfl)) (ih_M_guess_Hidden_l0 _ _ h lo c Q hb)
    · replace h := ite_none h h1; replace h1 := bfalse h1
      try simp -implicitDefEqProofs only [go_sem, h1]
      injection h with h; subst h
      exact .inr ⟨[], _, by (simp -implicitDefEqProofs only [go_sem, h1] <;> first | done | rfl | trivial), hb _ rfl⟩
theorem M_guess_Hidden.l0.w : type_of% @M_guess_Hidden.l0.ws := @M_guess_Hidden.l0.ws
def M_guess_Hidden (x : List T_api_Edge) : Option (Set64) :=
  M_guess_Hidden.l0 (0#64, x, (x.length : Int), 0) >>= fun (o6 : Set64) =>
  some o6
set_option maxHeartbeats 8000000 in
theorem M_guess_Hidden.w : ∀ (x : List T_api_Edge) (r : Set64), M_guess_Hidden x = some r → (fun (x : List T_api_Edge) (r : Set64) => Fn Try.prog 41 [.slice .foreign (x.map T_api_Edge.av)] (.w r)) x r := by
  intro x r h
  rw [M_guess_Hidden] at h
  try dsimp only
  refine Fn.of_lc mix fn_41 lok_41 (by rfl) (flC (flat_slice _ T_api_Edge.flat _) (flN)) (.atom _) ?_
  simp -implicitDefEqProofs only [go_sem, Try.f41]
  obtain ⟨o6, h7, h⟩ := bind_some' h
  refine LLoop.viewQ (LLoop.view [] (by (first | rfl | simp -implicitDefEqProofs only [go_sem] <;> rfl)) (M_guess_Hidden.l0.w (0#64, x, (x.length : Int), 0) _ h7 _ _ _ ?_))
  intro s' hs'; subst hs'
  try simp -implicitDefEqProofs only [go_sem]
  injection h with h; subst h
  first | rfl | simp -implicitDefEqProofs only [go_sem] <;> rfl
end Go.Proofs.Ytcfekacmmfdggaa.G
set_option linter.unusedVariables false
set_option linter.unusedSimpArgs false
set_option maxRecDepth 100000
namespace Go.Proofs.Ytcfekacmmfdggaa.G
theorem lok_126 : (Try.f126.body.isSome && !(Try.f126.name == "runtime.NumGoroutine") && okL (bodyF Try.f126) Try.f126.ntmps (bodyF Try.f126)) = true := by kernel_rfl
def M_guess_product.l0 (x : Set64 × List Set64 × Int × Int) : Option (Set64) :=
  if (decide (x.2.2.2 < x.2.2.1)) = true then
    (getI x.2.1 x.2.2.2) >>= fun (e2 : Set64) =>
    M_sat_Mul (x.1, e2) >>= fun r4 =>
    M_guess_product.l0 (r4, x.2.1, x.2.2.1, (w64 (x.2.2.2 + 1)))
  else
    some x.1
  partial_fixpoint
theorem M_guess_product.l0.ws : (∀ (x : Set64 × List Set64 × Int × Int) (o : Set64), M_guess_product.l0 x = some o → (fun (x : Set64 × List Set64 × Int × Int) (o : Set64) => ∀ (lo : Option Nat) (c : LCtx) (Q : Exit → LEnv → Prop) (hb : ∀ s : Set64, o = s → Q (.exit 0) ⟨[(3, .v (.w s))], []⟩), LLoop Try.prog 126 lo c 0 (VQ Q) ⟨[(3, .v (.w x.1)), (6, .v (.slice .foreign (x.2.1.map AV.w))), (7, .v (.i64 x.2.2.1)), (8, .v (.i64 x.2.2.2))], []⟩) x o) := by
  refine M_guess_product.l0.partial_correctness _ ?_
  · intro M_M_guess_product_l0 ih_M_guess_product_l0 x o h
    intro lo c Q hb
    refine LLoop.step mix fn_126 (by kernel_rfl) ?_
    simp -implicitDefEqProofs only [go_sem, Try.f126]
    by_cases h1 : (decide (x.2.2.2 < x.2.2.1)) = true
    · replace h := ite_some h h1
      try simp -implicitDefEqProofs only [go_sem, h1]
      obtain ⟨e2, h3, h⟩ := bind_some' h; replace h3 := getI_some h3; obtain ⟨h3', h3⟩ := h3
      try simp -implicitDefEqProofs only [go_sem, h1, h3, h3']
      obtain ⟨r4, h5, h⟩ := bind_some' h
      refine .plain _ _ rfl (M_sat_Mul.w (x.1, e2) _ h5) ?_
      try simp -implicitDefEqProofs only [go_sem, h1, h3, h3']
      exact LLoop.view [] (by (first | rfl | simp -implicitDefEqProofs only [go_sem, h1, h3, h3'] <;> rfl)) (ih_M_guess_product_l0 _ _ h lo c Q hb)
    · replace h := ite_none h h1; replace h1 := bfalse h1
      try simp -implicitDefEqProofs only [go_sem, h1]
      injection h with h; subst h
      exact .inr ⟨[], _, by (simp -implicitDefEqProofs only [go_sem, h1] <;> first | done | rfl | trivial), hb _ rfl⟩
theorem M_guess_product.l0.w : type_of% @M_guess_product.l0.ws := @M_guess_product.l0.ws
def M_guess_product (x : List Set64) : Option (Set64) :=
  M_guess_product.l0 (1#64, x, (x.length : Int), 0) >>= fun (o6 : Set64) =>
  some o6
set_option maxHeartbeats 8000000 in
theorem M_guess_product.w : ∀ (x : List Set64) (r : Set64), M_guess_product x = some r → (fun (x : List Set64) (r : Set64) => Fn Try.prog 126 [.slice .foreign (x.map AV.w)] (.w r)) x r := by
  intro x r h
  rw [M_guess_product] at h
  try dsimp only
  refine Fn.of_lc mix fn_126 lok_126 (by rfl) (flC (flat_slice _ (fun _ => .atom _) _) (flN)) (.atom _) ?_
  simp -implicitDefEqProofs only [go_sem, Try.f126]
  obtain ⟨o6, h7, h⟩ := bind_some' h
  refine LLoop.viewQ (LLoop.view [] (by (first | rfl | simp -implicitDefEqProofs only [go_sem] <;> rfl)) (M_guess_product.l0.w (1#64, x, (x.length : Int), 0) _ h7 _ _ _ ?_))
  intro s' hs'; subst hs'
  try simp -implicitDefEqProofs only [go_sem]
  injection h with h; subst h
  first | rfl | simp -implicitDefEqProofs only [go_sem] <;> rfl
end Go.Proofs.Ytcfekacmmfdggaa.G
set_option linter.unusedVariables false
set_option linter.unusedSimpArgs false
set_option maxRecDepth 100000
namespace Go.Proofs.Ytcfekacmmfdggaa.G
theorem lok_128 : (Try.f128.body.isSome && !(Try.f128.name == "runtime.NumGoroutine") && okL (bodyF Try.f128) Try.f128.ntmps (bodyF Try.f128)) = true := by kernel_rfl
@[go_sem] theorem lrp_127_1 : lrp Try.prog 127 1 = (15, []) := by kernel_rfl
theorem lok_127 : (Try.f127.body.isSome && !(Try.f127.name == "runtime.NumGoroutine") && okL (bodyF Try.f127) Try.f127.ntmps (bodyF Try.f127)) = true := by kernel_rfl
@[go_sem] theorem lrp_84_2 : lrp Try.prog 84 2 = (7, []) := by kernel_rfl
theorem lok_84 : (Try.f84.body.isSome && !(Try.f84.name == "runtime.NumGoroutine") && okL (bodyF Try.f84) Try.f84.ntmps (bodyF Try.f84)) = true := by kernel_rfl
def M_guess_Rows.l0 (x : List Set64 × List Int × Int × Int × List T_api_Edge × T_api_Stats × Set64) : Option (List Set64) :=
  if (decide (x.2.2.2.1 < x.2.2.1)) = true then
    (getI x.2.1 x.2.2.2.1) >>= fun (e6 : Int) =>
    if (decide (e6 < (x.2.2.2.2.2.1.Rows.length : Int))) = true then
      (getI x.2.2.2.2.2.1.Rows e6) >>= fun (e9 : Set64) =>
      (room 8 x.1 ([e9])) >>= fun (z11 : List Set64) =>
      M_guess_Rows.l0 (z11, x.2.1, x.2.2.1, (w64 (x.2.2.2.1 + 1)), x.2.2.2.2.1, x.2.2.2.2.2.1, x.2.2.2.2.2.2)
    else
      M_guess_Rows.l0 (x.1, x.2.1, x.2.2.1, (w64 (x.2.2.2.1 + 1)), x.2.2.2.2.1, x.2.2.2.2.2.1, x.2.2.2.2.2.2)
  else
    some x.1
  partial_fixpoint
theorem M_guess_Rows.l0.ws : (∀ (x : List Set64 × List Int × Int × Int × List T_api_Edge × T_api_Stats × Set64) (o : List Set64), M_guess_Rows.l0 x = some o → (fun (x : List Set64 × List Int × Int × Int × List T_api_Edge × T_api_Stats × Set64) (o : List Set64) => ∀ (lo : Option Nat) (c : LCtx) (Q : Exit → LEnv → Prop) (hb : ∀ s : List Set64, o = s → Q (.exit 0) ⟨[(3, .lref 3 0), (4, .lref 4 0), (5, .lref 5 0), (7, .own 100700 1 (s.map AV.w))], [(3, [.v (.slice .foreign (x.2.2.2.2.1.map T_api_Edge.av))]), (4, [.v (.slice .foreign (x.2.2.2.2.2.1.Rows.map AV.w)), .v (.slice .foreign (x.2.2.2.2.2.1.Sel.map AV.w))]), (5, [.v (.w x.2.2.2.2.2.2)])]⟩), LLoop Try.prog 84 lo c 0 (VQ Q) ⟨[(3, .lref 3 0), (4, .lref 4 0), (5, .lref 5 0), (7, .own 100700 1 (x.1.map AV.w)), (17, .v (.slice .foreign (x.2.1.map AV.i64))), (18, .v (.i64 x.2.2.1)), (19, .v (.i64 x.2.2.2.1))], [(3, [.v (.slice .foreign (x.2.2.2.2.1.map T_api_Edge.av))]), (4, [.v (.slice .foreign (x.2.2.2.2.2.1.Rows.map AV.w)), .v (.slice .foreign (x.2.2.2.2.2.1.Sel.map AV.w))]), (5, [.v (.w x.2.2.2.2.2.2)])]⟩) x o) := by
  refine M_guess_Rows.l0.partial_correctness _ ?_
  · intro M_M_guess_Rows_l0 ih_M_guess_Rows_l0 x o h
    intro lo c Q hb
    refine LLoop.step mix fn_84 (by kernel_rfl) ?_
    simp -implicitDefEqProofs only [go_sem, Try.f84]
    by_cases h5 : (decide (x.2.2.2.1 < x.2.2.1)) = true
    · replace h := ite_some h h5
      try simp -implicitDefEqProofs only [go_sem, h5]
      obtain ⟨e6, h7, h⟩ := bind_some' h; replace h7 := getI_some h7; obtain ⟨h7', h7⟩ := h7
      try simp -implicitDefEqProofs only [go_sem, h5, h7, h7']
      by_cases h8 : (decide (e6 < (x.2.2.2.2.2.1.Rows.length : Int))) = true
      · replace h := ite_some h h8
        try simp -implicitDefEqProofs only [go_sem, h5, h7, h7', h8]
        obtain ⟨e9, h10, h⟩ := bind_some' h; replace h10 := getI_some h10; obtain ⟨h10', h10⟩ := h10
        try simp -implicitDefEqProofs only [go_sem, h5, h7, h7', h8, h10, h10']
        obtain ⟨z11, h12, h⟩ := bind_some' h; replace h12 := room_some h12; obtain ⟨h12', rfl⟩ := h12
        refine LApp.map (F := AV.w) (xs := x.1) (ys := [e9]) t23_elem t32_size t32_bytes t32_zsize rfl (fun _ => rfl) (by (first | rfl | simp -implicitDefEqProofs only [go_sem, h5, h7, h7', h8, h10, h10'] <;> rfl)) (by (first | rfl | simp -implicitDefEqProofs only [go_sem, h5, h7, h7', h8, h10, h10'] <;> rfl)) h12' ?_
        try simp -implicitDefEqProofs only [go_sem, h5, h7, h7', h8, h10, h10']
        exact LLoop.view [(100700, some 35)] (by (first | rfl | simp -implicitDefEqProofs only [go_sem, h5, h7, h7', h8, h10, h10'] <;> rfl)) (ih_M_guess_Rows_l0 _ _ h lo c Q hb)
      · replace h := ite_none h h8; replace h8 := bfalse h8
        try simp -implicitDefEqProofs only [go_sem, h5, h7, h7', h8]
        exact LLoop.view [(100700, some 100700)] (by (first | rfl | simp -implicitDefEqProofs only [go_sem, h5, h7, h7', h8] <;> rfl)) (ih_M_guess_Rows_l0 _ _ h lo c Q hb)
    · replace h := ite_none h h5; replace h5 := bfalse h5
      try simp -implicitDefEqProofs only [go_sem, h5]
      injection h with h; subst h
      exact .inr ⟨[(100700, some 100700)], _, by (simp -implicitDefEqProofs only [go_sem, h5] <;> first | done | rfl | trivial), hb _ rfl⟩
theorem M_guess_Rows.l0.w : type_of% @M_guess_Rows.l0.ws := @M_guess_Rows.l0.ws
def M_sets_In (x : Set64 × Set64) : Option (Bool) :=
  some ((x.1 &&& ~~~x.2) == 0#64)
set_option maxHeartbeats 8000000 in
theorem M_sets_In.w : ∀ (x : Set64 × Set64) (r : Bool), M_sets_In x = some r → (fun (x : Set64 × Set64) (r : Bool) => Fn Try.prog 128 [.w x.1, .w x.2] (.bool r)) x r := by
  intro x r h
  rw [M_sets_In] at h
  try dsimp only
  refine Fn.of_lc mix fn_128 lok_128 (by rfl) (flC (.atom _) (flC (.atom _) (flN))) (.atom _) ?_
  simp -implicitDefEqProofs only [go_sem, Try.f128]
  injection h with h; subst h
  first | rfl | simp -implicitDefEqProofs only [go_sem] <;> rfl
def M_guess_Rows_1 (x : Int × T_api_Stats × List T_api_Edge × Set64) : Option (Bool) :=
  if (decide (x.1 < (x.2.1.Sel.length : Int))) = true then
    (getI x.2.2.1 x.1) >>= fun (e2 : T_api_Edge) =>
    M_sets_In (e2.Uses, x.2.2.2) >>= fun r4 =>
    some r4
  else
    some false
set_option maxHeartbeats 8000000 in
theorem M_guess_Rows_1.w : ∀ (x : Int × T_api_Stats × List T_api_Edge × Set64) (r : Bool), M_guess_Rows_1 x = some r → (fun (x : Int × T_api_Stats × List T_api_Edge × Set64) (r : Bool) => FnB Try.prog 127 [(3000000, [.v (.slice .foreign (x.2.1.Rows.map AV.w)), .v (.slice .foreign (x.2.1.Sel.map AV.w))]), (3000001, [.v (.slice .foreign (x.2.2.1.map T_api_Edge.av))]), (3000002, [.v (.w x.2.2.2)])] [.a (.i64 x.1), .p 3000000, .p 3000001, .p 3000002] (.bool r) [(3000000, [.v (.slice .foreign (x.2.1.Rows.map AV.w)), .v (.slice .foreign (x.2.1.Sel.map AV.w))]), (3000001, [.v (.slice .foreign (x.2.2.1.map T_api_Edge.av))]), (3000002, [.v (.w x.2.2.2)])]) x r := by
  intro x r h
  rw [M_guess_Rows_1] at h
  try dsimp only
  refine FnB.of_lc mix fn_127 lok_127 (by rfl) (by rfl) fun c => ?_
  simp -implicitDefEqProofs only [go_sem, Try.f127]
  by_cases h1 : (decide (x.1 < (x.2.1.Sel.length : Int))) = true
  · replace h := ite_some h h1
    try simp -implicitDefEqProofs only [go_sem, h1]
    obtain ⟨e2, h3, h⟩ := bind_some' h; replace h3 := getI_some h3; obtain ⟨h3', h3⟩ := h3
    try simp -implicitDefEqProofs only [go_sem, h1, h3, h3']
    obtain ⟨r4, h5, h⟩ := bind_some' h
    refine .plain _ _ rfl (M_sets_In.w (e2.Uses, x.2.2.2) _ h5) ?_
    try simp -implicitDefEqProofs only [go_sem, h1, h3, h3']
    injection h with h; subst h
    first | exact ⟨by (first | rfl | simp -implicitDefEqProofs only [go_sem, h1, h3, h3'] <;> rfl), [], by rfl, by (first | rfl | simp -implicitDefEqProofs only [go_sem, h1, h3, h3'] <;> rfl)⟩ | exact ⟨by (first | rfl | simp -implicitDefEqProofs only [go_sem, h1, h3, h3'] <;> rfl), [], by rfl⟩ | exact ⟨by (first | rfl | simp -implicitDefEqProofs only [go_sem, h1, h3, h3'] <;> rfl), [], by (simp -implicitDefEqProofs only [go_sem, h1, h3, h3'] <;> first | done | rfl | trivial)⟩ | exact ⟨[], by rfl, by (first | rfl | simp -implicitDefEqProofs only [go_sem, h1, h3, h3'] <;> rfl)⟩ | exact ⟨[], by rfl, by (simp -implicitDefEqProofs only [go_sem, h1, h3, h3'] <;> first | done | rfl | trivial)⟩
  · replace h := ite_none h h1; replace h1 := bfalse h1
    try simp -implicitDefEqProofs only [go_sem, h1]
    injection h with h; subst h
    first | exact ⟨by (first | rfl | simp -implicitDefEqProofs only [go_sem, h1] <;> rfl), [], by rfl, by (first | rfl | simp -implicitDefEqProofs only [go_sem, h1] <;> rfl)⟩ | exact ⟨by (first | rfl | simp -implicitDefEqProofs only [go_sem, h1] <;> rfl), [], by rfl⟩ | exact ⟨by (first | rfl | simp -implicitDefEqProofs only [go_sem, h1] <;> rfl), [], by (simp -implicitDefEqProofs only [go_sem, h1] <;> first | done | rfl | trivial)⟩ | exact ⟨[], by rfl, by (first | rfl | simp -implicitDefEqProofs only [go_sem, h1] <;> rfl)⟩ | exact ⟨[], by rfl, by (simp -implicitDefEqProofs only [go_sem, h1] <;> first | done | rfl | trivial)⟩
def M_guess_Rows.l1 (x : Set64 × Int × Int × List T_api_Edge × T_api_Stats × Set64) : Option (Set64) :=
  if (decide (x.2.2.1 < x.2.1)) = true then
    M_guess_Rows_1 (x.2.2.1, x.2.2.2.2.1, x.2.2.2.1, x.2.2.2.2.2) >>= fun r18 =>
    if r18 = true then
      (getI x.2.2.2.2.1.Sel x.2.2.1) >>= fun (e21 : Set64) =>
      M_sat_Share (x.1, e21) >>= fun r23 =>
      M_guess_Rows.l1 (r23, x.2.1, (w64 (x.2.2.1 + 1)), x.2.2.2.1, x.2.2.2.2.1, x.2.2.2.2.2)
    else
      M_guess_Rows.l1 (x.1, x.2.1, (w64 (x.2.2.1 + 1)), x.2.2.2.1, x.2.2.2.2.1, x.2.2.2.2.2)
  else
    some x.1
  partial_fixpoint
theorem M_guess_Rows.l1.ws : (∀ (x : Set64 × Int × Int × List T_api_Edge × T_api_Stats × Set64) (o : Set64), M_guess_Rows.l1 x = some o → (fun (x : Set64 × Int × Int × List T_api_Edge × T_api_Stats × Set64) (o : Set64) => ∀ (lo : Option Nat) (c : LCtx) (Q : Exit → LEnv → Prop) (hb : ∀ s : Set64, o = s → Q (.exit 2) ⟨[(10, .v (.w s))], []⟩), LLoop Try.prog 84 lo c 1 (VQ Q) ⟨[(4, .lref 4 0), (10, .v (.w x.1)), (11, .fn 127 [] [.p 4, .p 3, .p 5]), (41, .v (.i64 x.2.1)), (42, .v (.i64 x.2.2.1))], [(3, [.v (.slice .foreign (x.2.2.2.1.map T_api_Edge.av))]), (4, [.v (.slice .foreign (x.2.2.2.2.1.Rows.map AV.w)), .v (.slice .foreign (x.2.2.2.2.1.Sel.map AV.w))]), (5, [.v (.w x.2.2.2.2.2)])]⟩) x o) := by
  refine M_guess_Rows.l1.partial_correctness _ ?_
  · intro M_M_guess_Rows_l1 ih_M_guess_Rows_l1 x o h
    intro lo c Q hb
    refine LLoop.step mix fn_84 (by kernel_rfl) ?_
    simp -implicitDefEqProofs only [go_sem, Try.f84]
    by_cases h17 : (decide (x.2.2.1 < x.2.1)) = true
    · replace h := ite_some h h17
      try simp -implicitDefEqProofs only [go_sem, h17]
      obtain ⟨r18, h19, h⟩ := bind_some' h
      have hw := M_guess_Rows_1.w (x.2.2.1, x.2.2.2.2.1, x.2.2.2.1, x.2.2.2.2.2) _ h19
      refine .vars [] [(3000000, 4), (3000001, 3), (3000002, 5)] _ _ _ _ hw (by (first | rfl | simp -implicitDefEqProofs only [go_sem, h17] <;> rfl)) (by rfl) (by rfl) (by rfl) (by rfl) (by (first | rfl | simp -implicitDefEqProofs only [go_sem, h17] <;> rfl)) (by (first | rfl | simp -implicitDefEqProofs only [go_sem, h17] <;> rfl)) (by (first | rfl | simp -implicitDefEqProofs only [go_sem, h17] <;> rfl)) ?_
      clear hw
      try simp -implicitDefEqProofs only [go_sem, h17]
      by_cases h20 : r18 = true
      · replace h := ite_some h h20
        try simp -implicitDefEqProofs only [go_sem, h17, h20]
        obtain ⟨e21, h22, h⟩ := bind_some' h; replace h22 := getI_some h22; obtain ⟨h22', h22⟩ := h22
        try simp -implicitDefEqProofs only [go_sem, h17, h20, h22, h22']
        obtain ⟨r23, h24, h⟩ := bind_some' h
        refine .plain _ _ rfl (M_sat_Share.w (x.1, e21) _ h24) ?_
        try simp -implicitDefEqProofs only [go_sem, h17, h20, h22, h22']
        exact LLoop.view [] (by (first | rfl | simp -implicitDefEqProofs only [go_sem, h17, h20, h22, h22'] <;> rfl)) (ih_M_guess_Rows_l1 _ _ h lo c Q hb)
      · replace h := ite_none h h20; replace h20 := bfalse h20
        try simp -implicitDefEqProofs only [go_sem, h17, h20]
        exact LLoop.view [] (by (first | rfl | simp -implicitDefEqProofs only [go_sem, h17, h20] <;> rfl)) (ih_M_guess_Rows_l1 _ _ h lo c Q hb)
    · replace h := ite_none h h17; replace h17 := bfalse h17
      try simp -implicitDefEqProofs only [go_sem, h17]
      injection h with h; subst h
      exact .inr ⟨[], _, by (simp -implicitDefEqProofs only [go_sem, h17] <;> first | done | rfl | trivial), hb _ rfl⟩
theorem M_guess_Rows.l1.w : type_of% @M_guess_Rows.l1.ws := @M_guess_Rows.l1.ws
def M_guess_Rows (x : List T_api_Edge × T_api_Stats × Set64) : Option (Set64) :=
  M_guess_Hidden x.1 >>= fun r1 =>
  M_sets_List (x.2.2 &&& ~~~r1) >>= fun r3 =>
  M_guess_Rows.l0 (([] : List Set64), r3, (r3.length : Int), 0, x.1, x.2.1, x.2.2) >>= fun (o13 : List Set64) =>
  M_guess_product o13 >>= fun r15 =>
  M_guess_Rows.l1 (r15, (x.1.length : Int), 0, x.1, x.2.1, x.2.2) >>= fun (o25 : Set64) =>
  some (wmax (1#64) o25)
set_option maxHeartbeats 8000000 in
theorem M_guess_Rows.w : ∀ (x : List T_api_Edge × T_api_Stats × Set64) (r : Set64), M_guess_Rows x = some r → (fun (x : List T_api_Edge × T_api_Stats × Set64) (r : Set64) => Fn Try.prog 84 [.slice .foreign (x.1.map T_api_Edge.av), .agg (T_api_Stats.C x.2.1), .w x.2.2] (.w r)) x r := by
  intro x r h
  rw [M_guess_Rows] at h
  try dsimp only
  refine Fn.of_lc mix fn_84 lok_84 (by rfl) (flC (flat_slice _ T_api_Edge.flat _) (flC (T_api_Stats.flatC _) (flC (.atom _) (flN)))) (.atom _) ?_
  simp -implicitDefEqProofs only [go_sem, Try.f84]
  obtain ⟨r1, h2, h⟩ := bind_some' h
  refine .plain _ _ rfl (M_guess_Hidden.w x.1 _ h2) ?_
  try simp -implicitDefEqProofs only [go_sem]
  obtain ⟨r3, h4, h⟩ := bind_some' h
  refine .plain _ _ rfl (M_sets_List.w (x.2.2 &&& ~~~r1) _ h4) ?_
  try simp -implicitDefEqProofs only [go_sem]
  obtain ⟨o13, h14, h⟩ := bind_some' h
  refine LLoop.viewQ (LLoop.view [(100700, none)] (by (first | rfl | simp -implicitDefEqProofs only [go_sem] <;> rfl)) (M_guess_Rows.l0.w (([] : List Set64), r3, (r3.length : Int), 0, x.1, x.2.1, x.2.2) _ h14 _ _ _ ?_))
  intro s' hs'; subst hs'
  try simp -implicitDefEqProofs only [go_sem]
  obtain ⟨r15, h16, h⟩ := bind_some' h
  refine .plain _ _ rfl (M_guess_product.w o13 _ h16) ?_
  try simp -implicitDefEqProofs only [go_sem]
  obtain ⟨o25, h26, h⟩ := bind_some' h
  refine LLoop.viewQ (LLoop.view [] (by (first | rfl | simp -implicitDefEqProofs only [go_sem] <;> rfl)) (M_guess_Rows.l1.w (r15, (x.1.length : Int), 0, x.1, x.2.1, x.2.2) _ h26 _ _ _ ?_))
  intro s' hs'; subst hs'
  try simp -implicitDefEqProofs only [go_sem]
  injection h with h; subst h
  first | rfl | simp -implicitDefEqProofs only [go_sem] <;> rfl
end Go.Proofs.Ytcfekacmmfdggaa.G
set_option linter.unusedVariables false
set_option linter.unusedSimpArgs false
set_option maxRecDepth 100000
namespace Go.Proofs.Ytcfekacmmfdggaa.G
theorem lok_45 : (Try.f45.body.isSome && !(Try.f45.name == "runtime.NumGoroutine") && okL (bodyF Try.f45) Try.f45.ntmps (bodyF Try.f45)) = true := by kernel_rfl
def M_cost_Model_rows (x : T_cost_Model × Set64) : Option (Set64) :=
  M_guess_Rows (x.1.Edges, x.1.Stats, x.2) >>= fun r1 =>
  some r1
set_option maxHeartbeats 8000000 in
theorem M_cost_Model_rows.w : ∀ (x : T_cost_Model × Set64) (r : Set64), M_cost_Model_rows x = some r → (fun (x : T_cost_Model × Set64) (r : Set64) => Fn Try.prog 45 [.agg (T_cost_Model.C x.1), .w x.2] (.w r)) x r := by
  intro x r h
  rw [M_cost_Model_rows] at h
  try dsimp only
  refine Fn.of_lc mix fn_45 lok_45 (by rfl) (flC (T_cost_Model.flatC _) (flC (.atom _) (flN))) (.atom _) ?_
  simp -implicitDefEqProofs only [go_sem, Try.f45]
  obtain ⟨r1, h2, h⟩ := bind_some' h
  refine .plain _ _ rfl (M_guess_Rows.w (x.1.Edges, x.1.Stats, x.2) _ h2) ?_
  try simp -implicitDefEqProofs only [go_sem]
  injection h with h; subst h
  first | rfl | simp -implicitDefEqProofs only [go_sem] <;> rfl
end Go.Proofs.Ytcfekacmmfdggaa.G
set_option linter.unusedVariables false
set_option linter.unusedSimpArgs false
set_option maxRecDepth 100000
namespace Go.Proofs.Ytcfekacmmfdggaa.G
theorem lok_42 : (Try.f42.body.isSome && !(Try.f42.name == "runtime.NumGoroutine") && okL (bodyF Try.f42) Try.f42.ntmps (bodyF Try.f42)) = true := by kernel_rfl
def M_hash_Keys.l0 (x : Set64 × Set64 × List A2_T_api_Term × List T_api_Pred × Int × Int) : Option (List A2_T_api_Term) :=
  if (decide (x.2.2.2.2.2 < x.2.2.2.2.1)) = true then
    (getI x.2.2.2.1 x.2.2.2.2.2) >>= fun (e2 : T_api_Pred) =>
    if (e2.Kind != 2) = true then
      M_hash_Keys.l0 (x.1, x.2.1, x.2.2.1, x.2.2.2.1, x.2.2.2.2.1, (w64 (x.2.2.2.2.2 + 1)))
    else
      if (e2.Op != 1) = true then
        M_hash_Keys.l0 (x.1, x.2.1, x.2.2.1, x.2.2.2.1, x.2.2.2.2.1, (w64 (x.2.2.2.2.2 + 1)))
      else
        if (e2.A.Kind != 1) = true then
          M_hash_Keys.l0 (x.1, x.2.1, x.2.2.1, x.2.2.2.1, x.2.2.2.2.1, (w64 (x.2.2.2.2.2 + 1)))
        else
          if (e2.B.Kind != 1) = true then
            M_hash_Keys.l0 (x.1, x.2.1, x.2.2.1, x.2.2.2.1, x.2.2.2.2.1, (w64 (x.2.2.2.2.2 + 1)))
          else
            M_sets_Has (x.1, e2.A.Table) >>= fun r8 =>
            if r8 = true then
              M_sets_Has (x.2.1, e2.B.Table) >>= fun r11 =>
              if r11 = true then
                (room 80 x.2.2.1 ([(⟨e2.A, e2.B⟩ : A2_T_api_Term)])) >>= fun (z14 : List A2_T_api_Term) =>
                M_hash_Keys.l0 (x.1, x.2.1, z14, x.2.2.2.1, x.2.2.2.2.1, (w64 (x.2.2.2.2.2 + 1)))
              else
                M_sets_Has (x.1, e2.B.Table) >>= fun r16 =>
                if r16 = true then
                  M_sets_Has (x.2.1, e2.A.Table) >>= fun r19 =>
                  if r19 = true then
                    (room 80 x.2.2.1 ([(⟨e2.B, e2.A⟩ : A2_T_api_Term)])) >>= fun (z22 : List A2_T_api_Term) =>
                    M_hash_Keys.l0 (x.1, x.2.1, z22, x.2.2.2.1, x.2.2.2.2.1, (w64 (x.2.2.2.2.2 + 1)))
                  else
                    M_hash_Keys.l0 (x.1, x.2.1, x.2.2.1, x.2.2.2.1, x.2.2.2.2.1, (w64 (x.2.2.2.2.2 + 1)))
                else
                  M_hash_Keys.l0 (x.1, x.2.1, x.2.2.1, x.2.2.2.1, x.2.2.2.2.1, (w64 (x.2.2.2.2.2 + 1)))
            else
              M_sets_Has (x.1, e2.B.Table) >>= fun r24 =>
              if r24 = true then
                M_sets_Has (x.2.1, e2.A.Table) >>= fun r27 =>
                if r27 = true then
                  (room 80 x.2.2.1 ([(⟨e2.B, e2.A⟩ : A2_T_api_Term)])) >>= fun (z30 : List A2_T_api_Term) =>
                  M_hash_Keys.l0 (x.1, x.2.1, z30, x.2.2.2.1, x.2.2.2.2.1, (w64 (x.2.2.2.2.2 + 1)))
                else
                  M_hash_Keys.l0 (x.1, x.2.1, x.2.2.1, x.2.2.2.1, x.2.2.2.2.1, (w64 (x.2.2.2.2.2 + 1)))
              else
                M_hash_Keys.l0 (x.1, x.2.1, x.2.2.1, x.2.2.2.1, x.2.2.2.2.1, (w64 (x.2.2.2.2.2 + 1)))
  else
    some x.2.2.1
  partial_fixpoint
set_option maxHeartbeats 8000000 in
theorem M_hash_Keys.l0.ws : (∀ (x : Set64 × Set64 × List A2_T_api_Term × List T_api_Pred × Int × Int) (o : List A2_T_api_Term), M_hash_Keys.l0 x = some o → (fun (x : Set64 × Set64 × List A2_T_api_Term × List T_api_Pred × Int × Int) (o : List A2_T_api_Term) => ∀ (lo : Option Nat) (c : LCtx) (Q : Exit → LEnv → Prop) (hb : ∀ s : List A2_T_api_Term, o = s → Q (.exit 0) ⟨[(7, .own 100700 10 (s.map A2_T_api_Term.av))], []⟩), LLoop Try.prog 42 lo c 0 (VQ Q) ⟨[(1, .v (.w x.1)), (2, .v (.w x.2.1)), (7, .own 100700 10 (x.2.2.1.map A2_T_api_Term.av)), (10, .v (.slice .foreign (x.2.2.2.1.map T_api_Pred.av))), (11, .v (.i64 x.2.2.2.2.1)), (12, .v (.i64 x.2.2.2.2.2))], []⟩) x o) := by
  refine M_hash_Keys.l0.partial_correctness _ ?_
  · intro M_M_hash_Keys_l0 ih_M_hash_Keys_l0 x o h
    intro lo c Q hb
    refine LLoop.step mix fn_42 (by kernel_rfl) ?_
    simp -implicitDefEqProofs only [go_sem, Try.f42]
    by_cases h1 : (decide (x.2.2.2.2.2 < x.2.2.2.2.1)) = true
    · replace h := ite_some h h1
      try simp -implicitDefEqProofs only [go_sem, h1]
      obtain ⟨e2, h3, h⟩ := bind_some' h; replace h3 := getI_some h3; obtain ⟨h3', h3⟩ := h3
      try simp -implicitDefEqProofs only [go_sem, h1, h3, h3']
      by_cases h4 : (e2.Kind != 2) = true
      · replace h := ite_some h h4
        try simp -implicitDefEqProofs only [go_sem, h1, h3, h3', h4]
        exact LLoop.view [(100700, some 100700)] (by (first | rfl | simp -implicitDefEqProofs only [go_sem, h1, h3, h3', h4] <;> rfl)) (ih_M_hash_Keys_l0 _ _ h lo c Q hb)
      · replace h := ite_none h h4; replace h4 := bfalse h4
        try simp -implicitDefEqProofs only [go_sem, h1, h3, h3', h4]
        by_cases h5 : (e2.Op != 1) = true
        · replace h := ite_some h h5
          try simp -implicitDefEqProofs only [go_sem, h1, h3, h3', h4, h5]
          exact LLoop.view [(100700, some 100700)] (by (first | rfl | simp -implicitDefEqProofs only [go_sem, h1, h3, h3', h4, h5] <;> rfl)) (ih_M_hash_Keys_l0 _ _ h lo c Q hb)
        · replace h := ite_none h h5; replace h5 := bfalse h5
          try simp -implicitDefEqProofs only [go_sem, h1, h3, h3', h4, h5]
          by_cases h6 : (e2.A.Kind != 1) = true
          · replace h := ite_some h h6
            try simp -implicitDefEqProofs only [go_sem, h1, h3, h3', h4, h5, h6]
            exact LLoop.view [(100700, some 100700)] (by (first | rfl | simp -implicitDefEqProofs only [go_sem, h1, h3, h3', h4, h5, h6] <;> rfl)) (ih_M_hash_Keys_l0 _ _ h lo c Q hb)
          · replace h := ite_none h h6; replace h6 := bfalse h6
            try simp -implicitDefEqProofs only [go_sem, h1, h3, h3', h4, h5, h6]
            by_cases h7 : (e2.B.Kind != 1) = true
            · replace h := ite_some h h7
              try simp -implicitDefEqProofs only [go_sem, h1, h3, h3', h4, h5, h6, h7]
              exact LLoop.view [(100700, some 100700)] (by (first | rfl | simp -implicitDefEqProofs only [go_sem, h1, h3, h3', h4, h5, h6, h7] <;> rfl)) (ih_M_hash_Keys_l0 _ _ h lo c Q hb)
            · replace h := ite_none h h7; replace h7 := bfalse h7
              try simp -implicitDefEqProofs only [go_sem, h1, h3, h3', h4, h5, h6, h7]
              obtain ⟨r8, h9, h⟩ := bind_some' h
              refine .plain _ _ rfl (M_sets_Has.w (x.1, e2.A.Table) _ h9) ?_
              try simp -implicitDefEqProofs only [go_sem, h1, h3, h3', h4, h5, h6, h7]
              by_cases h10 : r8 = true
              · replace h := ite_some h h10
                try simp -implicitDefEqProofs only [go_sem, h1, h3, h3', h4, h5, h6, h7, h10]
                obtain ⟨r11, h12, h⟩ := bind_some' h
                refine .plain _ _ rfl (M_sets_Has.w (x.2.1, e2.B.Table) _ h12) ?_
                try simp -implicitDefEqProofs only [go_sem, h1, h3, h3', h4, h5, h6, h7, h10]
                by_cases h13 : r11 = true
                · replace h := ite_some h h13
                  try simp -implicitDefEqProofs only [go_sem, h1, h3, h3', h4, h5, h6, h7, h10, h13]
                  obtain ⟨z14, h15, h⟩ := bind_some' h; replace h15 := room_some h15; obtain ⟨h15', rfl⟩ := h15
                  refine LApp.map (F := A2_T_api_Term.av) (xs := x.2.2.1) (ys := [(⟨e2.A, e2.B⟩ : A2_T_api_Term)]) t70_elem t119_size t119_bytes t119_zsize rfl A2_T_api_Term.len (by (first | rfl | simp -implicitDefEqProofs only [go_sem, h1, h3, h3', h4, h5, h6, h7, h10, h13] <;> rfl)) (by (first | rfl | simp -implicitDefEqProofs only [go_sem, h1, h3, h3', h4, h5, h6, h7, h10, h13] <;> rfl)) h15' ?_
                  try simp -implicitDefEqProofs only [go_sem, h1, h3, h3', h4, h5, h6, h7, h10, h13]
                  exact LLoop.view [(100700, some 56)] (by (first | rfl | simp -implicitDefEqProofs only [go_sem, h1, h3, h3', h4, h5, h6, h7, h10, h13] <;> rfl)) (ih_M_hash_Keys_l0 _ _ h lo c Q hb)
                · replace h := ite_none h h13; replace h13 := bfalse h13
                  try simp -implicitDefEqProofs only [go_sem, h1, h3, h3', h4, h5, h6, h7, h10, h13]
                  obtain ⟨r16, h17, h⟩ := bind_some' h
                  refine .plain _ _ rfl (M_sets_Has.w (x.1, e2.B.Table) _ h17) ?_
                  try simp -implicitDefEqProofs only [go_sem, h1, h3, h3', h4, h5, h6, h7, h10, h13]
                  by_cases h18 : r16 = true
                  · replace h := ite_some h h18
                    try simp -implicitDefEqProofs only [go_sem, h1, h3, h3', h4, h5, h6, h7, h10, h13, h18]
                    obtain ⟨r19, h20, h⟩ := bind_some' h
                    refine .plain _ _ rfl (M_sets_Has.w (x.2.1, e2.A.Table) _ h20) ?_
                    try simp -implicitDefEqProofs only [go_sem, h1, h3, h3', h4, h5, h6, h7, h10, h13, h18]
                    by_cases h21 : r19 = true
                    · replace h := ite_some h h21
                      try simp -implicitDefEqProofs only [go_sem, h1, h3, h3', h4, h5, h6, h7, h10, h13, h18, h21]
                      obtain ⟨z22, h23, h⟩ := bind_some' h; replace h23 := room_some h23; obtain ⟨h23', rfl⟩ := h23
                      refine LApp.map (F := A2_T_api_Term.av) (xs := x.2.2.1) (ys := [(⟨e2.B, e2.A⟩ : A2_T_api_Term)]) t70_elem t119_size t119_bytes t119_zsize rfl A2_T_api_Term.len (by (first | rfl | simp -implicitDefEqProofs only [go_sem, h1, h3, h3', h4, h5, h6, h7, h10, h13, h18, h21] <;> rfl)) (by (first | rfl | simp -implicitDefEqProofs only [go_sem, h1, h3, h3', h4, h5, h6, h7, h10, h13, h18, h21] <;> rfl)) h23' ?_
                      try simp -implicitDefEqProofs only [go_sem, h1, h3, h3', h4, h5, h6, h7, h10, h13, h18, h21]
                      exact LLoop.view [(100700, some 77)] (by (first | rfl | simp -implicitDefEqProofs only [go_sem, h1, h3, h3', h4, h5, h6, h7, h10, h13, h18, h21] <;> rfl)) (ih_M_hash_Keys_l0 _ _ h lo c Q hb)
                    · replace h := ite_none h h21; replace h21 := bfalse h21
                      try simp -implicitDefEqProofs only [go_sem, h1, h3, h3', h4, h5, h6, h7, h10, h13, h18, h21]
                      exact LLoop.view [(100700, some 100700)] (by (first | rfl | simp -implicitDefEqProofs only [go_sem, h1, h3, h3', h4, h5, h6, h7, h10, h13, h18, h21] <;> rfl)) (ih_M_hash_Keys_l0 _ _ h lo c Q hb)
                  · replace h := ite_none h h18; replace h18 := bfalse h18
                    try simp -implicitDefEqProofs only [go_sem, h1, h3, h3', h4, h5, h6, h7, h10, h13, h18]
                    exact LLoop.view [(100700, some 100700)] (by (first | rfl | simp -implicitDefEqProofs only [go_sem, h1, h3, h3', h4, h5, h6, h7, h10, h13, h18] <;> rfl)) (ih_M_hash_Keys_l0 _ _ h lo c Q hb)
              · replace h := ite_none h h10; replace h10 := bfalse h10
                try simp -implicitDefEqProofs only [go_sem, h1, h3, h3', h4, h5, h6, h7, h10]
                obtain ⟨r24, h25, h⟩ := bind_some' h
                refine .plain _ _ rfl (M_sets_Has.w (x.1, e2.B.Table) _ h25) ?_
                try simp -implicitDefEqProofs only [go_sem, h1, h3, h3', h4, h5, h6, h7, h10]
                by_cases h26 : r24 = true
                · replace h := ite_some h h26
                  try simp -implicitDefEqProofs only [go_sem, h1, h3, h3', h4, h5, h6, h7, h10, h26]
                  obtain ⟨r27, h28, h⟩ := bind_some' h
                  refine .plain _ _ rfl (M_sets_Has.w (x.2.1, e2.A.Table) _ h28) ?_
                  try simp -implicitDefEqProofs only [go_sem, h1, h3, h3', h4, h5, h6, h7, h10, h26]
                  by_cases h29 : r27 = true
                  · replace h := ite_some h h29
                    try simp -implicitDefEqProofs only [go_sem, h1, h3, h3', h4, h5, h6, h7, h10, h26, h29]
                    obtain ⟨z30, h31, h⟩ := bind_some' h; replace h31 := room_some h31; obtain ⟨h31', rfl⟩ := h31
                    refine LApp.map (F := A2_T_api_Term.av) (xs := x.2.2.1) (ys := [(⟨e2.B, e2.A⟩ : A2_T_api_Term)]) t70_elem t119_size t119_bytes t119_zsize rfl A2_T_api_Term.len (by (first | rfl | simp -implicitDefEqProofs only [go_sem, h1, h3, h3', h4, h5, h6, h7, h10, h26, h29] <;> rfl)) (by (first | rfl | simp -implicitDefEqProofs only [go_sem, h1, h3, h3', h4, h5, h6, h7, h10, h26, h29] <;> rfl)) h31' ?_
                    try simp -implicitDefEqProofs only [go_sem, h1, h3, h3', h4, h5, h6, h7, h10, h26, h29]
                    exact LLoop.view [(100700, some 77)] (by (first | rfl | simp -implicitDefEqProofs only [go_sem, h1, h3, h3', h4, h5, h6, h7, h10, h26, h29] <;> rfl)) (ih_M_hash_Keys_l0 _ _ h lo c Q hb)
                  · replace h := ite_none h h29; replace h29 := bfalse h29
                    try simp -implicitDefEqProofs only [go_sem, h1, h3, h3', h4, h5, h6, h7, h10, h26, h29]
                    exact LLoop.view [(100700, some 100700)] (by (first | rfl | simp -implicitDefEqProofs only [go_sem, h1, h3, h3', h4, h5, h6, h7, h10, h26, h29] <;> rfl)) (ih_M_hash_Keys_l0 _ _ h lo c Q hb)
                · replace h := ite_none h h26; replace h26 := bfalse h26
                  try simp -implicitDefEqProofs only [go_sem, h1, h3, h3', h4, h5, h6, h7, h10, h26]
                  exact LLoop.view [(100700, some 100700)] (by (first | rfl | simp -implicitDefEqProofs only [go_sem, h1, h3, h3', h4, h5, h6, h7, h10, h26] <;> rfl)) (ih_M_hash_Keys_l0 _ _ h lo c Q hb)
    · replace h := ite_none h h1; replace h1 := bfalse h1
      try simp -implicitDefEqProofs only [go_sem, h1]
      injection h with h; subst h
      exact .inr ⟨[(100700, some 100700)], _, by (simp -implicitDefEqProofs only [go_sem, h1] <;> first | done | rfl | trivial), hb _ rfl⟩
theorem M_hash_Keys.l0.w : type_of% @M_hash_Keys.l0.ws := @M_hash_Keys.l0.ws
def M_hash_Keys (x : List T_api_Pred × Set64 × Set64) : Option (List A2_T_api_Term) :=
  M_hash_Keys.l0 (x.2.1, x.2.2, ([] : List A2_T_api_Term), x.1, (x.1.length : Int), 0) >>= fun (o32 : List A2_T_api_Term) =>
  some o32
set_option maxHeartbeats 8000000 in
theorem M_hash_Keys.w : ∀ (x : List T_api_Pred × Set64 × Set64) (r : List A2_T_api_Term), M_hash_Keys x = some r → (fun (x : List T_api_Pred × Set64 × Set64) (r : List A2_T_api_Term) => Fn Try.prog 42 [.slice .foreign (x.1.map T_api_Pred.av), .w x.2.1, .w x.2.2] (.slice .foreign (r.map A2_T_api_Term.av))) x r := by
  intro x r h
  rw [M_hash_Keys] at h
  try dsimp only
  refine Fn.of_lc mix fn_42 lok_42 (by rfl) (flC (flat_slice _ T_api_Pred.flat _) (flC (.atom _) (flC (.atom _) (flN)))) (flat_slice _ A2_T_api_Term.flat _) ?_
  simp -implicitDefEqProofs only [go_sem, Try.f42]
  obtain ⟨o32, h33, h⟩ := bind_some' h
  refine LLoop.viewQ (LLoop.view [(100700, none)] (by (first | rfl | simp -implicitDefEqProofs only [go_sem] <;> rfl)) (M_hash_Keys.l0.w (x.2.1, x.2.2, ([] : List A2_T_api_Term), x.1, (x.1.length : Int), 0) _ h33 _ _ _ ?_))
  intro s' hs'; subst hs'
  try simp -implicitDefEqProofs only [go_sem]
  injection h with h; subst h
  first | rfl | simp -implicitDefEqProofs only [go_sem] <;> rfl
end Go.Proofs.Ytcfekacmmfdggaa.G
set_option linter.unusedVariables false
set_option linter.unusedSimpArgs false
set_option maxRecDepth 100000
namespace Go.Proofs.Ytcfekacmmfdggaa.G
theorem lok_12 : (Try.f12.body.isSome && !(Try.f12.name == "runtime.NumGoroutine") && okL (bodyF Try.f12) Try.f12.ntmps (bodyF Try.f12)) = true := by kernel_rfl
def M_cost_Model_Keyed (x : T_cost_Model × Set64 × Set64 × List T_api_Pred) : Option (Bool) :=
  M_guess_Hidden x.1.Edges >>= fun r1 =>
  if (x.1.Kind == 2) = true then
    M_hash_Keys (x.2.2.2, (x.2.1 &&& ~~~r1), (x.2.2.1 &&& ~~~r1)) >>= fun r4 =>
    some (decide ((r4.length : Int) > 0))
  else
    some false
set_option maxHeartbeats 8000000 in
theorem M_cost_Model_Keyed.w : ∀ (x : T_cost_Model × Set64 × Set64 × List T_api_Pred) (r : Bool), M_cost_Model_Keyed x = some r → (fun (x : T_cost_Model × Set64 × Set64 × List T_api_Pred) (r : Bool) => Fn Try.prog 12 [.agg (T_cost_Model.C x.1), .w x.2.1, .w x.2.2.1, .slice .foreign (x.2.2.2.map T_api_Pred.av)] (.bool r)) x r := by
  intro x r h
  rw [M_cost_Model_Keyed] at h
  try dsimp only
  refine Fn.of_lc mix fn_12 lok_12 (by rfl) (flC (T_cost_Model.flatC _) (flC (.atom _) (flC (.atom _) (flC (flat_slice _ T_api_Pred.flat _) (flN))))) (.atom _) ?_
  simp -implicitDefEqProofs only [go_sem, Try.f12]
  obtain ⟨r1, h2, h⟩ := bind_some' h
  refine .plain _ _ rfl (M_guess_Hidden.w x.1.Edges _ h2) ?_
  try simp -implicitDefEqProofs only [go_sem]
  by_cases h3 : (x.1.Kind == 2) = true
  · replace h := ite_some h h3
    try simp -implicitDefEqProofs only [go_sem, h3]
    obtain ⟨r4, h5, h⟩ := bind_some' h
    refine .plain _ _ rfl (M_hash_Keys.w (x.2.2.2, (x.2.1 &&& ~~~r1), (x.2.2.1 &&& ~~~r1)) _ h5) ?_
    try simp -implicitDefEqProofs only [go_sem, h3]
    injection h with h; subst h
    first | rfl | simp -implicitDefEqProofs only [go_sem, h3] <;> rfl
  · replace h := ite_none h h3; replace h3 := bfalse h3
    try simp -implicitDefEqProofs only [go_sem, h3]
    injection h with h; subst h
    first | rfl | simp -implicitDefEqProofs only [go_sem, h3] <;> rfl
end Go.Proofs.Ytcfekacmmfdggaa.G
set_option linter.unusedVariables false
set_option linter.unusedSimpArgs false
set_option maxRecDepth 100000
namespace Go.Proofs.Ytcfekacmmfdggaa.G
theorem lok_46 : (Try.f46.body.isSome && !(Try.f46.name == "runtime.NumGoroutine") && okL (bodyF Try.f46) Try.f46.ntmps (bodyF Try.f46)) = true := by kernel_rfl
def M_cost_Model_way (x : T_cost_Model × Set64 × Set64 × List T_api_Pred) : Option (Int) :=
  if (x.1.Kind != 2) = true then
    some 0
  else
    M_cost_Model_Keyed (x.1, x.2.1, x.2.2.1, x.2.2.2) >>= fun r2 =>
    if r2 = true then
      some 1
    else
      some 2
set_option maxHeartbeats 8000000 in
theorem M_cost_Model_way.w : ∀ (x : T_cost_Model × Set64 × Set64 × List T_api_Pred) (r : Int), M_cost_Model_way x = some r → (fun (x : T_cost_Model × Set64 × Set64 × List T_api_Pred) (r : Int) => Fn Try.prog 46 [.agg (T_cost_Model.C x.1), .w x.2.1, .w x.2.2.1, .slice .foreign (x.2.2.2.map T_api_Pred.av)] (.i64 r)) x r := by
  intro x r h
  rw [M_cost_Model_way] at h
  try dsimp only
  refine Fn.of_lc mix fn_46 lok_46 (by rfl) (flC (T_cost_Model.flatC _) (flC (.atom _) (flC (.atom _) (flC (flat_slice _ T_api_Pred.flat _) (flN))))) (.atom _) ?_
  simp -implicitDefEqProofs only [go_sem, Try.f46]
  by_cases h1 : (x.1.Kind != 2) = true
  · replace h := ite_some h h1
    try simp -implicitDefEqProofs only [go_sem, h1]
    injection h with h; subst h
    first | rfl | simp -implicitDefEqProofs only [go_sem, h1] <;> rfl
  · replace h := ite_none h h1; replace h1 := bfalse h1
    try simp -implicitDefEqProofs only [go_sem, h1]
    obtain ⟨r2, h3, h⟩ := bind_some' h
    refine .plain _ _ rfl (M_cost_Model_Keyed.w (x.1, x.2.1, x.2.2.1, x.2.2.2) _ h3) ?_
    try simp -implicitDefEqProofs only [go_sem, h1]
    by_cases h4 : r2 = true
    · replace h := ite_some h h4
      try simp -implicitDefEqProofs only [go_sem, h1, h4]
      injection h with h; subst h
      first | rfl | simp -implicitDefEqProofs only [go_sem, h1, h4] <;> rfl
    · replace h := ite_none h h4; replace h4 := bfalse h4
      try simp -implicitDefEqProofs only [go_sem, h1, h4]
      injection h with h; subst h
      first | rfl | simp -implicitDefEqProofs only [go_sem, h1, h4] <;> rfl
end Go.Proofs.Ytcfekacmmfdggaa.G
set_option linter.unusedVariables false
set_option linter.unusedSimpArgs false
set_option maxRecDepth 100000
namespace Go.Proofs.Ytcfekacmmfdggaa.G
@[go_sem] theorem lrp_14_4 : lrp Try.prog 14 4 = (10, []) := by kernel_rfl
@[go_sem] theorem lrp_14_6 : lrp Try.prog 14 6 = (11, []) := by kernel_rfl
theorem lok_14 : (Try.f14.body.isSome && !(Try.f14.name == "runtime.NumGoroutine") && okL (bodyF Try.f14) Try.f14.ntmps (bodyF Try.f14)) = true := by kernel_rfl
def M_cost_Model_Node (x : T_cost_Model × Set64 × Set64 × List T_api_Pred) : Option (Set64) :=
  M_cost_Model_rows (x.1, (x.2.1 ||| x.2.2.1)) >>= fun r1 =>
  M_cost_Model_way (x.1, x.2.1, x.2.2.1, x.2.2.2) >>= fun r3 =>
  if (r3 == 1) = true then
    M_cost_Model_rows (x.1, x.2.1) >>= fun r6 =>
    M_cost_Model_rows (x.1, x.2.2.1) >>= fun r8 =>
    M_sat_Add ([r6, r8, r1]) >>= fun r10 =>
    some r10
  else
    if (r3 == 2) = true then
      M_cost_Model_rows (x.1, x.2.1) >>= fun r13 =>
      M_cost_Model_rows (x.1, x.2.2.1) >>= fun r15 =>
      M_sat_Mul (r13, r15) >>= fun r17 =>
      M_sat_Add ([r17, r1]) >>= fun r19 =>
      some r19
    else
      some r1
set_option maxHeartbeats 8000000 in
theorem M_cost_Model_Node.w : ∀ (x : T_cost_Model × Set64 × Set64 × List T_api_Pred) (r : Set64), M_cost_Model_Node x = some r → (fun (x : T_cost_Model × Set64 × Set64 × List T_api_Pred) (r : Set64) => Fn Try.prog 14 [.agg (T_cost_Model.C x.1), .w x.2.1, .w x.2.2.1, .slice .foreign (x.2.2.2.map T_api_Pred.av)] (.w r)) x r := by
  intro x r h
  rw [M_cost_Model_Node] at h
  try dsimp only
  refine Fn.of_lc mix fn_14 lok_14 (by rfl) (flC (T_cost_Model.flatC _) (flC (.atom _) (flC (.atom _) (flC (flat_slice _ T_api_Pred.flat _) (flN))))) (.atom _) ?_
  simp -implicitDefEqProofs only [go_sem, Try.f14]
  obtain ⟨r1, h2, h⟩ := bind_some' h
  refine .plain _ _ rfl (M_cost_Model_rows.w (x.1, (x.2.1 ||| x.2.2.1)) _ h2) ?_
  try simp -implicitDefEqProofs only [go_sem]
  obtain ⟨r3, h4, h⟩ := bind_some' h
  refine .plain _ _ rfl (M_cost_Model_way.w (x.1, x.2.1, x.2.2.1, x.2.2.2) _ h4) ?_
  try simp -implicitDefEqProofs only [go_sem]
  by_cases h5 : (r3 == 1) = true
  · replace h := ite_some h h5
    try simp -implicitDefEqProofs only [go_sem, h5]
    obtain ⟨r6, h7, h⟩ := bind_some' h
    refine .plain _ _ rfl (M_cost_Model_rows.w (x.1, x.2.1) _ h7) ?_
    try simp -implicitDefEqProofs only [go_sem, h5]
    obtain ⟨r8, h9, h⟩ := bind_some' h
    refine .plain _ _ rfl (M_cost_Model_rows.w (x.1, x.2.2.1) _ h9) ?_
    try simp -implicitDefEqProofs only [go_sem, h5]
    obtain ⟨r10, h11, h⟩ := bind_some' h
    have hw := M_sat_Add.w ([r6, r8, r1]) _ h11
    simp -implicitDefEqProofs only [go_sem] at hw
    refine .plain _ _ rfl hw ?_
    clear hw
    try simp -implicitDefEqProofs only [go_sem, h5]
    injection h with h; subst h
    first | rfl | simp -implicitDefEqProofs only [go_sem, h5] <;> rfl
  · replace h := ite_none h h5; replace h5 := bfalse h5
    try simp -implicitDefEqProofs only [go_sem, h5]
    by_cases h12 : (r3 == 2) = true
    · replace h := ite_some h h12
      try simp -implicitDefEqProofs only [go_sem, h5, h12]
      obtain ⟨r13, h14, h⟩ := bind_some' h
      refine .plain _ _ rfl (M_cost_Model_rows.w (x.1, x.2.1) _ h14) ?_
      try simp -implicitDefEqProofs only [go_sem, h5, h12]
      obtain ⟨r15, h16, h⟩ := bind_some' h
      refine .plain _ _ rfl (M_cost_Model_rows.w (x.1, x.2.2.1) _ h16) ?_
      try simp -implicitDefEqProofs only [go_sem, h5, h12]
      obtain ⟨r17, h18, h⟩ := bind_some' h
      refine .plain _ _ rfl (M_sat_Mul.w (r13, r15) _ h18) ?_
      try simp -implicitDefEqProofs only [go_sem, h5, h12]
      obtain ⟨r19, h20, h⟩ := bind_some' h
      have hw := M_sat_Add.w ([r17, r1]) _ h20
      simp -implicitDefEqProofs only [go_sem] at hw
      refine .plain _ _ rfl hw ?_
      clear hw
      try simp -implicitDefEqProofs only [go_sem, h5, h12]
      injection h with h; subst h
      first | rfl | simp -implicitDefEqProofs only [go_sem, h5, h12] <;> rfl
    · replace h := ite_none h h12; replace h12 := bfalse h12
      try simp -implicitDefEqProofs only [go_sem, h5, h12]
      injection h with h; subst h
      first | rfl | simp -implicitDefEqProofs only [go_sem, h5, h12] <;> rfl
end Go.Proofs.Ytcfekacmmfdggaa.G
set_option linter.unusedVariables false
set_option linter.unusedSimpArgs false
set_option maxRecDepth 100000
namespace Go.Proofs.Ytcfekacmmfdggaa.G
@[go_sem] theorem lrp_16_3 : lrp Try.prog 16 3 = (12, []) := by kernel_rfl
@[go_sem] theorem lrp_16_4 : lrp Try.prog 16 4 = (21, []) := by kernel_rfl
theorem lok_16 : (Try.f16.body.isSome && !(Try.f16.name == "runtime.NumGoroutine") && okL (bodyF Try.f16) Try.f16.ntmps (bodyF Try.f16)) = true := by kernel_rfl
def M_cost_Model_Tree (x : T_cost_Model × T_api_Tree) : Option (Set64) :=
  if ((x.2.Kids.length : Int) != 2) = true then
    some (0#64)
  else
    (x.2.Kids[0]?) >>= fun (e2 : T_api_Tree) =>
    M_tree_Tables e2 >>= fun r4 =>
    (x.2.Kids[1]?) >>= fun (e6 : T_api_Tree) =>
    M_tree_Tables e6 >>= fun r8 =>
    M_cost_Model_Tree (x.1, e2) >>= fun r10 =>
    M_cost_Model_Tree (x.1, e6) >>= fun r12 =>
    M_cost_Model_Node (x.1, r4, r8, x.2.Conj) >>= fun r14 =>
    M_sat_Add ([r10, r12, r14]) >>= fun r16 =>
    some r16
  partial_fixpoint
theorem M_cost_Model_Tree.ws : (∀ (x : T_cost_Model × T_api_Tree) (o : Set64), M_cost_Model_Tree x = some o → (fun (x : T_cost_Model × T_api_Tree) (r : Set64) => Fn Try.prog 16 [.agg (T_cost_Model.C x.1), .agg (T_api_Tree.C x.2)] (.w r)) x o) := by
  refine M_cost_Model_Tree.partial_correctness _ ?_
  · intro M_M_cost_Model_Tree ih_M_cost_Model_Tree x r h
    refine Fn.of_lc mix fn_16 lok_16 (by rfl) (flC (T_cost_Model.flatC _) (flC (T_api_Tree.flatC _) (flN))) (.atom _) ?_
    simp -implicitDefEqProofs only [go_sem, Try.f16]
    by_cases h1 : ((x.2.Kids.length : Int) != 2) = true
    · replace h := ite_some h h1
      try simp -implicitDefEqProofs only [go_sem, h1]
      injection h with h; subst h
      first | rfl | simp -implicitDefEqProofs only [go_sem, h1] <;> rfl
    · replace h := ite_none h h1; replace h1 := bfalse h1
      try simp -implicitDefEqProofs only [go_sem, h1]
      obtain ⟨e2, h3, h⟩ := bind_some' h
      try simp -implicitDefEqProofs only [go_sem, h1, h3]
      obtain ⟨r4, h5, h⟩ := bind_some' h
      refine .plain _ _ rfl (M_tree_Tables.w e2 _ h5) ?_
      try simp -implicitDefEqProofs only [go_sem, h1, h3]
      obtain ⟨e6, h7, h⟩ := bind_some' h
      try simp -implicitDefEqProofs only [go_sem, h1, h3, h7]
      obtain ⟨r8, h9, h⟩ := bind_some' h
      refine .plain _ _ rfl (M_tree_Tables.w e6 _ h9) ?_
      try simp -implicitDefEqProofs only [go_sem, h1, h3, h7]
      obtain ⟨r10, h11, h⟩ := bind_some' h
      refine .plain _ _ rfl (ih_M_cost_Model_Tree (x.1, e2) _ h11) ?_
      try simp -implicitDefEqProofs only [go_sem, h1, h3, h7]
      obtain ⟨r12, h13, h⟩ := bind_some' h
      refine .plain _ _ rfl (ih_M_cost_Model_Tree (x.1, e6) _ h13) ?_
      try simp -implicitDefEqProofs only [go_sem, h1, h3, h7]
      obtain ⟨r14, h15, h⟩ := bind_some' h
      refine .plain _ _ rfl (M_cost_Model_Node.w (x.1, r4, r8, x.2.Conj) _ h15) ?_
      try simp -implicitDefEqProofs only [go_sem, h1, h3, h7]
      obtain ⟨r16, h17, h⟩ := bind_some' h
      have hw := M_sat_Add.w ([r10, r12, r14]) _ h17
      simp -implicitDefEqProofs only [go_sem] at hw
      refine .plain _ _ rfl hw ?_
      clear hw
      try simp -implicitDefEqProofs only [go_sem, h1, h3, h7]
      injection h with h; subst h
      first | rfl | simp -implicitDefEqProofs only [go_sem, h1, h3, h7] <;> rfl
theorem M_cost_Model_Tree.w : type_of% @M_cost_Model_Tree.ws := @M_cost_Model_Tree.ws
end Go.Proofs.Ytcfekacmmfdggaa.G
set_option linter.unusedVariables false
set_option linter.unusedSimpArgs false
set_option maxRecDepth 100000
namespace Go.Proofs.Ytcfekacmmfdggaa.G
theorem lok_44 : (Try.f44.body.isSome && !(Try.f44.name == "runtime.NumGoroutine") && okL (bodyF Try.f44) Try.f44.ntmps (bodyF Try.f44)) = true := by kernel_rfl
def M_ref15_Keys.l0 (x : List T_api_Pred × Set64 × Set64 × List A2_T_api_Term × Int) : Option (List A2_T_api_Term) :=
  if (decide (x.2.2.2.2 < (x.1.length : Int))) = true then
    (getI x.1 x.2.2.2.2) >>= fun (e2 : T_api_Pred) =>
    if (e2.Kind != 2) = true then
      M_ref15_Keys.l0 (x.1, x.2.1, x.2.2.1, x.2.2.2.1, (w64 (x.2.2.2.2 + 1)))
    else
      if (e2.Op != 1) = true then
        M_ref15_Keys.l0 (x.1, x.2.1, x.2.2.1, x.2.2.2.1, (w64 (x.2.2.2.2 + 1)))
      else
        if (e2.A.Kind != 1) = true then
          M_ref15_Keys.l0 (x.1, x.2.1, x.2.2.1, x.2.2.2.1, (w64 (x.2.2.2.2 + 1)))
        else
          if (e2.B.Kind != 1) = true then
            M_ref15_Keys.l0 (x.1, x.2.1, x.2.2.1, x.2.2.2.1, (w64 (x.2.2.2.2 + 1)))
          else
            M_ref01_Has (x.2.1, e2.A.Table) >>= fun r8 =>
            if r8 = true then
              M_ref01_Has (x.2.2.1, e2.B.Table) >>= fun r11 =>
              if r11 = true then
                (room 80 x.2.2.2.1 ([(⟨e2.A, e2.B⟩ : A2_T_api_Term)])) >>= fun (z14 : List A2_T_api_Term) =>
                M_ref15_Keys.l0 (x.1, x.2.1, x.2.2.1, z14, (w64 (x.2.2.2.2 + 1)))
              else
                M_ref01_Has (x.2.2.1, e2.A.Table) >>= fun r16 =>
                if r16 = true then
                  M_ref01_Has (x.2.1, e2.B.Table) >>= fun r19 =>
                  if r19 = true then
                    (room 80 x.2.2.2.1 ([(⟨e2.B, e2.A⟩ : A2_T_api_Term)])) >>= fun (z22 : List A2_T_api_Term) =>
                    M_ref15_Keys.l0 (x.1, x.2.1, x.2.2.1, z22, (w64 (x.2.2.2.2 + 1)))
                  else
                    M_ref15_Keys.l0 (x.1, x.2.1, x.2.2.1, x.2.2.2.1, (w64 (x.2.2.2.2 + 1)))
                else
                  M_ref15_Keys.l0 (x.1, x.2.1, x.2.2.1, x.2.2.2.1, (w64 (x.2.2.2.2 + 1)))
            else
              M_ref01_Has (x.2.2.1, e2.A.Table) >>= fun r24 =>
              if r24 = true then
                M_ref01_Has (x.2.1, e2.B.Table) >>= fun r27 =>
                if r27 = true then
                  (room 80 x.2.2.2.1 ([(⟨e2.B, e2.A⟩ : A2_T_api_Term)])) >>= fun (z30 : List A2_T_api_Term) =>
                  M_ref15_Keys.l0 (x.1, x.2.1, x.2.2.1, z30, (w64 (x.2.2.2.2 + 1)))
                else
                  M_ref15_Keys.l0 (x.1, x.2.1, x.2.2.1, x.2.2.2.1, (w64 (x.2.2.2.2 + 1)))
              else
                M_ref15_Keys.l0 (x.1, x.2.1, x.2.2.1, x.2.2.2.1, (w64 (x.2.2.2.2 + 1)))
  else
    some x.2.2.2.1
  partial_fixpoint
set_option maxHeartbeats 8000000 in
theorem M_ref15_Keys.l0.ws : (∀ (x : List T_api_Pred × Set64 × Set64 × List A2_T_api_Term × Int) (o : List A2_T_api_Term), M_ref15_Keys.l0 x = some o → (fun (x : List T_api_Pred × Set64 × Set64 × List A2_T_api_Term × Int) (o : List A2_T_api_Term) => ∀ (lo : Option Nat) (c : LCtx) (Q : Exit → LEnv → Prop) (hb : ∀ s : List A2_T_api_Term, o = s → Q (.exit 0) ⟨[(7, .own 100700 10 (s.map A2_T_api_Term.av))], []⟩), LLoop Try.prog 44 lo c 0 (VQ Q) ⟨[(0, .v (.slice .foreign (x.1.map T_api_Pred.av))), (1, .v (.w x.2.1)), (2, .v (.w x.2.2.1)), (7, .own 100700 10 (x.2.2.2.1.map A2_T_api_Term.av)), (8, .v (.i64 x.2.2.2.2))], []⟩) x o) := by
  refine M_ref15_Keys.l0.partial_correctness _ ?_
  · intro M_M_ref15_Keys_l0 ih_M_ref15_Keys_l0 x o h
    intro lo c Q hb
    refine LLoop.step mix fn_44 (by kernel_rfl) ?_
    simp -implicitDefEqProofs only [go_sem, Try.f44]
    by_cases h1 : (decide (x.2.2.2.2 < (x.1.length : Int))) = true
    · replace h := ite_some h h1
      try simp -implicitDefEqProofs only [go_sem, h1]
      obtain ⟨e2, h3, h⟩ := bind_some' h; replace h3 := getI_some h3; obtain ⟨h3', h3⟩ := h3
      try simp -implicitDefEqProofs only [go_sem, h1, h3, h3']
      by_cases h4 : (e2.Kind != 2) = true
      · replace h := ite_some h h4
        try simp -implicitDefEqProofs only [go_sem, h1, h3, h3', h4]
        exact LLoop.view [(100700, some 100700)] (by (first | rfl | simp -implicitDefEqProofs only [go_sem, h1, h3, h3', h4] <;> rfl)) (ih_M_ref15_Keys_l0 _ _ h lo c Q hb)
      · replace h := ite_none h h4; replace h4 := bfalse h4
        try simp -implicitDefEqProofs only [go_sem, h1, h3, h3', h4]
        by_cases h5 : (e2.Op != 1) = true
        · replace h := ite_some h h5
          try simp -implicitDefEqProofs only [go_sem, h1, h3, h3', h4, h5]
          exact LLoop.view [(100700, some 100700)] (by (first | rfl | simp -implicitDefEqProofs only [go_sem, h1, h3, h3', h4, h5] <;> rfl)) (ih_M_ref15_Keys_l0 _ _ h lo c Q hb)
        · replace h := ite_none h h5; replace h5 := bfalse h5
          try simp -implicitDefEqProofs only [go_sem, h1, h3, h3', h4, h5]
          by_cases h6 : (e2.A.Kind != 1) = true
          · replace h := ite_some h h6
            try simp -implicitDefEqProofs only [go_sem, h1, h3, h3', h4, h5, h6]
            exact LLoop.view [(100700, some 100700)] (by (first | rfl | simp -implicitDefEqProofs only [go_sem, h1, h3, h3', h4, h5, h6] <;> rfl)) (ih_M_ref15_Keys_l0 _ _ h lo c Q hb)
          · replace h := ite_none h h6; replace h6 := bfalse h6
            try simp -implicitDefEqProofs only [go_sem, h1, h3, h3', h4, h5, h6]
            by_cases h7 : (e2.B.Kind != 1) = true
            · replace h := ite_some h h7
              try simp -implicitDefEqProofs only [go_sem, h1, h3, h3', h4, h5, h6, h7]
              exact LLoop.view [(100700, some 100700)] (by (first | rfl | simp -implicitDefEqProofs only [go_sem, h1, h3, h3', h4, h5, h6, h7] <;> rfl)) (ih_M_ref15_Keys_l0 _ _ h lo c Q hb)
            · replace h := ite_none h h7; replace h7 := bfalse h7
              try simp -implicitDefEqProofs only [go_sem, h1, h3, h3', h4, h5, h6, h7]
              obtain ⟨r8, h9, h⟩ := bind_some' h
              refine .plain _ _ rfl (M_ref01_Has.w (x.2.1, e2.A.Table) _ h9) ?_
              try simp -implicitDefEqProofs only [go_sem, h1, h3, h3', h4, h5, h6, h7]
              by_cases h10 : r8 = true
              · replace h := ite_some h h10
                try simp -implicitDefEqProofs only [go_sem, h1, h3, h3', h4, h5, h6, h7, h10]
                obtain ⟨r11, h12, h⟩ := bind_some' h
                refine .plain _ _ rfl (M_ref01_Has.w (x.2.2.1, e2.B.Table) _ h12) ?_
                try simp -implicitDefEqProofs only [go_sem, h1, h3, h3', h4, h5, h6, h7, h10]
                by_cases h13 : r11 = true
                · replace h := ite_some h h13
                  try simp -implicitDefEqProofs only [go_sem, h1, h3, h3', h4, h5, h6, h7, h10, h13]
                  obtain ⟨z14, h15, h⟩ := bind_some' h; replace h15 := room_some h15; obtain ⟨h15', rfl⟩ := h15
                  refine LApp.map (F := A2_T_api_Term.av) (xs := x.2.2.2.1) (ys := [(⟨e2.A, e2.B⟩ : A2_T_api_Term)]) t70_elem t119_size t119_bytes t119_zsize rfl A2_T_api_Term.len (by (first | rfl | simp -implicitDefEqProofs only [go_sem, h1, h3, h3', h4, h5, h6, h7, h10, h13] <;> rfl)) (by (first | rfl | simp -implicitDefEqProofs only [go_sem, h1, h3, h3', h4, h5, h6, h7, h10, h13] <;> rfl)) h15' ?_
                  try simp -implicitDefEqProofs only [go_sem, h1, h3, h3', h4, h5, h6, h7, h10, h13]
                  exact LLoop.view [(100700, some 60)] (by (first | rfl | simp -implicitDefEqProofs only [go_sem, h1, h3, h3', h4, h5, h6, h7, h10, h13] <;> rfl)) (ih_M_ref15_Keys_l0 _ _ h lo c Q hb)
                · replace h := ite_none h h13; replace h13 := bfalse h13
                  try simp -implicitDefEqProofs only [go_sem, h1, h3, h3', h4, h5, h6, h7, h10, h13]
                  obtain ⟨r16, h17, h⟩ := bind_some' h
                  refine .plain _ _ rfl (M_ref01_Has.w (x.2.2.1, e2.A.Table) _ h17) ?_
                  try simp -implicitDefEqProofs only [go_sem, h1, h3, h3', h4, h5, h6, h7, h10, h13]
                  by_cases h18 : r16 = true
                  · replace h := ite_some h h18
                    try simp -implicitDefEqProofs only [go_sem, h1, h3, h3', h4, h5, h6, h7, h10, h13, h18]
                    obtain ⟨r19, h20, h⟩ := bind_some' h
                    refine .plain _ _ rfl (M_ref01_Has.w (x.2.1, e2.B.Table) _ h20) ?_
                    try simp -implicitDefEqProofs only [go_sem, h1, h3, h3', h4, h5, h6, h7, h10, h13, h18]
                    by_cases h21 : r19 = true
                    · replace h := ite_some h h21
                      try simp -implicitDefEqProofs only [go_sem, h1, h3, h3', h4, h5, h6, h7, h10, h13, h18, h21]
                      obtain ⟨z22, h23, h⟩ := bind_some' h; replace h23 := room_some h23; obtain ⟨h23', rfl⟩ := h23
                      refine LApp.map (F := A2_T_api_Term.av) (xs := x.2.2.2.1) (ys := [(⟨e2.B, e2.A⟩ : A2_T_api_Term)]) t70_elem t119_size t119_bytes t119_zsize rfl A2_T_api_Term.len (by (first | rfl | simp -implicitDefEqProofs only [go_sem, h1, h3, h3', h4, h5, h6, h7, h10, h13, h18, h21] <;> rfl)) (by (first | rfl | simp -implicitDefEqProofs only [go_sem, h1, h3, h3', h4, h5, h6, h7, h10, h13, h18, h21] <;> rfl)) h23' ?_
                      try simp -implicitDefEqProofs only [go_sem, h1, h3, h3', h4, h5, h6, h7, h10, h13, h18, h21]
                      exact LLoop.view [(100700, some 80)] (by (first | rfl | simp -implicitDefEqProofs only [go_sem, h1, h3, h3', h4, h5, h6, h7, h10, h13, h18, h21] <;> rfl)) (ih_M_ref15_Keys_l0 _ _ h lo c Q hb)
                    · replace h := ite_none h h21; replace h21 := bfalse h21
                      try simp -implicitDefEqProofs only [go_sem, h1, h3, h3', h4, h5, h6, h7, h10, h13, h18, h21]
                      exact LLoop.view [(100700, some 100700)] (by (first | rfl | simp -implicitDefEqProofs only [go_sem, h1, h3, h3', h4, h5, h6, h7, h10, h13, h18, h21] <;> rfl)) (ih_M_ref15_Keys_l0 _ _ h lo c Q hb)
                  · replace h := ite_none h h18; replace h18 := bfalse h18
                    try simp -implicitDefEqProofs only [go_sem, h1, h3, h3', h4, h5, h6, h7, h10, h13, h18]
                    exact LLoop.view [(100700, some 100700)] (by (first | rfl | simp -implicitDefEqProofs only [go_sem, h1, h3, h3', h4, h5, h6, h7, h10, h13, h18] <;> rfl)) (ih_M_ref15_Keys_l0 _ _ h lo c Q hb)
              · replace h := ite_none h h10; replace h10 := bfalse h10
                try simp -implicitDefEqProofs only [go_sem, h1, h3, h3', h4, h5, h6, h7, h10]
                obtain ⟨r24, h25, h⟩ := bind_some' h
                refine .plain _ _ rfl (M_ref01_Has.w (x.2.2.1, e2.A.Table) _ h25) ?_
                try simp -implicitDefEqProofs only [go_sem, h1, h3, h3', h4, h5, h6, h7, h10]
                by_cases h26 : r24 = true
                · replace h := ite_some h h26
                  try simp -implicitDefEqProofs only [go_sem, h1, h3, h3', h4, h5, h6, h7, h10, h26]
                  obtain ⟨r27, h28, h⟩ := bind_some' h
                  refine .plain _ _ rfl (M_ref01_Has.w (x.2.1, e2.B.Table) _ h28) ?_
                  try simp -implicitDefEqProofs only [go_sem, h1, h3, h3', h4, h5, h6, h7, h10, h26]
                  by_cases h29 : r27 = true
                  · replace h := ite_some h h29
                    try simp -implicitDefEqProofs only [go_sem, h1, h3, h3', h4, h5, h6, h7, h10, h26, h29]
                    obtain ⟨z30, h31, h⟩ := bind_some' h; replace h31 := room_some h31; obtain ⟨h31', rfl⟩ := h31
                    refine LApp.map (F := A2_T_api_Term.av) (xs := x.2.2.2.1) (ys := [(⟨e2.B, e2.A⟩ : A2_T_api_Term)]) t70_elem t119_size t119_bytes t119_zsize rfl A2_T_api_Term.len (by (first | rfl | simp -implicitDefEqProofs only [go_sem, h1, h3, h3', h4, h5, h6, h7, h10, h26, h29] <;> rfl)) (by (first | rfl | simp -implicitDefEqProofs only [go_sem, h1, h3, h3', h4, h5, h6, h7, h10, h26, h29] <;> rfl)) h31' ?_
                    try simp -implicitDefEqProofs only [go_sem, h1, h3, h3', h4, h5, h6, h7, h10, h26, h29]
                    exact LLoop.view [(100700, some 80)] (by (first | rfl | simp -implicitDefEqProofs only [go_sem, h1, h3, h3', h4, h5, h6, h7, h10, h26, h29] <;> rfl)) (ih_M_ref15_Keys_l0 _ _ h lo c Q hb)
                  · replace h := ite_none h h29; replace h29 := bfalse h29
                    try simp -implicitDefEqProofs only [go_sem, h1, h3, h3', h4, h5, h6, h7, h10, h26, h29]
                    exact LLoop.view [(100700, some 100700)] (by (first | rfl | simp -implicitDefEqProofs only [go_sem, h1, h3, h3', h4, h5, h6, h7, h10, h26, h29] <;> rfl)) (ih_M_ref15_Keys_l0 _ _ h lo c Q hb)
                · replace h := ite_none h h26; replace h26 := bfalse h26
                  try simp -implicitDefEqProofs only [go_sem, h1, h3, h3', h4, h5, h6, h7, h10, h26]
                  exact LLoop.view [(100700, some 100700)] (by (first | rfl | simp -implicitDefEqProofs only [go_sem, h1, h3, h3', h4, h5, h6, h7, h10, h26] <;> rfl)) (ih_M_ref15_Keys_l0 _ _ h lo c Q hb)
    · replace h := ite_none h h1; replace h1 := bfalse h1
      try simp -implicitDefEqProofs only [go_sem, h1]
      injection h with h; subst h
      exact .inr ⟨[(100700, some 100700)], _, by (simp -implicitDefEqProofs only [go_sem, h1] <;> first | done | rfl | trivial), hb _ rfl⟩
theorem M_ref15_Keys.l0.w : type_of% @M_ref15_Keys.l0.ws := @M_ref15_Keys.l0.ws
def M_ref15_Keys (x : List T_api_Pred × Set64 × Set64) : Option (List A2_T_api_Term) :=
  M_ref15_Keys.l0 (x.1, x.2.1, x.2.2, ([] : List A2_T_api_Term), 0) >>= fun (o32 : List A2_T_api_Term) =>
  some o32
set_option maxHeartbeats 8000000 in
theorem M_ref15_Keys.w : ∀ (x : List T_api_Pred × Set64 × Set64) (r : List A2_T_api_Term), M_ref15_Keys x = some r → (fun (x : List T_api_Pred × Set64 × Set64) (r : List A2_T_api_Term) => Fn Try.prog 44 [.slice .foreign (x.1.map T_api_Pred.av), .w x.2.1, .w x.2.2] (.slice .foreign (r.map A2_T_api_Term.av))) x r := by
  intro x r h
  rw [M_ref15_Keys] at h
  try dsimp only
  refine Fn.of_lc mix fn_44 lok_44 (by rfl) (flC (flat_slice _ T_api_Pred.flat _) (flC (.atom _) (flC (.atom _) (flN)))) (flat_slice _ A2_T_api_Term.flat _) ?_
  simp -implicitDefEqProofs only [go_sem, Try.f44]
  obtain ⟨o32, h33, h⟩ := bind_some' h
  refine LLoop.viewQ (LLoop.view [(100700, none)] (by (first | rfl | simp -implicitDefEqProofs only [go_sem] <;> rfl)) (M_ref15_Keys.l0.w (x.1, x.2.1, x.2.2, ([] : List A2_T_api_Term), 0) _ h33 _ _ _ ?_))
  intro s' hs'; subst hs'
  try simp -implicitDefEqProofs only [go_sem]
  injection h with h; subst h
  first | rfl | simp -implicitDefEqProofs only [go_sem] <;> rfl
end Go.Proofs.Ytcfekacmmfdggaa.G
set_option linter.unusedVariables false
set_option linter.unusedSimpArgs false
set_option maxRecDepth 100000
namespace Go.Proofs.Ytcfekacmmfdggaa.G
theorem lok_82 : (Try.f82.body.isSome && !(Try.f82.name == "runtime.NumGoroutine") && okL (bodyF Try.f82) Try.f82.ntmps (bodyF Try.f82)) = true := by kernel_rfl
def M_ref27_hidden.l0 (x : List T_api_Edge × Int × Int) : Option (Lp (Unit) (Bool)) :=
  if (decide (x.2.2 < (x.1.length : Int))) = true then
    (getI x.1 x.2.2) >>= fun (e2 : T_api_Edge) =>
    if (e2.Kind == 3) = true then
      M_ref01_Has (e2.Right, x.2.1) >>= fun r5 =>
      if r5 = true then
        some (.ret true)
      else
        M_ref27_hidden.l0 (x.1, x.2.1, (w64 (x.2.2 + 1)))
    else
      if (e2.Kind == 4) = true then
        M_ref01_Has (e2.Right, x.2.1) >>= fun r9 =>
        if r9 = true then
          some (.ret true)
        else
          M_ref27_hidden.l0 (x.1, x.2.1, (w64 (x.2.2 + 1)))
      else
        M_ref27_hidden.l0 (x.1, x.2.1, (w64 (x.2.2 + 1)))
  else
    some (.brk ())
  partial_fixpoint
theorem M_ref27_hidden.l0.ws : (∀ (x : List T_api_Edge × Int × Int) (o : Lp (Unit) (Bool)), M_ref27_hidden.l0 x = some o → (fun (x : List T_api_Edge × Int × Int) (o : Lp (Unit) (Bool)) => ∀ (lo : Option Nat) (c : LCtx) (Q : Exit → LEnv → Prop) (hb : ∀ s : Unit, o = Lp.brk s → Q (.exit 0) ⟨[], []⟩) (hr : ∀ (r : Bool) (L : LEnv), o = .ret r → LPostF Try.prog [.tmp 4] (.bool r) (fun _ => True) .ret L → Q .ret L), LLoop Try.prog 82 lo c 0 (VQ Q) ⟨[(0, .v (.slice .foreign (x.1.map T_api_Edge.av))), (1, .v (.i64 x.2.1)), (5, .v (.i64 x.2.2))], []⟩) x o) := by
  refine M_ref27_hidden.l0.partial_correctness _ ?_
  · intro M_M_ref27_hidden_l0 ih_M_ref27_hidden_l0 x o h
    intro lo c Q hb hr
    refine LLoop.step mix fn_82 (by kernel_rfl) ?_
    simp -implicitDefEqProofs only [go_sem, Try.f82]
    by_cases h1 : (decide (x.2.2 < (x.1.length : Int))) = true
    · replace h := ite_some h h1
      try simp -implicitDefEqProofs only [go_sem, h1]
      obtain ⟨e2, h3, h⟩ := bind_some' h; replace h3 := getI_some h3; obtain ⟨h3', h3⟩ := h3
      try simp -implicitDefEqProofs only [go_sem, h1, h3, h3']
      by_cases h4 : (e2.Kind == 3) = true
      · replace h := ite_some h h4
        try simp -implicitDefEqProofs only [go_sem, h1, h3, h3', h4]
        obtain ⟨r5, h6, h⟩ := bind_some' h
        refine .plain _ _ rfl (M_ref01_Has.w (e2.Right, x.2.1) _ h6) ?_
        try simp -implicitDefEqProofs only [go_sem, h1, h3, h3', h4]
        by_cases h7 : r5 = true
        · replace h := ite_some h h7
          try simp -implicitDefEqProofs only [go_sem, h1, h3, h3', h4, h7]
          injection h with h; subst h
          exact .inl (hr _ _ rfl (by (first | rfl | simp -implicitDefEqProofs only [go_sem, h1, h3, h3', h4, h7] <;> rfl)))
        · replace h := ite_none h h7; replace h7 := bfalse h7
          try simp -implicitDefEqProofs only [go_sem, h1, h3, h3', h4, h7]
          exact LLoop.view [] (by (first | rfl | simp -implicitDefEqProofs only [go_sem, h1, h3, h3', h4, h7] <;> rfl)) (ih_M_ref27_hidden_l0 _ _ h lo c Q hb hr)
      · replace h := ite_none h h4; replace h4 := bfalse h4
        try simp -implicitDefEqProofs only [go_sem, h1, h3, h3', h4]
        by_cases h8 : (e2.Kind == 4) = true
        · replace h := ite_some h h8
          try simp -implicitDefEqProofs only [go_sem, h1, h3, h3', h4, h8]
          obtain ⟨r9, h10, h⟩ := bind_some' h
          refine .plain _ _ rfl (M_ref01_Has.w (e2.Right, x.2.1) _ h10) ?_
          try simp -implicitDefEqProofs only [go_sem, h1, h3, h3', h4, h8]
          by_cases h11 : r9 = true
          · replace h := ite_some h h11
            try simp -implicitDefEqProofs only [go_sem, h1, h3, h3', h4, h8, h11]
            injection h with h; subst h
            exact .inl (hr _ _ rfl (by (first | rfl | simp -implicitDefEqProofs only [go_sem, h1, h3, h3', h4, h8, h11] <;> rfl)))
          · replace h := ite_none h h11; replace h11 := bfalse h11
            try simp -implicitDefEqProofs only [go_sem, h1, h3, h3', h4, h8, h11]
            exact LLoop.view [] (by (first | rfl | simp -implicitDefEqProofs only [go_sem, h1, h3, h3', h4, h8, h11] <;> rfl)) (ih_M_ref27_hidden_l0 _ _ h lo c Q hb hr)
        · replace h := ite_none h h8; replace h8 := bfalse h8
          try simp -implicitDefEqProofs only [go_sem, h1, h3, h3', h4, h8]
          exact LLoop.view [] (by (first | rfl | simp -implicitDefEqProofs only [go_sem, h1, h3, h3', h4, h8] <;> rfl)) (ih_M_ref27_hidden_l0 _ _ h lo c Q hb hr)
    · replace h := ite_none h h1; replace h1 := bfalse h1
      try simp -implicitDefEqProofs only [go_sem, h1]
      injection h with h; subst h
      exact .inr ⟨[], _, by (simp -implicitDefEqProofs only [go_sem, h1] <;> first | done | rfl | trivial), hb _ rfl⟩
theorem M_ref27_hidden.l0.w : type_of% @M_ref27_hidden.l0.ws := @M_ref27_hidden.l0.ws
def M_ref27_hidden (x : List T_api_Edge × Int) : Option (Bool) :=
  M_ref27_hidden.l0 (x.1, x.2, 0) >>= fun (o12 : Lp (Unit) (Bool)) => match o12 with
  | .brk s15 =>
    some false
  | .ret r14 =>
    some r14
set_option maxHeartbeats 8000000 in
theorem M_ref27_hidden.w : ∀ (x : List T_api_Edge × Int) (r : Bool), M_ref27_hidden x = some r → (fun (x : List T_api_Edge × Int) (r : Bool) => Fn Try.prog 82 [.slice .foreign (x.1.map T_api_Edge.av), .i64 x.2] (.bool r)) x r := by
  intro x r h
  rw [M_ref27_hidden] at h
  try dsimp only
  refine Fn.of_lc mix fn_82 lok_82 (by rfl) (flC (flat_slice _ T_api_Edge.flat _) (flC (.atom _) (flN))) (.atom _) ?_
  simp -implicitDefEqProofs only [go_sem, Try.f82]
  obtain ⟨o12, h13, h⟩ := bind_some' h
  refine LLoop.viewQ (LLoop.view [] (by (first | rfl | simp -implicitDefEqProofs only [go_sem] <;> rfl)) (M_ref27_hidden.l0.w (x.1, x.2, 0) _ h13 _ _ _ ?_ ?_))
  · intro s15 hs'; subst hs'
    try simp -implicitDefEqProofs only [go_sem]
    injection h with h; subst h
    first | rfl | simp -implicitDefEqProofs only [go_sem] <;> rfl
  · intro r14 L' hs' hL'; subst hs'
    injection h with h; subst h
    first | exact hL' | (simp -implicitDefEqProofs only [go_sem]; exact hL') | (simp -implicitDefEqProofs only [go_sem]; simp -implicitDefEqProofs only [go_sem] at hL'; exact hL')
end Go.Proofs.Ytcfekacmmfdggaa.G
set_option linter.unusedVariables false
set_option linter.unusedSimpArgs false
set_option maxRecDepth 100000
namespace Go.Proofs.Ytcfekacmmfdggaa.G
theorem lok_43 : (Try.f43.body.isSome && !(Try.f43.name == "runtime.NumGoroutine") && okL (bodyF Try.f43) Try.f43.ntmps (bodyF Try.f43)) = true := by kernel_rfl
def M_ref27_Hidden.l0 (x : List T_api_Edge × List Int × Int) : Option (List Int) :=
  if (decide (x.2.2 < 64)) = true then
    M_ref27_hidden (x.1, x.2.2) >>= fun r2 =>
    if r2 = true then
      (room 8 x.2.1 ([x.2.2])) >>= fun (z5 : List Int) =>
      M_ref27_Hidden.l0 (x.1, z5, (w64 (x.2.2 + 1)))
    else
      M_ref27_Hidden.l0 (x.1, x.2.1, (w64 (x.2.2 + 1)))
  else
    some x.2.1
  partial_fixpoint
theorem M_ref27_Hidden.l0.ws : (∀ (x : List T_api_Edge × List Int × Int) (o : List Int), M_ref27_Hidden.l0 x = some o → (fun (x : List T_api_Edge × List Int × Int) (o : List Int) => ∀ (lo : Option Nat) (c : LCtx) (Q : Exit → LEnv → Prop) (hb : ∀ s : List Int, o = s → Q (.exit 0) ⟨[(3, .own 100300 1 (s.map AV.i64))], []⟩), LLoop Try.prog 43 lo c 0 (VQ Q) ⟨[(0, .v (.slice .foreign (x.1.map T_api_Edge.av))), (3, .own 100300 1 (x.2.1.map AV.i64)), (4, .v (.i64 x.2.2))], []⟩) x o) := by
  refine M_ref27_Hidden.l0.partial_correctness _ ?_
  · intro M_M_ref27_Hidden_l0 ih_M_ref27_Hidden_l0 x o h
    intro lo c Q hb
    refine LLoop.step mix fn_43 (by kernel_rfl) ?_
    simp -implicitDefEqProofs only [go_sem, Try.f43]
    by_cases h1 : (decide (x.2.2 < 64)) = true
    · replace h := ite_some h h1
      try simp -implicitDefEqProofs only [go_sem, h1]
      obtain ⟨r2, h3, h⟩ := bind_some' h
      refine .plain _ _ rfl (M_ref27_hidden.w (x.1, x.2.2) _ h3) ?_
      try simp -implicitDefEqProofs only [go_sem, h1]
      by_cases h4 : r2 = true
      · replace h := ite_some h h4
        try simp -implicitDefEqProofs only [go_sem, h1, h4]
        obtain ⟨z5, h6, h⟩ := bind_some' h; replace h6 := room_some h6; obtain ⟨h6', rfl⟩ := h6
        refine LApp.map (F := AV.i64) (xs := x.2.1) (ys := [x.2.2]) t45_elem t3_size t3_bytes t3_zsize rfl (fun _ => rfl) (by (first | rfl | simp -implicitDefEqProofs only [go_sem, h1, h4] <;> rfl)) (by (first | rfl | simp -implicitDefEqProofs only [go_sem, h1, h4] <;> rfl)) h6' ?_
        try simp -implicitDefEqProofs only [go_sem, h1, h4]
        exact LLoop.view [(100300, some 16)] (by (first | rfl | simp -implicitDefEqProofs only [go_sem, h1, h4] <;> rfl)) (ih_M_ref27_Hidden_l0 _ _ h lo c Q hb)
      · replace h := ite_none h h4; replace h4 := bfalse h4
        try simp -implicitDefEqProofs only [go_sem, h1, h4]
        exact LLoop.view [(100300, some 100300)] (by (first | rfl | simp -implicitDefEqProofs only [go_sem, h1, h4] <;> rfl)) (ih_M_ref27_Hidden_l0 _ _ h lo c Q hb)
    · replace h := ite_none h h1; replace h1 := bfalse h1
      try simp -implicitDefEqProofs only [go_sem, h1]
      injection h with h; subst h
      exact .inr ⟨[(100300, some 100300)], _, by (simp -implicitDefEqProofs only [go_sem, h1] <;> first | done | rfl | trivial), hb _ rfl⟩
theorem M_ref27_Hidden.l0.w : type_of% @M_ref27_Hidden.l0.ws := @M_ref27_Hidden.l0.ws
def M_ref27_Hidden (x : List T_api_Edge) : Option (Set64) :=
  M_ref27_Hidden.l0 (x, ([] : List Int), 0) >>= fun (o7 : List Int) =>
  M_ref01_Of o7 >>= fun r9 =>
  some r9
set_option maxHeartbeats 8000000 in
theorem M_ref27_Hidden.w : ∀ (x : List T_api_Edge) (r : Set64), M_ref27_Hidden x = some r → (fun (x : List T_api_Edge) (r : Set64) => Fn Try.prog 43 [.slice .foreign (x.map T_api_Edge.av)] (.w r)) x r := by
  intro x r h
  rw [M_ref27_Hidden] at h
  try dsimp only
  refine Fn.of_lc mix fn_43 lok_43 (by rfl) (flC (flat_slice _ T_api_Edge.flat _) (flN)) (.atom _) ?_
  simp -implicitDefEqProofs only [go_sem, Try.f43]
  obtain ⟨o7, h8, h⟩ := bind_some' h
  refine LLoop.viewQ (LLoop.view [(100300, none)] (by (first | rfl | simp -implicitDefEqProofs only [go_sem] <;> rfl)) (M_ref27_Hidden.l0.w (x, ([] : List Int), 0) _ h8 _ _ _ ?_))
  intro s' hs'; subst hs'
  try simp -implicitDefEqProofs only [go_sem]
  obtain ⟨r9, h10, h⟩ := bind_some' h
  refine .plain _ _ rfl (M_ref01_Of.w o7 _ h10) ?_
  try simp -implicitDefEqProofs only [go_sem]
  injection h with h; subst h
  first | rfl | simp -implicitDefEqProofs only [go_sem] <;> rfl
end Go.Proofs.Ytcfekacmmfdggaa.G
set_option linter.unusedVariables false
set_option linter.unusedSimpArgs false
set_option maxRecDepth 100000
namespace Go.Proofs.Ytcfekacmmfdggaa.G
theorem lok_13 : (Try.f13.body.isSome && !(Try.f13.name == "runtime.NumGoroutine") && okL (bodyF Try.f13) Try.f13.ntmps (bodyF Try.f13)) = true := by kernel_rfl
def M_ref28_Model_Keyed (x : T_ref28_Model × Set64 × Set64 × List T_api_Pred) : Option (Bool) :=
  M_ref27_Hidden x.1.Edges >>= fun r1 =>
  if (x.1.Kind == 2) = true then
    M_ref15_Keys (x.2.2.2, (x.2.1 &&& ~~~r1), (x.2.2.1 &&& ~~~r1)) >>= fun r4 =>
    some (decide ((r4.length : Int) > 0))
  else
    some false
set_option maxHeartbeats 8000000 in
theorem M_ref28_Model_Keyed.w : ∀ (x : T_ref28_Model × Set64 × Set64 × List T_api_Pred) (r : Bool), M_ref28_Model_Keyed x = some r → (fun (x : T_ref28_Model × Set64 × Set64 × List T_api_Pred) (r : Bool) => Fn Try.prog 13 [.agg (T_ref28_Model.C x.1), .w x.2.1, .w x.2.2.1, .slice .foreign (x.2.2.2.map T_api_Pred.av)] (.bool r)) x r := by
  intro x r h
  rw [M_ref28_Model_Keyed] at h
  try dsimp only
  refine Fn.of_lc mix fn_13 lok_13 (by rfl) (flC (T_ref28_Model.flatC _) (flC (.atom _) (flC (.atom _) (flC (flat_slice _ T_api_Pred.flat _) (flN))))) (.atom _) ?_
  simp -implicitDefEqProofs only [go_sem, Try.f13]
  obtain ⟨r1, h2, h⟩ := bind_some' h
  refine .plain _ _ rfl (M_ref27_Hidden.w x.1.Edges _ h2) ?_
  try simp -implicitDefEqProofs only [go_sem]
  by_cases h3 : (x.1.Kind == 2) = true
  · replace h := ite_some h h3
    try simp -implicitDefEqProofs only [go_sem, h3]
    obtain ⟨r4, h5, h⟩ := bind_some' h
    refine .plain _ _ rfl (M_ref15_Keys.w (x.2.2.2, (x.2.1 &&& ~~~r1), (x.2.2.1 &&& ~~~r1)) _ h5) ?_
    try simp -implicitDefEqProofs only [go_sem, h3]
    injection h with h; subst h
    first | rfl | simp -implicitDefEqProofs only [go_sem, h3] <;> rfl
  · replace h := ite_none h h3; replace h3 := bfalse h3
    try simp -implicitDefEqProofs only [go_sem, h3]
    injection h with h; subst h
    first | rfl | simp -implicitDefEqProofs only [go_sem, h3] <;> rfl
end Go.Proofs.Ytcfekacmmfdggaa.G
set_option linter.unusedVariables false
set_option linter.unusedSimpArgs false
set_option maxRecDepth 100000
namespace Go.Proofs.Ytcfekacmmfdggaa.G
theorem lok_88 : (Try.f88.body.isSome && !(Try.f88.name == "runtime.NumGoroutine") && okL (bodyF Try.f88) Try.f88.ntmps (bodyF Try.f88)) = true := by kernel_rfl
def M_ref27_Rows.l0 (x : List T_api_Edge × Set64 × Set64 × Int × T_api_Stats) : Option (Set64) :=
  if (decide (x.2.2.2.1 < 64)) = true then
    if (decide (x.2.2.2.1 < (x.2.2.2.2.Rows.length : Int))) = true then
      M_ref01_Has (x.2.1, x.2.2.2.1) >>= fun r3 =>
      if r3 = true then
        M_ref27_hidden (x.1, x.2.2.2.1) >>= fun r6 =>
        if r6 = true then
          M_ref27_Rows.l0 (x.1, x.2.1, x.2.2.1, (w64 (x.2.2.2.1 + 1)), x.2.2.2.2)
        else
          (getI x.2.2.2.2.Rows x.2.2.2.1) >>= fun (e9 : Set64) =>
          M_ref02_Mul (x.2.2.1, e9) >>= fun r11 =>
          M_ref27_Rows.l0 (x.1, x.2.1, r11, (w64 (x.2.2.2.1 + 1)), x.2.2.2.2)
      else
        M_ref27_Rows.l0 (x.1, x.2.1, x.2.2.1, (w64 (x.2.2.2.1 + 1)), x.2.2.2.2)
    else
      some x.2.2.1
  else
    some x.2.2.1
  partial_fixpoint
theorem M_ref27_Rows.l0.ws : (∀ (x : List T_api_Edge × Set64 × Set64 × Int × T_api_Stats) (o : Set64), M_ref27_Rows.l0 x = some o → (fun (x : List T_api_Edge × Set64 × Set64 × Int × T_api_Stats) (o : Set64) => ∀ (lo : Option Nat) (c : LCtx) (Q : Exit → LEnv → Prop) (hb : ∀ s : Set64, o = s → Q (.exit 0) ⟨[(0, .v (.slice .foreign (x.1.map T_api_Edge.av))), (2, .v (.w x.2.1)), (4, .lref 4 0), (7, .v (.w s))], [(4, [.v (.slice .foreign (x.2.2.2.2.Rows.map AV.w)), .v (.slice .foreign (x.2.2.2.2.Sel.map AV.w))])]⟩), LLoop Try.prog 88 lo c 0 (VQ Q) ⟨[(0, .v (.slice .foreign (x.1.map T_api_Edge.av))), (2, .v (.w x.2.1)), (4, .lref 4 0), (7, .v (.w x.2.2.1)), (8, .v (.i64 x.2.2.2.1))], [(4, [.v (.slice .foreign (x.2.2.2.2.Rows.map AV.w)), .v (.slice .foreign (x.2.2.2.2.Sel.map AV.w))])]⟩) x o) := by
  refine M_ref27_Rows.l0.partial_correctness _ ?_
  · intro M_M_ref27_Rows_l0 ih_M_ref27_Rows_l0 x o h
    intro lo c Q hb
    refine LLoop.step mix fn_88 (by kernel_rfl) ?_
    simp -implicitDefEqProofs only [go_sem, Try.f88]
    by_cases h1 : (decide (x.2.2.2.1 < 64)) = true
    · replace h := ite_some h h1
      try simp -implicitDefEqProofs only [go_sem, h1]
      by_cases h2 : (decide (x.2.2.2.1 < (x.2.2.2.2.Rows.length : Int))) = true
      · replace h := ite_some h h2
        try simp -implicitDefEqProofs only [go_sem, h1, h2]
        obtain ⟨r3, h4, h⟩ := bind_some' h
        refine .plain _ _ rfl (M_ref01_Has.w (x.2.1, x.2.2.2.1) _ h4) ?_
        try simp -implicitDefEqProofs only [go_sem, h1, h2]
        by_cases h5 : r3 = true
        · replace h := ite_some h h5
          try simp -implicitDefEqProofs only [go_sem, h1, h2, h5]
          obtain ⟨r6, h7, h⟩ := bind_some' h
          refine .plain _ _ rfl (M_ref27_hidden.w (x.1, x.2.2.2.1) _ h7) ?_
          try simp -implicitDefEqProofs only [go_sem, h1, h2, h5]
          by_cases h8 : r6 = true
          · replace h := ite_some h h8
            try simp -implicitDefEqProofs only [go_sem, h1, h2, h5, h8]
            exact LLoop.view [] (by (first | rfl | simp -implicitDefEqProofs only [go_sem, h1, h2, h5, h8] <;> rfl)) (ih_M_ref27_Rows_l0 _ _ h lo c Q hb)
          · replace h := ite_none h h8; replace h8 := bfalse h8
            try simp -implicitDefEqProofs only [go_sem, h1, h2, h5, h8]
            obtain ⟨e9, h10, h⟩ := bind_some' h; replace h10 := getI_some h10; obtain ⟨h10', h10⟩ := h10
            try simp -implicitDefEqProofs only [go_sem, h1, h2, h5, h8, h10, h10']
            obtain ⟨r11, h12, h⟩ := bind_some' h
            refine .plain _ _ rfl (M_ref02_Mul.w (x.2.2.1, e9) _ h12) ?_
            try simp -implicitDefEqProofs only [go_sem, h1, h2, h5, h8, h10, h10']
            exact LLoop.view [] (by (first | rfl | simp -implicitDefEqProofs only [go_sem, h1, h2, h5, h8, h10, h10'] <;> rfl)) (ih_M_ref27_Rows_l0 _ _ h lo c Q hb)
        · replace h := ite_none h h5; replace h5 := bfalse h5
          try simp -implicitDefEqProofs only [go_sem, h1, h2, h5]
          exact LLoop.view [] (by (first | rfl | simp -implicitDefEqProofs only [go_sem, h1, h2, h5] <;> rfl)) (ih_M_ref27_Rows_l0 _ _ h lo c Q hb)
      · replace h := ite_none h h2; replace h2 := bfalse h2
        try simp -implicitDefEqProofs only [go_sem, h1, h2]
        injection h with h; subst h
        exact .inr ⟨[], _, by (simp -implicitDefEqProofs only [go_sem, h1, h2] <;> first | done | rfl | trivial), hb _ rfl⟩
    · replace h := ite_none h h1; replace h1 := bfalse h1
      try simp -implicitDefEqProofs only [go_sem, h1]
      injection h with h; subst h
      exact .inr ⟨[], _, by (simp -implicitDefEqProofs only [go_sem, h1] <;> first | done | rfl | trivial), hb _ rfl⟩
theorem M_ref27_Rows.l0.w : type_of% @M_ref27_Rows.l0.ws := @M_ref27_Rows.l0.ws
def M_ref27_Rows.l1 (x : List T_api_Edge × Set64 × Set64 × Int × T_api_Stats) : Option (Set64) :=
  if (decide (x.2.2.2.1 < (x.1.length : Int))) = true then
    if (decide (x.2.2.2.1 < (x.2.2.2.2.Sel.length : Int))) = true then
      (getI x.1 x.2.2.2.1) >>= fun (e17 : T_api_Edge) =>
      M_ref01_In (e17.Uses, x.2.1) >>= fun r19 =>
      if r19 = true then
        (getI x.2.2.2.2.Sel x.2.2.2.1) >>= fun (e22 : Set64) =>
        M_ref02_Share (x.2.2.1, e22) >>= fun r24 =>
        M_ref27_Rows.l1 (x.1, x.2.1, r24, (w64 (x.2.2.2.1 + 1)), x.2.2.2.2)
      else
        M_ref27_Rows.l1 (x.1, x.2.1, x.2.2.1, (w64 (x.2.2.2.1 + 1)), x.2.2.2.2)
    else
      some x.2.2.1
  else
    some x.2.2.1
  partial_fixpoint
theorem M_ref27_Rows.l1.ws : (∀ (x : List T_api_Edge × Set64 × Set64 × Int × T_api_Stats) (o : Set64), M_ref27_Rows.l1 x = some o → (fun (x : List T_api_Edge × Set64 × Set64 × Int × T_api_Stats) (o : Set64) => ∀ (lo : Option Nat) (c : LCtx) (Q : Exit → LEnv → Prop) (hb : ∀ s : Set64, o = s → Q (.exit 2) ⟨[(7, .v (.w s))], []⟩), LLoop Try.prog 88 lo c 1 (VQ Q) ⟨[(0, .v (.slice .foreign (x.1.map T_api_Edge.av))), (2, .v (.w x.2.1)), (4, .lref 4 0), (7, .v (.w x.2.2.1)), (9, .v (.i64 x.2.2.2.1))], [(4, [.v (.slice .foreign (x.2.2.2.2.Rows.map AV.w)), .v (.slice .foreign (x.2.2.2.2.Sel.map AV.w))])]⟩) x o) := by
  refine M_ref27_Rows.l1.partial_correctness _ ?_
  · intro M_M_ref27_Rows_l1 ih_M_ref27_Rows_l1 x o h
    intro lo c Q hb
    refine LLoop.step mix fn_88 (by kernel_rfl) ?_
    simp -implicitDefEqProofs only [go_sem, Try.f88]
    by_cases h15 : (decide (x.2.2.2.1 < (x.1.length : Int))) = true
    · replace h := ite_some h h15
      try simp -implicitDefEqProofs only [go_sem, h15]
      by_cases h16 : (decide (x.2.2.2.1 < (x.2.2.2.2.Sel.length : Int))) = true
      · replace h := ite_some h h16
        try simp -implicitDefEqProofs only [go_sem, h15, h16]
        obtain ⟨e17, h18, h⟩ := bind_some' h; replace h18 := getI_some h18; obtain ⟨h18', h18⟩ := h18
        try simp -implicitDefEqProofs only [go_sem, h15, h16, h18, h18']
        obtain ⟨r19, h20, h⟩ := bind_some' h
        refine .plain _ _ rfl (M_ref01_In.w (e17.Uses, x.2.1) _ h20) ?_
        try simp -implicitDefEqProofs only [go_sem, h15, h16, h18, h18']
        by_cases h21 : r19 = true
        · replace h := ite_some h h21
          try simp -implicitDefEqProofs only [go_sem, h15, h16, h18, h18', h21]
          obtain ⟨e22, h23, h⟩ := bind_some' h; replace h23 := getI_some h23; obtain ⟨h23', h23⟩ := h23
          try simp -implicitDefEqProofs only [go_sem, h15, h16, h18, h18', h21, h23, h23']
          obtain ⟨r24, h25, h⟩ := bind_some' h
          refine .plain _ _ rfl (M_ref02_Share.w (x.2.2.1, e22) _ h25) ?_
          try simp -implicitDefEqProofs only [go_sem, h15, h16, h18, h18', h21, h23, h23']
          exact LLoop.view [] (by (first | rfl | simp -implicitDefEqProofs only [go_sem, h15, h16, h18, h18', h21, h23, h23'] <;> rfl)) (ih_M_ref27_Rows_l1 _ _ h lo c Q hb)
        · replace h := ite_none h h21; replace h21 := bfalse h21
          try simp -implicitDefEqProofs only [go_sem, h15, h16, h18, h18', h21]
          exact LLoop.view [] (by (first | rfl | simp -implicitDefEqProofs only [go_sem, h15, h16, h18, h18', h21] <;> rfl)) (ih_M_ref27_Rows_l1 _ _ h lo c Q hb)
      · replace h := ite_none h h16; replace h16 := bfalse h16
        try simp -implicitDefEqProofs only [go_sem, h15, h16]
        injection h with h; subst h
        exact .inr ⟨[], _, by (simp -implicitDefEqProofs only [go_sem, h15, h16] <;> first | done | rfl | trivial), hb _ rfl⟩
    · replace h := ite_none h h15; replace h15 := bfalse h15
      try simp -implicitDefEqProofs only [go_sem, h15]
      injection h with h; subst h
      exact .inr ⟨[], _, by (simp -implicitDefEqProofs only [go_sem, h15] <;> first | done | rfl | trivial), hb _ rfl⟩
theorem M_ref27_Rows.l1.w : type_of% @M_ref27_Rows.l1.ws := @M_ref27_Rows.l1.ws
def M_ref27_Rows (x : List T_api_Edge × T_api_Stats × Set64) : Option (Set64) :=
  M_ref27_Rows.l0 (x.1, x.2.2, 1#64, 0, x.2.1) >>= fun (o13 : Set64) =>
  M_ref27_Rows.l1 (x.1, x.2.2, o13, 0, x.2.1) >>= fun (o26 : Set64) =>
  if (o26 == 0#64) = true then
    some (1#64)
  else
    some o26
set_option maxHeartbeats 8000000 in
theorem M_ref27_Rows.w : ∀ (x : List T_api_Edge × T_api_Stats × Set64) (r : Set64), M_ref27_Rows x = some r → (fun (x : List T_api_Edge × T_api_Stats × Set64) (r : Set64) => Fn Try.prog 88 [.slice .foreign (x.1.map T_api_Edge.av), .agg (T_api_Stats.C x.2.1), .w x.2.2] (.w r)) x r := by
  intro x r h
  rw [M_ref27_Rows] at h
  try dsimp only
  refine Fn.of_lc mix fn_88 lok_88 (by rfl) (flC (flat_slice _ T_api_Edge.flat _) (flC (T_api_Stats.flatC _) (flC (.atom _) (flN)))) (.atom _) ?_
  simp -implicitDefEqProofs only [go_sem, Try.f88]
  obtain ⟨o13, h14, h⟩ := bind_some' h
  refine LLoop.viewQ (LLoop.view [] (by (first | rfl | simp -implicitDefEqProofs only [go_sem] <;> rfl)) (M_ref27_Rows.l0.w (x.1, x.2.2, 1#64, 0, x.2.1) _ h14 _ _ _ ?_))
  intro s' hs'; subst hs'
  try simp -implicitDefEqProofs only [go_sem]
  obtain ⟨o26, h27, h⟩ := bind_some' h
  refine LLoop.viewQ (LLoop.view [] (by (first | rfl | simp -implicitDefEqProofs only [go_sem] <;> rfl)) (M_ref27_Rows.l1.w (x.1, x.2.2, o13, 0, x.2.1) _ h27 _ _ _ ?_))
  intro s' hs'; subst hs'
  try simp -implicitDefEqProofs only [go_sem]
  by_cases h28 : (o26 == 0#64) = true
  · replace h := ite_some h h28
    try simp -implicitDefEqProofs only [go_sem, h28]
    injection h with h; subst h
    first | rfl | simp -implicitDefEqProofs only [go_sem, h28] <;> rfl
  · replace h := ite_none h h28; replace h28 := bfalse h28
    try simp -implicitDefEqProofs only [go_sem, h28]
    injection h with h; subst h
    first | rfl | simp -implicitDefEqProofs only [go_sem, h28] <;> rfl
end Go.Proofs.Ytcfekacmmfdggaa.G
set_option linter.unusedVariables false
set_option linter.unusedSimpArgs false
set_option maxRecDepth 100000
namespace Go.Proofs.Ytcfekacmmfdggaa.G
theorem lok_49 : (Try.f49.body.isSome && !(Try.f49.name == "runtime.NumGoroutine") && okL (bodyF Try.f49) Try.f49.ntmps (bodyF Try.f49)) = true := by kernel_rfl
def M_ref28_Model_rows (x : T_ref28_Model × Set64) : Option (Set64) :=
  M_ref27_Rows (x.1.Edges, x.1.Stats, x.2) >>= fun r1 =>
  some r1
set_option maxHeartbeats 8000000 in
theorem M_ref28_Model_rows.w : ∀ (x : T_ref28_Model × Set64) (r : Set64), M_ref28_Model_rows x = some r → (fun (x : T_ref28_Model × Set64) (r : Set64) => Fn Try.prog 49 [.agg (T_ref28_Model.C x.1), .w x.2] (.w r)) x r := by
  intro x r h
  rw [M_ref28_Model_rows] at h
  try dsimp only
  refine Fn.of_lc mix fn_49 lok_49 (by rfl) (flC (T_ref28_Model.flatC _) (flC (.atom _) (flN))) (.atom _) ?_
  simp -implicitDefEqProofs only [go_sem, Try.f49]
  obtain ⟨r1, h2, h⟩ := bind_some' h
  refine .plain _ _ rfl (M_ref27_Rows.w (x.1.Edges, x.1.Stats, x.2) _ h2) ?_
  try simp -implicitDefEqProofs only [go_sem]
  injection h with h; subst h
  first | rfl | simp -implicitDefEqProofs only [go_sem] <;> rfl
end Go.Proofs.Ytcfekacmmfdggaa.G
set_option linter.unusedVariables false
set_option linter.unusedSimpArgs false
set_option maxRecDepth 100000
namespace Go.Proofs.Ytcfekacmmfdggaa.G
@[go_sem] theorem lrp_15_3 : lrp Try.prog 15 3 = (10, []) := by kernel_rfl
@[go_sem] theorem lrp_15_5 : lrp Try.prog 15 5 = (10, []) := by kernel_rfl
theorem lok_15 : (Try.f15.body.isSome && !(Try.f15.name == "runtime.NumGoroutine") && okL (bodyF Try.f15) Try.f15.ntmps (bodyF Try.f15)) = true := by kernel_rfl
def M_ref28_Model_Node (x : T_ref28_Model × Set64 × Set64 × List T_api_Pred) : Option (Set64) :=
  M_ref28_Model_rows (x.1, (x.2.1 ||| x.2.2.1)) >>= fun r1 =>
  if (x.1.Kind == 2) = true then
    M_ref28_Model_Keyed (x.1, x.2.1, x.2.2.1, x.2.2.2) >>= fun r4 =>
    if r4 = true then
      M_ref28_Model_rows (x.1, x.2.1) >>= fun r7 =>
      M_ref28_Model_rows (x.1, x.2.2.1) >>= fun r9 =>
      M_ref02_Add (r7, r9) >>= fun r11 =>
      M_ref02_Add (r1, r11) >>= fun r13 =>
      some r13
    else
      M_ref28_Model_rows (x.1, x.2.1) >>= fun r15 =>
      M_ref28_Model_rows (x.1, x.2.2.1) >>= fun r17 =>
      M_ref02_Mul (r15, r17) >>= fun r19 =>
      M_ref02_Add (r1, r19) >>= fun r21 =>
      some r21
  else
    some r1
set_option maxHeartbeats 8000000 in
theorem M_ref28_Model_Node.w : ∀ (x : T_ref28_Model × Set64 × Set64 × List T_api_Pred) (r : Set64), M_ref28_Model_Node x = some r → (fun (x : T_ref28_Model × Set64 × Set64 × List T_api_Pred) (r : Set64) => Fn Try.prog 15 [.agg (T_ref28_Model.C x.1), .w x.2.1, .w x.2.2.1, .slice .foreign (x.2.2.2.map T_api_Pred.av)] (.w r)) x r := by
  intro x r h
  rw [M_ref28_Model_Node] at h
  try dsimp only
  refine Fn.of_lc mix fn_15 lok_15 (by rfl) (flC (T_ref28_Model.flatC _) (flC (.atom _) (flC (.atom _) (flC (flat_slice _ T_api_Pred.flat _) (flN))))) (.atom _) ?_
  simp -implicitDefEqProofs only [go_sem, Try.f15]
  obtain ⟨r1, h2, h⟩ := bind_some' h
  refine .plain _ _ rfl (M_ref28_Model_rows.w (x.1, (x.2.1 ||| x.2.2.1)) _ h2) ?_
  try simp -implicitDefEqProofs only [go_sem]
  by_cases h3 : (x.1.Kind == 2) = true
  · replace h := ite_some h h3
    try simp -implicitDefEqProofs only [go_sem, h3]
    obtain ⟨r4, h5, h⟩ := bind_some' h
    refine .plain _ _ rfl (M_ref28_Model_Keyed.w (x.1, x.2.1, x.2.2.1, x.2.2.2) _ h5) ?_
    try simp -implicitDefEqProofs only [go_sem, h3]
    by_cases h6 : r4 = true
    · replace h := ite_some h h6
      try simp -implicitDefEqProofs only [go_sem, h3, h6]
      obtain ⟨r7, h8, h⟩ := bind_some' h
      refine .plain _ _ rfl (M_ref28_Model_rows.w (x.1, x.2.1) _ h8) ?_
      try simp -implicitDefEqProofs only [go_sem, h3, h6]
      obtain ⟨r9, h10, h⟩ := bind_some' h
      refine .plain _ _ rfl (M_ref28_Model_rows.w (x.1, x.2.2.1) _ h10) ?_
      try simp -implicitDefEqProofs only [go_sem, h3, h6]
      obtain ⟨r11, h12, h⟩ := bind_some' h
      refine .plain _ _ rfl (M_ref02_Add.w (r7, r9) _ h12) ?_
      try simp -implicitDefEqProofs only [go_sem, h3, h6]
      obtain ⟨r13, h14, h⟩ := bind_some' h
      refine .plain _ _ rfl (M_ref02_Add.w (r1, r11) _ h14) ?_
      try simp -implicitDefEqProofs only [go_sem, h3, h6]
      injection h with h; subst h
      first | rfl | simp -implicitDefEqProofs only [go_sem, h3, h6] <;> rfl
    · replace h := ite_none h h6; replace h6 := bfalse h6
      try simp -implicitDefEqProofs only [go_sem, h3, h6]
      obtain ⟨r15, h16, h⟩ := bind_some' h
      refine .plain _ _ rfl (M_ref28_Model_rows.w (x.1, x.2.1) _ h16) ?_
      try simp -implicitDefEqProofs only [go_sem, h3, h6]
      obtain ⟨r17, h18, h⟩ := bind_some' h
      refine .plain _ _ rfl (M_ref28_Model_rows.w (x.1, x.2.2.1) _ h18) ?_
      try simp -implicitDefEqProofs only [go_sem, h3, h6]
      obtain ⟨r19, h20, h⟩ := bind_some' h
      refine .plain _ _ rfl (M_ref02_Mul.w (r15, r17) _ h20) ?_
      try simp -implicitDefEqProofs only [go_sem, h3, h6]
      obtain ⟨r21, h22, h⟩ := bind_some' h
      refine .plain _ _ rfl (M_ref02_Add.w (r1, r19) _ h22) ?_
      try simp -implicitDefEqProofs only [go_sem, h3, h6]
      injection h with h; subst h
      first | rfl | simp -implicitDefEqProofs only [go_sem, h3, h6] <;> rfl
  · replace h := ite_none h h3; replace h3 := bfalse h3
    try simp -implicitDefEqProofs only [go_sem, h3]
    injection h with h; subst h
    first | rfl | simp -implicitDefEqProofs only [go_sem, h3] <;> rfl
end Go.Proofs.Ytcfekacmmfdggaa.G
set_option linter.unusedVariables false
set_option linter.unusedSimpArgs false
set_option maxRecDepth 100000
namespace Go.Proofs.Ytcfekacmmfdggaa.G
@[go_sem] theorem lrp_17_3 : lrp Try.prog 17 3 = (15, []) := by kernel_rfl
@[go_sem] theorem lrp_17_4 : lrp Try.prog 17 4 = (16, []) := by kernel_rfl
theorem lok_17 : (Try.f17.body.isSome && !(Try.f17.name == "runtime.NumGoroutine") && okL (bodyF Try.f17) Try.f17.ntmps (bodyF Try.f17)) = true := by kernel_rfl
def M_ref28_Model_Tree (x : T_ref28_Model × T_api_Tree) : Option (Set64) :=
  if ((x.2.Kids.length : Int) != 2) = true then
    some (0#64)
  else
    (x.2.Kids[0]?) >>= fun (e2 : T_api_Tree) =>
    M_ref10_Tables e2 >>= fun r4 =>
    (x.2.Kids[1]?) >>= fun (e6 : T_api_Tree) =>
    M_ref10_Tables e6 >>= fun r8 =>
    M_ref28_Model_Node (x.1, r4, r8, x.2.Conj) >>= fun r10 =>
    M_ref28_Model_Tree (x.1, e2) >>= fun r12 =>
    M_ref28_Model_Tree (x.1, e6) >>= fun r14 =>
    M_ref02_Add (r12, r14) >>= fun r16 =>
    M_ref02_Add (r10, r16) >>= fun r18 =>
    some r18
  partial_fixpoint
theorem M_ref28_Model_Tree.ws : (∀ (x : T_ref28_Model × T_api_Tree) (o : Set64), M_ref28_Model_Tree x = some o → (fun (x : T_ref28_Model × T_api_Tree) (r : Set64) => Fn Try.prog 17 [.agg (T_ref28_Model.C x.1), .agg (T_api_Tree.C x.2)] (.w r)) x o) := by
  refine M_ref28_Model_Tree.partial_correctness _ ?_
  · intro M_M_ref28_Model_Tree ih_M_ref28_Model_Tree x r h
    refine Fn.of_lc mix fn_17 lok_17 (by rfl) (flC (T_ref28_Model.flatC _) (flC (T_api_Tree.flatC _) (flN))) (.atom _) ?_
    simp -implicitDefEqProofs only [go_sem, Try.f17]
    by_cases h1 : ((x.2.Kids.length : Int) != 2) = true
    · replace h := ite_some h h1
      try simp -implicitDefEqProofs only [go_sem, h1]
      injection h with h; subst h
      first | rfl | simp -implicitDefEqProofs only [go_sem, h1] <;> rfl
    · replace h := ite_none h h1; replace h1 := bfalse h1
      try simp -implicitDefEqProofs only [go_sem, h1]
      obtain ⟨e2, h3, h⟩ := bind_some' h
      try simp -implicitDefEqProofs only [go_sem, h1, h3]
      obtain ⟨r4, h5, h⟩ := bind_some' h
      refine .plain _ _ rfl (M_ref10_Tables.w e2 _ h5) ?_
      try simp -implicitDefEqProofs only [go_sem, h1, h3]
      obtain ⟨e6, h7, h⟩ := bind_some' h
      try simp -implicitDefEqProofs only [go_sem, h1, h3, h7]
      obtain ⟨r8, h9, h⟩ := bind_some' h
      refine .plain _ _ rfl (M_ref10_Tables.w e6 _ h9) ?_
      try simp -implicitDefEqProofs only [go_sem, h1, h3, h7]
      obtain ⟨r10, h11, h⟩ := bind_some' h
      refine .plain _ _ rfl (M_ref28_Model_Node.w (x.1, r4, r8, x.2.Conj) _ h11) ?_
      try simp -implicitDefEqProofs only [go_sem, h1, h3, h7]
      obtain ⟨r12, h13, h⟩ := bind_some' h
      refine .plain _ _ rfl (ih_M_ref28_Model_Tree (x.1, e2) _ h13) ?_
      try simp -implicitDefEqProofs only [go_sem, h1, h3, h7]
      obtain ⟨r14, h15, h⟩ := bind_some' h
      refine .plain _ _ rfl (ih_M_ref28_Model_Tree (x.1, e6) _ h15) ?_
      try simp -implicitDefEqProofs only [go_sem, h1, h3, h7]
      obtain ⟨r16, h17, h⟩ := bind_some' h
      refine .plain _ _ rfl (M_ref02_Add.w (r12, r14) _ h17) ?_
      try simp -implicitDefEqProofs only [go_sem, h1, h3, h7]
      obtain ⟨r18, h19, h⟩ := bind_some' h
      refine .plain _ _ rfl (M_ref02_Add.w (r10, r16) _ h19) ?_
      try simp -implicitDefEqProofs only [go_sem, h1, h3, h7]
      injection h with h; subst h
      first | rfl | simp -implicitDefEqProofs only [go_sem, h1, h3, h7] <;> rfl
theorem M_ref28_Model_Tree.w : type_of% @M_ref28_Model_Tree.ws := @M_ref28_Model_Tree.ws
end Go.Proofs.Ytcfekacmmfdggaa.G
