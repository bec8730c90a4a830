/-
A range over a function: the statement, and a call of yield.
-/
import Derived.Test.YtakmilmckdllfaaG16
import Derived.RangeFuncRecord
import Derived.RangeFuncCalls
import Derived.RangeFuncNested
set_option linter.unusedVariables false
set_option linter.unusedSimpArgs false
namespace Go.Proofs.Ytakmilmckdllfaa.G

/-- How a statement is left by what a round has left pending. -/
def jumpExit : Option Code → Option Exit
  | none => some .normal
  | some .ret => some .ret
  | some (.exit id) => some (.exit id)
  | _ => none
/-- What a round leaves pending. -/
def exitJump : Exit → Option (Option Code)
  | .normal => some none
  | .ret => some (some .ret)
  | .exit id => some (some (.exit id))
  | _ => none
/-- A loop's record lies in a variable. -/
def LoAt (m : Mem) : Option Nat → Prop
  | none => True
  | some l => ∃ st pend env ps a b, m.boxes[l]? = some (.loop st pend env ps a b)
/-- The parameters of a round. -/
def putAll (env : List AV) : List Tmp → List AV → List AV
  | t :: ts, a :: as => putAll (env.set t a) ts as
  | _, _ => env

section
variable {g g' : Gh} {m m' : Mem} {w w' : World} {P : Program}

/-- A record turns. -/
theorem set_loop {l b : Nat} {st st' : LoopState} {pend pend' : Option Code} {env : List AV} {ps : Array Tmp} {as_ body : Code} (hb : g.box l = some b) (hl : m.boxes[l]? = some (.loop st pend env ps as_ body)) (hm : MemOk g m w) :
    ∃ r : Loop, w.heap[b]? = some (.loop r) ∧ r.state = st ∧ r.pending = pend ∧ r.params = ps ∧ r.assign = as_ ∧ r.body = body ∧ Reps g w env r.tmps ∧
      (∀ o : Obj, o = .loop { r with state := st', pending := pend' } → Step g m g (m.set l (.loop st' pend' env ps as_ body)) w (w.putObj b o) ∧ MemOk g (m.set l (.loop st' pend' env ps as_ body)) (w.putObj b o)) := by
  obtain ⟨vs, d, fn, h1, h2⟩ := hm.boxOk l b _ hb hl
  refine ⟨_, h1, rfl, rfl, rfl, rfl, rfl, h2, ?_⟩
  rintro o rfl
  have hlm : l < m.boxes.length := (List.getElem?_eq_some_iff.1 hl).1
  have hlt := (Array.getElem?_eq_some_iff.1 h1).1
  have hs := step_setBox (.loop { state := st', pending := pend', fn := fn, tmps := vs, params := ps, assign := as_, body := body, defers := d }) (.loop st' pend' env ps as_ body) hb hlm hm
  exact ⟨hs, mem_setBox _ _ hb hlm hm ⟨vs, d, fn, wput_same w b _ hlt, h2.step hm hs⟩⟩

theorem mono_pushSet {c c' : ABox} (h : Mono (m.push c) m') : Mono m (m'.set m.boxes.length c') :=
  ⟨by have := h.1; simp only [Mem.push, Mem.set, List.length_append, List.length_set] at this ⊢; omega, by have := h.2; simp only [Mem.push, Mem.set] at this ⊢; exact this⟩

theorem resolve_range {f : Nat} {fs cs : Array Value} {a : Act} {x : Operand} {b : Nat} (he : a.eval x = .func (.func f) fs cs) {fn : Func} (hfn : P.funcs[f]? = some fn) (hn : (fn.name == "runtime.NumGoroutine") = false) (hb : fn.body.isSome = true) :
    ∃ d, (resolve a.eval (rangeCall x b) 0).run P w = .ok d w ∧ (invoke d.target d.args).run P w = .ok (.enter f (fs ++ #[.func (.yield b) #[] #[]] ++ cs)) w := by
  have hn' : ¬ fn.name = "runtime.NumGoroutine" := by intro e; rw [e] at hn; simp at hn
  have hb' : ¬ fn.body = none := by intro e; rw [e] at hb; cases hb
  have hev : a.eval (.const (.func (.yield b) #[] #[])) = .func (.yield b) #[] #[] := rfl
  refine ⟨_, by simp only [resolve, he, Deferred.ofValue]; rfl, ?_⟩
  simp [invoke, callFunc, hfn, hn', hb', hev]

/-- **The statement.** -/
theorem AExec.range {lo : Option Nat} {x : Operand} {ps : Array Tmp} {as_ body : Code} {env : List AV} {f : FuncId} {first cap : List AV} {r : AV} {m2 : Mem} {st : LoopState} {pend : Option Code} {e : Exit} {env2 : List AV} {ps2 : Array Tmp} {as2 body2 : Code}
    (hlo : LoAt m lo) (hx : aeval env x = some (.func f first cap)) (hc : ACalls P f (first ++ [.yield m.boxes.length] ++ cap) (m.push (.loop .ready none env ps as_ body)) r m2)
    (hb : m2.boxes[m.boxes.length]? = some (.loop st pend env2 ps2 as2 body2)) (hst : st ≠ .busy) (he : jumpExit pend = some e) :
    AExec P lo (.rangeFunc x ps as_ body) env m e env (m2.set m.boxes.length (.loop .exhausted pend env2 ps2 as2 body2)) := by
  obtain ⟨⟨fn, hfn, hname, hbody⟩, hmono, hc⟩ := hc
  refine ⟨mono_pushSet hmono, fun ro g w a hro hf hm hr => wpIn_rangeFunc fun fn0 _ => ?_⟩
  have hf1 : Fresh g m m2 := ⟨fun l h1 h2 => hf.1 l h1 (by simpa [Mem.set] using h2), fun l h1 h2 => hf.2 l h1 (by simpa [Mem.set] using h2)⟩
  have hpush : Mono m (m.push (.loop .ready none env ps as_ body)) := mono_push _
  -- the record
  obtain ⟨l, mark, w0, d, henter, hs0, hm0, hw0, hl0, hmark⟩ : ∃ (l : Nat) (mark : List Deferred) (w0 : World) (d : Nat), (Instr.enterLoop fn0 a.tmps ps as_ body ro).run P w = .ok (l, mark) (w0.alloc (.loop { state := .ready, pending := none, fn := fn0, tmps := a.tmps, params := ps, assign := as_, body := body, defers := d })) ∧
      Step g m g m w w0 ∧ MemOk g m w0 ∧ w.heap.size ≤ w0.heap.size ∧ l = w0.heap.size ∧ Marks g w0 w.heap.size mark := by
    cases lo with
    | none =>
      obtain rfl := hro.1 rfl
      have hs : Step g m g m w (w.alloc (.deferred (some []))) := Step.plain rfl rfl rfl (by simp) (fun b hb => alloc_old w _ hb)
      refine ⟨_, _, w.alloc (.deferred (some [])), _, run_enterLoop_outer fn0 a.tmps ps as_ body, hs, hm.plain hs (fun b hb => alloc_old w _ hb), by simp, by simp, by simp, fun d hd => ?_⟩
      simp only [List.mem_singleton] at hd
      refine ⟨w.heap.size, hd, Nat.le_refl _, alloc_new w _, fun l h => ?_, fun l h => ?_⟩
      · exact absurd (hm.box l _ h) (Nat.lt_irrefl _)
      · exact absurd (hm.row l _ h) (Nat.lt_irrefl _)
    | some l0 =>
      obtain ⟨b0, hb0, rfl⟩ := hro.2 l0 rfl
      obtain ⟨st0, pend0, env0, ps0, as0, body0, hl0⟩ := hlo
      obtain ⟨vs, d, fn1, h1, h2⟩ := hm.boxOk l0 b0 _ hb0 hl0
      exact ⟨_, [], w, d, run_enterLoop_inner h1 fn0 a.tmps ps as_ body, Step.refl g m w, hm, Nat.le_refl _, rfl, .nil⟩
  subst hl0
  have hr0 := hr.step hm hs0
  have hf2 : Fresh g m (m.push (.loop .ready none env ps as_ body)) := hf1.left hmono
  have hs1 := step_newBox (.loop { state := .ready, pending := none, fn := fn0, tmps := a.tmps, params := ps, assign := as_, body := body, defers := d }) (.loop .ready none env ps as_ body) hf2 hm0
  have hm1 := mem_newBox (.loop { state := .ready, pending := none, fn := fn0, tmps := a.tmps, params := ps, assign := as_, body := body, defers := d }) (.loop .ready none env ps as_ body) hf2 hm0 ⟨a.tmps, d, fn0, alloc_new _ _, hr0.step hm0 hs1⟩
  generalize hW : w0.alloc (.loop { state := .ready, pending := none, fn := fn0, tmps := a.tmps, params := ps, assign := as_, body := body, defers := d }) = w1 at henter hs1 hm1
  have hs01 := hs0.trans hs1 hm
  have hr1 := hr.step hm hs01
  -- the function
  have hxv : Rep (g.newBox m.boxes.length w0.heap.size) w1 (.func f first cap) (a.eval x) := repE_of hr1 #[x] x (by simp) _ hx
  obtain ⟨fs, cs, hfv, hfr, hcr⟩ := hxv.func_inv
  obtain ⟨dd, hres, hinv⟩ := resolve_range (w := w1) (b := w0.heap.size) hfv hfn hname hbody
  refine ⟨w0.heap.size, mark, w1, dd, w1, f, _, w1, henter, hres, fun _ _ => trivial, hinv, (fun h => by cases h), ?_⟩
  have hy : Rep (g.newBox m.boxes.length w0.heap.size) w1 (.yield m.boxes.length) (.func (.yield w0.heap.size) #[] #[]) := .yield _ _ (by simp [Gh.newBox])
  have hargs : Reps (g.newBox m.boxes.length w0.heap.size) w1 (first ++ [.yield m.boxes.length] ++ cap) (fs ++ #[.func (.yield w0.heap.size) #[] #[]] ++ cs) := by
    refine append_args (cs := []) (ws := #[]) (append_args (cs := []) (ws := #[]) hfr ⟨rfl, fun j a v ha hv => ?_⟩) hcr
    cases j with
    | zero => simp at ha hv; subst ha hv; exact hy
    | succ j => simp at ha
  have hcall : CallsIn (Fw ro) (0 - 1) P f (fs ++ #[.func (.yield w0.heap.size) #[] #[]] ++ cs) w1 _ := hc _ w1 _ (hf1.right hs01) hm1 hargs
  refine hcall.mono ?_
  rintro e' w2 ⟨v, g2, rfl, hs2, hm2, hv⟩
  have hbox : g2.box m.boxes.length = some w0.heap.size := hs2.boxUp (by simp [Gh.newBox])
  obtain ⟨rec, h1, h2, h3, h4, h5, h6, h7, h8⟩ := set_loop (st' := .exhausted) (pend' := pend) hbox hb hm2
  obtain ⟨hs3, hm3⟩ := h8 _ rfl
  have hend := run_endLoop (P := P) h1 (by rw [h2]; exact hst)
  rw [h3] at hend
  have hsA := (hs01.trans hs2 hm).trans hs3 hm
  have hmk : Marks g2 (w2.putObj w0.heap.size (.loop { rec with state := .exhausted, pending := pend })) w.heap.size mark := ((hmark.step hs1).step hs2).step hs3
  have hfin : ∃ g' ds, ({ a with defers := mark ++ a.defers } : Act).defers = ds ++ a.defers ∧ Marks g' (w2.putObj w0.heap.size (.loop { rec with state := .exhausted, pending := pend })) w.heap.size ds ∧ Step g m g' (m2.set m.boxes.length (.loop .exhausted pend env2 ps2 as2 body2)) w (w2.putObj w0.heap.size (.loop { rec with state := .exhausted, pending := pend })) ∧
      MemOk g' (m2.set m.boxes.length (.loop .exhausted pend env2 ps2 as2 body2)) (w2.putObj w0.heap.size (.loop { rec with state := .exhausted, pending := pend })) ∧ Reps g' (w2.putObj w0.heap.size (.loop { rec with state := .exhausted, pending := pend })) env a.tmps :=
    ⟨g2, mark, rfl, hmk, hsA, hm3, hr.step hm hsA⟩
  refine ⟨pend, _, hend, ?_⟩
  cases pend with
  | none => simp only [jumpExit] at he; injection he with he; subst he; exact ⟨rfl, hfin⟩
  | some c =>
    cases c with
    | ret => simp only [jumpExit] at he; injection he with he; subst he; exact wpIn_ret ⟨rfl, hfin⟩
    | exit id => simp only [jumpExit] at he; injection he with he; subst he; exact wpIn_exit ⟨rfl, hfin⟩
    | _ => cases he

theorem putAll_reps : ∀ {ts : List Tmp} {as : List AV} {vs : List Value} {env : List AV} {tmps : Array Value}, Reps g w env tmps → vs.length = as.length → (∀ (j : Nat) (a : AV) (v : Value), as[j]? = some a → vs[j]? = some v → Rep g w a v) →
    Reps g w (putAll env ts as) ((ts.zip vs).foldl (fun tmps (t, a) => tmps.setIfInBounds t a) tmps) := by
  intro ts
  induction ts with
  | nil => intro as vs env tmps h _ _; simpa [putAll] using h
  | cons t ts ih =>
    intro as vs env tmps h hl hr
    cases as with
    | nil =>
      have : vs = [] := List.eq_nil_of_length_eq_zero (by simpa using hl)
      subst this; simpa [putAll] using h
    | cons a as =>
      cases vs with
      | nil => simp at hl
      | cons v vs =>
        simp only [putAll, List.zip_cons_cons, List.foldl_cons]
        refine ih ⟨by simp [h.1], fun j b u hb hu => ?_⟩ (by simpa using hl) (fun j b u hb hu => hr (j + 1) b u (by simpa using hb) (by simpa using hu))
        rw [List.getElem?_set] at hb
        rw [Array.getElem?_setIfInBounds] at hu
        split at hb
        · rename_i e
          rw [if_pos e] at hu
          split at hb
          · split at hu
            · injection hb with hb; injection hu with hu; subst hb hu; exact hr 0 a v rfl rfl
            · cases hu
          · cases hb
        · rename_i e
          rw [if_neg e] at hu
          exact h.2 j b u hb hu

/-- **A call of yield: a round.** -/
theorem ACallV.yield {l : Nat} {args env0 env1 env2 : List AV} {ps : Array Tmp} {as_ body : Code} {pend pend1 pend2 : Option Code} {m1 m2 : Mem} {e : Exit} {j : Option Code} {enva envb : List AV} {psa psb : Array Tmp} {asa bodya asb bodyb : Code} (hl : m.boxes[l]? = some (.loop .ready pend env0 ps as_ body)) (hlen : args.length = ps.size)
    (ha : AExec P (some l) as_ (putAll env0 ps.toList args) m .normal env1 m1) (hl1 : m1.boxes[l]? = some (.loop .ready pend1 enva psa asa bodya))
    (hb : AExec P (some l) body env1 (m1.set l (.loop .busy pend1 enva psa asa bodya)) e env2 m2) (hl2 : m2.boxes[l]? = some (.loop .busy pend2 envb psb asb bodyb)) (he : exitJump e = some j) :
    ACallV P (.yield l) args m (.bool j.isNone) (m2.set l (.loop (if j.isNone then .ready else .done) j envb psb asb bodyb)) := by
  have mset : ∀ (x : Mem) (c : ABox), Mono x (x.set l c) := fun x c => mono_set l c
  have hmono : Mono m (m2.set l (.loop (if j.isNone then .ready else .done) j envb psb asb bodyb)) := (ha.1.trans (mset m1 _)).trans (hb.1.trans (mset m2 _))
  refine ⟨hmono, fun g w v vs hf hm hv hargs => ?_⟩
  obtain ⟨b, hbx, rfl⟩ : ∃ b, g.box l = some b ∧ v = .func (.yield b) #[] #[] := by
    generalize hx : AV.yield l = x at hv
    cases hv <;> cases hx
    exact ⟨_, by assumption, rfl⟩
  obtain ⟨rec, r1, r2, r3, r4, r5, r6, r7, _⟩ := set_loop (st' := .ready) (pend' := pend) hbx hl hm
  have hsz : vs.size = rec.params.size := by rw [r4, hargs.1, hlen]
  have hy := run_yield (P := P) r1 hsz
  have hrun : (do let d ← Deferred.ofValue (.func (.yield b) #[] #[]) vs; invoke d.target d.args : Sem Next).run P w = .ok (.round b rec.fn ((rec.params.zip vs).foldl (fun tmps (t, a) => tmps.setIfInBounds t a) rec.tmps) rec.assign rec.body) w := by
    simp [Deferred.ofValue, invoke, hy]
  unfold OpRes
  rw [hrun]
  have hro : RoIs g (some l) (some b) := ⟨(fun h => by cases h), fun l' h => (by injection h with h; subst h; exact ⟨b, hbx, rfl⟩)⟩
  have htm : Reps g w (putAll env0 ps.toList args) ((rec.params.zip vs).foldl (fun tmps (t, a) => tmps.setIfInBounds t a) rec.tmps) := by
    have := putAll_reps (ts := ps.toList) (as := args) (vs := vs.toList) (env := env0) (tmps := rec.tmps) r7 (by simp [hargs.1]) (fun j a v h1 h2 => hargs.2 j a v h1 (by simpa using h2))
    rw [r4]
    have e1 : (ps.zip vs).foldl (fun tmps (t, a) => tmps.setIfInBounds t a) rec.tmps = ((ps.toList.zip vs.toList).foldl (fun tmps (t, a) => tmps.setIfInBounds t a) rec.tmps) := by
      rw [← Array.foldl_toList, Array.toList_zip]
    rw [e1]; exact this
  have hfr1 : Fresh g m m1 := hf.left ((mset m1 _).trans (hb.1.trans (mset m2 _)))
  refine roundIn_of_wpIn (F := Fence.wide) trivial ?_
  rw [r5, r6]
  refine wpIn_mono (ha.2 (some b) g w { tmps := _, defers := [] } hro hfr1 hm htm) ?_
  rintro e1 a1 w1 ⟨rfl, g1, ds1, hd1, hk1, hs1, hm1, he1⟩
  have hbx1 := hs1.boxUp hbx
  obtain ⟨rec1, q1, q2, q3, q4, q5, q6, q7, q8⟩ := set_loop (st' := .busy) (pend' := pend1) hbx1 hl1 hm1
  obtain ⟨hsB, hmB⟩ := q8 _ rfl
  have hbr := run_beginRound (P := P) q1 q2
  rw [q3] at hbr
  refine ⟨_, hbr, ?_⟩
  have hfr2 : Fresh g1 (m1.set l (.loop .busy pend1 enva psa asa bodya)) m2 := by
    have h1 : Fresh g1 m1 m2 := (hf.left (mset m2 _)).right hs1
    exact ⟨fun l h1' h2' => h1.1 l (by simpa [Mem.set] using h1') h2', fun l h1' h2' => h1.2 l (by simpa [Mem.set] using h1') h2'⟩
  refine wpIn_mono (hb.2 (some b) g1 _ a1 ((hro.up hs1).up hsB) hfr2 hmB (he1.step hm1 hsB)) ?_
  rintro e2 a2 w2 ⟨rfl, g2, ds2, hd2, hk2, hs2, hm2, he2⟩
  have hbx2 := (hsB.trans hs2 hm1).boxUp hbx1
  obtain ⟨rec2, p1, p2, p3, p4, p5, p6, p7, p8⟩ := set_loop (st' := if j.isNone then .ready else .done) (pend' := j) hbx2 hl2 hm2
  obtain ⟨hsE, hmE⟩ := p8 _ rfl
  have hend := run_endRound (P := P) j p1
  have hgood : ∃ v, Ending.returned (.bool j.isNone) = .returned v ∧ Good g m (m2.set l (.loop (if j.isNone then .ready else .done) j envb psb asb bodyb)) w (.bool j.isNone) v (w2.putObj b (.loop { rec2 with state := if j.isNone then .ready else .done, pending := j })) :=
    ⟨_, rfl, g2, ((hs1.trans hsB hm).trans hs2 hm).trans hsE hm, hmE, .atom _ rfl⟩
  cases e2 with
  | normal => simp only [exitJump] at he; injection he with he; subst he; exact ⟨_, _, hend, hgood⟩
  | ret => simp only [exitJump] at he; injection he with he; subst he; exact ⟨_, _, hend, hgood⟩
  | exit id => simp only [exitJump] at he; injection he with he; subst he; exact ⟨_, _, hend, hgood⟩
  | _ => cases he
end
end Go.Proofs.Ytakmilmckdllfaa.G
