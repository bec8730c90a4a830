/-
Calls, the operations of a region one behind the other, a function's contract out of its body.
-/
import Derived.Test.YtakmilmckdllfaaG9
set_option linter.unusedVariables false
set_option linter.unusedSimpArgs false
namespace Go.Proofs.Ytakmilmckdllfaa.G

/-- A call of a function's value has one outcome. -/
def ACallV (P : Program) (fv : AV) (args : List AV) (m : Mem) (r : AV) (m' : Mem) : Prop :=
  Mono m m' ∧ ∀ (g : Gh) (w : World) (v : Value) (vs : Array Value), Fresh g m m' → MemOk g m w → Rep g w fv v → Reps g w args vs →
    OpRes P (do let d ← Deferred.ofValue v vs; invoke d.target d.args) w (Good g m m' w r)

/-- Is the operation carried out? -/
def wantedA (ops : Array Oper) (env : List AV) (o : Oper) : Option Bool :=
  match o.guard with
  | none => some true
  | some (j, want) =>
    match (ops[j]?).bind (·.dst) with
    | none => some false
    | some d =>
      match env[d]? with
      | some (.atom (.bool b)) => some (b == want)
      | some (.tuple _) => some false
      | _ => none
def aput (env : List AV) (dst : Option Tmp) (d : AV) : List AV :=
  match dst with
  | some t => env.set t d
  | none => env

/-- Operations one behind the other. -/
inductive AOps (P : Program) (ops : Array Oper) : List Oper → List AV → Mem → List AV → Mem → Prop
  | nil (env : List AV) (m : Mem) : AOps P ops [] env m env m
  | op {o : Oper} {l : List Oper} {env env' : List AV} {m m1 m' : Mem} {d : AV} (hw : wantedA ops env o = some true) (h : AOp P o env m d m1) (k : AOps P ops l (aput env o.dst d) m1 env' m') : AOps P ops (o :: l) env m env' m'
  | skip {o : Oper} {l : List Oper} {env env' : List AV} {m m' : Mem} (hw : wantedA ops env o = some false) (k : AOps P ops l (aput env o.dst .undef) m env' m') : AOps P ops (o :: l) env m env' m'

section
variable {g : Gh} {m : Mem} {w : World} {P : Program}

theorem append_args {as bs cs : List AV} {us vs ws : Array Value} (h1 : Reps g w as us) (h2 : Reps g w bs vs) : Reps g w (as ++ bs) (us ++ vs) := by
  have l1 := h1.1
  refine ⟨by simp [h1.1, h2.1], fun j a v ha hv => ?_⟩
  by_cases hj : j < as.length
  · rw [List.getElem?_append_left hj] at ha
    rw [Array.getElem?_append_left (by omega)] at hv
    exact h1.2 j a v ha hv
  · rw [List.getElem?_append_right (by omega)] at ha
    rw [Array.getElem?_append_right (by omega)] at hv
    rw [l1] at hv
    exact h2.2 _ a v ha hv

theorem Rep.func_inv {f : FuncId} {first cap : List AV} {v : Value} (h : Rep g w (.func f first cap) v) : ∃ fs vs, v = .func (.func f) fs vs ∧ Reps g w first fs ∧ Reps g w cap vs := by
  generalize hx : AV.func f first cap = x at h
  cases h <;> cases hx
  exact ⟨_, _, rfl, ⟨by assumption, by assumption⟩, ⟨by assumption, by assumption⟩⟩

/-- A call of a known function. -/
theorem ACallV.of_func {f : FuncId} {first cap args : List AV} {r : AV} {m' : Mem} (h : ACalls P f (first ++ args ++ cap) m r m') : ACallV P (.func f first cap) args m r m' := by
  obtain ⟨⟨fn, hfn, hname, hbody⟩, hmono, h⟩ := h
  refine ⟨hmono, fun g w v vs hf hm hv ha => ?_⟩
  obtain ⟨fs, cs, rfl, h1, h2⟩ := hv.func_inv
  have h3 := h g w (fs ++ vs ++ cs) hf hm (append_args (cs := []) (ws := #[]) (append_args (cs := []) (ws := #[]) h1 ha) h2)
  have hb : fn.body.isNone = false := by cases hb : fn.body <;> simp_all
  have hrun : (do let d ← Deferred.ofValue (.func (.func f) fs cs) vs; invoke d.target d.args : Sem Next).run P w = .ok (.enter f (fs ++ vs ++ cs)) w := by
    have hn' : ¬ fn.name = "runtime.NumGoroutine" := by intro e; rw [e] at hname; simp at hname
    have hb' : ¬ fn.body = none := by intro e; rw [e] at hbody; cases hbody
    simp [Deferred.ofValue, invoke, callFunc, hfn, hn', hb']
  unfold OpRes
  rw [hrun]
  refine h3.mono ?_
  rintro e w' ⟨v, g', rfl, hs, hm', hr⟩
  exact ⟨v, rfl, g', hs, hm', hr⟩

theorem AOp.call {o : Oper} {c : Call} {f : Operand} {env as : List AV} {fv r : AV} {m' : Mem} (ho : o.op = .call c) (hc : c.callee = .value f) (hf : aeval env f = some fv) (ha : aevals env c.args.toList = some as) (h : ACallV P fv (as.map AV.strip) m r m') : AOp P o env m r m' := by
  obtain ⟨dst, op, ty, pos, after, guard⟩ := o
  dsimp only at ho
  subst ho
  obtain ⟨callee, args, ts⟩ := c
  dsimp only at hc ha
  subst hc
  refine ⟨h.1, fun g w ρ _ _ hfr hm hr => ?_⟩
  have h1 := hr f (by simp [Op.operands, Call.operands]) fv hf
  have h2 := (aevals_reps (g := g) (w := w) (ρ := ρ) ha (fun y hy a' ha' => hr y (by simp [Op.operands, Call.operands]; exact .inr (by simpa using hy)) a' ha')).strip
  have h3 := h.2 g w (ρ f) (args.map ρ) hfr hm h1 (by
    have e : (args.toList.map ρ).toArray = args.map ρ := by rw [← Array.toList_map]
    rw [e] at h2; exact h2)
  exact h3

theorem AOps.mono {ops : Array Oper} {l : List Oper} {env env' : List AV} {m' : Mem} (h : AOps P ops l env m env' m') : Mono m m' := by
  induction h with
  | nil => exact Mono.refl _
  | op hw h k ih => exact h.1.trans ih
  | skip hw k ih => exact ih

theorem reps_put {env : List AV} {a : Act} {dst : Option Tmp} {d : AV} {v : Value} (h : Reps g w env a.tmps) (hd : Rep g w d v) : Reps g w (aput env dst d) (a.put dst v).tmps := by
  cases dst with
  | none => exact h
  | some t =>
    refine ⟨by simp [aput, Act.put, h.1], fun j x u hx hu => ?_⟩
    simp only [aput, List.getElem?_set] at hx
    simp only [Act.put, Array.getElem?_setIfInBounds] at hu
    have hl := h.1
    by_cases e : t = j
    · subst e
      simp only [if_true] at hx hu
      split at hx
      · split at hu
        · injection hx with hx; injection hu with hu; subst hx hu; exact hd
        · cases hu
      · cases hx
    · rw [if_neg e] at hx hu
      exact h.2 j x u hx hu

theorem repE_of {env : List AV} {a : Act} (h : Reps g w env a.tmps) (l : Array Operand) : RepE g w env l a.eval := by
  intro x _ av hx
  cases x with
  | tmp t =>
    have hlt : t < env.length := (List.getElem?_eq_some_iff.1 hx).1
    have hlt2 : t < a.tmps.size := by rw [h.1]; exact hlt
    have hv : a.tmps[t]? = some a.tmps[t] := Array.getElem?_eq_getElem (by rw [h.1]; exact hlt)
    have e : a.eval (.tmp t) = a.tmps[t]'(by rw [h.1]; exact hlt) := by
      show a.tmps.getD t Go.undef = _
      rw [Array.getD_eq_getD_getElem?, hv, Option.getD_some]
    rw [e]
    exact h.2 t av _ hx hv
  | const v => exact constAV_rep hx
  | func f =>
    injection hx with hx; subst hx
    exact .func f [] [] #[] #[] rfl (fun j c v h => by simp at h) rfl (fun j c v h => by simp at h)
  | global g => cases hx

theorem wanted_of {ops : Array Oper} {env : List AV} {a : Act} {o : Oper} {b : Bool} (h : Reps g w env a.tmps) (hw : wantedA ops env o = some b) : Region.wanted o (yielded ops a.tmps) = b := by
  unfold wantedA at hw
  unfold Region.wanted
  split at hw
  · rename_i hg; injection hw with hw; subst hw; simp [hg]
  · rename_i j want hg
    simp only [hg, yielded]
    split at hw
    · rename_i hd
      injection hw with hw; subst hw
      rw [hd]; rfl
    · rename_i d hd
      rw [hd]
      simp only [Option.bind_some]
      split at hw
      · rename_i b' he
        injection hw with hw; subst hw
        have hlt : d < env.length := (List.getElem?_eq_some_iff.1 he).1
        have hlt2 : d < a.tmps.size := by rw [h.1]; exact hlt
        have hv : a.tmps[d]? = some a.tmps[d] := Array.getElem?_eq_getElem (by rw [h.1]; exact hlt)
        have := (h.2 d _ _ he hv).atom_inv
        rw [hv, this]
        cases b' <;> cases want <;> rfl
      · rename_i vs he
        injection hw with hw; subst hw
        have hlt : d < env.length := (List.getElem?_eq_some_iff.1 he).1
        have hlt2 : d < a.tmps.size := by rw [h.1]; exact hlt
        have hv : a.tmps[d]? = some a.tmps[d] := Array.getElem?_eq_getElem (by rw [h.1]; exact hlt)
        have h2 := h.2 d _ _ he hv
        rw [hv]
        generalize hx : AV.tuple vs = x at h2
        generalize hy : a.tmps[d]'(by rw [h.1]; exact hlt) = y at h2
        cases h2 <;> cases hx
        rfl
      · cases hw

theorem opRes_no_defer {o : Oper} {ρ : Operand → Value} {post : Value → World → Prop} (h : OpRes P (execOp ρ o) w post) : ∀ c, o.op ≠ .defer c := by
  intro c hc
  unfold OpRes at h
  have : (execOp ρ o).run P w = ((resolve ρ c o.type).run P w).andThen fun d w' => .ok (.defer d) w' := by
    unfold execOp
    rw [hc]
    simp only [Sem.run_bind, Sem.run_pure]
  rw [this] at h
  cases hr : (resolve ρ c o.type).run P w with
  | ok d w' => rw [hr] at h; exact h
  | halt e w' => rw [hr] at h; exact h

/-- From an operation's result to the walk. -/
theorem uponIn_of {o : Oper} {ro : Option Nat} {a : Act} {post : Value → World → Prop} {next : Act → World → Prop} {Q : Exit → Act → World → Prop} (h : OpRes P (execOp a.eval o) w post) (hn : ∀ v w', post v w' → next (a.put o.dst v) w') :
    o.wpIn (Fw ro) 0 P a w next Q := by
  refine ⟨fun f _ => trivial, ?_⟩
  have hs : o.semAt (Fw ro).round a.eval = execOp a.eval o := Oper.semAt_eq _ _ _ (opRes_no_defer h)
  rw [hs]
  unfold OpRes at h
  split at h
  · rename_i v w' hr
    rw [hr]; exact hn v w' h
  · rename_i w' hr
    rw [hr]; exact hn _ w' h
  · rename_i f args w' hr
    rw [hr]
    refine ⟨(fun h => by cases h), ?_⟩
    have h2 : CallsIn (Fw ro) 0 P f args w' fun e w'' => ∃ v, e = .returned v ∧ post v w'' := h
    refine h2.mono ?_
    rintro e w'' ⟨v, rfl, hp⟩
    exact hn v w'' hp
  · rename_i l f tmps assign body w' hr
    rw [hr]
    refine ⟨(fun h => by cases h), ?_⟩
    have h2 : RoundIn (Fw ro) 0 P l f tmps assign body w' fun e w'' => ∃ v, e = .returned v ∧ post v w'' := h
    refine h2.mono ?_
    rintro e w'' ⟨v, rfl, hp⟩
    exact hn v w'' hp
  · exact h.elim

theorem wpOpsIn_mono {F : Fence} {n : Nat} {ops : Array Oper} {Q Q' : Exit → Act → World → Prop} (hq : ∀ e a w, Q e a w → Q' e a w) : ∀ {l : List Nat} {a : Act} {w : World}, wpOpsIn F n P ops Q l a w → wpOpsIn F n P ops Q' l a w := by
  intro l
  induction l with
  | nil => intro a w h; exact hq _ _ _ h
  | cons i l ih =>
    intro a w h
    simp only [wpOpsIn] at h ⊢
    split
    · rename_i ho; rw [ho] at h; exact ih h
    · rename_i o ho
      rw [ho] at h
      dsimp only at h
      split
      · rename_i hw
        rw [if_pos hw] at h
        refine ⟨h.1, ?_⟩
        have h2 := h.2
        unfold Oper.uponIn at h2 ⊢
        split at h2
        · exact ih h2
        · exact ih h2
        · exact ih h2
        · skip
          refine ⟨h2.1, h2.2.mono ?_⟩
          intro e w' he
          cases e with
          | returned v => exact ih he
          | panicked c => exact hq _ _ _ he
          | outgrown => obtain ⟨a0, w0, hh⟩ := he; exact ⟨a0, w0, hq _ _ _ hh⟩
        · skip
          refine ⟨h2.1, h2.2.mono ?_⟩
          intro v w' he
          exact ih he
        · skip
          refine ⟨h2.1, h2.2.mono ?_⟩
          intro e w' he
          cases e with
          | returned v => exact ih he
          | panicked c => exact hq _ _ _ he
          | outgrown => obtain ⟨a0, w0, hh⟩ := he; exact ⟨a0, w0, hq _ _ _ hh⟩
        · exact hq _ _ _ h2
        · exact h2.elim
      · rename_i hw
        rw [if_neg hw] at h
        exact ⟨h.1, ih h.2⟩

theorem AOps.walk {ops : Array Oper} {l : List Oper} {env env' : List AV} {m' : Mem} (h : AOps P ops l env m env' m') : ∀ (k : Nat), l = ops.toList.drop k → ∀ (ro : Option Nat) (g : Gh) (w : World) (a : Act), Fresh g m m' → MemOk g m w → Reps g w env a.tmps →
    wpOpsIn (Fw ro) 0 P ops (fun e' a' w' => e' = .normal ∧ a'.defers = a.defers ∧ ∃ g', Step g m g' m' w w' ∧ MemOk g' m' w' ∧ Reps g' w' env' a'.tmps) (List.range' k l.length) a w := by
  induction h with
  | nil env m => intro k hk ro g w a hf hm he; exact ⟨rfl, rfl, g, Step.refl g m w, hm, he⟩
  | @op o l env env' m m1 m' d hw h hk ih =>
    intro k hl ro g w a hf hm he
    have hk1 : ops[k]? = some o := by
      rw [← Array.getElem?_toList]
      have := congrArg (·[0]?) hl
      simp at this
      rw [this]; simp
    have hl2 : l = ops.toList.drop (k + 1) := by
      have := congrArg List.tail hl
      simpa using this
    simp only [List.length_cons, List.range'_succ, wpOpsIn, hk1]
    rw [if_pos (wanted_of he hw)]
    refine uponIn_of (h.2 g w a.eval (fun _ => rfl) (fun _ => rfl) (hf.left hk.mono) hm (repE_of he _)) ?_
    rintro v w' ⟨g1, hs1, hm1, hr1⟩
    have he1 : Reps g1 w' (aput env o.dst d) (a.put o.dst v).tmps := reps_put (he.step hm hs1) hr1
    refine wpOpsIn_mono ?_ (ih (k + 1) hl2 ro g1 w' (a.put o.dst v) (hf.right hs1) hm1 he1)
    rintro e a2 w2 ⟨rfl, hd2, g2, hs2, hm2, he2⟩
    refine ⟨rfl, ?_, g2, hs1.trans hs2 hm, hm2, he2⟩
    rw [hd2]; cases o.dst <;> rfl
  | @skip o l env env' m m' hw hk ih =>
    intro k hl ro g w a hf hm he
    have hk1 : ops[k]? = some o := by
      rw [← Array.getElem?_toList]
      have := congrArg (·[0]?) hl
      simp at this
      rw [this]; simp
    have hl2 : l = ops.toList.drop (k + 1) := by
      have := congrArg List.tail hl
      simpa using this
    simp only [List.length_cons, List.range'_succ, wpOpsIn, hk1]
    have hwf : Region.wanted o (yielded ops a.tmps) = false := wanted_of he hw
    rw [if_neg (by rw [hwf]; simp)]
    refine ⟨fun f _ => trivial, ?_⟩
    have he1 : Reps g w (aput env o.dst .undef) (a.put o.dst Go.undef).tmps := reps_put he (.tuple [] #[] rfl (fun j c v h => by simp at h))
    refine wpOpsIn_mono ?_ (ih (k + 1) hl2 ro g w (a.put o.dst Go.undef) hf hm he1)
    rintro e a2 w2 ⟨rfl, hd2, hq⟩
    refine ⟨rfl, ?_, hq⟩
    rw [hd2]; cases o.dst <;> rfl

/-- A region that does not draw. -/
theorem AExec.region {lo : Option Nat} {id : Nat} {ops : Array Oper} {env env' : List AV} {m' : Mem} (h : AOps P ops ops.toList env m env' m') : AExec P lo (.region id ops false) env m .normal env' m' := by
  refine ⟨h.mono, fun ro g w a hro hf hm he => wpIn_region ?_⟩
  have := h.walk 0 (by simp) ro g w a hf hm he
  rw [List.range_eq_range']
  simp only [Array.length_toList] at this
  refine wpOpsIn_mono ?_ this
  rintro e a2 w2 ⟨rfl, hd2, g2, hs2, hm2, he2⟩
  exact ⟨rfl, g2, [], by simpa using hd2, .nil, hs2, hm2, he2⟩
end
end Go.Proofs.Ytakmilmckdllfaa.G
