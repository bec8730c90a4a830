/-
The words for whoever proves a function's contract: a piece of code is computed through, down to its calls and loops.
-/
import Derived.Test.YtakmilmckdllfaaG15
set_option linter.unusedVariables false
set_option linter.unusedSimpArgs false
namespace Go.Proofs.Ytakmilmckdllfaa.G

/-- A call of a function comes to something. -/
def Does (P : Program) (f : FuncId) (args : List AV) (m : Mem) (K : AV → Mem → Prop) : Prop := ∃ r m1, ACalls P f args m r m1 ∧ K r m1
/-- A call of a function's value. -/
def DoesV (P : Program) (fv : AV) (args : List AV) (m : Mem) (K : AV → Mem → Prop) : Prop := ∃ r m1, ACallV P fv args m r m1 ∧ K r m1
theorem Does.mono {P : Program} {f : FuncId} {args : List AV} {m : Mem} {K K' : AV → Mem → Prop} (h : Does P f args m K) (hk : ∀ r m1, K r m1 → K' r m1) : Does P f args m K' :=
  let ⟨r, m1, h1, h2⟩ := h; ⟨r, m1, h1, hk r m1 h2⟩
theorem DoesV.mono {P : Program} {fv : AV} {args : List AV} {m : Mem} {K K' : AV → Mem → Prop} (h : DoesV P fv args m K) (hk : ∀ r m1, K r m1 → K' r m1) : DoesV P fv args m K' :=
  let ⟨r, m1, h1, h2⟩ := h; ⟨r, m1, h1, hk r m1 h2⟩
theorem DoesV.func {P : Program} {f : FuncId} {first cap args : List AV} {m : Mem} {K : AV → Mem → Prop} (h : Does P f (first ++ args ++ cap) m K) : DoesV P (.func f first cap) args m K :=
  let ⟨r, m1, h1, h2⟩ := h; ⟨r, m1, .of_func h1, h2⟩
/-- A call of a function that is named outright. -/
theorem DoesV.named {P : Program} {f : FuncId} {args : List AV} {m : Mem} {K R : AV → Mem → Prop} (h : Does P f args m R) (hk : ∀ r m1, R r m1 → K r m1) : DoesV P (.func f [] []) args m K :=
  .func ((by simpa using h : Does P f ([] ++ args ++ []) m R).mono hk)

/-- Operations that keep what was there, whatever it is. -/
def opKeeps : Op → Bool
  | .load .. | .alloc _ | .box .. => true
  | op => opPure op
def opCalls : Op → Bool
  | .call { callee := .value _, .. } => true
  | _ => false

def WOp (P : Program) (op : Op) (env : List AV) (m : Mem) (early : Prop) (K : AV → Mem → Prop) : Prop :=
  match op with
  | .call { callee := .value f, args, .. } =>
    match aeval env f, aevals env args.toList with
    | some fv, some as => DoesV P fv (as.map AV.strip) m fun r m1 => (early → Ext m m1) ∧ K r m1
    | _, _ => False
  | op =>
    match aop P op env m with
    | some (d, m1) => K d m1
    | none => False

def WOps (P : Program) (ops : Array Oper) (p : Nat) (Q : List AV → Mem → Prop) : Nat → List Oper → List AV → Mem → Prop
  | _, [], env, m => Q env m
  | k, o :: l, env, m =>
    match wantedA ops env o with
    | some true => WOp P o.op env m (k < p) fun d m1 => WOps P ops p Q (k + 1) l (aput env o.dst d) m1
    | some false => WOps P ops p Q (k + 1) l (aput env o.dst .undef) m
    | none => False

/-- Where the operations begin that turn what was there. -/
def splitOf : Nat → List Oper → Nat
  | k, [] => k
  | k, o :: l => if opKeeps o.op || opCalls o.op then splitOf (k + 1) l else k

def drawsOk : Code → Bool
  | .seq a b => drawsOk a && drawsOk b
  | .cond _ a b => drawsOk a && drawsOk b
  | .block _ c => drawsOk c
  | .loop c => drawsOk c
  | .region _ ops true => drawOk ops (splitOf 0 ops.toList)
  | .rangeFunc _ _ a b => drawsOk a && drawsOk b
  | _ => true

def WC (P : Program) : Code → (Exit → List AV → Mem → Prop) → List AV → Mem → Prop
  | .skip, Q => Q .normal
  | .exit id, Q => Q (.exit id)
  | .ret, Q => Q .ret
  | .seq a b, Q => WC P a fun e env m => match e with
    | .normal => WC P b Q env m
    | e => Q e env m
  | .cond c a b, Q => fun env m => match c with
    | .tmp t => match env[t]? with
      | some (.atom (.bool true)) => WC P a Q env m
      | some (.atom (.bool false)) => WC P b Q env m
      | _ => False
    | _ => False
  | .block id c, Q => WC P c fun e => Q (leave id e)
  | .loop c, Q => fun env m => ∃ e env' m', ALoop P c env m e env' m' ∧ Q e env' m'
  | .region _ ops draw, Q => fun env m => WOps P ops (if draw then splitOf 0 ops.toList else 0) (Q .normal) 0 ops.toList env m
  | .rangeFunc f ps a b, Q => fun env m => ∃ e env' m', AExec P (.rangeFunc f ps a b) env m e env' m' ∧ Q e env' m'
  | _, _ => fun _ _ => False

/-- What a loop comes to. -/
def WLoop (P : Program) (c : Code) (Q : Exit → List AV → Mem → Prop) (env : List AV) (m : Mem) : Prop := ∃ e env' m', ALoop P c env m e env' m' ∧ Q e env' m'

theorem splitOf_le : ∀ (l : List Oper) (k : Nat), splitOf k l ≤ k + l.length := by
  intro l
  induction l with
  | nil => intro k; exact Nat.le_refl _
  | cons o l ih =>
    intro k
    simp only [splitOf, List.length_cons]
    split
    · have := ih (k + 1); omega
    · omega
theorem splitOf_ge : ∀ (l : List Oper) (k : Nat), k ≤ splitOf k l := by
  intro l
  induction l with
  | nil => intro k; exact Nat.le_refl _
  | cons o l ih =>
    intro k
    simp only [splitOf]
    split
    · have := ih (k + 1); omega
    · omega

section
variable {P : Program}

theorem WOp.op {op : Op} {env : List AV} {m : Mem} {early : Prop} {K : AV → Mem → Prop} (h : WOp P op env m early K) : (∃ d m1, aop P op env m = some (d, m1) ∧ K d m1) ∨
    ∃ c f fv as, op = .call c ∧ c.callee = .value f ∧ aeval env f = some fv ∧ aevals env c.args.toList = some as ∧ ∃ d m1, ACallV P fv (as.map AV.strip) m d m1 ∧ (early → Ext m m1) ∧ K d m1 := by
  unfold WOp at h
  split at h
  · rename_i f args ts
    split at h
    · rename_i fv as h1 h2
      obtain ⟨r, m1, h3, h4, h5⟩ := h
      exact .inr ⟨_, f, fv, as, rfl, rfl, h1, h2, r, m1, h3, h4, h5⟩
    · exact h.elim
  · split at h
    · rename_i d m1 h1
      exact .inl ⟨d, m1, h1, h⟩
    · exact h.elim

theorem WOps.ops {ops : Array Oper} {p : Nat} {Q : List AV → Mem → Prop} : ∀ {l : List Oper} {k : Nat} {env : List AV} {m : Mem}, WOps P ops p Q k l env m → ∃ env' m', AOps P ops l env m env' m' ∧ Q env' m' := by
  intro l
  induction l with
  | nil => intro k env m h; exact ⟨env, m, .nil env m, h⟩
  | cons o l ih =>
    intro k env m h
    simp only [WOps] at h
    split at h
    · rename_i hw
      rcases h.op with ⟨d, m1, h1, h2⟩ | ⟨c, f, fv, as, h1, h2, h3, h4, d, m1, h5, h6, h7⟩
      · obtain ⟨env', m', h3, h4⟩ := ih h2
        exact ⟨env', m', .op hw (aop_ok h1) h3, h4⟩
      · obtain ⟨env', m', h8, h9⟩ := ih h7
        exact ⟨env', m', .op hw (.call h1 h2 h3 h4 h5) h8, h9⟩
    · rename_i hw
      obtain ⟨env', m', h3, h4⟩ := ih h
      exact ⟨env', m', .skip hw h3, h4⟩
    · exact h.elim

theorem keeps_ext {op : Op} {env : List AV} {m m1 : Mem} {d : AV} (hk : opKeeps op = true) (h : aop P op env m = some (d, m1)) : Ext m m1 := by
  by_cases hp : opPure op = true
  · rw [(pure_indep hp h).1]; exact Ext.refl _
  · cases op <;> first | (exact absurd hk hp) | skip
    · simp only [aop] at h
      cases hz : zeroT P ‹_› with
      | none => rw [hz] at h; cases h
      | some cs => rw [hz] at h; injection h with h; injection h with h1 h2; subst h2; exact Ext.push _ _
    · simp only [aop] at h
      obtain ⟨a, _, h⟩ := bind_some' h
      split at h
      · injection h with h; injection h with h1 h2; subst h2; exact Ext.push _ _
      · cases h
    · simp only [aop] at h
      obtain ⟨a, _, h⟩ := bind_some' h
      obtain ⟨_, h⟩ := map_pair h
      rw [h]; exact Ext.refl _

theorem WOps.opsD {ops : Array Oper} {p : Nat} {Q : List AV → Mem → Prop} : ∀ {l : List Oper} {k : Nat} {env : List AV} {m : Mem}, p = splitOf k l ∨ p ≤ k → WOps P ops p Q k l env m → ∃ env' m', AOpsD P ops p k l env m env' m' ∧ Q env' m' := by
  intro l
  induction l with
  | nil => intro k env m _ h; exact ⟨env, m, .nil k env m, h⟩
  | cons o l ih =>
    intro k env m hp h
    have hp' : p = splitOf (k + 1) l ∨ p ≤ k + 1 := by
      rcases hp with hp | hp
      · simp only [splitOf] at hp
        split at hp
        · exact .inl hp
        · exact .inr (by omega)
      · exact .inr (by omega)
    simp only [WOps] at h
    split at h
    · rename_i hw
      rcases h.op with ⟨d, m1, h1, h2⟩ | ⟨c, f, fv, as, h1, h2, h3, h4, d, m1, h5, h6, h7⟩
      · obtain ⟨env', m', h3, h4⟩ := ih hp' h2
        by_cases hpu : opPure o.op = true
        · exact ⟨env', m', .pure hw hpu h1 h3, h4⟩
        · refine ⟨env', m', .loud hw (by simpa using hpu) (aop_ok h1) (fun hk => ?_) h3, h4⟩
          rcases hp with hp | hp
          · simp only [splitOf] at hp
            split at hp
            · rename_i hkc
              simp only [Bool.or_eq_true] at hkc
              rcases hkc with hkc | hkc
              · exact keeps_ext hkc h1
              · exfalso
                unfold opCalls at hkc
                split at hkc
                · rename_i heq; rw [heq] at h1; simp [aop] at h1
                · cases hkc
            · omega
          · omega
      · obtain ⟨env', m', h8, h9⟩ := ih hp' h7
        have hpu : opPure o.op = false := by
          obtain ⟨callee, args, ts⟩ := c
          dsimp only at h2
          subst h2
          rw [h1]; rfl
        exact ⟨env', m', .loud hw hpu (.call h1 h2 h3 h4 h5) h6 h8, h9⟩
    · rename_i hw
      obtain ⟨env', m', h3, h4⟩ := ih hp' h
      exact ⟨env', m', .skip hw h3, h4⟩
    · exact h.elim

/-- **A piece of code that is computed through.** -/
theorem WC.exec (hmix : P.follows .mixedOrders = true) : ∀ {c : Code} {Q : Exit → List AV → Mem → Prop} {env : List AV} {m : Mem}, drawsOk c = true → WC P c Q env m → ∃ e env' m', AExec P c env m e env' m' ∧ Q e env' m' := by
  intro c
  induction c with
  | skip => intro Q env m _ h; exact ⟨_, env, m, .skip env m, h⟩
  | exit id => intro Q env m _ h; exact ⟨_, env, m, .exit id env m, h⟩
  | ret => intro Q env m _ h; exact ⟨_, env, m, .ret env m, h⟩
  | seq a b iha ihb =>
    intro Q env m hd h
    simp only [drawsOk, Bool.and_eq_true] at hd
    obtain ⟨e, env1, m1, h1, h2⟩ := iha hd.1 h
    cases e with
    | normal =>
      obtain ⟨e, env2, m2, h3, h4⟩ := ihb hd.2 h2
      exact ⟨e, env2, m2, h1.seq h3, h4⟩
    | _ => exact ⟨_, env1, m1, h1.seq_out (by simp), h2⟩
  | cond c a b iha ihb =>
    intro Q env m hd h
    simp only [drawsOk, Bool.and_eq_true] at hd
    simp only [WC] at h
    split at h
    · split at h
      · rename_i t ht
        obtain ⟨e, env1, m1, h1, h2⟩ := iha hd.1 h
        exact ⟨e, env1, m1, AExec.cond (b := true) rfl ht h1, h2⟩
      · rename_i t ht
        obtain ⟨e, env1, m1, h1, h2⟩ := ihb hd.2 h
        exact ⟨e, env1, m1, AExec.cond (b := false) rfl ht h1, h2⟩
      · exact h.elim
    · exact h.elim
  | block id c ih =>
    intro Q env m hd h
    obtain ⟨e, env1, m1, h1, h2⟩ := ih hd h
    exact ⟨_, env1, m1, h1.block, h2⟩
  | loop c ih =>
    intro Q env m hd h
    obtain ⟨e, env1, m1, h1, h2⟩ := h
    exact ⟨e, env1, m1, .loop h1, h2⟩
  | region id ops draw =>
    intro Q env m hd h
    cases draw with
    | false =>
      obtain ⟨env', m', h1, h2⟩ := WOps.ops h
      exact ⟨_, env', m', .region h1, h2⟩
    | true =>
      obtain ⟨env', m', h1, h2⟩ := WOps.opsD (.inl rfl) h
      have h3 := splitOf_le ops.toList 0
      simp at h3
      exact ⟨_, env', m', .draw hmix h3 hd h1, h2⟩
  | rangeFunc f ps a b iha ihb =>
    intro Q env m hd h
    exact h
  | _ => intro Q env m _ h; exact h.elim

/-- One round of a loop, and then the loop. -/
theorem WLoop.step (hmix : P.follows .mixedOrders = true) {c : Code} {Q : Exit → List AV → Mem → Prop} {env : List AV} {m : Mem} (hd : drawsOk c = true) (h : WC P c (fun e env m => match e with
    | .normal => WLoop P c Q env m
    | e => Q e env m) env m) : WLoop P c Q env m := by
  obtain ⟨e, env1, m1, h1, h2⟩ := WC.exec hmix hd h
  cases e with
  | normal =>
    obtain ⟨e, env2, m2, h3, h4⟩ := h2
    exact ⟨e, env2, m2, ALoop.round h1 h3, h4⟩
  | _ => exact ⟨_, env1, m1, .out h1 (by simp), h2⟩

def ends : Exit → Bool
  | .ret | .normal => true
  | _ => false
/-- What a function's body must come to. -/
def Post (P : Program) (fn : Func) (K : AV → Mem → Prop) (e : Exit) (env : List AV) (m : Mem) : Prop :=
  ends e = true ∧ match aresults P fn env m with
  | some r => K r.stripR m
  | none => False

/-- **A function's contract.** -/
theorem Does.of_body {f : FuncId} {fn : Func} {c : Code} {args : List AV} {m : Mem} {K : AV → Mem → Prop} (hmix : P.follows .mixedOrders = true) (hf : P.funcs[f]? = some fn) (hb : fn.body = some c) (hname : (fn.name == "runtime.NumGoroutine") = false) (hd : drawsOk c = true)
    (h : WC P c (Post P fn K) (args ++ List.replicate (fn.ntmps - args.length) .undef) m) : Does P f args m K := by
  obtain ⟨e, env', m', h1, h2, h3⟩ := WC.exec hmix hd h
  split at h3
  · rename_i r hr
    refine ⟨_, m', .of_body hf hb hname h1 ?_ hr, h3⟩
    cases e <;> first | exact .inl rfl | exact .inr rfl | (simp [ends] at h2)
  · exact h3.elim
end
end Go.Proofs.Ytakmilmckdllfaa.G
