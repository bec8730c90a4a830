/-
The words for whoever proves a function's contract: a piece of code is computed through, down to its calls and loops.
-/
import Derived.Test.YtakmilmckdllfaaG15
set_option linter.unusedVariables false
set_option linter.unusedSimpArgs false
namespace Go.Proofs.Ytakmilmckdllfaa.G

/-- A call of a function comes to something. -/
def Does (P : Program) (f : FuncId) (args : List AV) (m : Mem) (K : AV → Mem → Prop) : Prop := ∃ r m1, ACalls P f args m r m1 ∧ K r m1
/-- A call of a function's value. -/
def DoesV (P : Program) (fv : AV) (args : List AV) (m : Mem) (K : AV → Mem → Prop) : Prop := ∃ r m1, ACallV P fv args m r m1 ∧ K r m1
theorem Does.mono {P : Program} {f : FuncId} {args : List AV} {m : Mem} {K K' : AV → Mem → Prop} (h : Does P f args m K) (hk : ∀ r m1, K r m1 → K' r m1) : Does P f args m K' :=
  let ⟨r, m1, h1, h2⟩ := h; ⟨r, m1, h1, hk r m1 h2⟩
theorem DoesV.mono {P : Program} {fv : AV} {args : List AV} {m : Mem} {K K' : AV → Mem → Prop} (h : DoesV P fv args m K) (hk : ∀ r m1, K r m1 → K' r m1) : DoesV P fv args m K' :=
  let ⟨r, m1, h1, h2⟩ := h; ⟨r, m1, h1, hk r m1 h2⟩
theorem DoesV.func {P : Program} {f : FuncId} {first cap args : List AV} {m : Mem} {K : AV → Mem → Prop} (h : Does P f (first ++ args ++ cap) m K) : DoesV P (.func f first cap) args m K :=
  let ⟨r, m1, h1, h2⟩ := h; ⟨r, m1, .of_func h1, h2⟩
/-- A call of a function that is named outright. -/
theorem DoesV.named {P : Program} {f : FuncId} {args : List AV} {m : Mem} {K R : AV → Mem → Prop} (h : Does P f args m R) (hk : ∀ r m1, R r m1 → K r m1) : DoesV P (.func f [] []) args m K :=
  .func ((by simpa using h : Does P f ([] ++ args ++ []) m R).mono hk)

/-- Operations that keep what was there, whatever it is. -/
def opKeeps : Op → Bool
  | .load .. | .alloc _ | .box .. => true
  | op => opPure op
def opCalls : Op → Bool
  | .call { callee := .value _, .. } => true
  | _ => false

def WOp (P : Program) (op : Op) (env : List AV) (m : Mem) (early : Prop) (K : AV → Mem → Prop) : Prop :=
  match op with
  | .call { callee := .value f, args, .. } =>
    match aeval env f, aevals env args.toList with
    | some fv, some as => DoesV P fv (as.map AV.strip) m fun r m1 => (early → Ext m m1) ∧ K r m1
    | _, _ => False
  | op =>
    match aop P op env m with
    | some (d, m1) => K d m1
    | none => False

/-- Where the operations begin that turn what was there. -/
def splitOf : Nat → List Oper → Nat
  | k, [] => k
  | k, o :: l => if opKeeps o.op || opCalls o.op then splitOf (k + 1) l else k

/-- Of a pair of stores that may come in either order: the earlier one is into a row, the later one into a variable. -/
def swChk (pr : Nat × Option (Nat × Nat)) (k : Nat) (op : Op) (ev : Operand → Option AV) : Bool :=
  match pr.2 with
  | none => true
  | some (a, b) =>
    (k != a || match op with
      | .store _ x _ => match ev x with
        | some (.vptr _ _) => true
        | _ => false
      | _ => false) &&
    (k != b || match op with
      | .store _ x _ => match ev x with
        | some (.ptr _ _) => true
        | _ => false
      | _ => false)
def sguard (b : Bool) (X : Prop) : Prop := b = true ∧ X
def WOps (P : Program) (ops : Array Oper) (p : Nat × Option (Nat × Nat)) (Q : List AV → Mem → Prop) : Nat → List Oper → List AV → Mem → Prop
  | _, [], env, m => Q env m
  | k, o :: l, env, m =>
    match wantedA ops env o with
    | some true => sguard (swChk p k o.op (aeval env)) (WOp P o.op env m (k < p.1) fun d m1 => WOps P ops p Q (k + 1) l (aput env o.dst d) m1)
    | some false => WOps P ops p Q (k + 1) l (aput env o.dst .undef) m
    | none => False
/-- How a region's operations may be ordered. -/
def drawP (ops : Array Oper) (draw : Bool) : Nat × Option (Nat × Nat) := if draw then (splitOf 0 ops.toList, swapOf ops (splitOf 0 ops.toList)) else (0, none)

def drawsOk : Code → Bool
  | .seq a b => drawsOk a && drawsOk b
  | .cond _ a b => drawsOk a && drawsOk b
  | .block _ c => drawsOk c
  | .loop c => drawsOk c
  | .region _ ops true => drawOk ops (splitOf 0 ops.toList) (swapOf ops (splitOf 0 ops.toList))
  | .rangeFunc _ _ a b => drawsOk a && drawsOk b
  | _ => true

def WC (P : Program) (lo : Option Nat) : Code → (Exit → List AV → Mem → Prop) → List AV → Mem → Prop
  | .skip, Q => Q .normal
  | .exit id, Q => Q (.exit id)
  | .ret, Q => Q .ret
  | .seq a b, Q => WC P lo a fun e env m => match e with
    | .normal => WC P lo b Q env m
    | e => Q e env m
  | .cond c a b, Q => fun env m => match c with
    | .tmp t => match env[t]? with
      | some (.atom (.bool true)) => WC P lo a Q env m
      | some (.atom (.bool false)) => WC P lo b Q env m
      | _ => False
    | _ => False
  | .block id c, Q => WC P lo c fun e => Q (leave id e)
  | .loop c, Q => fun env m => ∃ e env' m', ALoop P lo c env m e env' m' ∧ Q e env' m'
  | .region _ ops draw, Q => fun env m => WOps P ops (drawP ops draw) (Q .normal) 0 ops.toList env m
  | .rangeFunc f ps a b, Q => fun env m => ∃ e env' m', AExec P lo (.rangeFunc f ps a b) env m e env' m' ∧ Q e env' m'
  | _, _ => fun _ _ => False

/-- What a loop comes to. -/
def WLoop (P : Program) (lo : Option Nat) (c : Code) (Q : Exit → List AV → Mem → Prop) (env : List AV) (m : Mem) : Prop := ∃ e env' m', ALoop P lo c env m e env' m' ∧ Q e env' m'

theorem splitOf_le : ∀ (l : List Oper) (k : Nat), splitOf k l ≤ k + l.length := by
  intro l
  induction l with
  | nil => intro k; exact Nat.le_refl _
  | cons o l ih =>
    intro k
    simp only [splitOf, List.length_cons]
    split
    · have := ih (k + 1); omega
    · omega
theorem splitOf_ge : ∀ (l : List Oper) (k : Nat), k ≤ splitOf k l := by
  intro l
  induction l with
  | nil => intro k; exact Nat.le_refl _
  | cons o l ih =>
    intro k
    simp only [splitOf]
    split
    · have := ih (k + 1); omega
    · omega

section
variable {P : Program}

theorem WOp.op {op : Op} {env : List AV} {m : Mem} {early : Prop} {K : AV → Mem → Prop} (h : WOp P op env m early K) : (∃ d m1, aop P op env m = some (d, m1) ∧ K d m1) ∨
    ∃ c f fv as, op = .call c ∧ c.callee = .value f ∧ aeval env f = some fv ∧ aevals env c.args.toList = some as ∧ ∃ d m1, ACallV P fv (as.map AV.strip) m d m1 ∧ (early → Ext m m1) ∧ K d m1 := by
  unfold WOp at h
  split at h
  · rename_i f args ts
    split at h
    · rename_i fv as h1 h2
      obtain ⟨r, m1, h3, h4, h5⟩ := h
      exact .inr ⟨_, f, fv, as, rfl, rfl, h1, h2, r, m1, h3, h4, h5⟩
    · exact h.elim
  · split at h
    · rename_i d m1 h1
      exact .inl ⟨d, m1, h1, h⟩
    · exact h.elim

theorem swChk_store {pr : Nat × Option (Nat × Nat)} {k a b : Nat} {op : Op} {ev : Operand → Option AV} (h : swChk pr k op ev = true) (hs : pr.2 = some (a, b)) :
    (k = a → ∃ t x y id off, op = .store t x y ∧ ev x = some (.vptr id off)) ∧ (k = b → ∃ t x y l off, op = .store t x y ∧ ev x = some (.ptr l off)) := by
  simp only [swChk, hs, Bool.and_eq_true, Bool.or_eq_true, bne_iff_ne, ne_eq] at h
  obtain ⟨h1, h2⟩ := h
  refine ⟨fun hk => ?_, fun hk => ?_⟩
  · rcases h1 with h1 | h1
    · exact absurd hk h1
    · split at h1
      · rename_i t x y
        split at h1
        · rename_i id off hx; exact ⟨t, x, y, id, off, rfl, hx⟩
        · cases h1
      · cases h1
  · rcases h2 with h2 | h2
    · exact absurd hk h2
    · split at h2
      · rename_i t x y
        split at h2
        · rename_i id off hx; exact ⟨t, x, y, id, off, rfl, hx⟩
        · cases h2
      · cases h2
theorem swChk_fact {pr : Nat × Option (Nat × Nat)} {k : Nat} {o : Oper} {env : List AV} {m m1 : Mem} {d : AV} (hc : swChk pr k o.op (aeval env) = true) (h : aop P o.op env m = some (d, m1)) : SwFact P pr.2 k o env m d m1 := by
  intro a b hab
  obtain ⟨h1, h2⟩ := swChk_store hc hab
  have key : ∀ t x y p, o.op = .store t x y → aeval env x = some p → d = .undef ∧ ∃ v, aeval env y = some v ∧ astore P m t p v = some m1 := by
    intro t x y p ho hx
    rw [ho] at h
    simp only [aop, hx, Option.bind_some] at h
    obtain ⟨v, hv, h⟩ := bind_some' h
    cases hs : astore P m t p v with
    | none => rw [hs] at h; cases h
    | some m2 => rw [hs] at h; injection h with h; injection h with e1 e2; subst e1 e2; exact ⟨rfl, v, hv, hs⟩
  refine ⟨fun hk => ?_, fun hk => ?_⟩
  · obtain ⟨t, x, y, id, off, ho, hx⟩ := h1 hk
    obtain ⟨hd, v, hv, hs⟩ := key t x y _ ho hx
    exact ⟨hd, t, x, y, id, off, v, ho, hx, hv, hs⟩
  · obtain ⟨t, x, y, id, off, ho, hx⟩ := h2 hk
    obtain ⟨hd, v, hv, hs⟩ := key t x y _ ho hx
    exact ⟨hd, t, x, y, id, off, v, ho, hx, hv, hs⟩
theorem swChk_call {pr : Nat × Option (Nat × Nat)} {k : Nat} {o : Oper} {c : Call} {env : List AV} {m m1 : Mem} {d : AV} (hc : swChk pr k o.op (aeval env) = true) (h : o.op = .call c) : SwFact P pr.2 k o env m d m1 := by
  intro a b hab
  obtain ⟨h1, h2⟩ := swChk_store hc hab
  refine ⟨fun hk => ?_, fun hk => ?_⟩
  · obtain ⟨t, x, y, id, off, ho, hx⟩ := h1 hk; rw [h] at ho; cases ho
  · obtain ⟨t, x, y, id, off, ho, hx⟩ := h2 hk; rw [h] at ho; cases ho

theorem WOps.ops {ops : Array Oper} {p : Nat × Option (Nat × Nat)} {Q : List AV → Mem → Prop} : ∀ {l : List Oper} {k : Nat} {env : List AV} {m : Mem}, WOps P ops p Q k l env m → ∃ env' m', AOps P ops l env m env' m' ∧ Q env' m' := by
  intro l
  induction l with
  | nil => intro k env m h; exact ⟨env, m, .nil env m, h⟩
  | cons o l ih =>
    intro k env m h
    simp only [WOps] at h
    split at h
    · rename_i hw
      replace h := h.2
      rcases h.op with ⟨d, m1, h1, h2⟩ | ⟨c, f, fv, as, h1, h2, h3, h4, d, m1, h5, h6, h7⟩
      · obtain ⟨env', m', h3, h4⟩ := ih h2
        exact ⟨env', m', .op hw (aop_ok h1) h3, h4⟩
      · obtain ⟨env', m', h8, h9⟩ := ih h7
        exact ⟨env', m', .op hw (.call h1 h2 h3 h4 h5) h8, h9⟩
    · rename_i hw
      obtain ⟨env', m', h3, h4⟩ := ih h
      exact ⟨env', m', .skip hw h3, h4⟩
    · exact h.elim

theorem keeps_ext {op : Op} {env : List AV} {m m1 : Mem} {d : AV} (hk : opKeeps op = true) (h : aop P op env m = some (d, m1)) : Ext m m1 := by
  by_cases hp : opPure op = true
  · rw [(pure_indep hp h).1]; exact Ext.refl _
  · cases op <;> first | (exact absurd hk hp) | skip
    · simp only [aop] at h
      cases hz : zeroT P ‹_› with
      | none => rw [hz] at h; cases h
      | some cs => rw [hz] at h; injection h with h; injection h with h1 h2; subst h2; exact Ext.push _ _
    · simp only [aop] at h
      obtain ⟨a, _, h⟩ := bind_some' h
      split at h
      · injection h with h; injection h with h1 h2; subst h2; exact Ext.push _ _
      · cases h
    · simp only [aop] at h
      obtain ⟨a, _, h⟩ := bind_some' h
      obtain ⟨_, h⟩ := map_pair h
      rw [h]; exact Ext.refl _

theorem WOps.opsD {ops : Array Oper} {p : Nat × Option (Nat × Nat)} {Q : List AV → Mem → Prop} : ∀ {l : List Oper} {k : Nat} {env : List AV} {m : Mem}, p.1 = splitOf k l ∨ p.1 ≤ k → WOps P ops p Q k l env m → ∃ env' m', AOpsD P ops p.1 p.2 k l env m env' m' ∧ Q env' m' := by
  intro l
  induction l with
  | nil => intro k env m _ h; exact ⟨env, m, .nil k env m, h⟩
  | cons o l ih =>
    intro k env m hp h
    have hp' : p.1 = splitOf (k + 1) l ∨ p.1 ≤ k + 1 := by
      rcases hp with hp | hp
      · simp only [splitOf] at hp
        split at hp
        · exact .inl hp
        · exact .inr (by omega)
      · exact .inr (by omega)
    simp only [WOps] at h
    split at h
    · rename_i hw
      have hck := h.1
      replace h := h.2
      rcases h.op with ⟨d, m1, h1, h2⟩ | ⟨c, f, fv, as, h1, h2, h3, h4, d, m1, h5, h6, h7⟩
      · obtain ⟨env', m', h3, h4⟩ := ih hp' h2
        by_cases hpu : opPure o.op = true
        · exact ⟨env', m', .pure hw hpu h1 h3, h4⟩
        · refine ⟨env', m', .loud hw (by simpa using hpu) (aop_ok h1) (fun hk => ?_) (swChk_fact hck h1) h3, h4⟩
          rcases hp with hp | hp
          · simp only [splitOf] at hp
            split at hp
            · rename_i hkc
              simp only [Bool.or_eq_true] at hkc
              rcases hkc with hkc | hkc
              · exact keeps_ext hkc h1
              · exfalso
                unfold opCalls at hkc
                split at hkc
                · rename_i heq; rw [heq] at h1; simp [aop] at h1
                · cases hkc
            · omega
          · omega
      · obtain ⟨env', m', h8, h9⟩ := ih hp' h7
        have hpu : opPure o.op = false := by
          obtain ⟨callee, args, ts⟩ := c
          dsimp only at h2
          subst h2
          rw [h1]; rfl
        exact ⟨env', m', .loud hw hpu (.call h1 h2 h3 h4 h5) h6 (swChk_call hck h1) h8, h9⟩
    · rename_i hw
      obtain ⟨env', m', h3, h4⟩ := ih hp' h
      exact ⟨env', m', .skip hw h3, h4⟩
    · exact h.elim

/-- **A piece of code that is computed through.** -/
theorem WC.exec {lo : Option Nat} (hmix : P.follows .mixedOrders = true) : ∀ {c : Code} {Q : Exit → List AV → Mem → Prop} {env : List AV} {m : Mem}, drawsOk c = true → WC P lo c Q env m → ∃ e env' m', AExec P lo c env m e env' m' ∧ Q e env' m' := by
  intro c
  induction c with
  | skip => intro Q env m _ h; exact ⟨_, env, m, .skip env m, h⟩
  | exit id => intro Q env m _ h; exact ⟨_, env, m, .exit id env m, h⟩
  | ret => intro Q env m _ h; exact ⟨_, env, m, .ret env m, h⟩
  | seq a b iha ihb =>
    intro Q env m hd h
    simp only [drawsOk, Bool.and_eq_true] at hd
    obtain ⟨e, env1, m1, h1, h2⟩ := iha hd.1 h
    cases e with
    | normal =>
      obtain ⟨e, env2, m2, h3, h4⟩ := ihb hd.2 h2
      exact ⟨e, env2, m2, h1.seq h3, h4⟩
    | _ => exact ⟨_, env1, m1, h1.seq_out (by simp), h2⟩
  | cond c a b iha ihb =>
    intro Q env m hd h
    simp only [drawsOk, Bool.and_eq_true] at hd
    simp only [WC] at h
    split at h
    · split at h
      · rename_i t ht
        obtain ⟨e, env1, m1, h1, h2⟩ := iha hd.1 h
        exact ⟨e, env1, m1, AExec.cond (b := true) rfl ht h1, h2⟩
      · rename_i t ht
        obtain ⟨e, env1, m1, h1, h2⟩ := ihb hd.2 h
        exact ⟨e, env1, m1, AExec.cond (b := false) rfl ht h1, h2⟩
      · exact h.elim
    · exact h.elim
  | block id c ih =>
    intro Q env m hd h
    obtain ⟨e, env1, m1, h1, h2⟩ := ih hd h
    exact ⟨_, env1, m1, h1.block, h2⟩
  | loop c ih =>
    intro Q env m hd h
    obtain ⟨e, env1, m1, h1, h2⟩ := h
    exact ⟨e, env1, m1, .loop h1, h2⟩
  | region id ops draw =>
    intro Q env m hd h
    cases draw with
    | false =>
      obtain ⟨env', m', h1, h2⟩ := WOps.ops h
      exact ⟨_, env', m', .region h1, h2⟩
    | true =>
      obtain ⟨env', m', h1, h2⟩ := WOps.opsD (p := drawP ops true) (.inl rfl) h
      have h3 := splitOf_le ops.toList 0
      simp at h3
      exact ⟨_, env', m', .draw hmix h3 hd h1, h2⟩
  | rangeFunc f ps a b iha ihb =>
    intro Q env m hd h
    exact h
  | _ => intro Q env m _ h; exact h.elim

/-- One round of a loop, and then the loop. -/
theorem WLoop.step {lo : Option Nat} (hmix : P.follows .mixedOrders = true) {c : Code} {Q : Exit → List AV → Mem → Prop} {env : List AV} {m : Mem} (hd : drawsOk c = true) (h : WC P lo c (fun e env m => match e with
    | .normal => WLoop P lo c Q env m
    | e => Q e env m) env m) : WLoop P lo c Q env m := by
  obtain ⟨e, env1, m1, h1, h2⟩ := WC.exec hmix hd h
  cases e with
  | normal =>
    obtain ⟨e, env2, m2, h3, h4⟩ := h2
    exact ⟨e, env2, m2, ALoop.round h1 h3, h4⟩
  | _ => exact ⟨_, env1, m1, .out h1 (by simp), h2⟩

def ends : Exit → Bool
  | .ret | .normal => true
  | _ => false
/-- What a function's body must come to. -/
def Post (P : Program) (fn : Func) (K : AV → Mem → Prop) (e : Exit) (env : List AV) (m : Mem) : Prop :=
  ends e = true ∧ match aresults P fn env m with
  | some r => K r.stripR m
  | none => False

/-- **A function's contract.** -/
theorem Does.of_body {f : FuncId} {fn : Func} {c : Code} {args : List AV} {m : Mem} {K : AV → Mem → Prop} (hmix : P.follows .mixedOrders = true) (hf : P.funcs[f]? = some fn) (hb : fn.body = some c) (hname : (fn.name == "runtime.NumGoroutine") = false) (hd : drawsOk c = true)
    (h : WC P none c (Post P fn K) (args ++ List.replicate (fn.ntmps - args.length) .undef) m) : Does P f args m K := by
  obtain ⟨e, env', m', h1, h2, h3⟩ := WC.exec hmix hd h
  split at h3
  · rename_i r hr
    refine ⟨_, m', .of_body hf hb hname h1 ?_ hr, h3⟩
    cases e <;> first | exact .inl rfl | exact .inr rfl | (simp [ends] at h2)
  · exact h3.elim
end
end Go.Proofs.Ytakmilmckdllfaa.G
