/-
Code without what a proof does not look at; its loops by number.
-/
import Derived.Test.YtakmilmckdllfaaG16
set_option linter.unusedVariables false
set_option linter.unusedSimpArgs false
namespace Go.Proofs.Ytakmilmckdllfaa.G

abbrev SEnv := List (Nat × AV)
/-- The newest value of a temporary. -/
def sget : SEnv → Nat → Option AV
  | [], _ => none
  | (d, v) :: l, t => if d = t then some v else sget l t
def sput (e : SEnv) (dst : Option Tmp) (d : AV) : SEnv :=
  match dst with
  | some t => (t, d) :: e
  | none => e
/-- What is told of some temporaries. -/
def Fits (e : SEnv) (env : List AV) : Prop := ∀ t a, sget e t = some a → env[t]? = some a
def sargs : Nat → List AV → SEnv
  | _, [] => []
  | k, a :: l => (k, a) :: sargs (k + 1) l
def seval (e : SEnv) : Operand → Option AV
  | .tmp t => sget e t
  | .const v => constAV v
  | .func f => some (.func f [] [])
  | .global _ => none
def sevals (e : SEnv) (l : List Operand) : Option (List AV) := l.mapM (seval e)
def sparts (e : SEnv) (l : List (Nat × Operand)) : Option (List (Nat × AV)) := l.mapM fun p => (seval e p.2).map (p.1, ·)
def sopt (e : SEnv) : Option Operand → Option (Option AV)
  | none => some none
  | some x => (seval e x).map some

/-- One operation that enters no function, out of what is told. -/
def sop (P : Program) (op : Op) (env : SEnv) (m : Mem) : Option (AV × Mem) :=
  match op with
  | .move x => (seval env x).map (·, m)
  | .assign x => (seval env x).map (·, m)
  | .pick c a b => (seval env c).bind fun v => match v with
    | .atom (.bool t) => (seval env (if t then a else b)).map (·, m)
    | _ => none
  | .alloc t => (zeroT P t).map fun cs => (.ptr m.boxes.length 0, m.push (.cells cs))
  | .box t x => (seval env x).bind fun v => if notTuple v = true then some (.ptr m.boxes.length 0, m.push (.cells v.cells)) else none
  | .build t ps => (sparts env ps.toList).bind fun l => (abuild P t l).map (·, m)
  | .buildSlice t len ps => (sparts env ps.toList).bind fun l => (abuildSlice P t len l).map (·, m)
  | .load t a => (seval env a).bind fun p => (aload P m t p).map (·, m)
  | .store t a x => (seval env a).bind fun p => (seval env x).bind fun v => (astore P m t p v).map (AV.undef, ·)
  | .nilCheck x => (seval env x).bind fun v => match v with
    | .ptr l o => some (.ptr l o, m)
    | .eptr e o => some (.eptr e o, m)
    | .vptr e o => some (.vptr e o, m)
    | .func f a b => some (.func f a b, m)
    | _ => none
  | .binOp op t x y _ => (seval env x).bind fun a => (seval env y).bind fun b => (abin P op t a b).map (·, m)
  | .unOp op _ x => (seval env x).bind fun a => (aun op a).map (·, m)
  | .convert s t x => (seval env x).bind fun a => match a, P.underlying s, P.underlying t with
    | .atom (.int _ n), some (.int _), some (.int k) => some (.atom (.int k (k.wrap n)), m)
    | _, _, _ => none
  | .makeFunc (.func f) first cap => (sevals env first.toList).bind fun a => (sevals env cap.toList).map fun b => (.func f (a.map AV.strip) b, m)
  | .slice t x lo hi mx => (seval env x).bind fun v => (sopt env lo).bind fun l => (sopt env hi).bind fun h => (sopt env mx).bind fun k => (aslice P t v l h k).map (·, m)
  | .fieldAddr t x f => (seval env x).bind fun v => (afieldAddr P t v f).map (·, m)
  | .field t x f => (seval env x).bind fun v => (afield P t v f).map (·, m)
  | .indexAddr t x i => (seval env x).bind fun v => (seval env i).bind fun k => (aindexAddr P t v k).map (·, m)
  | .index t x i => (seval env x).bind fun v => (seval env i).bind fun k => (aindex P t v k).map (·, m)
  | .extract t i => (seval env t).bind fun v => match v with
    | .tuple vs => (vs[i]?).map (·, m)
    | _ => none
  | .call { callee := .builtin b, args := as, argTypes := ts } => (sevals env as.toList).bind fun l => abuiltin P b ts.toList l m
  | _ => none

section
variable {e : SEnv} {env : List AV}
theorem Fits.put (h : Fits e env) {d : Nat} {v : AV} (hd : d < env.length) : Fits ((d, v) :: e) (env.set d v) := by
  intro t a ht
  simp only [sget] at ht
  split at ht
  · rename_i hdt; subst hdt; injection ht with ht; subst ht; rw [List.getElem?_set_self hd]
  · rename_i hdt; rw [List.getElem?_set_ne hdt]; exact h t a ht
theorem Fits.sput (h : Fits e env) {dst : Option Tmp} {v : AV} (hd : ∀ t, dst = some t → t < env.length) : Fits (sput e dst v) (aput env dst v) := by
  cases dst with
  | none => exact h
  | some t => exact h.put (hd t rfl)
theorem Fits.sub {e' : SEnv} (h : Fits e env) (hs : ∀ t a, sget e' t = some a → sget e t = some a) : Fits e' env := fun t a ht => h t a (hs t a ht)
theorem sget_of_all {e e' : SEnv} (h : ∀ p ∈ e', sget e p.1 = some p.2) : ∀ t a, sget e' t = some a → sget e t = some a := by
  intro t a ht
  induction e' with
  | nil => cases ht
  | cons x l ih =>
    obtain ⟨d, v⟩ := x
    simp only [sget] at ht
    split at ht
    · rename_i hd; subst hd; injection ht with ht; subst ht; exact h (d, v) (List.mem_cons_self)
    · exact ih (fun p hp => h p (List.mem_cons_of_mem _ hp)) ht
theorem Fits.args (args rest : List AV) : Fits (sargs 0 args) (args ++ rest) := by
  have : ∀ (l : List AV) (k : Nat) (pre : List AV), pre.length = k → ∀ t a, sget (sargs k l) t = some a → (pre ++ l)[t]? = some a := by
    intro l
    induction l with
    | nil => intro k pre _ t a h; cases h
    | cons x l ih =>
      intro k pre hk t a h
      simp only [sargs, sget] at h
      split at h
      · rename_i hd; subst hd; injection h with h; subst h; rw [List.getElem?_append_right (by omega), hk]; simp
      · have := ih (k + 1) (pre ++ [x]) (by simp [hk]) t a h
        rwa [List.append_assoc] at this
  intro t a h
  have h1 := this args 0 [] rfl t a h
  rw [List.nil_append] at h1
  rw [List.getElem?_append_left (List.getElem?_eq_some_iff.1 h1).1]; exact h1

theorem bindMono {α β : Type} {o o' : Option α} {f f' : α → Option β} {b : β} (ho : ∀ a, o = some a → o' = some a) (hf : ∀ a, f a = some b → f' a = some b) (h : o.bind f = some b) : o'.bind f' = some b := by
  obtain ⟨a, h1, h2⟩ := bind_some' h
  rw [ho a h1]; exact hf a h2
theorem mapMono {α β : Type} {o o' : Option α} {f : α → β} {b : β} (ho : ∀ a, o = some a → o' = some a) (h : o.map f = some b) : o'.map f = some b := by
  cases o with
  | none => cases h
  | some a => rw [ho a rfl]; exact h
theorem seval_ok (hf : Fits e env) {x : Operand} : ∀ a, seval e x = some a → aeval env x = some a := by
  intro a h
  cases x <;> first | exact hf _ _ h | exact h
theorem mapM_mono {α β : Type} {f f' : α → Option β} (hf : ∀ x a, f x = some a → f' x = some a) : ∀ {l : List α} (r : List β), l.mapM f = some r → l.mapM f' = some r := by
  intro l
  induction l with
  | nil => intro r h; exact h
  | cons x l ih =>
    intro r h
    simp only [List.mapM_cons, Option.pure_def, Option.bind_eq_bind] at h ⊢
    exact bindMono (hf x) (fun a h => bindMono ih (fun _ h => h) h) h
theorem sevals_ok (hf : Fits e env) {l : List Operand} : ∀ r, sevals e l = some r → aevals env l = some r := mapM_mono fun x a h => seval_ok hf a h
theorem sparts_ok (hf : Fits e env) {l : List (Nat × Operand)} : ∀ r, sparts e l = some r → aparts env l = some r := mapM_mono fun x a h => mapMono (seval_ok hf) h
theorem sopt_ok (hf : Fits e env) {x : Option Operand} : ∀ r, sopt e x = some r → aopt env x = some r := by
  intro r h
  cases x with
  | none => exact h
  | some x => exact mapMono (seval_ok hf) h
theorem sop_ok (hf : Fits e env) {P : Program} {op : Op} {m : Mem} {r : AV × Mem} (h : sop P op e m = some r) : aop P op env m = some r := by
  cases op <;> try (first | exact h | exact mapMono (seval_ok hf) h | exact bindMono (seval_ok hf) (fun _ h => h) h | exact bindMono (sparts_ok hf) (fun _ h => h) h | exact bindMono (seval_ok hf) (fun _ h => bindMono (seval_ok hf) (fun _ h => h) h) h)
  · -- pick
    simp only [sop] at h
    obtain ⟨v, h1, h2⟩ := bind_some' h
    simp only [aop, seval_ok hf v h1]
    split at h2
    · exact mapMono (seval_ok hf) h2
    · cases h2
  · -- makeFunc
    rename_i f first cap
    cases f <;> first | exact h | exact bindMono (sevals_ok hf) (fun _ h => mapMono (sevals_ok hf) h) h
  · -- slice
    exact bindMono (seval_ok hf) (fun _ h => bindMono (sopt_ok hf) (fun _ h => bindMono (sopt_ok hf) (fun _ h => bindMono (sopt_ok hf) (fun _ h => h) h) h) h) h
  · -- call
    rename_i c
    obtain ⟨callee, as, ts⟩ := c
    cases callee <;> first | exact h | exact bindMono (sevals_ok hf) (fun _ h => h) h
end

structure SOper where
  dst : Option Tmp
  op : Op
  guard : Option (Option Tmp × Bool)

inductive SCode where
  | skip
  | ret
  | bad
  | exit (id : Nat)
  | region (d : Option Nat) (ops : List SOper)
  | seq (a b : SCode)
  | cond (t : Tmp) (a b : SCode)
  | block (id : Nat) (c : SCode)
  | loop (k : Nat)
  | range (f : Operand) (ps : Array Tmp) (k j : Nat)

/-- The bodies of loops, in the text's order. -/
def parts : Code → List Code
  | .seq a b => parts a ++ parts b
  | .cond _ a b => parts a ++ parts b
  | .block _ c => parts c
  | .loop c => c :: parts c
  | .rangeFunc _ _ a b => a :: (parts a ++ b :: parts b)
  | _ => []
def nparts : Code → Nat
  | .seq a b => nparts a + nparts b
  | .cond _ a b => nparts a + nparts b
  | .block _ c => nparts c
  | .loop c => nparts c + 1
  | .rangeFunc _ _ a b => nparts a + nparts b + 2
  | _ => 0
def slimOp (ops : Array Oper) (o : Oper) : SOper := ⟨o.dst, o.op, o.guard.map fun g => ((ops[g.1]?).bind (·.dst), g.2)⟩
def slimOps (ops : Array Oper) : List Oper → List SOper
  | [] => []
  | o :: l => slimOp ops o :: slimOps ops l
def slimC : Nat → Code → SCode
  | _, .skip => .skip
  | _, .ret => .ret
  | _, .exit id => .exit id
  | _, .region id ops draw => .region (if draw then some id else none) (slimOps ops ops.toList)
  | k, .seq a b => .seq (slimC k a) (slimC (k + nparts a) b)
  | k, .cond (.tmp t) a b => .cond t (slimC k a) (slimC (k + nparts a) b)
  | k, .block id c => .block id (slimC k c)
  | k, .loop c => .loop k
  | k, .rangeFunc f ps a b => .range f ps k (k + 1 + nparts a)
  | _, _ => .bad

def bodyOf (P : Program) (f : FuncId) : Code := ((P.funcs[f]?).bind (·.body)).getD .skip
def partOf (P : Program) (f : FuncId) (k : Nat) : Code := ((parts (bodyOf P f))[k]?).getD .skip


/-- A drawing region, by its number: how its operations may be ordered. -/
def rpC (id : Nat) : Code → Option (Nat × Option (Nat × Nat))
  | .seq a b => (rpC id a).or (rpC id b)
  | .cond _ a b => (rpC id a).or (rpC id b)
  | .block _ c => rpC id c
  | .loop c => rpC id c
  | .rangeFunc _ _ a b => (rpC id a).or (rpC id b)
  | .region i ops draw => if i = id ∧ draw = true then some (drawP ops true) else none
  | _ => none
def rp (P : Program) (f : FuncId) (id : Nat) : Nat × Option (Nat × Nat) := (rpC id (bodyOf P f)).getD (0, none)
/-- The numbers find their regions. -/
def regOk (all : Code) : Code → Bool
  | .seq a b => regOk all a && regOk all b
  | .cond _ a b => regOk all a && regOk all b
  | .block _ c => regOk all c
  | .loop c => regOk all c
  | .rangeFunc _ _ a b => regOk all a && regOk all b
  | .region i ops true => decide (rpC i all = some (drawP ops true))
  | _ => true

def ntmpsOf (P : Program) (f : FuncId) : Nat := ((P.funcs[f]?).map (·.ntmps)).getD 0
/-- Each operation's result has its place. -/
def okD (n : Nat) : Code → Bool
  | .seq a b => okD n a && okD n b
  | .cond _ a b => okD n a && okD n b
  | .block _ c => okD n c
  | .loop c => okD n c
  | .region _ ops _ => ops.toList.all fun o => match o.dst with
    | some t => decide (t < n)
    | none => true
  | .rangeFunc _ _ a b => okD n a && okD n b
  | _ => true

def wantedS (env : SEnv) (o : SOper) : Option Bool :=
  match o.guard with
  | none => some true
  | some (none, _) => some false
  | some (some d, want) =>
    match sget env d with
    | some (.atom (.bool b)) => some (b == want)
    | some (.tuple _) => some false
    | _ => none

/-- What comes of an operation that enters no function. -/
def sres (x : Option (AV × Mem)) (K : AV → Mem → Prop) : Prop :=
  match x with
  | some (d, m1) => K d m1
  | none => False
def sgo (x : Option Bool) (A B : Prop) : Prop :=
  match x with
  | some true => A
  | some false => B
  | none => False
def scall (P : Program) (x : Option AV) (y : Option (List AV)) (m : Mem) (early : Prop) (K : AV → Mem → Prop) : Prop :=
  match x, y with
  | some fv, some as => DoesV P fv (as.map AV.strip) m fun r m1 => (early → Ext m m1) ∧ K r m1
  | _, _ => False
def SOp (P : Program) (op : Op) (env : SEnv) (m : Mem) (early : Prop) (K : AV → Mem → Prop) : Prop :=
  match op with
  | .call { callee := .value f, args, .. } => scall P (seval env f) (sevals env args.toList) m early K
  | op => sres (sop P op env m) K
def SOps (P : Program) (p : Nat × Option (Nat × Nat)) (Q : SEnv → Mem → Prop) : Nat → List SOper → SEnv → Mem → Prop
  | _, [], env, m => Q env m
  | k, o :: l, env, m => sgo (wantedS env o) (sguard (swChk p k o.op (seval env)) (SOp P o.op env m (k < p.1) fun d m1 => SOps P p Q (k + 1) l (sput env o.dst d) m1)) (SOps P p Q (k + 1) l (sput env o.dst .undef) m)

/-- A state of the temporaries of which something is told. -/
def Told (n : Nat) (Q : SEnv → Mem → Prop) (env : List AV) (m : Mem) : Prop := env.length = n ∧ ∃ e, Fits e env ∧ Q e m

def SLoop (P : Program) (f : FuncId) (lo : Option Nat) (k : Nat) (Q : Exit → SEnv → Mem → Prop) (e : SEnv) (m : Mem) : Prop := ∀ env, env.length = ntmpsOf P f → Fits e env → WLoop P lo (partOf P f k) (fun x => Told (ntmpsOf P f) (Q x)) env m
def SRange (P : Program) (f : FuncId) (lo : Option Nat) (g : Operand) (ps : Array Tmp) (k j : Nat) (Q : Exit → SEnv → Mem → Prop) (e : SEnv) (m : Mem) : Prop :=
  ∀ env, env.length = ntmpsOf P f → Fits e env → ∃ x env' m', AExec P lo (.rangeFunc g ps (partOf P f k) (partOf P f j)) env m x env' m' ∧ Told (ntmpsOf P f) (Q x) env' m'

def scond (A B : Prop) : Option AV → Prop
  | some (.atom (.bool true)) => A
  | some (.atom (.bool false)) => B
  | _ => False

def thenN (K : SEnv → Mem → Prop) (Q : Exit → SEnv → Mem → Prop) : Exit → SEnv → Mem → Prop
  | .normal => K
  | e => Q e

def SC (P : Program) (f : FuncId) (lo : Option Nat) : SCode → (Exit → SEnv → Mem → Prop) → SEnv → Mem → Prop
  | .skip, Q => Q .normal
  | .exit id, Q => Q (.exit id)
  | .ret, Q => Q .ret
  | .bad, _ => fun _ _ => False
  | .seq a b, Q => SC P f lo a (thenN (SC P f lo b Q) Q)
  | .cond t a b, Q => fun env m => scond (SC P f lo a Q env m) (SC P f lo b Q env m) (sget env t)
  | .block id c, Q => SC P f lo c fun e => Q (leave id e)
  | .loop k, Q => SLoop P f lo k Q
  | .region none ops, Q => SOps P (0, none) (Q .normal) 0 ops
  | .region (some id) ops, Q => SOps P (rp P f id) (Q .normal) 0 ops
  | .range g ps k j, Q => SRange P f lo g ps k j Q
def retOf : List AV → AV
  | [v] => v
  | vs => .tuple vs
def presult (x : Option AV) (K : AV → Prop) : Prop :=
  match x with
  | some r => K r
  | none => False

section
variable {P : Program} {f : FuncId} {lo : Option Nat}

theorem nparts_eq (c : Code) : (parts c).length = nparts c := by
  induction c <;> simp_all [parts, nparts]
  omega
/-- The parts of a part lie behind it. -/
theorem parts_within : ∀ {c d : Code} {k : Nat}, (parts c)[k]? = some d → ∀ i, i < nparts d → (parts d)[i]? = (parts c)[k + 1 + i]? := by
  have app : ∀ {l1 l2 : List Code} {d : Code} {k : Nat}, (∀ {k}, l1[k]? = some d → ∀ i, i < nparts d → (parts d)[i]? = l1[k + 1 + i]?) → (∀ {k}, l2[k]? = some d → ∀ i, i < nparts d → (parts d)[i]? = l2[k + 1 + i]?) → (l1 ++ l2)[k]? = some d → ∀ i, i < nparts d → (parts d)[i]? = (l1 ++ l2)[k + 1 + i]? := by
    intro l1 l2 d k h1 h2 h i hi
    by_cases hk : k < l1.length
    · rw [List.getElem?_append_left hk] at h
      have h3 := h1 h i hi
      have h4 : i < (parts d).length := by rw [nparts_eq]; exact hi
      have h5 : k + 1 + i < l1.length := by
        rcases Nat.lt_or_ge (k + 1 + i) l1.length with h6 | h6
        · exact h6
        · rw [List.getElem?_eq_none h6, List.getElem?_eq_getElem h4] at h3; cases h3
      rw [List.getElem?_append_left h5]; exact h3
    · rw [List.getElem?_append_right (by omega)] at h
      have h3 := h2 h i hi
      rw [List.getElem?_append_right (by omega), h3]
      congr 1; omega
  have cons : ∀ {c : Code} {d : Code} {k : Nat}, (∀ {k}, (parts c)[k]? = some d → ∀ i, i < nparts d → (parts d)[i]? = (parts c)[k + 1 + i]?) → (c :: parts c)[k]? = some d → ∀ i, i < nparts d → (parts d)[i]? = (c :: parts c)[k + 1 + i]? := by
    intro c d k h1 h i hi
    cases k with
    | zero =>
      simp at h
      subst h
      rw [show 0 + 1 + i = i + 1 from by omega, List.getElem?_cons_succ]
    | succ k =>
      rw [List.getElem?_cons_succ] at h
      rw [show k + 1 + 1 + i = (k + 1 + i) + 1 from by omega, List.getElem?_cons_succ]
      exact h1 h i hi
  intro c
  induction c with
  | seq a b iha ihb => intro d k h; exact app (fun h => iha h) (fun h => ihb h) h
  | cond _ a b iha ihb => intro d k h; exact app (fun h => iha h) (fun h => ihb h) h
  | block _ c ih => intro d k h; exact ih h
  | loop c ih => intro d k h; exact cons (fun h => ih h) h
  | rangeFunc _ _ a b iha ihb =>
    intro d k h
    simp only [parts] at h ⊢
    rw [← List.cons_append] at h ⊢
    exact app (fun h => cons (fun h => iha h) h) (fun h => cons (fun h => ihb h) h) h
  | _ => intro d k h; simp [parts] at h


theorem wantedS_ok {ops : Array Oper} {e : SEnv} {env : List AV} (hf : Fits e env) {o : Oper} {b : Bool} (h : wantedS e (slimOp ops o) = some b) : wantedA ops env o = some b := by
  unfold wantedS slimOp at h
  unfold wantedA
  cases hg : o.guard with
  | none => rw [hg] at h; exact h
  | some g =>
    obtain ⟨j, w⟩ := g
    rw [hg] at h
    simp only [Option.map_some] at h
    dsimp only
    cases hd : (ops[j]?).bind (·.dst) with
    | none => rw [hd] at h; exact h
    | some d =>
      rw [hd] at h
      dsimp only at h ⊢
      cases hv : sget e d with
      | none => rw [hv] at h; cases h
      | some v => rw [hf d v hv]; rw [hv] at h; exact h

theorem sop_wop {op : Op} {e : SEnv} {env : List AV} (hf : Fits e env) {m : Mem} {early : Prop} {K K' : AV → Mem → Prop} (hk : ∀ d m1, K d m1 → K' d m1) (h : SOp P op e m early K) : WOp P op env m early K' := by
  have plain : sres (sop P op e m) K → (∃ d m1, aop P op env m = some (d, m1) ∧ K' d m1) := by
    intro h
    unfold sres at h
    split at h
    · rename_i d m1 hr; exact ⟨d, m1, sop_ok hf hr, hk d m1 h⟩
    · exact h.elim
  have out : (∃ d m1, aop P op env m = some (d, m1) ∧ K' d m1) → (match aop P op env m with
    | some (d, m1) => K' d m1
    | none => False) := by
    rintro ⟨d, m1, h1, h2⟩; rw [h1]; exact h2
  cases op <;> try exact out (plain h)
  rename_i c
  obtain ⟨callee, as, ts⟩ := c
  cases callee <;> try exact out (plain h)
  rename_i g
  simp only [SOp, scall] at h
  simp only [WOp]
  split at h
  · rename_i fv vs h1 h2
    rw [seval_ok hf _ h1, sevals_ok hf _ h2]
    exact h.mono fun r m1 hr => ⟨hr.1, hk r m1 hr.2⟩
  · exact h.elim

theorem swChk_ok {e : SEnv} {env : List AV} (hf : Fits e env) {p : Nat × Option (Nat × Nat)} {k : Nat} {op : Op} (h : swChk p k op (seval e) = true) : swChk p k op (aeval env) = true := by
  unfold swChk at h ⊢
  cases hp : p.2 with
  | none => rfl
  | some q =>
    obtain ⟨a, b⟩ := q
    rw [hp] at h
    simp only [Bool.and_eq_true, Bool.or_eq_true] at h ⊢
    refine ⟨h.1.imp id fun h1 => ?_, h.2.imp id fun h1 => ?_⟩
    · split at h1
      · split at h1
        · rename_i hx; rw [seval_ok hf _ hx]
        · cases h1
      · cases h1
    · split at h1
      · split at h1
        · rename_i hx; rw [seval_ok hf _ hx]
        · cases h1
      · cases h1
theorem sops_wops {ops : Array Oper} {p : Nat × Option (Nat × Nat)} {n : Nat} {Q : SEnv → Mem → Prop} : ∀ (l : List Oper) (k : Nat) (e : SEnv) (env : List AV) (m : Mem), env.length = n → Fits e env → (l.all fun o => match o.dst with
    | some t => decide (t < n)
    | none => true) = true → SOps P p Q k (slimOps ops l) e m → WOps P ops p (Told n Q) k l env m := by
  intro l
  induction l with
  | nil => intro k e env m hn hf _ h; exact ⟨hn, e, hf, h⟩
  | cons o l ih =>
    intro k e env m hn hf hd h
    simp only [List.all_cons, Bool.and_eq_true] at hd
    have hdst : ∀ t, o.dst = some t → t < env.length := by
      intro t ht; have := hd.1; rw [ht] at this; rw [hn]; simpa using this
    have hlen : ∀ v, (aput env o.dst v).length = n := by
      intro v; unfold aput; split <;> simp [hn]
    simp only [slimOps, SOps] at h
    simp only [WOps]
    unfold sgo at h
    split at h
    · rename_i hw
      rw [wantedS_ok hf hw]
      exact ⟨swChk_ok hf h.1, sop_wop hf (fun d m1 hk => ih _ _ _ _ (hlen d) (hf.sput hdst) hd.2 hk) h.2⟩
    · rename_i hw
      rw [wantedS_ok hf hw]
      exact ih _ _ _ _ (hlen _) (hf.sput hdst) hd.2 h
    · exact h.elim

theorem WOp.mono {op : Op} {env : List AV} {m : Mem} {early : Prop} {K K' : AV → Mem → Prop} (hk : ∀ d m1, K d m1 → K' d m1) (h : WOp P op env m early K) : WOp P op env m early K' := by
  unfold WOp at h ⊢
  split at h
  · split at h
    · obtain ⟨r, m1, h3, h4, h5⟩ := h
      exact ⟨r, m1, h3, h4, hk _ _ h5⟩
    · exact h.elim
  · split at h
    · exact hk _ _ h
    · exact h.elim
theorem WOps.mono {ops : Array Oper} {Q Q' : List AV → Mem → Prop} (hq : ∀ env m, Q env m → Q' env m) : ∀ (l : List Oper) (p : Nat × Option (Nat × Nat)) (j : Nat) (env : List AV) (m : Mem), WOps P ops p Q j l env m → WOps P ops p Q' j l env m := by
  intro l
  induction l with
  | nil => intro p j env m h; exact hq _ _ h
  | cons o l ih =>
    intro p j env m h
    simp only [WOps] at h ⊢
    split at h
    · exact ⟨h.1, h.2.mono fun d m1 h => ih _ _ _ _ h⟩
    · exact ih _ _ _ _ h
    · exact h.elim
theorem WC.mono : ∀ {c : Code} {Q Q' : Exit → List AV → Mem → Prop} {env : List AV} {m : Mem}, (∀ e env m, Q e env m → Q' e env m) → WC P lo c Q env m → WC P lo c Q' env m := by
  intro c
  induction c with
  | skip => intro Q Q' env m hq h; exact hq _ _ _ h
  | exit id => intro Q Q' env m hq h; exact hq _ _ _ h
  | ret => intro Q Q' env m hq h; exact hq _ _ _ h
  | seq a b iha ihb =>
    intro Q Q' env m hq h
    refine iha (fun e env m he => ?_) h
    cases e with
    | normal => exact ihb hq he
    | _ => exact hq _ _ _ he
  | cond c a b iha ihb =>
    intro Q Q' env m hq h
    simp only [WC] at h ⊢
    split at h
    · split at h
      · rename_i ht; exact iha hq h
      · rename_i ht; exact ihb hq h
      · exact h.elim
    · exact h.elim
  | block id c ih => intro Q Q' env m hq h; exact ih (fun e env m he => hq _ _ _ he) h
  | loop c ih =>
    intro Q Q' env m hq h
    obtain ⟨e, env', m', h1, h2⟩ := h
    exact ⟨e, env', m', h1, hq _ _ _ h2⟩
  | region id ops draw => intro Q Q' env m hq h; exact WOps.mono (fun env m h => hq _ _ _ h) _ _ _ _ _ h
  | rangeFunc g ps a b iha ihb =>
    intro Q Q' env m hq h
    obtain ⟨e, env', m', h1, h2⟩ := h
    exact ⟨e, env', m', h1, hq _ _ _ h2⟩
  | _ => intro Q Q' env m hq h; exact h.elim

theorem SC.wc : ∀ {c : Code} {k : Nat} {Q : Exit → SEnv → Mem → Prop} {e : SEnv} {env : List AV} {m : Mem}, env.length = ntmpsOf P f → Fits e env → okD (ntmpsOf P f) c = true → regOk (bodyOf P f) c = true → (∀ i, i < nparts c → (parts c)[i]? = (parts (bodyOf P f))[k + i]?) → SC P f lo (slimC k c) Q e m → WC P lo c (fun x => Told (ntmpsOf P f) (Q x)) env m := by
  intro c
  induction c with
  | skip => intro k Q e env m hn hf hd hg hp h; exact ⟨hn, e, hf, h⟩
  | exit id => intro k Q e env m hn hf hd hg hp h; exact ⟨hn, e, hf, h⟩
  | ret => intro k Q e env m hn hf hd hg hp h; exact ⟨hn, e, hf, h⟩
  | seq a b iha ihb =>
    intro k Q e env m hn hf hd hg hp h
    simp only [okD, Bool.and_eq_true] at hd
    simp only [regOk, Bool.and_eq_true] at hg
    have hla := nparts_eq a
    have h1 := iha (k := k) hn hf hd.1 hg.1 (fun i hi => by
      have := hp i (by simp [nparts]; omega)
      simp only [parts] at this
      rwa [List.getElem?_append_left (by omega)] at this) h
    simp only [WC]
    refine WC.mono (fun x env m hx => ?_) h1
    obtain ⟨hn, e, hf, hx⟩ := hx
    cases x with
    | normal =>
      refine ihb (k := k + nparts a) hn hf hd.2 hg.2 (fun i hi => ?_) hx
      have := hp (nparts a + i) (by simp [nparts]; omega)
      simp only [parts] at this
      rw [List.getElem?_append_right (by omega), hla] at this
      rw [show nparts a + i - nparts a = i from by omega] at this
      rw [this]; congr 1; omega
    | _ => exact ⟨hn, e, hf, hx⟩
  | cond c a b iha ihb =>
    intro k Q e env m hn hf hd hg hp h
    simp only [okD, Bool.and_eq_true] at hd
    simp only [regOk, Bool.and_eq_true] at hg
    have hla := nparts_eq a
    cases c with
    | tmp t =>
      simp only [slimC, SC] at h
      simp only [WC]
      cases ht : sget e t with
      | none => rw [ht] at h; exact h.elim
      | some v =>
        rw [hf t v ht]
        rw [ht] at h
        unfold scond at h
        split at h
        · rename_i heq
          injection heq with heq
          subst heq
          refine iha (k := k) hn hf hd.1 hg.1 (fun i hi => ?_) h
          have := hp i (by simp [nparts]; omega)
          simp only [parts] at this
          rwa [List.getElem?_append_left (by omega)] at this
        · rename_i heq
          injection heq with heq
          subst heq
          refine ihb (k := k + nparts a) hn hf hd.2 hg.2 (fun i hi => ?_) h
          have := hp (nparts a + i) (by simp [nparts]; omega)
          simp only [parts] at this
          rw [List.getElem?_append_right (by omega), hla] at this
          rw [show nparts a + i - nparts a = i from by omega] at this
          rw [this]; congr 1; omega
        · exact h.elim
    | _ => exact h.elim
  | block id c ih =>
    intro k Q e env m hn hf hd hg hp h
    exact ih (k := k) hn hf hd hg (fun i hi => hp i hi) h
  | loop c ih =>
    intro k Q e env m hn hf hd hg hp h
    have h0 := hp 0 (by simp [nparts])
    simp only [parts, List.getElem?_cons_zero, Nat.add_zero] at h0
    have e0 : partOf P f k = c := by simp [partOf, ← h0]
    have h1 := h env hn hf
    rw [e0] at h1
    exact h1
  | region id ops draw =>
    intro k Q e env m hn hf hd hg hp h
    cases draw with
    | false => exact sops_wops _ _ _ _ _ hn hf hd h
    | true =>
      simp only [regOk, decide_eq_true_eq] at hg
      have e1 : rp P f id = drawP ops true := by simp [rp, hg]
      have h1 : SOps P (rp P f id) (Q .normal) 0 (slimOps ops ops.toList) e m := h
      rw [e1] at h1
      exact sops_wops _ _ _ _ _ hn hf hd h1
  | rangeFunc g ps a b iha ihb =>
    intro k Q e env m hn hf hd hg hp h
    have h0 := hp 0 (by simp [nparts])
    have h1 := hp (nparts a + 1) (by simp [nparts]; omega)
    simp only [parts, List.getElem?_cons_zero, Nat.add_zero, List.getElem?_cons_succ] at h0 h1
    rw [List.getElem?_append_right (by rw [nparts_eq]; exact Nat.le_refl _), nparts_eq, Nat.sub_self, List.getElem?_cons_zero] at h1
    have e0 : partOf P f k = a := by simp [partOf, ← h0]
    have e1 : partOf P f (k + 1 + nparts a) = b := by rw [show k + (nparts a + 1) = k + 1 + nparts a from by omega] at h1; simp [partOf, ← h1]
    have h2 := h env hn hf
    rw [e0, e1] at h2
    exact h2
  | _ => intro k Q e env m hn hf hd hg hp h; exact h.elim

/-- What is not looked at any more may be dropped. -/
theorem SLoop.weaken {k : Nat} {Q : Exit → SEnv → Mem → Prop} {e e' : SEnv} {m : Mem} (hs : ∀ p ∈ e', sget e p.1 = some p.2) (h : SLoop P f lo k Q e' m) : SLoop P f lo k Q e m := fun env hn hf => h env hn (hf.sub (sget_of_all hs))

def bodyF (fn : Func) : Code := fn.body.getD .skip
def partF (fn : Func) (k : Nat) : Code := ((parts (bodyF fn))[k]?).getD .skip
def okPart (fn : Func) (k : Nat) : Bool := decide (k < nparts (bodyF fn)) && drawsOk (partF fn k) && okD fn.ntmps (partF fn k) && regOk (bodyF fn) (partF fn k)

theorem SLoop.step {fn : Func} (hmix : P.follows .mixedOrders = true) (hf : P.funcs[f]? = some fn) {k : Nat} {Q : Exit → SEnv → Mem → Prop} {e : SEnv} {m : Mem} (hd : okPart fn k = true)
    (h : SC P f lo (slimC (k + 1) (partF fn k)) (thenN (SLoop P f lo k Q) Q) e m) : SLoop P f lo k Q e m := by
  intro env hn hfit
  simp only [okPart, Bool.and_eq_true, decide_eq_true_eq] at hd
  have hb : bodyOf P f = bodyF fn := by simp [bodyOf, bodyF, hf]
  have e1 : partOf P f k = partF fn k := by simp [partOf, partF, hb]
  have e2 : fn.ntmps = ntmpsOf P f := by simp [ntmpsOf, hf]
  rw [← e1, e2, ← hb] at hd
  rw [← e1] at h
  have h0 : (parts (bodyOf P f))[k]? = some (partOf P f k) := by
    have h1 : k < (parts (bodyOf P f)).length := by rw [nparts_eq]; exact hd.1.1.1
    simp [partOf, List.getElem?_eq_getElem h1]
  refine WLoop.step hmix hd.1.1.2 (WC.mono (fun x env m hx => ?_) (SC.wc hn hfit hd.1.2 hd.2 (fun i hi => parts_within h0 i hi) h))
  obtain ⟨hn, e, hf, hx⟩ := hx
  cases x with
  | normal => exact hx env hn hf
  | _ => exact ⟨hn, e, hf, hx⟩

def okFn (fn : Func) : Bool := fn.body.isSome && !(fn.name == "runtime.NumGoroutine") && drawsOk (bodyF fn) && okD fn.ntmps (bodyF fn) && regOk (bodyF fn) (bodyF fn)
def sresult (P : Program) (env : SEnv) (m : Mem) : ResultVar → Option AV
  | .tmp t => sget env t
  | .cell a t => (sget env a).bind fun p => match p with
    | .ptr l o => aload P m t (.ptr l o)
    | _ => none
/-- What a function's body must come to. -/
def PostR (P : Program) (rs : List ResultVar) (K : AV → Mem → Prop) : Exit → SEnv → Mem → Prop
  | .ret, env, m | .normal, env, m => presult ((rs.mapM (sresult P env m)).map retOf) fun r => K r.stripR m
  | _, _, _ => False
theorem sresult_ok {e : SEnv} {env : List AV} (hf : Fits e env) {m : Mem} {r : ResultVar} : ∀ a, sresult P e m r = some a → aresult P env m r = some a := by
  intro a h
  cases r with
  | tmp t => exact hf _ _ h
  | cell a t => exact bindMono (fun a h => hf _ a h) (fun _ h => h) h

theorem Does.of_slim {fn : Func} {args : List AV} {m : Mem} {K : AV → Mem → Prop} (hmix : P.follows .mixedOrders = true) (hf : P.funcs[f]? = some fn) (hok : okFn fn = true) (ha : (decide (args.length ≤ fn.ntmps)) = true)
    (h : SC P f none (slimC 0 (bodyF fn)) (PostR P fn.results.toList K) (sargs 0 args) m) : Does P f args m K := by
  simp only [okFn, Bool.and_eq_true, Bool.not_eq_true'] at hok
  obtain ⟨⟨⟨⟨h1, h2⟩, h3⟩, h4⟩, h5⟩ := hok
  simp only [decide_eq_true_eq] at ha
  cases hbb : fn.body with
  | none => rw [hbb] at h1; cases h1
  | some c =>
    have e : bodyF fn = c := by simp [bodyF, hbb]
    have e2 : bodyOf P f = c := by simp [bodyOf, hf, hbb]
    have e3 : fn.ntmps = ntmpsOf P f := by simp [ntmpsOf, hf]
    rw [e] at h h3 h4 h5
    rw [e3] at h4 ha
    refine Does.of_body hmix hf hbb h2 h3 (WC.mono (fun x env m hx => ?_) (SC.wc (f := f) (by rw [← e3] at ha ⊢; simp; omega) (Fits.args args _) h4 (by rw [e2]; exact h5) (fun i hi => by rw [e2, Nat.zero_add]) h))
    obtain ⟨hn, e, hfit, hx⟩ := hx
    unfold PostR at hx
    unfold Post aresults
    have key : ∀ K' : AV → Prop, presult ((fn.results.toList.mapM (sresult P e m)).map retOf) K' → presult ((fn.results.toList.mapM (aresult P env m)).map retOf) K' := by
      intro K' hk
      unfold presult at hk
      split at hk
      · rename_i r hr
        rw [mapMono (mapM_mono (fun x a h => sresult_ok hfit a h)) hr]; exact hk
      · exact hk.elim
    cases x <;> simp only [ends] <;> first | exact hx.elim | (refine ⟨by simp, ?_⟩; have := key _ hx; unfold presult at this; exact this)

/-- A loop, by a measure. -/
theorem SLoop.induct {fn : Func} {k : Nat} {Q : Exit → SEnv → Mem → Prop} {env e0 : SEnv} {m : Mem} (hmix : P.follows .mixedOrders = true) (hf : P.funcs[f]? = some fn) (hd : okPart fn k = true)
    (I : Nat → SEnv → Mem → Prop) (n : Nat) (h0 : I n e0 m) (hs : ∀ p ∈ e0, sget env p.1 = some p.2)
    (step : ∀ n env m, I n env m → (∀ n' env' e' m', n' < n → I n' e' m' → (∀ p ∈ e', sget env' p.1 = some p.2) → SLoop P f lo k Q env' m') → SC P f lo (slimC (k + 1) (partF fn k)) (thenN (SLoop P f lo k Q) Q) env m) : SLoop P f lo k Q env m := by
  refine SLoop.weaken hs ?_
  clear hs
  induction n using Nat.strongRecOn generalizing e0 m with
  | _ n ih => exact SLoop.step hmix hf hd (step n e0 m h0 fun n' env' e' m' h1 h2 h3 => .weaken h3 (ih n' h1 h2))
end

/- What comes next, as data: a rewriting goes into none of these before it is its turn. -/
def SNext (P : Program) (p : Nat × Option (Nat × Nat)) (Q : SEnv → Mem → Prop) (k : Nat) (l : List SOper) (env : SEnv) (dst : Option Tmp) (d : AV) (m : Mem) : Prop := SOps P p Q (k + 1) l (sput env dst d) m
def SGo (P : Program) (p : Nat × Option (Nat × Nat)) (Q : SEnv → Mem → Prop) (k : Nat) (o : SOper) (l : List SOper) (env : SEnv) (m : Mem) (w : Option Bool) : Prop := sgo w (sguard (swChk p k o.op (seval env)) (SOp P o.op env m (k < p.1) (SNext P p Q k l env o.dst))) (SOps P p Q (k + 1) l (sput env o.dst .undef) m)
def SAfter (m : Mem) (e : Prop) (K : AV → Mem → Prop) (r : AV) (m1 : Mem) : Prop := (e → Ext m m1) ∧ K r m1
def SCond (P : Program) (f : FuncId) (lo : Option Nat) (a b : SCode) (Q : Exit → SEnv → Mem → Prop) (env : SEnv) (m : Mem) (x : Option AV) : Prop := scond (SC P f lo a Q env m) (SC P f lo b Q env m) x
def SLeave (id : Nat) (Q : Exit → SEnv → Mem → Prop) (e : Exit) (env : SEnv) (m : Mem) : Prop := Q (leave id e) env m
def SRet (K : AV → Mem → Prop) (m : Mem) (r : AV) : Prop := K r.stripR m
section
variable {P : Program} {f : FuncId} {lo : Option Nat} {p : Nat × Option (Nat × Nat)} {k : Nat} {Q : SEnv → Mem → Prop} {R : Exit → SEnv → Mem → Prop} {o : SOper} {l : List SOper} {env : SEnv} {m m1 : Mem} {a b : SCode} {K : AV → Mem → Prop} {d fv : AV} {e : Prop} {as : List AV} {dst : Option Tmp}
theorem SOps_nil : SOps P p Q k [] env m = Q env m := rfl
theorem SOps_cons : SOps P p Q k (o :: l) env m = SGo P p Q k o l env m (wantedS env o) := rfl
theorem SNext_run : SNext P p Q k l env dst d m = SOps P p Q (k + 1) l (sput env dst d) m := rfl
theorem sguard_true {X : Prop} : sguard true X = X := propext ⟨fun h => h.2, fun h => ⟨rfl, h⟩⟩
theorem SGo_true {n : Nat} : SGo P (n, none) Q k o l env m (some true) = SOp P o.op env m (k < n) (SNext P (n, none) Q k l env o.dst) := sguard_true
theorem SGo_swap {n a b : Nat} : SGo P (n, some (a, b)) Q k o l env m (some true) = sguard (swChk (n, some (a, b)) k o.op (seval env)) (SOp P o.op env m (k < n) (SNext P (n, some (a, b)) Q k l env o.dst)) := rfl
theorem SGo_false : SGo P p Q k o l env m (some false) = SOps P p Q (k + 1) l (sput env o.dst .undef) m := rfl
theorem SGo_bool {c : Bool} (h1 : c = true → SGo P p Q k o l env m (some true)) (h2 : c = false → SGo P p Q k o l env m (some false)) : SGo P p Q k o l env m (some c) := by
  cases c
  · exact h2 rfl
  · exact h1 rfl
theorem scall_some : scall P (some fv) (some as) m e K = DoesV P fv (as.map AV.strip) m (SAfter m e K) := rfl
theorem sres_some : sres (some (d, m1)) K = K d m1 := rfl
theorem SC_seq : SC P f lo (.seq a b) R env m = SC P f lo a (thenN (SC P f lo b R) R) env m := rfl
theorem SC_cond {t : Tmp} : SC P f lo (.cond t a b) R env m = SCond P f lo a b R env m (sget env t) := rfl
theorem SC_block {id : Nat} : SC P f lo (.block id a) R env m = SC P f lo a (SLeave id R) env m := rfl
theorem SC_skip : SC P f lo .skip R env m = R .normal env m := rfl
theorem SC_exit {id : Nat} : SC P f lo (.exit id) R env m = R (.exit id) env m := rfl
theorem SC_ret : SC P f lo .ret R env m = R .ret env m := rfl
theorem SC_loop {i : Nat} : SC P f lo (.loop i) R env m = SLoop P f lo i R env m := rfl
theorem SC_region {ops : List SOper} : SC P f lo (.region none ops) R env m = SOps P (0, none) (R .normal) 0 ops env m := rfl
theorem SC_draw {ops : List SOper} {id : Nat} : SC P f lo (.region (some id) ops) R env m = SOps P (rp P f id) (R .normal) 0 ops env m := rfl
theorem SC_range {g : Operand} {ps : Array Tmp} {i j : Nat} : SC P f lo (.range g ps i j) R env m = SRange P f lo g ps i j R env m := rfl
theorem thenN_normal {X : SEnv → Mem → Prop} : thenN X R .normal env m = X env m := rfl
theorem thenN_ret {X : SEnv → Mem → Prop} : thenN X R .ret env m = R .ret env m := rfl
theorem thenN_exit {X : SEnv → Mem → Prop} {id : Nat} : thenN X R (.exit id) env m = R (.exit id) env m := rfl
theorem SLeave_run {id : Nat} {x : Exit} : SLeave id R x env m = R (leave id x) env m := rfl
theorem SCond_true : SCond P f lo a b R env m (some (.atom (.bool true))) = SC P f lo a R env m := rfl
theorem SCond_false : SCond P f lo a b R env m (some (.atom (.bool false))) = SC P f lo b R env m := rfl
theorem SCond_dec {p : Prop} [Decidable p] (h1 : p → SC P f lo a R env m) (h2 : ¬ p → SC P f lo b R env m) : SCond P f lo a b R env m (some (.atom (.bool (decide p)))) := by
  by_cases h : p
  · rw [decide_eq_true h]; exact h1 h
  · rw [decide_eq_false h]; exact h2 h
theorem SCond_bool {c : Bool} (h1 : c = true → SC P f lo a R env m) (h2 : c = false → SC P f lo b R env m) : SCond P f lo a b R env m (some (.atom (.bool c))) := by
  cases c
  · exact h2 rfl
  · exact h1 rfl
theorem PostR_ret {rs : List ResultVar} : PostR P rs K .ret env m = presult ((rs.mapM (sresult P env m)).map retOf) (SRet K m) := rfl
theorem PostR_normal {rs : List ResultVar} : PostR P rs K .normal env m = presult ((rs.mapM (sresult P env m)).map retOf) (SRet K m) := rfl
theorem presult_some {K : AV → Prop} : presult (some d) K = K d := rfl
theorem SRet_run : SRet K m d = K d.stripR m := rfl
/-- A call of a function that is named outright, or of a closure. -/
theorem DoesV.of {g : FuncId} {first cap args : List AV} {R : AV → Mem → Prop} (h : Does P g (first ++ args ++ cap) m R) (hk : ∀ r m1, R r m1 → K r m1) : DoesV P (.func g first cap) args m K := .func (h.mono hk)
/-- A call, in the middle of a region: it keeps the memory. -/
theorem DoesV.same {g : FuncId} {first cap args : List AV} {R : AV → Prop} (h : Does P g (first ++ args ++ cap) m fun r m1 => R r ∧ m1 = m) (hk : ∀ r, R r → K r m) : DoesV P (.func g first cap) args m (SAfter m e K) :=
  .of h fun r m1 hr => by
    obtain ⟨h1, h2⟩ := hr
    subst h2
    exact ⟨fun _ => Ext.refl _, hk r h1⟩
theorem DoesV.sameV {args : List AV} {R : AV → Prop} (h : DoesV P fv args m fun r m1 => R r ∧ m1 = m) (hk : ∀ r, R r → K r m) : DoesV P fv args m (SAfter m e K) :=
  h.mono fun r m1 hr => by
    obtain ⟨h1, h2⟩ := hr
    subst h2
    exact ⟨fun _ => Ext.refl _, hk r h1⟩
/-- A call whose memory grows. -/
theorem DoesV.ext {g : FuncId} {first cap args : List AV} {R : AV → Mem → Prop} (h : Does P g (first ++ args ++ cap) m fun r m1 => R r m1 ∧ Ext m m1) (hk : ∀ r m1, R r m1 → Ext m m1 → K r m1) : DoesV P (.func g first cap) args m (SAfter m e K) :=
  .of h fun r m1 hr => ⟨fun _ => hr.2, hk r m1 hr.1 hr.2⟩
end
end Go.Proofs.Ytakmilmckdllfaa.G
