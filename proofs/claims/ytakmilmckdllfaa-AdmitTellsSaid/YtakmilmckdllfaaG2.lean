/-
What a call, an operation, a piece of code does with abstract values: each with one outcome, whatever the machine's memory; and how these are put together.
-/
import Derived.Test.YtakmilmckdllfaaG1
import Derived.RangeFuncIn
import Derived.RangeFuncLeaves
import Derived.RangeFuncCalls
set_option linter.unusedVariables false
set_option linter.unusedSimpArgs false
namespace Go.Proofs.Ytakmilmckdllfaa.G

def Fw (ro : Option Nat) : Fence := { Fence.wide with round := ro }

/-- The marks of loops over functions that a frame leaves with. -/
def Marks (g : Gh) (w : World) (B : Nat) (ds : List Deferred) : Prop :=
  ds.Pairwise (fun d d' => d.target ≠ d'.target) ∧
  ∀ d ∈ ds, ∃ r, d = { target := .collected r, args := #[] } ∧ B ≤ r ∧ w.heap[r]? = some (.deferred (some [])) ∧ (∀ l, g.box l ≠ some r) ∧ ∀ l, g.row l ≠ some (some r)

/-- A function that can be entered. -/
def FnOk (P : Program) (f : FuncId) : Prop := ∃ fn, P.funcs[f]? = some fn ∧ (fn.name == "runtime.NumGoroutine") = false ∧ fn.body.isSome = true

/-- A call has one outcome. -/
def ACalls (P : Program) (f : FuncId) (args : List AV) (m : Mem) (r : AV) (m' : Mem) : Prop :=
  FnOk P f ∧ Mono m m' ∧ ∀ (g : Gh) (w : World) (vs : Array Value), Fresh g m m' → MemOk g m w → Reps g w args vs →
    CallsIn Fence.wide 0 P f vs w fun e w' => ∃ v g', e = .returned v ∧ Step g m g' m' w w' ∧ MemOk g' m' w' ∧ Rep g' w' r v

/-- In which loop over a function the code stands: a variable holds its record. -/
def RoIs (g : Gh) (lo ro : Option Nat) : Prop := (lo = none → ro = none) ∧ ∀ l, lo = some l → ∃ b, g.box l = some b ∧ ro = some b
theorem RoIs.up {g g' : Gh} {m m' : Mem} {w w' : World} {lo ro : Option Nat} (h : RoIs g lo ro) (s : Step g m g' m' w w') : RoIs g' lo ro := ⟨h.1, fun l hl => let ⟨b, h1, h2⟩ := h.2 l hl; ⟨b, s.boxUp h1, h2⟩⟩
theorem RoIs.none {g : Gh} : RoIs g none none := ⟨fun _ => rfl, fun l h => by cases h⟩
/-- A piece of code has one outcome. -/
def AExec (P : Program) (lo : Option Nat) (c : Code) (env : List AV) (m : Mem) (e : Exit) (env' : List AV) (m' : Mem) : Prop :=
  Mono m m' ∧ ∀ (ro : Option Nat) (g : Gh) (w : World) (a : Act), RoIs g lo ro → Fresh g m m' → MemOk g m w → Reps g w env a.tmps →
    c.wpIn (Fw ro) 0 P (fun e' a' w' => e' = e ∧ ∃ g' ds, a'.defers = ds ++ a.defers ∧ Marks g' w' w.heap.size ds ∧ Step g m g' m' w w' ∧ MemOk g' m' w' ∧ Reps g' w' env' a'.tmps) a w

section
variable {g g' : Gh} {m m' : Mem} {w w' : World} {P : Program} {lo : Option Nat}

theorem Rep.atom_inv {v v' : Value} (h : Rep g w (.atom v) v') : v' = v := by
  generalize hx : AV.atom v = x at h
  cases h <;> cases hx
  rfl
theorem Marks.nil {B : Nat} : Marks g w B [] := ⟨.nil, fun d hd => by cases hd⟩
theorem Marks.step {B : Nat} {ds : List Deferred} (h : Marks g w B ds) (hs : Step g m g' m' w w') : Marks g' w' B ds :=
  ⟨h.1, fun d hd => by
    obtain ⟨r, h1, h2, h3, h4, h5⟩ := h.2 d hd
    have hlt : r < w.heap.size := (Array.getElem?_eq_some_iff.1 h3).1
    exact ⟨r, h1, h2, by rw [hs.same r hlt (fun l _ => h4 l) (fun l _ => h5 l)]; exact h3, fun l hl => h4 l (hs.boxDown hl hlt), fun l hl => let ⟨l0, h6, _⟩ := hs.rowDown hl hlt; h5 l0 h6⟩⟩
theorem Marks.append {B B' : Nat} {ds ds' : List Deferred} (h : Marks g w B ds) (k : Marks g w B' ds') (hB : B ≤ B') (hd : ∀ d ∈ ds, ∀ d' ∈ ds', d'.target ≠ d.target) : Marks g w B (ds' ++ ds) :=
  ⟨List.pairwise_append.2 ⟨k.1, h.1, fun d hd' d' hd'' => hd d' hd'' d hd'⟩, fun d hd => by
    rcases List.mem_append.1 hd with h1 | h1
    · obtain ⟨r, a, b, c⟩ := k.2 d h1
      exact ⟨r, a, Nat.le_trans hB b, c⟩
    · exact h.2 d h1⟩

theorem Marks.join {g1 g2 : Gh} {m1 m2 : Mem} {w1 w2 : World} {ds1 ds2 : List Deferred} (hk1 : Marks g1 w1 w.heap.size ds1) (hs1 : Step g m g1 m1 w w1) (hk2 : Marks g2 w2 w1.heap.size ds2) (hs2 : Step g1 m1 g2 m2 w1 w2) : Marks g2 w2 w.heap.size (ds2 ++ ds1) := by
  refine (hk1.step hs2).append hk2 hs1.size ?_
  intro d hd d' hd'
  obtain ⟨r, rfl, _, hr, _⟩ := hk1.2 d hd
  obtain ⟨r', rfl, hB, _⟩ := hk2.2 d' hd'
  have hlt : r < w1.heap.size := (Array.getElem?_eq_some_iff.1 hr).1
  intro e
  injection e with e
  omega
def leave (id : Nat) : Exit → Exit
  | .exit id' => if id' = id then .normal else .exit id'
  | e => e

theorem AExec.skip (env : List AV) (m : Mem) : AExec P lo .skip env m .normal env m :=
  ⟨Mono.refl m, fun ro g w a hro hf hm he => wpIn_skip ⟨rfl, g, [], rfl, .nil, Step.refl g m w, hm, he⟩⟩
theorem AExec.exit (id : Nat) (env : List AV) (m : Mem) : AExec P lo (.exit id) env m (.exit id) env m :=
  ⟨Mono.refl m, fun ro g w a hro hf hm he => wpIn_exit ⟨rfl, g, [], rfl, .nil, Step.refl g m w, hm, he⟩⟩
theorem AExec.ret (env : List AV) (m : Mem) : AExec P lo .ret env m .ret env m :=
  ⟨Mono.refl m, fun ro g w a hro hf hm he => wpIn_ret ⟨rfl, g, [], rfl, .nil, Step.refl g m w, hm, he⟩⟩

/-- One behind the other. -/
theorem AExec.seq {c d : Code} {env env1 env2 : List AV} {m1 m2 : Mem} {e : Exit} (h : AExec P lo c env m .normal env1 m1) (k : AExec P lo d env1 m1 e env2 m2) : AExec P lo (.seq c d) env m e env2 m2 := by
  refine ⟨h.1.trans k.1, fun ro g w a hro hf hm he => wpIn_seq (wpIn_mono (h.2 ro g w a hro (hf.left k.1) hm he) ?_)⟩
  rintro e1 a1 w1 ⟨rfl, g1, ds1, hd1, hk1, hs1, hm1, he1⟩
  refine wpIn_mono (k.2 ro g1 w1 a1 (hro.up hs1) (hf.right hs1) hm1 he1) ?_
  rintro e2 a2 w2 ⟨rfl, g2, ds2, hd2, hk2, hs2, hm2, he2⟩
  exact ⟨rfl, g2, ds2 ++ ds1, by rw [hd2, hd1, List.append_assoc], Marks.join hk1 hs1 hk2 hs2, hs1.trans hs2 hm, hm2, he2⟩
theorem AExec.seq_out {c d : Code} {env env1 : List AV} {m1 : Mem} {e : Exit} (h : AExec P lo c env m e env1 m1) (hne : e ≠ .normal) : AExec P lo (.seq c d) env m e env1 m1 := by
  refine ⟨h.1, fun ro g w a hro hf hm he => wpIn_seq (wpIn_mono (h.2 ro g w a hro hf hm he) ?_)⟩
  rintro e1 a1 w1 ⟨rfl, hq⟩
  cases e1 with
  | normal => exact absurd rfl hne
  | _ => exact ⟨rfl, hq⟩
theorem AExec.block {id : Nat} {c : Code} {env env1 : List AV} {m1 : Mem} {e : Exit} (h : AExec P lo c env m e env1 m1) : AExec P lo (.block id c) env m (leave id e) env1 m1 := by
  refine ⟨h.1, fun ro g w a hro hf hm he => wpIn_block (wpIn_mono (h.2 ro g w a hro hf hm he) ?_)⟩
  rintro e1 a1 w1 ⟨rfl, hq⟩
  cases e1 with
  | exit id' =>
    by_cases hid : id' = id
    · subst hid; simp only [Exit.inBlock, if_true, leave]; exact ⟨trivial, hq⟩
    · simp only [Exit.inBlock, if_neg hid, leave]; exact ⟨trivial, hq⟩
  | _ => exact ⟨rfl, hq⟩
theorem AExec.cond {c : Operand} {t : Nat} {x y : Code} {b : Bool} {env env1 : List AV} {m1 : Mem} {e : Exit} (hc : c = .tmp t) (hb : env[t]? = some (.bool b)) (h : AExec P lo (if b then x else y) env m e env1 m1) : AExec P lo (.cond c x y) env m e env1 m1 := by
  refine ⟨h.1, fun ro g w a hro hf hm he => wpIn_cond (t := b) ?_ (h.2 ro g w a hro hf hm he)⟩
  subst hc
  obtain ⟨hl, hr⟩ := he
  have hlt : t < env.length := (List.getElem?_eq_some_iff.1 hb).1
  have hv : a.tmps[t]? = some a.tmps[t] := Array.getElem?_eq_getElem (by omega)
  have := (hr t _ _ hb hv).atom_inv
  show a.tmps.getD t undef = _
  rw [Array.getD_eq_getD_getElem?, hv, Option.getD_some, this]
end

/-- A loop whose body stands next. -/
def loopIn (F : Fence) (n : Nat) (P : Program) (c : Code) (Q : Exit → Act → World → Prop) (a : Act) (w : World) : Prop :=
  ∀ (b : Frame) (k : List Item) (cs : List Frame), b.roundOf = F.round → F.fn b.fn → F.room (cs.length + 1 + n) →
    ∃ e a' w', Q e a' w' ∧ ArrivesIn (Machine.fenced P F) P (lone (b.atR a (.code c :: .inLoop c :: k)) cs w) b k cs e a' w'
theorem wpIn_of_loopIn {F : Fence} {n : Nat} {P : Program} {Q : Exit → Act → World → Prop} {a : Act} {w : World} {c : Code} (h : loopIn F n P c Q a w) : (Code.loop c).wpIn F n P Q a w :=
  fun b k cs hro hb hr => let ⟨e, a', w', hq, harr⟩ := h b k cs hro hb hr; ⟨e, a', w', hq, .of_steps (.one (fenced_calm hb hr rfl) stepR_loop) harr⟩
theorem loopIn_step {F : Fence} {n : Nat} {P : Program} {Q : Exit → Act → World → Prop} {a : Act} {w : World} {c : Code} (h : c.wpIn F n P (Exit.then (loopIn F n P c Q) Q) a w) : loopIn F n P c Q a w := by
  intro b k cs hro hb hr
  obtain ⟨e, a₁, w₁, hq, harr⟩ := h b (.inLoop c :: k) cs hro hb hr
  cases e with
  | normal =>
    obtain ⟨e₂, a₂, w₂, hq₂, harr₂⟩ := hq b k cs hro hb hr
    exact ⟨e₂, a₂, w₂, hq₂, .of_steps (StepsIn.trans harr (.one (fenced_calm hb hr rfl) stepR_inLoop)) harr₂⟩
  | exit id => exact ⟨_, a₁, w₁, hq, .pass (x := .inLoop c) rfl (fun _ _ => .inl (by simp)) harr⟩
  | goto l => exact ⟨_, a₁, w₁, hq, .pass (x := .inLoop c) rfl (fun _ _ => .inl (by simp)) harr⟩
  | ret => exact ⟨_, a₁, w₁, hq, .pass (x := .inLoop c) rfl (fun _ _ => .inl (by simp)) harr⟩
  | panic ch => exact ⟨_, a₁, w₁, hq, .pass (x := .inLoop c) rfl (fun _ _ => .inl (by simp)) harr⟩
  | outgrown => exact ⟨_, a₁, w₁, hq, .pass (x := .inLoop c) rfl (fun _ _ => .inl (by simp)) harr⟩

/-- A loop has one outcome. -/
def ALoop (P : Program) (lo : Option Nat) (c : Code) (env : List AV) (m : Mem) (e : Exit) (env' : List AV) (m' : Mem) : Prop :=
  Mono m m' ∧ ∀ (ro : Option Nat) (g : Gh) (w : World) (a : Act), RoIs g lo ro → Fresh g m m' → MemOk g m w → Reps g w env a.tmps →
    loopIn (Fw ro) 0 P c (fun e' a' w' => e' = e ∧ ∃ g' ds, a'.defers = ds ++ a.defers ∧ Marks g' w' w.heap.size ds ∧ Step g m g' m' w w' ∧ MemOk g' m' w' ∧ Reps g' w' env' a'.tmps) a w
section
variable {m : Mem} {P : Program} {lo : Option Nat}
theorem AExec.loop {c : Code} {env env1 : List AV} {m1 : Mem} {e : Exit} (h : ALoop P lo c env m e env1 m1) : AExec P lo (.loop c) env m e env1 m1 :=
  ⟨h.1, fun ro g w a hro hf hm he => wpIn_of_loopIn (h.2 ro g w a hro hf hm he)⟩
theorem ALoop.out {c : Code} {env env1 : List AV} {m1 : Mem} {e : Exit} (h : AExec P lo c env m e env1 m1) (hne : e ≠ .normal) : ALoop P lo c env m e env1 m1 := by
  refine ⟨h.1, fun ro g w a hro hf hm he => loopIn_step (wpIn_mono (h.2 ro g w a hro hf hm he) ?_)⟩
  rintro e1 a1 w1 ⟨rfl, hq⟩
  cases e1 with
  | normal => exact absurd rfl hne
  | _ => exact ⟨rfl, hq⟩
theorem ALoop.round {c : Code} {env env1 env2 : List AV} {m1 m2 : Mem} {e : Exit} (h : AExec P lo c env m .normal env1 m1) (k : ALoop P lo c env1 m1 e env2 m2) : ALoop P lo c env m e env2 m2 := by
  refine ⟨h.1.trans k.1, fun ro g w a hro hf hm he => loopIn_step (wpIn_mono (h.2 ro g w a hro (hf.left k.1) hm he) ?_)⟩
  rintro e1 a1 w1 ⟨rfl, g1, ds1, hd1, hk1, hs1, hm1, he1⟩
  intro b kk cs hrb hb hr
  obtain ⟨e2, a2, w2, ⟨rfl, g2, ds2, hd2, hk2, hs2, hm2, he2⟩, harr⟩ := k.2 ro g1 w1 a1 (hro.up hs1) (hf.right hs1) hm1 he1 b kk cs hrb hb hr
  exact ⟨e2, a2, w2, ⟨rfl, g2, ds2 ++ ds1, by rw [hd2, hd1, List.append_assoc], Marks.join hk1 hs1 hk2 hs2, hs1.trans hs2 hm, hm2, he2⟩, harr⟩
end
end Go.Proofs.Ytakmilmckdllfaa.G
