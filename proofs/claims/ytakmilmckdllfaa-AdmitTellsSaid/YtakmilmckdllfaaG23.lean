/-
Code that is computed: what comes of closed calls is seen by computing.
-/
import Derived.Test.YtakmilmckdllfaaG21
import Derived.Test.YtakmilmckdllfaaG22
set_option linter.unusedVariables false
set_option linter.unusedSimpArgs false
namespace Go.Proofs.Ytakmilmckdllfaa.G

/-- Below which variables, which rows all stays. -/
abbrev Low := Nat × Nat
def big : Nat := 1000000000000
def Low.top : Low := (big, big)
/-- The lower ones. -/
def low2 {α : Type} (a b : Low) (k : Low → α) : α :=
  match a, b with
  | (a1, a2), (b1, b2) => if a1 ≤ b1 then (if a2 ≤ b2 then k (a1, a2) else k (a1, b2)) else (if a2 ≤ b2 then k (b1, a2) else k (b1, b2))
structure Keep (lw : Low) (m m1 : Mem) : Prop where
  len : m.boxes.length ≤ m1.boxes.length
  lenR : m.rows.length ≤ m1.rows.length
  box : ∀ l, l < lw.1 → l < m.boxes.length → m1.boxes[l]? = m.boxes[l]?
  row : ∀ l, l < lw.2 → l < m.rows.length → m1.rows[l]? = m.rows[l]?
  mode : m1.mode = m.mode
def lowAV : AV → Low
  | .slice (.row id) _ => (big, id)
  | .vec id _ _ _ _ => (big, id)
  | _ => .top
def lowOp (env : List AV) : Op → Low
  | .store _ x _ => match aeval env x with
    | some (.ptr l _) => (l, big)
    | some (.vptr id _) => (big, id)
    | _ => .top
  | .call { callee := .builtin .append, args, .. } => match aevals env args.toList with
    | some (x :: _) => lowAV x
    | _ => .top
  | _ => .top

section
variable {P : Program}
theorem Keep.refl (lw : Low) (m : Mem) : Keep lw m m := ⟨Nat.le_refl _, Nat.le_refl _, fun _ _ _ => rfl, fun _ _ _ => rfl, rfl⟩
theorem Keep.of_ext {m m1 : Mem} (lw : Low) (h : Ext m m1) : Keep lw m m1 := ⟨h.mono.1, h.mono.2, fun l _ hl => h.box hl, fun l _ hl => h.row hl, h.modeEq⟩
theorem take_eq {α : Type} {a b : List α} (hl : a.length ≤ b.length) (h : ∀ l, l < a.length → b[l]? = a[l]?) : ∃ x, b = a ++ x := by
  refine ⟨b.drop a.length, ?_⟩
  apply List.ext_getElem?
  intro i
  by_cases hi : i < a.length
  · rw [List.getElem?_append_left hi, h i hi]
  · rw [List.getElem?_append_right (by omega), List.getElem?_drop]; congr 1; omega
theorem Keep.ext {lw : Low} {m m1 : Mem} (h : Keep lw m m1) (h1 : m.boxes.length ≤ lw.1) (h2 : m.rows.length ≤ lw.2) : Ext m m1 :=
  ⟨take_eq h.len fun l hl => h.box l (by omega) hl, take_eq h.lenR fun l hl => h.row l (by omega) hl, h.mode⟩
theorem Keep.trans {a b c : Low} {m m1 m2 : Mem} (h : Keep a m m1) (k : Keep b m1 m2) (h1 : c.1 ≤ a.1 ∧ c.1 ≤ b.1) (h2 : c.2 ≤ a.2 ∧ c.2 ≤ b.2) : Keep c m m2 :=
  ⟨Nat.le_trans h.len k.len, Nat.le_trans h.lenR k.lenR, fun l hl hm => (k.box l (by omega) (Nat.lt_of_lt_of_le hm h.len)).trans (h.box l (by omega) hm), fun l hl hm => (k.row l (by omega) (Nat.lt_of_lt_of_le hm h.lenR)).trans (h.row l (by omega) hm), k.mode.trans h.mode⟩
theorem low2_eq {α : Type} {a b : Low} {k : Low → α} : ∃ c : Low, low2 a b k = k c ∧ (c.1 ≤ a.1 ∧ c.1 ≤ b.1) ∧ c.2 ≤ a.2 ∧ c.2 ≤ b.2 := by
  obtain ⟨a1, a2⟩ := a
  obtain ⟨b1, b2⟩ := b
  simp only [low2]
  split <;> split <;> refine ⟨_, rfl, ?_, ?_⟩ <;> dsimp only <;> omega
theorem Keep.set {m : Mem} {l : Nat} {c : ABox} : Keep (l, big) m (m.set l c) :=
  ⟨by simp [Mem.set], Nat.le_refl _, fun k hk _ => by simp only [Mem.set]; rw [List.getElem?_set_ne (by simp at hk; omega)], fun _ _ _ => rfl, rfl⟩
theorem Keep.setRow {m : Mem} {l n : Nat} {cs : List AV} : Keep (big, l) m (m.setRow l n cs) :=
  ⟨Nat.le_refl _, by simp [Mem.setRow], fun _ _ _ => rfl, fun k hk _ => by simp only [Mem.setRow]; rw [List.getElem?_set_ne (by simp at hk; omega)], rfl⟩
theorem Keep.grow {m : Mem} {l n : Nat} {cs : List AV} : Keep (big, l) m ((m.retire l).pushRow n cs) :=
  ⟨Nat.le_refl _, by simp [Mem.retire, Mem.pushRow], fun _ _ _ => rfl, fun k hk hl => by simp only [Mem.retire, Mem.pushRow]; rw [List.getElem?_append_left (by simpa using hl), List.getElem?_set_ne (by simp at hk; omega)], rfl⟩
theorem Keep.pushRow {lw : Low} {m : Mem} {n : Nat} {cs : List AV} : Keep lw m (m.pushRow n cs) :=
  ⟨Nat.le_refl _, by simp [Mem.pushRow], fun _ _ _ => rfl, fun k hk hl => by simp only [Mem.pushRow]; rw [List.getElem?_append_left hl], rfl⟩

theorem aappend_keep {env : List AV} {m m1 : Mem} {t xt : TypeId} {x y d : AV} (h : aappend P m t xt x y = some (d, m1)) :
    Keep (lowAV x) m m1 := by
  have hS : ∀ own es, x = .slice own es → aappendS P m t xt x y = some (d, m1) → Keep (lowAV x) m m1 := by
    rintro own es rfl h
    unfold aappendS at h
    split at h
    · rename_i own' es' _ _ _ _ heq _ _ _
      injection heq with e1 e2
      subst e1 e2
      split at h
      · split at h
        · split at h
          · injection h with h; injection h with h1 h2; subst h2; exact Keep.refl _ _
          · split at h
            · cases h
            · injection h with h; injection h with h1 h2; subst h2; exact Keep.pushRow
            · split at h
              · injection h with h; injection h with h1 h2; subst h2; exact Keep.grow
              · cases h
        · cases h
      · cases h
    · cases h
  have hV : aappendV P m t xt x y = some (d, m1) → Keep (lowAV x) m m1 := by
    intro h
    unfold aappendV at h
    split at h
    · split at h
      · split at h
        · split at h
          · split at h
            · injection h with h; injection h with h1 h2; subst h2; exact Keep.refl _ _
            · unfold avec at h
              split at h
              · injection h with h; injection h with h1 h2; subst h2; exact Keep.pushRow
              · injection h with h; injection h with h1 h2; subst h2; exact Keep.pushRow
              · split at h
                · split at h
                  · injection h with h; injection h with h1 h2; subst h2; exact Keep.setRow
                  · split at h
                    · injection h with h; injection h with h1 h2; subst h2; exact Keep.grow
                    · cases h
                · cases h
              · cases h
          · cases h
        · cases h
      · cases h
    · cases h
  cases x with
  | vec id off len sz k => exact hV h
  | slice own es =>
    cases own with
    | full =>
      simp only [aappend] at h
      split at h
      · split at h
        · exact hV h
        · exact hS _ _ rfl h
      · cases h
    | _ => exact hS _ _ rfl h
  | _ => simp [aappend, aappendS] at h

theorem aop_keep {op : Op} {env : List AV} {m m1 : Mem} {d : AV} (h : aop P op env m = some (d, m1)) : Keep (lowOp env op) m m1 := by
  by_cases hk : opKeeps op = true
  · exact .of_ext _ (keeps_ext hk h)
  · unfold aop at h
    split at h <;> first | (exact absurd rfl hk) | skip
    · -- store
      rename_i t a x
      obtain ⟨p, hp, h⟩ := bind_some' h
      obtain ⟨y, hy, h⟩ := bind_some' h
      cases hs : astore P m t p y with
      | none => rw [hs] at h; cases h
      | some m2 =>
        rw [hs] at h; injection h with h; injection h with h1 h2; subst h2
        simp only [lowOp, hp]
        unfold astore at hs
        split at hs
        · split at hs
          · split at hs
            · injection hs with hs; subst hs; exact Keep.set
            · cases hs
          · cases hs
        · split at hs
          · split at hs
            · injection hs with hs; subst hs; exact Keep.setRow
            · cases hs
          · cases hs
        · cases hs
    · -- a builtin
      rename_i b as ts
      obtain ⟨l, hl, h⟩ := bind_some' h
      unfold abuiltin at h
      split at h
      · exact absurd rfl hk
      · rename_i t xt x y hts hw
        simp only [lowOp, hl]
        exact aappend_keep (env := env) h
      · exact absurd rfl hk
      · exact absurd rfl hk
      · cases h
    · cases h

abbrev CallF := AV → List AV → Mem → Option (AV × Mem × Low)
def exOp (P : Program) (call : CallF) (op : Op) (env : List AV) (m : Mem) : Option (AV × Mem × Low) :=
  match op with
  | .call { callee := .value f, args, .. } => (aeval env f).bind fun fv => (aevals env args.toList).bind fun as => call fv (as.map AV.strip) m
  | op => (aop P op env m).bind fun r => some (r.1, r.2, lowOp env op)
/-- Ahead of where memory may turn: has it stayed? -/
def calm (p k : Nat) (lw : Low) (m : Mem) : Bool := decide (p ≤ k) || (decide (m.boxes.length ≤ lw.1) && decide (m.rows.length ≤ lw.2))
def exOps (P : Program) (call : CallF) (ops : Array Oper) (pr : Nat × Option (Nat × Nat)) : Nat → List Oper → List AV → Mem → Option (List AV × Mem × Low)
  | _, [], env, m => some (env, m, .top)
  | k, o :: l, env, m => (wantedA ops env o).bind fun w => match w with
    | true => if swChk pr k o.op (aeval env) = true then
        (exOp P call o.op env m).bind fun r => if calm pr.1 k r.2.2 m = true then (exOps P call ops pr (k + 1) l (aput env o.dst r.1) r.2.1).bind fun s => low2 r.2.2 s.2.2 fun lw => some (s.1, s.2.1, lw) else none
      else none
    | false => exOps P call ops pr (k + 1) l (aput env o.dst .undef) m
abbrev Out := Exit × List AV × Mem × Low
def loopN (step : List AV → Mem → Option Out) : Nat → List AV → Mem → Option Out
  | 0, _, _ => none
  | n + 1, env, m => (step env m).bind fun r => match r.1 with
    | .normal => (loopN step n r.2.1 r.2.2.1).bind fun s => low2 r.2.2.2 s.2.2.2 fun lw => some (s.1, s.2.1, s.2.2.1, lw)
    | _ => some r
def loOk (m : Mem) : Option Nat → Bool
  | none => true
  | some l => match m.boxes[l]? with
    | some (.loop ..) => true
    | _ => false
def ex (P : Program) (call : CallF) (n : Nat) (lo : Option Nat) : Code → List AV → Mem → Option Out
  | .skip, env, m => some (.normal, env, m, .top)
  | .exit id, env, m => some (.exit id, env, m, .top)
  | .ret, env, m => some (.ret, env, m, .top)
  | .seq a b, env, m => (ex P call n lo a env m).bind fun r => match r.1 with
    | .normal => (ex P call n lo b r.2.1 r.2.2.1).bind fun s => low2 r.2.2.2 s.2.2.2 fun lw => some (s.1, s.2.1, s.2.2.1, lw)
    | _ => some r
  | .cond (.tmp t) a b, env, m => (env[t]?).bind fun v => match v with
    | .atom (.bool true) => ex P call n lo a env m
    | .atom (.bool false) => ex P call n lo b env m
    | _ => none
  | .block id c, env, m => (ex P call n lo c env m).bind fun r => some (leave id r.1, r.2)
  | .loop c, env, m => loopN (ex P call n lo c) n env m
  | .region _ ops draw, env, m => (exOps P call ops (drawP ops draw) 0 ops.toList env m).bind fun s => some (.normal, s)
  | .rangeFunc x ps a b, env, m => if loOk m lo = true then (aeval env x).bind fun fv => match fv with
      | .func f first cap => (call (.func f first cap) [.yield m.boxes.length] (m.push (.loop .ready none env ps a b))).bind fun r => (r.2.1.boxes[m.boxes.length]?).bind fun c => match c with
        | .loop st pend e2 p2 a2 b2 => if st = .busy then none else (jumpExit pend).bind fun e => some (e, env, r.2.1.set m.boxes.length (.loop .exhausted pend e2 p2 a2 b2), r.2.2)
        | _ => none
      | _ => none
    else none
  | _, _, _ => none
/-- A call, by so many nested calls and rounds at most. -/
def run (P : Program) (ok : Nat) : Nat → CallF
  | 0, _, _, _ => none
  | n + 1, fv, args, m => match fv with
    | .func f first cap => if ok.testBit f = true then (P.funcs[f]?).bind fun fn => (fn.body).bind fun c =>
        (ex P (run P ok n) n none c (first ++ args ++ cap ++ List.replicate (fn.ntmps - (first ++ args ++ cap).length) .undef) m).bind fun r => if ends r.1 = true then (aresults P fn r.2.1 r.2.2.1).bind fun v => some (v.stripR, r.2.2.1, r.2.2.2) else none
      else none
    | .yield l => (m.boxes[l]?).bind fun c => match c with
      | .loop .ready pend env0 ps as_ body => if args.length = ps.size ∧ drawsOk as_ = true ∧ drawsOk body = true then
          (ex P (run P ok n) n (some l) as_ (putAll env0 ps.toList args) m).bind fun r => match r.1 with
            | .normal => (r.2.2.1.boxes[l]?).bind fun c1 => match c1 with
              | .loop .ready pend1 e1 p1 a1 b1 => (ex P (run P ok n) n (some l) body r.2.1 (r.2.2.1.set l (.loop .busy pend1 e1 p1 a1 b1))).bind fun s => (s.2.2.1.boxes[l]?).bind fun c2 => match c2 with
                | .loop .busy pend2 e2 p2 a2 b2 => (exitJump s.1).bind fun j => low2 r.2.2.2 s.2.2.2 fun lw => low2 lw (l, big) fun lw => some (.bool j.isNone, s.2.2.1.set l (.loop (if j.isNone then .ready else .done) j e2 p2 a2 b2), lw)
                | _ => none
              | _ => none
            | _ => none
        else none
      | _ => none
    | _ => none

/-- What is asked of calls. -/
def CallOk (P : Program) (call : CallF) : Prop := ∀ fv args m r m1 lw, call fv args m = some (r, m1, lw) → ACallV P fv args m r m1 ∧ Keep lw m m1 ∧ ∀ f first cap, fv = .func f first cap → ACalls P f (first ++ args ++ cap) m r m1

theorem exOps_ok {call : CallF} (hcall : CallOk P call) {ops : Array Oper} {pr : Nat × Option (Nat × Nat)} : ∀ {l : List Oper} {k : Nat} {env env' : List AV} {m m' : Mem} {lw : Low}, exOps P call ops pr k l env m = some (env', m', lw) →
    WOps P ops pr (fun a b => a = env' ∧ b = m') k l env m ∧ Keep lw m m' := by
  intro l
  induction l with
  | nil => intro k env env' m m' lw h; injection h with h; injection h with h1 h; injection h with h2 h3; subst h1 h2 h3; exact ⟨⟨rfl, rfl⟩, Keep.refl _ _⟩
  | cons o l ih =>
    intro k env env' m m' lw h
    simp only [exOps] at h
    obtain ⟨w, hw, h⟩ := bind_some' h
    simp only [WOps, hw]
    cases w with
    | false => exact ih h
    | true =>
      dsimp only at h ⊢
      split at h
      · rename_i hsw
        obtain ⟨⟨d, m1, lw1⟩, hr, h⟩ := bind_some' h
        split at h
        · rename_i hcalm
          obtain ⟨⟨env2, m2, lw2⟩, hs, h⟩ := bind_some' h
          obtain ⟨c, hc, hc1, hc2⟩ := low2_eq (a := lw1) (b := lw2) (k := fun lw => some (env2, m2, lw))
          rw [hc] at h
          injection h with h; injection h with h1 h; injection h with h2 h3; subst h1 h2 h3
          obtain ⟨ih1, ih2⟩ := ih hs
          have key : WOp P o.op env m (k < pr.1) (fun d m1 => WOps P ops pr (fun a b => a = env2 ∧ b = m2) (k + 1) l (aput env o.dst d) m1) ∧ Keep lw1 m m1 := by
            have hcm : Keep lw1 m m1 → k < pr.1 → Ext m m1 := by
              intro hk hlt
              simp only [calm, Bool.or_eq_true, Bool.and_eq_true, decide_eq_true_eq] at hcalm
              rcases hcalm with h1 | ⟨h1, h2⟩
              · omega
              · exact hk.ext h1 h2
            unfold exOp at hr
            unfold WOp
            split at hr
            · rename_i heq
              rw [heq]
              obtain ⟨fv, hfv, hr⟩ := bind_some' hr
              obtain ⟨as, has, hr⟩ := bind_some' hr
              simp only [hfv, has]
              obtain ⟨h1, h2, _⟩ := hcall _ _ _ _ _ _ hr
              exact ⟨⟨d, m1, h1, hcm h2, ih1⟩, h2⟩
            · rename_i hne
              obtain ⟨⟨d', m1'⟩, ha, hr⟩ := bind_some' hr
              injection hr with hr; injection hr with e1 hr; injection hr with e2 e3
              dsimp only at e1 e2
              subst e1 e2 e3
              split
              · rename_i f args ts heq; exact absurd heq (hne f args ts)
              · rw [ha]; exact ⟨ih1, aop_keep ha⟩
          exact ⟨⟨hsw, key.1⟩, key.2.trans ih2 hc1 hc2⟩
        · cases h
      · cases h

theorem ex_ok (hmix : P.follows .mixedOrders = true) {call : CallF} (hcall : CallOk P call) {n : Nat} {lo : Option Nat} : ∀ {c : Code} {env env' : List AV} {m m' : Mem} {e : Exit} {lw : Low}, drawsOk c = true → ex P call n lo c env m = some (e, env', m', lw) →
    WC P lo c (fun x y z => x = e ∧ y = env' ∧ z = m') env m ∧ Keep lw m m' := by
  intro c
  induction c with
  | skip => intro env env' m m' e lw _ h; injection h with h; injection h with h0 h; injection h with h1 h; injection h with h2 h3; subst h0 h1 h2 h3; exact ⟨⟨rfl, rfl, rfl⟩, Keep.refl _ _⟩
  | exit id => intro env env' m m' e lw _ h; injection h with h; injection h with h0 h; injection h with h1 h; injection h with h2 h3; subst h0 h1 h2 h3; exact ⟨⟨rfl, rfl, rfl⟩, Keep.refl _ _⟩
  | ret => intro env env' m m' e lw _ h; injection h with h; injection h with h0 h; injection h with h1 h; injection h with h2 h3; subst h0 h1 h2 h3; exact ⟨⟨rfl, rfl, rfl⟩, Keep.refl _ _⟩
  | seq a b iha ihb =>
    intro env env' m m' e lw hd h
    simp only [drawsOk, Bool.and_eq_true] at hd
    obtain ⟨⟨e1, env1, m1, lw1⟩, hr, h⟩ := bind_some' h
    obtain ⟨h1, k1⟩ := iha hd.1 hr
    have other : e1 ≠ .normal → some (e1, env1, m1, lw1) = some (e, env', m', lw) → WC P lo (.seq a b) (fun x y z => x = e ∧ y = env' ∧ z = m') env m ∧ Keep lw m m' := by
      intro hne h
      injection h with h; injection h with h0 h; injection h with h2 h; injection h with h3 h4; subst h0 h2 h3 h4
      simp only [WC]
      refine ⟨WC.mono (fun x y z hx => ?_) h1, k1⟩
      obtain ⟨rfl, rfl, rfl⟩ := hx
      cases x <;> first | exact absurd rfl hne | exact ⟨rfl, rfl, rfl⟩
    cases e1 with
    | normal =>
      obtain ⟨⟨e2, env2, m2, lw2⟩, hs, h⟩ := bind_some' h
      obtain ⟨c, hc, hc1, hc2⟩ := low2_eq (a := lw1) (b := lw2) (k := fun lw => some (e2, env2, m2, lw))
      rw [hc] at h
      injection h with h; injection h with h0 h; injection h with h2 h; injection h with h3 h4; subst h0 h2 h3 h4
      obtain ⟨h2, k2⟩ := ihb hd.2 hs
      simp only [WC]
      refine ⟨WC.mono (fun x y z hx => ?_) h1, k1.trans k2 hc1 hc2⟩
      obtain ⟨rfl, rfl, rfl⟩ := hx
      exact h2
    | _ => exact other (by simp) h
  | cond t a b iha ihb =>
    intro env env' m m' e lw hd h
    simp only [drawsOk, Bool.and_eq_true] at hd
    cases t with
    | tmp t =>
      obtain ⟨v, hv, h⟩ := bind_some' h
      simp only [WC, hv]
      split at h
      · exact iha hd.1 h
      · exact ihb hd.2 h
      · cases h
    | _ => cases h
  | block id c ih =>
    intro env env' m m' e lw hd h
    obtain ⟨⟨e1, env1, m1, lw1⟩, hr, h⟩ := bind_some' h
    injection h with h; injection h with h0 h; injection h with h2 h; injection h with h3 h4; subst h0 h2 h3 h4
    obtain ⟨h1, k1⟩ := ih hd hr
    simp only [WC]
    refine ⟨WC.mono (fun x y z hx => ?_) h1, k1⟩
    obtain ⟨rfl, rfl, rfl⟩ := hx
    exact ⟨rfl, rfl, rfl⟩
  | loop c ih =>
    intro env env' m m' e lw hd h
    have key : ∀ (j : Nat) (lw : Low) (env : List AV) (m : Mem), loopN (ex P call n lo c) j env m = some (e, env', m', lw) → ∀ lw', lw' = lw → ALoop P lo c env m e env' m' ∧ Keep lw m m' := by
      intro j
      induction j with
      | zero => intro lw env m h; cases h
      | succ j ihj =>
        intro lw env m h lw' _
        simp only [loopN] at h
        obtain ⟨⟨e1, env1, m1, lw1⟩, hr, h⟩ := bind_some' h
        obtain ⟨h1, k1⟩ := ih (by simpa only [drawsOk] using hd) hr
        obtain ⟨x, y, z, hx, rfl, rfl, rfl⟩ := WC.exec hmix (by simpa only [drawsOk] using hd) h1
        have other : x ≠ .normal → some (x, y, z, lw1) = some (e, env', m', lw) → ALoop P lo c env m e env' m' ∧ Keep lw m m' := by
          intro hne h
          injection h with h; injection h with h0 h; injection h with h2 h; injection h with h3 h4; subst h0 h2 h3 h4
          exact ⟨.out hx hne, k1⟩
        cases x with
        | normal =>
          obtain ⟨⟨e2, env2, m2, lw2⟩, hs, h⟩ := bind_some' h
          obtain ⟨c', hc, hc1, hc2⟩ := low2_eq (a := lw1) (b := lw2) (k := fun lw => some (e2, env2, m2, lw))
          rw [hc] at h
          injection h with h; injection h with h0 h; injection h with h2 h; injection h with h3 h4; subst h0 h2 h3 h4
          obtain ⟨h5, h6⟩ := ihj _ _ _ hs lw2 rfl
          exact ⟨.round hx h5, k1.trans h6 hc1 hc2⟩
        | _ => exact other (by simp) h
    obtain ⟨h1, h2⟩ := key n lw env m h lw rfl
    exact ⟨⟨_, _, _, h1, rfl, rfl, rfl⟩, h2⟩
  | region id ops draw =>
    intro env env' m m' e lw hd h
    obtain ⟨⟨env1, m1, lw1⟩, hr, h⟩ := bind_some' h
    injection h with h; injection h with h0 h; injection h with h2 h; injection h with h3 h4; subst h0 h2 h3 h4
    obtain ⟨h1, k1⟩ := exOps_ok hcall hr
    refine ⟨?_, k1⟩
    simp only [WC]
    exact WOps.mono (fun a b hx => by simpa using hx) _ _ _ _ _ h1
  | rangeFunc x ps a b iha ihb =>
    intro env env' m m' e lw hd h
    simp only [ex] at h
    split at h
    · rename_i hlo
      obtain ⟨fv, hfv, h⟩ := bind_some' h
      split at h
      · rename_i f first cap
        obtain ⟨⟨r, m1, lw1⟩, hr, h⟩ := bind_some' h
        obtain ⟨cb, hcb, h⟩ := bind_some' h
        split at h
        · rename_i st pend e2 p2 a2 b2
          split at h
          · cases h
          · rename_i hst
            obtain ⟨ee, hee, h⟩ := bind_some' h
            injection h with h; injection h with h0 h; injection h with h2 h; injection h with h3 h4; subst h0 h2 h3 h4
            obtain ⟨_, k1, hc⟩ := hcall _ _ _ _ _ _ hr
            have hloat : LoAt m lo := by
              cases lo with
              | none => trivial
              | some l0 =>
                simp only [loOk] at hlo
                split at hlo
                · exact ⟨_, _, _, _, _, _, by assumption⟩
                · cases hlo
            refine ⟨⟨_, _, _, AExec.range hloat hfv (hc _ _ _ rfl) hcb hst hee, rfl, rfl, rfl⟩, ?_⟩
            refine ⟨?_, k1.lenR, fun l hl hm => ?_, fun l hl hm => k1.row l hl hm, k1.mode⟩
            · have := k1.len; simp [Mem.push, Mem.set] at this ⊢; omega
            · simp only [Mem.set]
              rw [List.getElem?_set_ne (by omega), k1.box l hl (by simp [Mem.push]; omega)]
              simp only [Mem.push]
              rw [List.getElem?_append_left hm]
        · cases h
      · cases h
    · cases h
  | _ => intro env env' m m' e lw _ h; cases h

theorem run_ok (hmix : P.follows .mixedOrders = true) {ok : Nat} (hok : ∀ f, ok.testBit f = true → ∃ fn, P.funcs[f]? = some fn ∧ okFn fn = true) : ∀ n, CallOk P (run P ok n) := by
  intro n
  induction n with
  | zero => intro fv args m r m1 lw h; cases h
  | succ n ih =>
    intro fv args m r m1 lw h
    simp only [run] at h
    split at h
    · rename_i f first cap
      split at h
      · rename_i hb
        obtain ⟨fn, hfn, h⟩ := bind_some' h
        obtain ⟨c, hc, h⟩ := bind_some' h
        obtain ⟨⟨e1, env1, m2, lw1⟩, hr, h⟩ := bind_some' h
        split at h
        · rename_i he
          obtain ⟨v, hv, h⟩ := bind_some' h
          injection h with h; injection h with h0 h; injection h with h2 h3; subst h0 h2 h3
          obtain ⟨fn', hfn', hk⟩ := hok f hb
          rw [hfn] at hfn'; injection hfn' with hfn'; subst hfn'
          simp only [okFn, Bool.and_eq_true, Bool.not_eq_true'] at hk
          obtain ⟨⟨⟨⟨h1, h2⟩, h3⟩, h4⟩, h5⟩ := hk
          have hbf : bodyF fn = c := by simp [bodyF, hc]
          rw [hbf] at h3
          obtain ⟨hw, k1⟩ := ex_ok hmix ih h3 hr
          obtain ⟨x, y, z, hx, rfl, rfl, rfl⟩ := WC.exec hmix h3 hw
          have hcalls : ACalls P f (first ++ args ++ cap) m v.stripR z := ACalls.of_body hfn hc h2 hx (by cases x <;> simp [ends] at he <;> simp) hv
          exact ⟨.of_func hcalls, k1, fun f' first' cap' heq => by injection heq with e1 e2 e3; subst e1 e2 e3; exact hcalls⟩
        · cases h
      · cases h
    · rename_i l
      obtain ⟨cb, hcb, h⟩ := bind_some' h
      split at h
      · rename_i pend env0 ps as_ body
        split at h
        · rename_i hcond
          obtain ⟨hlen, hda, hdb⟩ := hcond
          obtain ⟨⟨e1, env1, m2, lw1⟩, hr, h⟩ := bind_some' h
          split at h
          · rename_i he1
            dsimp only at he1
            subst he1
            obtain ⟨c1, hc1, h⟩ := bind_some' h
            split at h
            · rename_i pend1 ea pa aa ba
              obtain ⟨⟨e2, env2, m3, lw2⟩, hs, h⟩ := bind_some' h
              obtain ⟨c2, hc2, h⟩ := bind_some' h
              split at h
              · rename_i pend2 eb pb ab bb
                obtain ⟨j, hj, h⟩ := bind_some' h
                obtain ⟨lwA, hlA, hA1, hA2⟩ := low2_eq (a := lw1) (b := lw2) (k := fun lw => low2 lw (l, big) fun lw => some (AV.bool j.isNone, m3.set l (.loop (if j.isNone then .ready else .done) j eb pb ab bb), lw))
                obtain ⟨lwB, hlB, hB1, hB2⟩ := low2_eq (a := lwA) (b := (l, big)) (k := fun lw => some (AV.bool j.isNone, m3.set l (.loop (if j.isNone then .ready else .done) j eb pb ab bb), lw))
                rw [hlA, hlB] at h
                injection h with h; injection h with h0 h; injection h with h2 h3; subst h0 h2 h3
                obtain ⟨hw1, k1⟩ := ex_ok hmix ih hda hr
                obtain ⟨x, y, z, hx, rfl, rfl, rfl⟩ := WC.exec hmix hda hw1
                obtain ⟨hw2, k2⟩ := ex_ok hmix ih hdb hs
                obtain ⟨x2, y2, z2, hx2, rfl, rfl, rfl⟩ := WC.exec hmix hdb hw2
                refine ⟨ACallV.yield hcb hlen hx hc1 hx2 hc2 hj, ?_, fun f first cap heq => by cases heq⟩
                have ka : Keep lwB z (z.set l (.loop .busy pend1 ea pa aa ba)) := by
                  have := Keep.set (m := z) (l := l) (c := .loop .busy pend1 ea pa aa ba)
                  exact this.trans (Keep.refl lwB _) ⟨by dsimp only at hB1 ⊢; omega, Nat.le_refl _⟩ ⟨by dsimp only at hB2 ⊢; omega, Nat.le_refl _⟩
                have kb : Keep lwB z2 (z2.set l (.loop (if j.isNone then .ready else .done) j eb pb ab bb)) := by
                  have := Keep.set (m := z2) (l := l) (c := .loop (if j.isNone then .ready else .done) j eb pb ab bb)
                  exact this.trans (Keep.refl lwB _) ⟨by dsimp only at hB1 ⊢; omega, Nat.le_refl _⟩ ⟨by dsimp only at hB2 ⊢; omega, Nat.le_refl _⟩
                exact ((k1.trans ka (c := lwB) ⟨by omega, Nat.le_refl _⟩ ⟨by omega, Nat.le_refl _⟩).trans k2 (c := lwB) ⟨Nat.le_refl _, by omega⟩ ⟨Nat.le_refl _, by omega⟩).trans kb (c := lwB) ⟨Nat.le_refl _, Nat.le_refl _⟩ ⟨Nat.le_refl _, Nat.le_refl _⟩
              · cases h
            · cases h
          · cases h
        · cases h
      · cases h
    · cases h

/-- Does a run tell such a truth? -/
def tells (b : Bool) : Option (AV × Mem × Low) → Bool
  | some (.atom (.bool c), _, _) => b == c
  | _ => false
/-- **A closed call that is seen by computing.** -/
theorem Fn.run_bool (hmix : P.follows .mixedOrders = true) {ok : Nat} (hok : ∀ f, ok.testBit f = true → ∃ fn, P.funcs[f]? = some fn ∧ okFn fn = true) {f n : Nat} {b : Bool} {μ : TypeId → Bool} (h : tells b (run P ok n (.func f [] []) [] (mE μ)) = true) : Fn P f [] (.bool b) := by
  unfold tells at h
  split at h
  · rename_i c m1 lw he
    obtain ⟨_, _, h1⟩ := run_ok hmix hok n _ _ _ _ _ _ he
    have hb : b = c := by simpa using h
    subst hb
    exact .of (h1 _ _ _ rfl) (fun a ha => by simp at ha) (.atom _)
  · cases h
end
end Go.Proofs.Ytakmilmckdllfaa.G
