/-
Part 3 of the proof of GraphBlocks: merged by mkclaim.py (a program of this repo) out of texts of wip/g and printed models.
-/
import Derived.Test.YtdnnmopncndebaaDoorGraphBlocks2
set_option linter.unusedVariables false
set_option linter.unusedSectionVars false
set_option linter.unusedSimpArgs false
namespace Go.Proofs.YtdnnmopncndebaaDoor.G

variable [Mu]
section
variable {P : Program} {fr : Fro} {ℓ : Nat → Nat} {ρ : Nat → Own} {c : LCtx} {L : LEnv} {env : List AV} {m : Mem}

theorem ownAV_cells (i s : Nat) (o : Own) (es : List AV) : (ownAV i s o es).cells = [ownAV i s o es] := by unfold ownAV; split <;> (try cases o) <;> rfl
theorem ownAV_notTuple (i s : Nat) (o : Own) (es : List AV) : notTuple (ownAV i s o es) = true := by unfold ownAV; split <;> (try cases o) <;> rfl
theorem findC_mem {i s : Nat} {es : List AV} : ∀ {cs : List CV}, findC i cs = some (s, es) → CV.own i s es ∈ cs := by
  intro cs
  induction cs with
  | nil => intro h; cases h
  | cons x l ih =>
    intro h
    cases x with
    | own j s' es' =>
      simp only [findC] at h
      split at h
      · rename_i e; subst e; injection h with h; injection h with h1 h2; subst h1 h2; exact List.mem_cons_self
      · exact List.mem_cons_of_mem _ (ih h)
    | _ => exact List.mem_cons_of_mem _ (ih h)
theorem findN_vis {i s : Nat} {es : List AV} : ∀ {N : List (Nat × List CV)} {seen : List Nat}, findN i seen N = some (s, es) → ∃ t cs, seen.contains t = false ∧ aget N t = some cs ∧ CV.own i s es ∈ cs := by
  intro N
  induction N with
  | nil => intro seen h; cases h
  | cons x l ih =>
    obtain ⟨t0, c0⟩ := x
    intro seen h
    simp only [findN] at h
    have rest : findN i (t0 :: seen) l = some (s, es) → ∃ t cs, seen.contains t = false ∧ aget ((t0, c0) :: l) t = some cs ∧ CV.own i s es ∈ cs := by
      intro h
      obtain ⟨t, cs, h1, h2, h3⟩ := ih h
      simp only [List.contains_cons, Bool.or_eq_false_iff, beq_eq_false_iff_ne] at h1
      refine ⟨t, cs, h1.2, ?_, h3⟩
      simp only [aget]
      rw [if_neg (fun e => h1.1 e.symm)]; exact h2
    by_cases hs : seen.contains t0 = true
    · rw [if_pos hs] at h
      exact rest h
    · rw [if_neg hs] at h
      cases hc : findC i c0 with
      | some p =>
        rw [hc] at h
        simp only [Option.or] at h
        injection h with h; subst h
        exact ⟨t0, c0, by simpa using hs, by simp [aget], findC_mem hc⟩
      | none =>
        rw [hc] at h
        exact rest h
theorem findV_has {i s : Nat} {es : List AV} {v : LV} (h : findV i v = some (s, es)) : v.has i s es := by
  cases v <;> simp only [findV] at h <;> try cases h
  · split at h
    · rename_i e; subst e; injection h with h; injection h with h1 h2; subst h1 h2; exact ⟨rfl, rfl, rfl⟩
    · cases h
  · exact findC_mem h
theorem findS_vis {i s : Nat} {es : List AV} : ∀ {S : List (Nat × LV)} {seen : List Nat}, findS i seen S = some (s, es) → ∃ t v, seen.contains t = false ∧ aget S t = some v ∧ v.has i s es := by
  intro S
  induction S with
  | nil => intro seen h; cases h
  | cons x l ih =>
    obtain ⟨t0, c0⟩ := x
    intro seen h
    simp only [findS] at h
    have rest : findS i (t0 :: seen) l = some (s, es) → ∃ t cs, seen.contains t = false ∧ aget ((t0, c0) :: l) t = some cs ∧ cs.has i s es := by
      intro h
      obtain ⟨t, cs, h1, h2, h3⟩ := ih h
      simp only [List.contains_cons, Bool.or_eq_false_iff, beq_eq_false_iff_ne] at h1
      refine ⟨t, cs, h1.2, ?_, h3⟩
      simp only [aget]
      rw [if_neg (fun e => h1.1 e.symm)]; exact h2
    by_cases hs : seen.contains t0 = true
    · rw [if_pos hs] at h
      exact rest h
    · rw [if_neg hs] at h
      cases hc : findV i c0 with
      | some p =>
        rw [hc] at h
        simp only [Option.or] at h
        injection h with h; subst h
        exact ⟨t0, c0, by simpa using hs, by simp [aget], findV_has hc⟩
      | none =>
        rw [hc] at h
        exact rest h
theorem findL_vis {i s : Nat} {es : List AV} {L : LEnv} (h : findL i L = some (s, es)) : Vis L i s es := by
  unfold findL at h
  cases hn : findN i [] L.N with
  | some p =>
    rw [hn] at h
    simp only [Option.or] at h
    injection h with h; subst h
    obtain ⟨t0, cs, _, g1, g2⟩ := findN_vis hn
    exact .inr ⟨t0, cs, g1, g2⟩
  | none =>
    rw [hn] at h
    obtain ⟨t0, v, _, g1, g2⟩ := findS_vis (S := L.S) h
    exact .inl ⟨t0, v, g1, g2⟩
theorem aget_updS {i s : Nat} {es : List AV} {t : Nat} : ∀ {S : List (Nat × LV)}, aget (updS i s es S) t = (aget S t).map (LV.upd i s es) := by
  intro S
  induction S with
  | nil => rfl
  | cons x l ih =>
    obtain ⟨t0, v0⟩ := x
    simp only [updS, aget]
    split
    · rfl
    · exact ih
theorem aget_updN {i s : Nat} {es : List AV} {t : Nat} : ∀ {N : List (Nat × List CV)}, aget (updN i s es N) t = (aget N t).map fun cs => cs.map (CV.upd i s es) := by
  intro N
  induction N with
  | nil => rfl
  | cons x l ih =>
    obtain ⟨t0, v0⟩ := x
    simp only [updN, aget]
    split
    · rfl
    · exact ih
theorem mem_upd {i s j s' : Nat} {es es' : List AV} {cs : List CV} (h : CV.own j s' es' ∈ cs.map (CV.upd i s es)) : (j = i ∧ s' = s ∧ es' = es ∧ ∃ es2, CV.own i s es2 ∈ cs) ∨ (j ≠ i ∧ CV.own j s' es' ∈ cs) := by
  obtain ⟨x, hx, e⟩ := List.mem_map.1 h
  cases x with
  | own j2 s2 es2 =>
    simp only [CV.upd] at e
    split at e
    · rename_i e1
      split at e
      · rename_i e2
        injection e with e3 e4 e5
        subst e1 e2 e3 e4 e5
        exact .inl ⟨rfl, rfl, rfl, es2, hx⟩
      · cases e
    · rename_i e1
      injection e with e3 e4 e5
      subst e3 e4 e5
      exact .inr ⟨e1, hx⟩
  | _ => cases e
theorem vis_upd {i s j s' : Nat} {es es' : List AV} (h : Vis (updL i s es L) j s' es') : (j = i ∧ s' = s ∧ es' = es ∧ ∃ es2, Vis L i s es2) ∨ (j ≠ i ∧ Vis L j s' es') := by
  rcases h with ⟨t, u, h1, h2⟩ | ⟨t, cs, h1, h2⟩
  · simp only [updL, aget_updS] at h1
    obtain ⟨v, hv, rfl⟩ := Option.map_eq_some_iff.1 h1
    cases v with
    | own j2 s2 es2 =>
      simp only [LV.upd] at h2
      split at h2
      · rename_i e1
        split at h2
        · rename_i e2
          obtain ⟨rfl, rfl, rfl⟩ := h2
          exact .inl ⟨e1, e2, rfl, es2, .inl ⟨t, _, hv, e1, e2, rfl⟩⟩
        · exact h2.elim
      · rename_i e1
        obtain ⟨rfl, rfl, rfl⟩ := h2
        exact .inr ⟨e1, .inl ⟨t, _, hv, rfl, rfl, rfl⟩⟩
    | ag cs =>
      rcases mem_upd h2 with ⟨e1, e2, e3, es2, h3⟩ | ⟨e1, h3⟩
      · exact .inl ⟨e1, e2, e3, es2, .inl ⟨t, _, hv, h3⟩⟩
      · exact .inr ⟨e1, .inl ⟨t, _, hv, h3⟩⟩
    | _ => exact h2.elim
  · simp only [updL, aget_updN] at h1
    obtain ⟨ds, hv, rfl⟩ := Option.map_eq_some_iff.1 h1
    rcases mem_upd h2 with ⟨e1, e2, e3, es2, h3⟩ | ⟨e1, h3⟩
    · exact .inl ⟨e1, e2, e3, es2, .inr ⟨t, _, hv, h3⟩⟩
    · exact .inr ⟨e1, .inr ⟨t, _, hv, h3⟩⟩
theorem MineT.vrow {R : List (Option (Nat × List AV))} {i id s : Nat} {es : List AV} (h : MineT R i (.row id) s es) (hi : isV i = true) : R[id]? = some (some (0, flatC es)) ∧ (∀ e ∈ es, e.cells.length = s) ∧ 0 < s := by
  unfold MineT at h
  rw [if_pos hi] at h
  rcases h with ⟨h, _⟩ | ⟨id', h1, h2, h3, h4⟩
  · cases h
  · injection h1 with h1; subst h1; exact ⟨h2, h3, h4⟩
/-- A slice's row turns. -/
theorem RelW.turn (h : RelW P fr ℓ ρ c L env m) {i s id : Nat} {es es1 : List AV} (hv : Vis L i s es) (hi : isV i = true) (hid : ρ i = .row id) (hl : es1.length = es.length) (he : ∀ e ∈ es1, e.cells.length = s) : RelW P fr ℓ ρ c (updL i s es1 L) env (m.setRow id 0 (flatC es1)) := by
  have hrow := MineT.vrow (by have := h.tok i s es hv; rw [hid] at this; exact this) hi
  have hidl : id < m.rows.length := (List.getElem?_eq_some_iff.1 hrow.1).1
  have same : ∀ {es2}, Vis L i s es2 → es2.length = es.length := by
    intro es2 h2
    have h3 := MineT.vrow (by have := h.tok i s es2 h2; rw [hid] at this; exact this) hi
    have h4 := h3.1.symm.trans hrow.1
    injection h4 with h4; injection h4 with h4; injection h4 with _ h4
    have h5 := congrArg List.length h4
    rw [flatC_length h3.2.1, flatC_length hrow.2.1] at h5
    exact Nat.eq_of_mul_eq_mul_right hrow.2.2 h5
  have own : ∀ {s2 es2}, Vis L i s2 es2 → s2 = s → ownAV i s2 (ρ i) es2 = ownAV i s2 (ρ i) es1 := by
    rintro s2 es2 h2 rfl
    simp only [ownAV, if_pos hi, hid, hl, same h2]
  have cr : ∀ {cs as_}, (∀ j s2 es2, CV.own j s2 es2 ∈ cs → Vis L j s2 es2) → CRels ℓ ρ cs as_ → CRels ℓ ρ (cs.map (CV.upd i s es1)) as_ := by
    intro cs as_ hvis hc
    refine ⟨by simpa using hc.1, fun j x a hj ha => ?_⟩
    rw [List.getElem?_map] at hj
    obtain ⟨y, hy, rfl⟩ := Option.map_eq_some_iff.1 hj
    have := hc.2 j y a hy ha
    cases y with
    | own j2 s2 es2 =>
      simp only [CV.upd]
      split
      · rename_i e1
        split
        · rename_i e2
          subst e1
          simp only [CRel] at this ⊢
          rw [this, own (hvis _ _ _ (List.mem_of_getElem? hy)) e2]
        · trivial
      · exact this
    | _ => exact this
  have hname : ∀ {t ds}, aget (updL i s es1 L).N t = some ds → ∃ cs, aget L.N t = some cs ∧ ds = cs.map (CV.upd i s es1) := by
    intro t ds hd
    simp only [updL, aget_updN] at hd
    obtain ⟨cs, h1, h2⟩ := Option.map_eq_some_iff.1 hd
    exact ⟨cs, h1, h2.symm⟩
  refine ⟨h.mode, fun t u h1 h2 => ?_, fun t ds h1 => ?_, fun j s' es' hj => ?_, fun j s' es' k s2 es2 h1 h2 hne => ?_, fun t t' k k' h1 h2 h3 => ?_, fun p hp => ?_, fun t k h1 => ?_, fun j s' es' hj id' hid' => ?_, ?_, h.frame, fun id' x h1 h2 => ?_, ⟨h.froz.1, fun q hq t k h1 => ?_⟩⟩
  · simp only [updL, aget_updS] at h1
    obtain ⟨v, hv', rfl⟩ := Option.map_eq_some_iff.1 h1
    have hvd : v ≠ .dead := by rintro rfl; exact h2 rfl
    obtain ⟨a, h3, h4⟩ := h.slot t v hv' hvd
    refine ⟨a, h3, ?_⟩
    cases v with
    | own j2 s2 es2 =>
      simp only [LV.upd]
      split
      · rename_i e1
        split
        · rename_i e2
          subst e1
          simp only [SRel] at h4 ⊢
          rw [h4, own (.inl ⟨t, _, hv', rfl, rfl, rfl⟩) e2]
        · trivial
      · exact h4
    | ag cs =>
      obtain ⟨as_, h5, h6⟩ := h4
      exact ⟨as_, h5, cr (fun j s2 es2 hm => .inl ⟨t, _, hv', hm⟩) h6⟩
    | _ => exact h4
  · obtain ⟨cs, h2, rfl⟩ := hname h1
    obtain ⟨as_, h3, h4⟩ := h.locs t cs h2
    exact ⟨as_, h3, cr (fun j s2 es2 hm => .inr ⟨t, cs, h2, hm⟩) h4⟩
  · rcases vis_upd hj with ⟨rfl, rfl, rfl, _⟩ | ⟨hne, hj⟩
    · unfold MineT
      rw [if_pos hi]
      exact .inr ⟨id, hid, by simp only [Mem.setRow]; rw [List.getElem?_set_self hidl], he, hrow.2.2⟩
    · refine (h.tok j s' es' hj).mono (fun id' h1 x h2 => ?_)
      simp only [Mem.setRow]
      rw [List.getElem?_set_ne ?_]
      · exact h2
      · rintro rfl
        rcases h.apart i s es j s' es' hv hj (fun e => hne e.symm) with h3 | h3
        · rw [hid] at h3; cases h3
        · exact h3 (by rw [hid, h1])
  · have up : ∀ {j s' es'}, Vis (updL i s es1 L) j s' es' → ∃ s2 es2, Vis L j s2 es2 := by
      intro j s' es' hj
      rcases vis_upd hj with ⟨rfl, _, _, es2, h5⟩ | ⟨_, hj⟩
      · exact ⟨_, _, h5⟩
      · exact ⟨_, _, hj⟩
    obtain ⟨a1, b1, g1⟩ := up h1
    obtain ⟨a2, b2, g2⟩ := up h2
    exact h.apart _ _ _ _ _ _ g1 g2 hne
  · obtain ⟨_, g1, _⟩ := hname h1
    obtain ⟨_, g2, _⟩ := hname h2
    exact h.inj _ _ _ _ g1 g2 h3
  · obtain ⟨⟨k, h1⟩, h2⟩ := h.bor p hp
    refine ⟨⟨k.map (CV.upd i s es1), ?_⟩, h2⟩
    simp only [updL, aget_updN, h1, Option.map_some]
  · obtain ⟨_, g1, _⟩ := hname h1
    exact h.low _ _ g1
  · rcases vis_upd hj with ⟨rfl, _, _, es2, h5⟩ | ⟨_, hj⟩
    · exact h.rlow _ _ _ h5 id' hid'
    · exact h.rlow _ _ _ hj id' hid'
  · have := h.len
    simpa [Mem.setRow] using this
  · simp only [Mem.setRow]
    rw [List.getElem?_set_ne ?_]
    · exact h.rframe id' x h1 h2
    · rintro rfl
      rcases h.rlow i s es hv id hid with h3 | h3
      · have := (List.getElem?_eq_some_iff.1 h1).1; omega
      · exact h2 h3
  · obtain ⟨_, g1, _⟩ := hname h1
    exact h.froz.2 q hq _ _ g1
theorem turnE_spec {e e' : AV} {off : Nat} {ys : List AV} (h : turnE e off ys = some e') : off + ys.length ≤ e.cells.length ∧ e'.cells = splice e.cells off ys := by
  cases e with
  | agg cs =>
    simp only [turnE] at h
    split at h
    · rename_i hc
      injection h with h; subst h
      exact ⟨hc.1, rfl⟩
    · cases h
  | _ =>
    simp only [turnE] at h
    split at h
    · rename_i y
      split at h
      · rename_i hc
        injection h with h; subst h
        obtain ⟨rfl, _, hy⟩ := hc
        have hyc : y.cells = [y] := by cases y <;> first | rfl | cases hy
        exact ⟨by simp [AV.cells], by rw [hyc]; simp [splice, AV.cells]⟩
      · cases h
    · cases h
theorem splice_mid {A C B ys : List AV} {n off : Nat} (hA : A.length = n) (hy : off + ys.length ≤ C.length) : splice (A ++ (C ++ B)) (n + off) ys = A ++ (splice C off ys ++ B) := by
  subst hA
  unfold splice
  rw [List.take_append, List.take_of_length_le (by omega), show A.length + off - A.length = off by omega, List.take_append, show off - C.length = 0 by omega, List.take_zero, List.append_nil]
  rw [List.drop_append, List.drop_of_length_le (by omega), List.nil_append, show A.length + off + ys.length - A.length = off + ys.length by omega, List.drop_append, show off + ys.length - C.length = 0 by omega, List.drop_zero]
  simp [List.append_assoc]
theorem flatC_set {es : List AV} {s k off : Nat} {e e' : AV} {ys : List AV} (hs : ∀ e ∈ es, e.cells.length = s) (hk : es[k]? = some e) (hy : off + ys.length ≤ e.cells.length) (he : e'.cells = splice e.cells off ys) : flatC (es.set k e') = splice (flatC es) (k * s + off) ys ∧ k * s + off + ys.length ≤ (flatC es).length := by
  obtain ⟨hkl, hke⟩ := List.getElem?_eq_some_iff.1 hk
  have hes : e.cells.length = s := hs e (List.mem_of_getElem? hk)
  have e1 : es = es.take k ++ e :: es.drop (k + 1) := by
    conv => lhs; rw [← List.take_append_drop k es, List.drop_eq_getElem_cons hkl, hke]
  have e2 : es.set k e' = es.take k ++ e' :: es.drop (k + 1) := List.set_eq_take_append_cons_drop.trans (if_pos hkl)
  have hlen : (flatC (es.take k)).length = k * s := by
    rw [flatC_length (fun e h => hs e (List.mem_of_mem_take h)), List.length_take, Nat.min_eq_left (by omega)]
  have f1 : flatC es = flatC (es.take k) ++ (e.cells ++ flatC (es.drop (k + 1))) := by
    conv => lhs; rw [e1]
    simp [flatC]
  have f2 : flatC (es.set k e') = flatC (es.take k) ++ (e'.cells ++ flatC (es.drop (k + 1))) := by
    rw [e2]; simp [flatC]
  have f3 : k * s + off + ys.length ≤ (flatC es).length := by
    rw [f1, List.length_append, List.length_append, hlen]; omega
  refine ⟨?_, f3⟩
  rw [f2, he]
  rw [f1]
  exact (splice_mid hlen hy).symm
def LV.plain : LV → Bool
  | .dead => false
  | _ => true
theorem RelW.levalA (h : RelW P fr ℓ ρ c L env m) {x : Operand} {v : LV} (hx : levalA L x = some v) : v.plain = true ∧ (∃ a, aeval env x = some a ∧ SRel P fr ℓ ρ v a) ∧ ∀ i s es, v.has i s es → Vis L i s es := by
  cases x with
  | tmp t =>
    simp only [G.levalA] at hx
    obtain ⟨u, h1, h2⟩ := bind_some' hx
    have hd : u ≠ .dead := by rintro rfl; cases h2
    obtain ⟨a, h3, h4⟩ := h.slot t u h1 hd
    have e : u = v := by cases u <;> simp only [LV.any] at h2 <;> first | exact absurd rfl hd | (injection h2)
    subst e
    exact ⟨by cases u <;> first | rfl | exact absurd rfl hd, ⟨a, h3, h4⟩, fun i s es hh => .inl ⟨t, _, h1, hh⟩⟩
  | const v =>
    simp only [G.levalA] at hx
    cases hc : constAV v with
    | none => rw [hc] at hx; cases hx
    | some a => rw [hc] at hx; injection hx with hx; subst hx; exact ⟨rfl, ⟨a, hc, rfl⟩, fun i s es hh => hh.elim⟩
  | func f =>
    simp only [G.levalA] at hx
    injection hx with hx; subst hx
    exact ⟨rfl, ⟨_, rfl, rfl⟩, fun i s es hh => hh.elim⟩
  | global k =>
    simp only [G.levalA] at hx
    cases hc : tabAV k with
    | none => rw [hc] at hx; cases hx
    | some a => rw [hc] at hx; injection hx with hx; subst hx; exact ⟨rfl, ⟨a, hc, rfl⟩, fun i s es hh => hh.elim⟩

theorem lput_N {dst : Option Tmp} {v : LV} : (lput L dst v).N = L.N := by cases dst <;> rfl
theorem lget_put_ne {dst : Option Tmp} {v : LV} {t : Nat} (h : dst ≠ some t) : aget (lput L dst v).S t = aget L.S t := by
  cases dst with
  | none => rfl
  | some d => simp only [lput, aget]; rw [if_neg (by rintro rfl; exact h rfl)]
theorem lget_put_self {d : Nat} {v : LV} : aget (lput L (some d) v).S d = some v := by simp [lput, aget]
theorem vis_put {dst : Option Tmp} {v : LV} {i s : Nat} {es : List AV} (hv : ∀ i s es, v.has i s es → Vis L i s es) (h : Vis (lput L dst v) i s es) : Vis L i s es := by
  rcases h with ⟨t, u, h1, h2⟩ | ⟨t, cs, h1, h2⟩
  · by_cases e : dst = some t
    · subst e
      rw [lget_put_self] at h1
      injection h1 with h1; subst h1; exact hv _ _ _ h2
    · rw [lget_put_ne e] at h1; exact .inl ⟨t, u, h1, h2⟩
  · rw [lput_N] at h1; exact .inr ⟨t, cs, h1, h2⟩
theorem aput_get {dst : Option Tmp} {d a : AV} {t : Nat} (h : dst ≠ some t) (ha : env[t]? = some a) : (aput env dst d)[t]? = some a := by
  cases dst with
  | none => exact ha
  | some t' => simp only [aput]; rw [List.getElem?_set_ne (by rintro rfl; exact h rfl)]; exact ha
def DstOk (env : List AV) (dst : Option Tmp) : Prop := ∀ t, dst = some t → t < env.length
theorem RelW.put (h : RelW P fr ℓ ρ c L env m) {dst : Option Tmp} {v : LV} {a : AV} (hv : SRel P fr ℓ ρ v a) (hh : ∀ i s es, v.has i s es → Vis L i s es) (hd : DstOk env dst) : RelW P fr ℓ ρ c (lput L dst v) (aput env dst a) m where
  mode := h.mode
  slot := fun t u h1 h2 => by
    by_cases e : dst = some t
    · subst e
      rw [lget_put_self] at h1
      injection h1 with h1; subst h1
      exact ⟨a, by simp only [aput]; rw [List.getElem?_set_self (hd t rfl)], hv⟩
    · rw [lget_put_ne e] at h1
      obtain ⟨b, h3, h4⟩ := h.slot t u h1 h2
      exact ⟨b, aput_get e h3, h4⟩
  locs := fun t cs h1 => by rw [lput_N] at h1; exact h.locs t cs h1
  tok := fun i s es hx => h.tok i s es (vis_put hh hx)
  apart := fun i s es j s' es' h1 h2 => h.apart i s es j s' es' (vis_put hh h1) (vis_put hh h2)
  inj := fun t t' cs cs' h1 h2 => by rw [lput_N] at h1 h2; exact h.inj t t' cs cs' h1 h2
  bor := fun p hp => by rw [lput_N]; exact h.bor p hp
  low := fun t cs h1 => by rw [lput_N] at h1; exact h.low t cs h1
  rlow := fun i s es hx => h.rlow i s es (vis_put hh hx)
  len := h.len
  frame := h.frame
  rframe := h.rframe
  froz := ⟨h.froz.1, fun q hq t cs h1 => by rw [lput_N] at h1; exact h.froz.2 q hq t cs h1⟩

/-- What comes of an operation. -/
def LopPost (P : Program) (ℓ : Nat → Nat) (c : LCtx) (L : LEnv) (env : List AV) (m : Mem) (op : Op) (dst : Option Tmp) (pos : LPos) (v : LV) (L1 : LEnv) (pd : List Nat) : Prop :=
  ∃ d m1 fr' ℓ' ρ', aop P op env m = some (d, m1) ∧ RelW P fr' ℓ' ρ' c (lput L1 dst v) (aput env dst d) m1 ∧ (pos.early = true → Ext m m1) ∧
    (∀ t ∈ pos.pend, (∃ cs, aget L.N t = some cs) → ℓ' t = ℓ t ∧ m1.boxes[ℓ t]? = m.boxes[ℓ t]? ∧ ∃ cs, aget L1.N t = some cs) ∧
    (∀ t a, op = .load t a → m1 = m ∧ ℓ' = ℓ ∧ L1 = L ∧ (pos.late = true → ∃ p, aeval env a = some p ∧ aload P m t p = some d ∧ ((∃ e off, p = .eptr e off) ∨ ∃ t' off, t' ∈ pd ∧ p = .ptr (ℓ t') off)) ∧ ∀ t' ∈ pd, ∃ cs, aget L.N t' = some cs)

theorem LopPost.same (h : RelW P fr ℓ ρ c L env m) {op : Op} {dst : Option Tmp} {pos : LPos} {v : LV} {a : AV} {pd : List Nat} (ho : aop P op env m = some (a, m)) (hv : SRel P fr ℓ ρ v a) (hh : ∀ i s es, v.has i s es → Vis L i s es) (hd : DstOk env dst)
    (hl : ∀ t x, op = .load t x → (pos.late = true → ∃ p, aeval env x = some p ∧ aload P m t p = some a ∧ ((∃ e off, p = .eptr e off) ∨ ∃ t' off, t' ∈ pd ∧ p = .ptr (ℓ t') off)) ∧ ∀ t' ∈ pd, ∃ cs, aget L.N t' = some cs) : LopPost P ℓ c L env m op dst pos v L pd := by
  refine ⟨a, m, fr, ℓ, ρ, ho, h.put hv hh hd, fun _ => Ext.refl _, fun t ht ⟨cs, hc⟩ => ⟨rfl, rfl, cs, hc⟩, fun t x e => ⟨rfl, rfl, rfl, hl t x e⟩⟩
theorem LopPost.pure (h : RelW P fr ℓ ρ c L env m) {op : Op} {dst : Option Tmp} {pos : LPos} {v : LV} {L1 : LEnv} {pd : List Nat} {x : Option AV} (hx : lpure L x = some (v, L1, pd)) (ho : ∀ a, x = some a → aop P op env m = some (a, m)) (hnl : ∀ t y, op ≠ .load t y) (hd : DstOk env dst) : LopPost P ℓ c L env m op dst pos v L1 pd := by
  cases hx' : x with
  | none => rw [hx'] at hx; cases hx
  | some a =>
    rw [hx'] at hx
    simp only [lpure, Option.map_some] at hx
    injection hx with hx; injection hx with h1 h2; injection h2 with h2 h3; subst h1 h2 h3
    exact .same h (ho a hx') rfl (fun i s es hh => hh.elim) hd (fun t y e => absurd e (hnl t y))
theorem lsame_inv {x : Option LV} {v : LV} {L1 : LEnv} {pd : List Nat} (hx : lsame L x = some (v, L1, pd)) : x = some v ∧ L1 = L ∧ pd = [] := by
  cases x with
  | none => cases hx
  | some a =>
    simp only [lsame, Option.map_some] at hx
    injection hx with hx; injection hx with h1 h2; injection h2 with h2 h3
    exact ⟨by rw [h1], h2.symm, h3.symm⟩

theorem crel_lv {cc : CV} {v : LV} {a : AV} (h : cc.lv = some v) (hr : CRel ℓ ρ cc a) : SRel P fr ℓ ρ v a ∧ ∀ i s es, v.has i s es → cc = .own i s es := by
  cases cc <;> simp only [CV.lv] at h <;> try cases h
  · exact ⟨hr, fun i s es hh => hh.elim⟩
  · exact ⟨hr, fun i s es hh => by obtain ⟨rfl, rfl, rfl⟩ := hh; rfl⟩
  · exact ⟨hr, fun i s es hh => hh.elim⟩
theorem crels_slice {cs : List CV} {as_ : List AV} (h : CRels ℓ ρ cs as_) (off n : Nat) : CRels ℓ ρ ((cs.drop off).take n) ((as_.drop off).take n) := by
  obtain ⟨h1, h2⟩ := h
  refine ⟨by simp [h1], fun j c a hj ha => ?_⟩
  rw [List.getElem?_take] at hj ha
  split at hj
  · rw [if_pos (by assumption)] at ha
    rw [List.getElem?_drop] at hj ha
    exact h2 _ c a hj ha
  · cases hj
theorem mapM_val {cs : List CV} {as_ l : List AV} (h : CRels ℓ ρ cs as_) (hl : cs.mapM CV.val = some l) : as_ = l := by
  induction cs generalizing as_ l with
  | nil => simp at hl; subst hl; have := h.1; simpa using this
  | cons c cs ih =>
    simp only [List.mapM_cons, Option.pure_def, Option.bind_eq_bind] at hl
    obtain ⟨a, h1, hl⟩ := bind_some' hl
    obtain ⟨l2, h2, hl⟩ := bind_some' hl
    injection hl with hl; subst hl
    cases as_ with
    | nil => have := h.1; simp at this
    | cons b as_ =>
      have e1 := ih (as_ := as_) ⟨by simpa using h.1, fun j c a hj ha => h.2 (j + 1) c a (by simpa using hj) (by simpa using ha)⟩ h2
      have e2 := h.2 0 c b rfl rfl
      cases c <;> simp only [CV.val] at h1 <;> try cases h1
      simp only [CRel] at e2
      rw [e1, e2]
theorem mkAg_rel {cs : List CV} {as_ : List AV} (h : CRels ℓ ρ cs as_) : SRel P fr ℓ ρ (mkAg cs) (.agg as_) ∧ ∀ i s es, (mkAg cs).has i s es → CV.own i s es ∈ cs := by
  unfold mkAg
  split
  · rename_i l hl
    exact ⟨by (show AV.agg as_ = AV.agg l; rw [mapM_val h hl]), fun i s es hh => hh.elim⟩
  · exact ⟨⟨as_, rfl, h⟩, fun i s es hh => hh⟩
theorem lsub_ok {t : TypeId} {cs : List CV} {as_ : List AV} {off : Nat} {v : LV} (h : lsub P t cs off = some v) (hr : CRels ℓ ρ cs as_) : ∃ a, subAV P t as_ off = some a ∧ SRel P fr ℓ ρ v a ∧ ∀ i s es, v.has i s es → CV.own i s es ∈ cs := by
  unfold lsub at h
  unfold subAV
  split at h
  · rename_i n h1 h2
    rw [h1, h2]
    dsimp only
    split at h
    · rename_i hlt
      injection h with h; subst h
      rw [if_pos (by rw [hr.1]; exact hlt)]
      obtain ⟨g2, g3⟩ := mkAg_rel (P := P) (fr := fr) (crels_slice hr off n)
      exact ⟨_, rfl, g2, fun i s es hh => List.mem_of_mem_drop (List.mem_of_mem_take (g3 i s es hh))⟩
    · cases h
  · rename_i n h1 h2
    rw [h1, h2]
    dsimp only
    obtain ⟨cc, hc, h⟩ := bind_some' h
    have hlt := (List.getElem?_eq_some_iff.1 hc).1
    have ha : as_[off]? = some (as_[off]'(by rw [hr.1]; exact hlt)) := List.getElem?_eq_getElem _
    obtain ⟨g2, g3⟩ := crel_lv (P := P) (fr := fr) h (hr.2 off cc _ hc ha)
    exact ⟨_, ha, g2, fun i s es hh => by rw [← g3 i s es hh]; exact List.mem_of_getElem? hc⟩
  · cases h

theorem lcells_ok {v : LV} {ys : List CV} {a : AV} (h : v.cells = some ys) (hr : SRel P fr ℓ ρ v a) : CRels ℓ ρ ys a.cells ∧ notTuple a = true ∧ ∀ i s es, CV.own i s es ∈ ys → v.has i s es := by
  have one : ∀ {x : CV} {b : AV}, b.cells = [b] → CRel ℓ ρ x b → CRels ℓ ρ [x] b.cells := by
    intro x b hb hx
    rw [hb]
    refine ⟨rfl, fun j c d hj hd => ?_⟩
    cases j with
    | zero => simp at hj hd; subst hj hd; exact hx
    | succ j => simp at hj
  cases v <;> simp only [LV.cells] at h <;> try cases h
  · rename_i x
    split at h
    · rename_i hn
      injection h with h; subst h
      simp only [SRel] at hr; subst hr
      refine ⟨⟨by simp, fun j c b hj hb => ?_⟩, hn, fun i s es hh => by simp at hh⟩
      rw [List.getElem?_map, hb] at hj
      injection hj with hj; subst hj; exact rfl
    · cases h
  · simp only [SRel] at hr; subst hr
    exact ⟨one (ownAV_cells _ _ _ _) rfl, ownAV_notTuple _ _ _ _, fun i s es hh => by simp at hh; obtain ⟨rfl, rfl, rfl⟩ := hh; exact ⟨rfl, rfl, rfl⟩⟩
  · obtain ⟨as_, rfl, hr⟩ := hr
    exact ⟨hr, rfl, fun i s es hh => hh⟩
  · simp only [SRel] at hr; subst hr
    exact ⟨one rfl rfl, rfl, fun i s es hh => by simp at hh⟩

/- A name that nothing tells of may be any box. -/
mutual
theorem LA.free_av {d : Nat} {ℓ ℓ' : Nat → Nat} (hℓ : ∀ t, t ≠ d → ℓ' t = ℓ t) : ∀ {x : LA}, LA.free d x = true → LA.av ℓ' x = LA.av ℓ x
  | .a x, _ => rfl
  | .p t, h => by simp only [LA.free, bne_iff_ne, ne_eq] at h; simp only [LA.av, hℓ t h]
  | .fn f first cap, h => by
    simp only [LA.free, Bool.and_eq_true] at h
    simp only [LA.av, LAs.free_av hℓ h.1, LAs.free_av hℓ h.2]
theorem LAs.free_av {d : Nat} {ℓ ℓ' : Nat → Nat} (hℓ : ∀ t, t ≠ d → ℓ' t = ℓ t) : ∀ {l : List LA}, LAs.free d l = true → LAs.av ℓ' l = LAs.av ℓ l
  | [], _ => rfl
  | x :: l, h => by
    simp only [LAs.free, Bool.and_eq_true] at h
    simp only [LAs.av, LA.free_av hℓ h.1, LAs.free_av hℓ h.2]
end
theorem crel_free {d : Nat} {ℓ' : Nat → Nat} (hℓ : ∀ t, t ≠ d → ℓ' t = ℓ t) {x : CV} {a : AV} (hf : x.free d = true) (h : CRel ℓ ρ x a) : CRel ℓ' ρ x a := by
  cases x with
  | fn f first cap =>
    simp only [CV.free, Bool.and_eq_true] at hf
    simp only [CRel] at h ⊢
    rw [LAs.free_av hℓ hf.1, LAs.free_av hℓ hf.2]; exact h
  | _ => exact h
theorem CVs.free_mem {d : Nat} : ∀ {cs : List CV}, CVs.free d cs = true → ∀ x ∈ cs, x.free d = true := by
  intro cs
  induction cs with
  | nil => intro _ x hx; cases hx
  | cons y l ih =>
    intro h x hx
    simp only [CVs.free, Bool.and_eq_true] at h
    rcases List.mem_cons.1 hx with rfl | hx
    · exact h.1
    · exact ih h.2 x hx
theorem crels_free {d : Nat} {ℓ' : Nat → Nat} (hℓ : ∀ t, t ≠ d → ℓ' t = ℓ t) {cs : List CV} {as_ : List AV} (hf : CVs.free d cs = true) (h : CRels ℓ ρ cs as_) : CRels ℓ' ρ cs as_ :=
  ⟨h.1, fun j x a hj ha => crel_free hℓ (CVs.free_mem hf x (List.mem_of_getElem? hj)) (h.2 j x a hj ha)⟩
theorem srel_free {d : Nat} {ℓ' : Nat → Nat} (hℓ : ∀ t, t ≠ d → ℓ' t = ℓ t) {v : LV} {a : AV} (hf : v.free d = true) (h : SRel P fr ℓ ρ v a) : SRel P fr ℓ' ρ v a := by
  cases v with
  | lref t off => simp only [LV.free, bne_iff_ne, ne_eq] at hf; simp only [SRel] at h ⊢; rw [hℓ t hf]; exact h
  | fn f first cap =>
    simp only [LV.free, Bool.and_eq_true] at hf
    simp only [SRel] at h ⊢
    rw [LAs.free_av hℓ hf.1, LAs.free_av hℓ hf.2]; exact h
  | ag cs => obtain ⟨as_, h1, h2⟩ := h; exact ⟨as_, h1, crels_free hℓ hf h2⟩
  | _ => exact h
theorem freeS_get {d : Nat} : ∀ {S : List (Nat × LV)}, freeS d S = true → ∀ t v, aget S t = some v → v.free d = true := by
  intro S
  induction S with
  | nil => intro _ t v h; cases h
  | cons x S ih =>
    obtain ⟨t0, v0⟩ := x
    intro h t v hv
    simp only [freeS, Bool.and_eq_true] at h
    simp only [aget] at hv
    split at hv
    · injection hv with hv; subst hv; exact h.1
    · exact ih h.2 t v hv
theorem freeN_get {d : Nat} : ∀ {N : List (Nat × List CV)}, freeN d N = true → ∀ t cs, aget N t = some cs → t ≠ d ∧ CVs.free d cs = true := by
  intro N
  induction N with
  | nil => intro _ t v h; cases h
  | cons x N ih =>
    obtain ⟨t0, v0⟩ := x
    intro h t cs hv
    simp only [freeN, Bool.and_eq_true, bne_iff_ne, ne_eq] at h
    simp only [aget] at hv
    split at hv
    · rename_i e; subst e; injection hv with hv; subst hv; exact ⟨h.1, h.2.1⟩
    · exact ih h.2.2 t cs hv

theorem RelW.boxLt (h : RelW P fr ℓ ρ c L env m) {t : Nat} {cs : List CV} (ht : aget L.N t = some cs) : ℓ t < m.boxes.length := by
  obtain ⟨as_, h1, _⟩ := h.locs t _ ht
  exact (List.getElem?_eq_some_iff.1 h1).1
theorem vis_var {t : Nat} {cs : List CV} (hvis : ∀ i s es, CV.own i s es ∈ cs → Vis L i s es) {i s : Nat} {es : List AV} (h : Vis (lvar L t cs) i s es) : Vis L i s es := by
  rcases h with h | ⟨t', ds, h1, h2⟩
  · exact .inl h
  · simp only [lvar, aget] at h1
    split at h1
    · injection h1 with h1; subst h1; exact hvis _ _ _ h2
    · exact .inr ⟨t', ds, h1, h2⟩

/-- A new variable. -/
theorem RelW.alloc (h : RelW P fr ℓ ρ c L env m) {d : Nat} {cs : List CV} {as_ : List AV} (hok : allocOk d L = true) (hro : d < roName) (hcr : CRels ℓ ρ cs as_) (hf : CVs.free d cs = true) (hvis : ∀ i s es, CV.own i s es ∈ cs → Vis L i s es) :
    RelW P fr (fun x => if x = d then m.boxes.length else ℓ x) ρ c (lvar L d cs) env (m.push (.cells as_)) := by
  simp only [allocOk, Bool.and_eq_true] at hok
  have hS := freeS_get hok.1
  have hN := freeN_get hok.2
  have hℓ : ∀ t, t ≠ d → (fun x => if x = d then m.boxes.length else ℓ x) t = ℓ t := fun t ht => if_neg ht
  have old : ∀ {l : Nat} {b : ABox}, m.boxes[l]? = some b → (m.push (.cells as_)).boxes[l]? = some b := by
    intro l b hb
    simp only [Mem.push]; rw [List.getElem?_append_left (List.getElem?_eq_some_iff.1 hb).1]; exact hb
  have key : ∀ {t : Nat} {k : List CV}, aget (lvar L d cs).N t = some k → (t = d ∧ k = cs) ∨ (t ≠ d ∧ aget L.N t = some k) := by
    intro t k h1
    simp only [lvar, aget] at h1
    split at h1
    · rename_i e; injection h1 with h1; exact .inl ⟨e.symm, h1.symm⟩
    · rename_i e; exact .inr ⟨fun e' => e e'.symm, h1⟩
  refine ⟨h.mode, fun t u h1 h2 => ?_, fun t k h1 => ?_, fun i s es hh => h.tok i s es (vis_var hvis hh), fun i s es j s' es' h1 h2 => h.apart i s es j s' es' (vis_var hvis h1) (vis_var hvis h2), fun t t' k k' h1 h2 h3 => ?_, fun p hp => ?_, fun t k h1 => ?_, fun i s es hh => h.rlow i s es (vis_var hvis hh), ⟨Nat.le_trans h.len.1 (by simp [Mem.push]), h.len.2⟩, fun l b h1 h2 => old (h.frame l b h1 h2), h.rframe, fun q hq => old (h.froz.1 q hq), fun q hq t k h1 => ?_⟩
  · obtain ⟨a, h3, h4⟩ := h.slot t u h1 h2
    exact ⟨a, h3, srel_free hℓ (hS t u h1) h4⟩
  · rcases key h1 with ⟨rfl, rfl⟩ | ⟨h2, h3⟩
    · exact ⟨as_, by simp [Mem.push], crels_free hℓ hf hcr⟩
    · obtain ⟨as', h4, h5⟩ := h.locs t k h3
      simp only [if_neg h2]
      exact ⟨as', old h4, crels_free hℓ (hN t k h3).2 h5⟩
  · rcases key h1 with ⟨rfl, rfl⟩ | ⟨h4, h5⟩
    · rcases key h2 with ⟨rfl, rfl⟩ | ⟨h6, h7⟩
      · rfl
      · have := h.boxLt h7
        simp only [if_true, if_neg h6] at h3
        omega
    · rcases key h2 with ⟨rfl, rfl⟩ | ⟨h6, h7⟩
      · have := h.boxLt h5
        simp only [if_true, if_neg h4] at h3
        omega
      · simp only [if_neg h4, if_neg h6] at h3
        exact h.inj t t' k k' h5 h7 h3
  · obtain ⟨⟨k, h1⟩, h2⟩ := h.bor p hp
    have hne := (hN _ k h1).1
    refine ⟨⟨k, ?_⟩, by simp only [if_neg hne]; exact h2⟩
    simp only [lvar, aget]; rw [if_neg (fun e => hne e.symm)]; exact h1
  · rcases key h1 with ⟨rfl, rfl⟩ | ⟨h2, h3⟩
    · left; simp only [if_true]; exact h.len.1
    · simp only [if_neg h2]; exact h.low t k h3
  · rcases key h1 with ⟨rfl, rfl⟩ | ⟨h2, h3⟩
    · have := (List.getElem?_eq_some_iff.1 (h.froz.1 q hq)).1
      simp only [if_true]; omega
    · simp only [if_neg h2]; exact h.froz.2 q hq t k h3
theorem LopPost.alloc (h : RelW P fr ℓ ρ c L env m) {op : Op} {dst : Option Tmp} {pos : LPos} {v : LV} {L1 : LEnv} {pd : List Nat} {x : Option (List CV)} (hx : lbox dst L x = some (v, L1, pd)) (ho : ∀ cs, x = some cs → ∃ as_, aop P op env m = some (.ptr m.boxes.length 0, m.push (.cells as_)) ∧ CRels ℓ ρ cs as_ ∧ (∀ d, allocOk d L = true → CVs.free d cs = true) ∧ ∀ i s es, CV.own i s es ∈ cs → Vis L i s es) (hnl : ∀ t y, op ≠ .load t y) (hd : DstOk env dst) : LopPost P ℓ c L env m op dst pos v L1 pd := by
  cases dst with
  | none => cases hx
  | some d =>
    simp only [lbox] at hx
    split at hx
    · rename_i hok
      simp only [Bool.and_eq_true, decide_eq_true_eq] at hok
      cases hx' : x with
      | none => rw [hx'] at hx; cases hx
      | some cs =>
        rw [hx'] at hx
        simp only [Option.map_some] at hx
        injection hx with hx; injection hx with h1 h2; injection h2 with h2 h3; subst h1 h2 h3
        obtain ⟨as_, hop, hcr, hf, hvis⟩ := ho cs hx'
        have hr := h.alloc hok.2 hok.1 hcr (hf d hok.2) hvis
        refine ⟨_, _, fr, _, ρ, hop, hr.put (v := .lref d 0) (by simp [SRel]) (fun i s es hh => hh.elim) hd, fun _ => Ext.push _ _, fun t ht ⟨k, hk⟩ => ⟨?_, ?_, ?_⟩, fun t y e => absurd e (hnl t y)⟩
        · have hN := hok.2
          simp only [allocOk, Bool.and_eq_true] at hN
          exact if_neg (freeN_get hN.2 t k hk).1
        · have := h.boxLt hk
          simp only [Mem.push]; rw [List.getElem?_append_left this]
        · simp only [lvar, aget]
          split
          · exact ⟨_, rfl⟩
          · exact ⟨k, hk⟩
    · cases hx

theorem crels_splice {cs ys : List CV} {as_ bs' : List AV} (h : CRels ℓ ρ cs as_) (k : CRels ℓ ρ ys bs') (off : Nat) : CRels ℓ ρ (spliceC cs off ys) (splice as_ off bs') := by
  obtain ⟨h1, h2⟩ := h
  obtain ⟨k1, k2⟩ := k
  unfold spliceC splice
  refine ⟨by simp [h1, k1], fun j c a hj ha => ?_⟩
  have e1 : (cs.take off ++ ys).length = (as_.take off ++ bs').length := by simp [h1, k1]
  have e2 : (cs.take off).length = (as_.take off).length := by simp [h1]
  by_cases hlt : j < (cs.take off ++ ys).length
  · rw [List.getElem?_append_left hlt] at hj
    rw [List.getElem?_append_left (by omega)] at ha
    by_cases hlt2 : j < (cs.take off).length
    · rw [List.getElem?_append_left hlt2] at hj
      rw [List.getElem?_append_left (by omega)] at ha
      rw [List.getElem?_take] at hj ha
      split at hj
      · rw [if_pos (by assumption)] at ha; exact h2 j c a hj ha
      · cases hj
    · rw [List.getElem?_append_right (by omega)] at hj ha
      rw [← e2] at ha
      exact k2 _ c a hj ha
  · rw [List.getElem?_append_right (by omega)] at hj ha
    rw [← e1] at ha
    rw [List.getElem?_drop] at hj ha
    rw [k1] at ha
    exact h2 _ c a hj ha
theorem mem_splice {cs ys : List CV} {off : Nat} {x : CV} (h : x ∈ spliceC cs off ys) : x ∈ cs ∨ x ∈ ys := by
  unfold spliceC at h
  rcases List.mem_append.1 h with h | h
  · rcases List.mem_append.1 h with h | h
    · exact .inl (List.mem_of_mem_take h)
    · exact .inr h
  · exact .inl (List.mem_of_mem_drop h)

/-- A variable turns. -/
theorem RelW.setVar (h : RelW P fr ℓ ρ c L env m) {t' : Nat} {cs ds : List CV} {as_ : List AV} (hl : aget L.N t' = some cs) (hro : t' < roName) (hcr : CRels ℓ ρ ds as_) (hvis : ∀ i s es, CV.own i s es ∈ ds → Vis L i s es) : RelW P fr ℓ ρ c (lvar L t' ds) env (m.set (ℓ t') (.cells as_)) := by
  have hlt := h.boxLt hl
  have key : ∀ {t : Nat} {k : List CV}, aget (lvar L t' ds).N t = some k → (t = t' ∧ k = ds) ∨ (t ≠ t' ∧ aget L.N t = some k) := by
    intro t k h1
    simp only [lvar, aget] at h1
    split at h1
    · rename_i e; injection h1 with h1; exact .inl ⟨e.symm, h1.symm⟩
    · rename_i e; exact .inr ⟨fun e' => e e'.symm, h1⟩
  have key2 : ∀ {t : Nat} {k : List CV}, aget (lvar L t' ds).N t = some k → ∃ k', aget L.N t = some k' := by
    intro t k h1
    rcases key h1 with ⟨rfl, _⟩ | ⟨_, h2⟩
    · exact ⟨_, hl⟩
    · exact ⟨_, h2⟩
  have other : ∀ {l : Nat} {b : ABox}, m.boxes[l]? = some b → ℓ t' ≠ l → (m.set (ℓ t') (.cells as_)).boxes[l]? = some b := by
    intro l b hb hne
    simp only [Mem.set]; rw [List.getElem?_set_ne hne]; exact hb
  refine ⟨h.mode, h.slot, fun t k h1 => ?_, fun i s es g => h.tok i s es (vis_var hvis g), fun i s es j s' es' g1 g2 => h.apart i s es j s' es' (vis_var hvis g1) (vis_var hvis g2), fun t t1 k k1 h1 h2 h3 => ?_, fun p hp => ?_, fun t k h1 => ?_, fun i s es g => h.rlow i s es (vis_var hvis g), ⟨by simp only [Mem.set, List.length_set]; exact h.len.1, h.len.2⟩, fun l b h1 h2 => ?_, h.rframe, fun q hq => ?_, fun q hq t k h1 => ?_⟩
  · rcases key h1 with ⟨rfl, rfl⟩ | ⟨h2, h3⟩
    · exact ⟨as_, by simp only [Mem.set]; rw [List.getElem?_set_self hlt], hcr⟩
    · obtain ⟨as', h4, h5⟩ := h.locs t k h3
      exact ⟨as', other h4 (fun e => h2 (h.inj t' t _ _ hl h3 e).symm), h5⟩
  · obtain ⟨k', g1⟩ := key2 h1
    obtain ⟨k1', g2⟩ := key2 h2
    exact h.inj t t1 _ _ g1 g2 h3
  · obtain ⟨⟨k, h1⟩, h2⟩ := h.bor p hp
    refine ⟨?_, h2⟩
    simp only [lvar, aget]
    split
    · exact ⟨_, rfl⟩
    · exact ⟨k, h1⟩
  · obtain ⟨k', g1⟩ := key2 h1
    exact h.low t k' g1
  · refine other (h.frame l b h1 h2) (fun e => ?_)
    rcases h.low t' cs hl with h3 | ⟨p, hp, h3⟩ | h3
    · have := (List.getElem?_eq_some_iff.1 h1).1; omega
    · obtain ⟨⟨k, g1⟩, g2⟩ := h.bor p hp
      have := h.inj p.1 t' k cs g1 hl (g2.trans h3)
      exact h2 p hp (by omega) (h3.trans e)
    · omega
  · exact other (h.froz.1 q hq) (h.froz.2 q hq t' cs hl)
  · obtain ⟨k', g1⟩ := key2 h1
    exact h.froz.2 q hq t k' g1

/-- A store into a variable. -/
theorem LopPost.store (h : RelW P fr ℓ ρ c L env m) {t : TypeId} {x y : Operand} {dst : Option Tmp} {pos : LPos} {v p u : LV} {L1 : LEnv} {pd : List Nat} (hx : levalA L x = some p) (hy : levalA L y = some u) (hs : lstore P t p u pos L = some (v, L1, pd)) (hd : DstOk env dst) : LopPost P ℓ c L env m (.store t x y) dst pos v L1 pd := by
  unfold lstore at hs
  split at hs
  · rename_i t' off
    split at hs
    · rename_i cs n hl hz
      obtain ⟨ys, hys, hs⟩ := bind_some' hs
      split at hs
      · rename_i hc
        obtain ⟨c0, c1, c2, c3, c4⟩ := hc
        injection hs with hs; injection hs with h1 h2; injection h2 with h2 h3; subst h1 h2 h3
        obtain ⟨_, ⟨a, ha, har⟩, _⟩ := h.levalA hx
        obtain ⟨_, ⟨b, hb, hbr⟩, hvis⟩ := h.levalA hy
        have hpt : a = .ptr (ℓ t') off := har
        subst hpt
        obtain ⟨as_, hbox, hcr⟩ := h.locs t' _ hl
        obtain ⟨hycr, hnt, hyown⟩ := lcells_ok hys hbr
        have hcond : b.cells.length = n ∧ off + n ≤ as_.length ∧ notTuple b = true := ⟨by rw [hycr.1]; exact c3, by rw [hcr.1]; exact c4, hnt⟩
        have hop : aop P (.store t x y) env m = some (.undef, m.set (ℓ t') (.cells (splice as_ off b.cells))) := by
          simp only [aop, ha, hb, Option.bind_some, astore, hbox, hz]
          rw [if_pos hcond]; rfl
        have hrel := h.setVar hl (of_decide_eq_true c0) (crels_splice hcr hycr off) (fun i s es g2 => by
          rcases mem_splice g2 with g2 | g2
          · exact .inr ⟨t', _, hl, g2⟩
          · exact hvis i s es (hyown i s es g2))
        refine ⟨.undef, _, fr, ℓ, ρ, hop, hrel.put (v := .v .undef) rfl (fun i s es hh => hh.elim) hd, fun he => (by rw [c1] at he; cases he), fun t0 ht0 ⟨k, hk⟩ => ⟨rfl, ?_, ?_⟩, fun t a e => by cases e⟩
        · have hne' : t' ≠ t0 := by
            rintro rfl
            rw [List.contains_iff_mem.2 ht0] at c2; cases c2
          simp only [Mem.set]
          rw [List.getElem?_set_ne (fun he => hne' (h.inj t' t0 _ _ hl hk he))]
        · simp only [lvar, aget]
          split
          · exact ⟨_, rfl⟩
          · exact ⟨k, hk⟩
      · cases hs
    · cases hs
  · rename_i i s k off
    split at hs
    · rename_i s' es n a hf hz
      split at hs
      · rename_i hc
        obtain ⟨c0, rfl, c1, c2, c3⟩ := hc
        obtain ⟨e, he, hs⟩ := bind_some' hs
        cases ht : turnE e off a.cells with
        | none => rw [ht] at hs; cases hs
        | some e' =>
          rw [ht] at hs
          simp only [Option.map_some] at hs
          injection hs with hs; injection hs with h1 h2; injection h2 with h2 h3; subst h1 h2 h3
          obtain ⟨_, ⟨ap, ha, id, hid, rfl⟩, _⟩ := h.levalA hx
          obtain ⟨_, ⟨b, hb, hbr⟩, _⟩ := h.levalA hy
          have hb2 : b = a := hbr
          subst hb2
          have hv : Vis L i s' es := findL_vis hf
          have hrow := MineT.vrow (by have := h.tok i s' es hv; rw [hid] at this; exact this) c0
          have hone := (hrow.2.1 e (List.mem_of_getElem? he))
          obtain ⟨t1, t2⟩ := turnE_spec ht
          obtain ⟨f1, f2⟩ := flatC_set hrow.2.1 he t1 t2
          have hop : aop P (.store t x y) env m = some (.undef, m.setRow id 0 (flatC (es.set k e'))) := by
            simp only [aop, ha, hb, Option.bind_some, astore, hrow.1, hz]
            rw [if_pos ⟨c2, by rw [← c2]; exact f2, c3⟩, f1]; rfl
          have he1 : ∀ z ∈ es.set k e', z.cells.length = s' := by
            intro z hz'
            rcases List.mem_or_eq_of_mem_set hz' with h5 | rfl
            · exact hrow.2.1 z h5
            · rw [t2, splice_length t1]; exact hone
          have hrel := h.turn hv c0 hid (by simp) he1
          refine ⟨.undef, _, fr, ℓ, ρ, hop, hrel.put (v := .v .undef) rfl (fun i s es hh => hh.elim) hd, fun he => (by rw [c1] at he; cases he), fun t0 ht0 ⟨k', hk'⟩ => ⟨rfl, rfl, ?_⟩, fun t a e => by cases e⟩
          simp only [updL, aget_updN, hk', Option.map_some]
          exact ⟨_, rfl⟩
      · cases hs
    · cases hs
  · cases hs
end
end Go.Proofs.YtdnnmopncndebaaDoor.G
set_option linter.unusedVariables false
set_option linter.unusedSectionVars false
set_option linter.unusedSimpArgs false
namespace Go.Proofs.YtdnnmopncndebaaDoor.G

variable [Mu]
section
variable {P : Program} {fr : Fro} {ℓ : Nat → Nat} {ρ : Nat → Own} {c : LCtx} {L : LEnv} {env : List AV} {m : Mem}

theorem killS_get {i d t : Nat} : ∀ {S : List (Nat × LV)}, aget (killS i d S) t = (aget S t).map (LV.kill i d) := by
  intro S
  induction S with
  | nil => rfl
  | cons x S ih =>
    obtain ⟨t0, v0⟩ := x
    simp only [killS, aget]
    split
    · rfl
    · exact ih
theorem killN_get {i d t : Nat} : ∀ {N : List (Nat × List CV)}, aget (killN i d N) t = (aget N t).map (·.map (CV.kill i d)) := by
  intro N
  induction N with
  | nil => rfl
  | cons x N ih =>
    obtain ⟨t0, v0⟩ := x
    simp only [killN, aget]
    split
    · rfl
    · exact ih
theorem mem_killC {i d j s : Nat} {es : List AV} {cs : List CV} (h : CV.own j s es ∈ cs.map (CV.kill i d)) : CV.own j s es ∈ cs ∧ j ≠ i ∧ j ≠ d := by
  obtain ⟨x, hc, he⟩ := List.mem_map.1 h
  cases x <;> simp only [CV.kill] at he
  · cases he
  · split at he
    · cases he
    · split at he
      · cases he
      · injection he with e1 e2 e3; subst e1 e2 e3
        exact ⟨hc, by assumption, by assumption⟩
  · cases he
  · cases he
theorem has_kill {i d j s : Nat} {es : List AV} {u : LV} (h : (u.kill i d).has j s es) : u.has j s es ∧ j ≠ i ∧ j ≠ d := by
  cases u <;> simp only [LV.kill] at h
  · exact h.elim
  · split at h
    · exact h.elim
    · split at h
      · exact h.elim
      · obtain ⟨rfl, rfl, rfl⟩ := h; exact ⟨⟨rfl, rfl, rfl⟩, by assumption, by assumption⟩
  · exact mem_killC h
  · exact h.elim
  · exact h.elim
  · exact h.elim
  · split at h
    · exact h.elim
    · split at h
      · exact h.elim
      · exact h.elim
  · split at h
    · exact h.elim
    · split at h
      · exact h.elim
      · exact h.elim
  · exact h.elim
theorem vis_kill {i d j s : Nat} {es : List AV} (h : Vis (killL i d L) j s es) : Vis L j s es ∧ j ≠ i ∧ j ≠ d := by
  rcases h with ⟨t, u, h1, h2⟩ | ⟨t, cs, h1, h2⟩
  · simp only [killL, killS_get] at h1
    cases hu : aget L.S t with
    | none => rw [hu] at h1; cases h1
    | some u0 =>
      rw [hu] at h1; injection h1 with h1; subst h1
      obtain ⟨h3, h4⟩ := has_kill h2
      exact ⟨.inl ⟨t, u0, hu, h3⟩, h4⟩
  · simp only [killL, killN_get] at h1
    cases hu : aget L.N t with
    | none => rw [hu] at h1; cases h1
    | some u0 =>
      rw [hu] at h1; injection h1 with h1; subst h1
      obtain ⟨h3, h4⟩ := mem_killC h2
      exact ⟨.inr ⟨t, u0, hu, h3⟩, h4⟩
theorem crels_kill {ρ' : Nat → Own} {i d : Nat} (hρ : ∀ j, j ≠ i → j ≠ d → ρ' j = ρ j) {cs : List CV} {as_ : List AV} (h : CRels ℓ ρ cs as_) : CRels ℓ ρ' (cs.map (CV.kill i d)) as_ := by
  refine ⟨by simp [h.1], fun j x a hj ha => ?_⟩
  rw [List.getElem?_map] at hj
  cases hc : cs[j]? with
  | none => rw [hc] at hj; cases hj
  | some c0 =>
    rw [hc] at hj; injection hj with hj; subst hj
    have := h.2 j c0 a hc ha
    cases c0 with
    | v x => exact this
    | own k s es =>
      simp only [CV.kill]
      split
      · trivial
      · split
        · trivial
        · simp only [CRel] at this ⊢; rw [hρ k (by assumption) (by assumption)]; exact this
    | fn f first cap => exact this
    | dead => trivial
theorem srel_kill {ρ' : Nat → Own} {i d : Nat} (hρ : ∀ j, j ≠ i → j ≠ d → ρ' j = ρ j) {u : LV} {a : AV} (h : SRel P fr ℓ ρ u a) : SRel P fr ℓ ρ' (u.kill i d) a := by
  cases u with
  | own k s es =>
    simp only [LV.kill]
    split
    · trivial
    · split
      · trivial
      · simp only [SRel] at h ⊢; rw [hρ k (by assumption) (by assumption)]; exact h
  | ag cs => obtain ⟨as_, h1, h2⟩ := h; exact ⟨as_, h1, crels_kill hρ h2⟩
  | vref k s k0 off =>
    simp only [LV.kill]
    split
    · trivial
    · split
      · trivial
      · simp only [SRel] at h ⊢; rw [hρ k (by assumption) (by assumption)]; exact h
  | vsub k s k0 n =>
    simp only [LV.kill]
    split
    · trivial
    · split
      · trivial
      · simp only [SRel] at h ⊢; rw [hρ k (by assumption) (by assumption)]; exact h
  | _ => exact h
theorem MineT.else {R R' : List (Option (Nat × List AV))} {i s : Nat} {own own' : Own} {es : List AV} (h : MineT R i own s es) (e : Else own' R R') (hne : own = .full ∨ own' ≠ own) : MineT R' i own s es := by
  refine h.mono (fun id hid x hx => ?_)
  rcases hne with hne | hne
  · rw [hid] at hne; cases hne
  · exact e id (by rw [← hid]; exact hne) x hx
theorem MineT.of {R : List (Option (Nat × List AV))} {i s : Nat} {own : Own} {es : List AV} (hi : isV i = false) (h : Mine R own es.length s) : MineT R i own s es := by
  unfold MineT
  rw [if_neg (by rw [hi]; simp)]; exact h
theorem sub_flat {t : TypeId} {es : List AV} {e u : AV} {s k off : Nat} (hs : ∀ e ∈ es, e.cells.length = s) (he : es[k]? = some e) (hu : subAV P t e.cells off = some u) : subAV P t (flatC es) (k * s + off) = some u := by
  obtain ⟨hkl, hke⟩ := List.getElem?_eq_some_iff.1 he
  have hes : e.cells.length = s := hs e (List.mem_of_getElem? he)
  have e1 : es = es.take k ++ e :: es.drop (k + 1) := by
    conv => lhs; rw [← List.take_append_drop k es, List.drop_eq_getElem_cons hkl, hke]
  have hlen : (flatC (es.take k)).length = k * s := by
    rw [flatC_length (fun e h => hs e (List.mem_of_mem_take h)), List.length_take, Nat.min_eq_left (by omega)]
  have f1 : flatC es = flatC (es.take k) ++ (e.cells ++ flatC (es.drop (k + 1))) := by
    conv => lhs; rw [e1]
    simp [flatC]
  unfold subAV at hu ⊢
  split at hu
  · rename_i n h1 h2
    split at hu
    · rename_i hle
      injection hu with hu; subst hu
      rw [if_pos (by rw [f1, List.length_append, List.length_append, hlen]; omega), f1]
      congr 2
      rw [List.drop_append, hlen, List.drop_of_length_le (by omega), List.nil_append, show k * s + off - k * s = off by omega, List.drop_append, List.take_append, List.length_drop, show n - (e.cells.length - off) = 0 by omega, List.take_zero, List.append_nil]
    · cases hu
  · rename_i h1 h2
    have hle := (List.getElem?_eq_some_iff.1 hu).1
    rw [f1, List.getElem?_append_right (by omega), hlen, show k * s + off - k * s = off by omega, List.getElem?_append_left hle]
    exact hu
  · cases hu
/-- An append to a row that is turned in place. -/
theorem append_vecT {P : Program} {B : List ABox} {R : List (Option (Nat × List AV))} {μ : TypeId → Bool} {t xt el el' s b i d : Nat} {own o : Own} {es ys : List AV} (h1 : elemT P t = some el) (h2 : elemT P xt = some el') (h3 : sizeT P el = some s) (h4 : bytesT P el = some b) (h5 : zsizeT P el = some s) (hμ : μ el = true)
    (hc : (decide (0 < s) && decide (0 < b)) = true) (hd : isV d = true) (hb : isB d = false) (hown : (own = .full ∧ (ys = [] → es = [])) ∨ (isV i = true ∧ MineT R i own s es)) (hlen : (es.length + ys.length) * b ≤ 140737488355328) (h6 : ∀ e ∈ es, e.cells.length = s) (h7 : ∀ e ∈ ys, e.cells.length = s) :
    ∃ own' R', aappend P ⟨B, R, μ⟩ t xt (if own = .full then .slice .full es else ownAV i s own es) (.slice o ys) = some (ownAV d s own' (es ++ ys), ⟨B, R', μ⟩) ∧ MineT R' d own' s (es ++ ys) ∧ Else own R R' ∧ (own' = own ∨ own' = .row R.length) ∧ R.length ≤ R'.length := by
  simp only [Bool.and_eq_true, decide_eq_true_eq] at hc
  have hcond : 0 < s ∧ 0 < b ∧ zsizeT P el = some s ∧ (es.length + ys.length) * b ≤ roomBytes' := ⟨hc.1, hc.2, h5, hlen⟩
  have h7' : ∀ e ∈ es ++ ys, e.cells.length = s := fun e he => (List.mem_append.1 he).elim (h6 e) (h7 e)
  have hmine : ∀ R' id, R'[id]? = some (some (0, flatC es ++ flatC ys)) → MineT R' d (.row id) s (es ++ ys) := by
    intro R' id h
    unfold MineT
    rw [if_pos hd]
    exact .inr ⟨id, rfl, by rw [h, flatC_append], h7', hc.1⟩
  have hres : ∀ id, ownAV d s (.row id) (es ++ ys) = .vec id 0 (es.length + ys.length) s .opn := by
    intro id
    simp only [ownAV, if_pos hd, List.length_append]
  by_cases hf : own = .full
  · subst hf
    rw [if_pos rfl]
    by_cases hy : ys = []
    · subst hy
      have he : es = [] := by
        rcases hown with ⟨_, h⟩ | ⟨hi, h⟩
        · exact h rfl
        · unfold MineT at h
          rw [if_pos hi] at h
          rcases h with h | ⟨id, h, _⟩
          · exact h.2
          · cases h
      subst he
      refine ⟨.full, R, ?_, ?_, fun _ _ x hx => hx, .inl rfl, Nat.le_refl _⟩
      · simp only [aappend, h1, hμ, if_true, aappendV, h2, h3, h4, cellsIn]
        simp only [ownAV, if_pos hd, hb, Bool.false_eq_true, if_false, List.append_nil, List.not_mem_nil, false_implies, implies_true, if_true, flatC, List.flatMap_nil, List.length_nil]
        rw [if_pos ⟨hc.1, hc.2, h5, by simp [roomBytes']⟩]
        rfl
      · unfold MineT
        rw [if_pos hd]
        exact .inl ⟨rfl, rfl⟩
    · have hyl : ys.length ≠ 0 := by simpa using hy
      refine ⟨.row R.length, R ++ [some (0, flatC es ++ flatC ys)], ?_, hmine _ _ (by simp), fun id _ x hx => ?_, .inr rfl, by simp⟩
      · simp only [aappend, h1, hμ, if_true, aappendV, h2, h3, h4, cellsIn]
        rw [if_pos h6, if_pos h7]
        dsimp only
        rw [if_pos hcond, if_neg hyl, hres]
        rfl
      · rw [List.getElem?_append_left (List.getElem?_eq_some_iff.1 hx).1]; exact hx
  · rw [if_neg hf]
    rcases hown with ⟨h, _⟩ | ⟨hi, hm⟩
    · exact absurd h hf
    · cases own with
      | full => exact absurd rfl hf
      | foreign => rcases hm.row with h | ⟨_, h, _⟩ <;> cases h
      | row id =>
        obtain ⟨g1, g2, g3⟩ := MineT.vrow hm hi
        have hx : ownAV i s (.row id) es = .vec id 0 es.length s .opn := by simp only [ownAV, if_pos hi]
        have hlf : (flatC es).length = es.length * s := flatC_length g2
        by_cases hy : ys = []
        · subst hy
          refine ⟨.row id, R, ?_, by rw [List.append_nil]; unfold MineT; rw [if_pos hd]; exact .inr ⟨id, rfl, g1, g2, g3⟩, fun _ _ x hx => hx, .inl rfl, Nat.le_refl _⟩
          rw [hx]
          simp only [aappend, aappendV, h1, h2, h3, h4, cellsIn, g1]
          rw [if_pos ⟨trivial, by rw [hlf]; omega⟩]
          simp only [List.not_mem_nil, false_implies, implies_true, if_true, List.length_nil]
          rw [if_pos (by simpa using hcond), List.append_nil]
          simp only [ownAV, if_pos hd, atrunc, g1]
          rw [Nat.zero_add, List.take_of_length_le (by rw [hlf]; exact Nat.le_refl _)]
          simp only [Mem.setRow]
          rw [show R.set id (some (0, flatC es)) = R from by
            apply List.ext_getElem?
            intro j
            rw [List.getElem?_set]
            split
            · rename_i e; subst e; rw [g1]; simp [(List.getElem?_eq_some_iff.1 g1).1]
            · rfl]
        · have hyl : ys.length ≠ 0 := by simpa using hy
          have hidl : id < R.length := (List.getElem?_eq_some_iff.1 g1).1
          refine ⟨.row R.length, R.set id none ++ [some (0, flatC es ++ flatC ys)], ?_, hmine _ _ (by simp), fun id' hne x hx => ?_, .inr rfl, by simp⟩
          · rw [hx]
            simp only [aappend, aappendV, h1, h2, h3, h4, cellsIn, g1]
            rw [if_pos ⟨trivial, by rw [hlf]; omega⟩, if_pos h7]
            dsimp only
            rw [if_pos hcond, if_neg hyl]
            simp only [avec, g1]
            have hno : ¬ 0 + (es.length + ys.length) * s ≤ (flatC es).length := by
              rw [hlf, Nat.add_mul]
              have : 0 < ys.length * s := Nat.mul_pos (by omega) g3
              omega
            rw [if_neg hno, if_true, hres]
            rw [List.drop_zero, List.take_of_length_le (by rw [hlf]; exact Nat.le_refl _)]
            simp only [Mem.pushRow, Mem.retire]
          · rw [List.getElem?_append_left (by simp; exact (List.getElem?_eq_some_iff.1 hx).1), List.getElem?_set_ne (fun e => hne (by rw [e]))]; exact hx
theorem map_some1 {α β : Type} {o : Option α} {f : α → β} {b : β} (h : o.map f = some b) : ∃ a, o = some a ∧ f a = b := by
  cases o with
  | none => cases h
  | some a => injection h with h; exact ⟨a, rfl, h⟩
/-- An append to a slice of one's own. -/
theorem LopPost.append (h : RelW P fr ℓ ρ c L env m) {op : Op} {dst : Option Tmp} {pos : LPos} {d i s : Nat} {own : Own} {es ys : List AV} {R' : List (Option (Nat × List AV))} {own' : Own}
    (hdst : ∃ d0, dst = some d0) (hop : aop P op env m = some (ownAV d s own' (es ++ ys), { m with rows := R' })) (hm : MineT R' d own' s (es ++ ys)) (hel : Else own m.rows R') (hown : own' = own ∨ own' = .row m.rows.length) (hlen : m.rows.length ≤ R'.length)
    (hsrc : own = .full ∨ (own = ρ i ∧ ∃ s0 es0, Vis L i s0 es0)) (hearly : pos.early = true → own = .full) (hnl : ∀ t y, op ≠ .load t y) (hd : DstOk env dst) : LopPost P ℓ c L env m op dst pos (.own d s (es ++ ys)) (killL i d L) [] := by
  obtain ⟨d0, hdst⟩ := hdst
  subst hdst
  have hρ : ∀ j, j ≠ i → j ≠ d → (fun k => if k = d then own' else ρ k) j = ρ j := fun j _ h2 => if_neg h2
  have hvis : ∀ j s0 es0, Vis (lput (killL i d L) (some d0) (.own d s (es ++ ys))) j s0 es0 → (j = d ∧ s0 = s ∧ es0 = es ++ ys) ∨ (Vis L j s0 es0 ∧ j ≠ i ∧ j ≠ d) := by
    rintro j s0 es0 (⟨t, u, h1, h2⟩ | ⟨t, cs, h1, h2⟩)
    · by_cases e : d0 = t
      · subst e
        rw [lget_put_self] at h1
        injection h1 with h1; subst h1
        obtain ⟨rfl, rfl, rfl⟩ := h2; exact .inl ⟨rfl, rfl, rfl⟩
      · rw [lget_put_ne (by rintro ⟨⟩; exact e rfl)] at h1
        exact .inr (vis_kill (.inl ⟨t, u, h1, h2⟩))
    · exact .inr (vis_kill (.inr ⟨t, cs, h1, h2⟩))
  have hrow : ∀ j s0 es0, Vis L j s0 es0 → j ≠ i → own' = .full ∨ own' ≠ ρ j := by
    intro j s0 es0 h1 h2
    rcases hown with rfl | rfl
    · rcases hsrc with h3 | ⟨h3, s1, es1, h4⟩
      · exact .inl h3
      · rw [h3]; exact h.apart i s1 es1 j s0 es0 h4 h1 (fun e => h2 e.symm)
    · right
      intro e
      rcases (h.tok j s0 es0 h1).row with h3 | ⟨id, h3, h4⟩
      · rw [h3] at e; cases e
      · rw [h3] at e; injection e with e; omega
  refine ⟨_, _, fr, ℓ, fun k => if k = d then own' else ρ k, hop, ⟨h.mode, fun t u h1 h2 => ?_, fun t cs h1 => ?_, fun j s0 es0 hh => ?_, fun j s0 es0 k s1 es1 h1 h2 hne => ?_, fun t t' k k' h1 h2 h3 => ?_, fun p hp => ?_, fun t k h1 => ?_, fun j s0 es0 hh id hid => ?_, ⟨h.len.1, Nat.le_trans h.len.2 hlen⟩, h.frame, fun id x h1 h2 => ?_, h.froz.1, fun q hq t k h1 => ?_⟩, fun he => ?_, fun t ht ⟨k, hk⟩ => ⟨rfl, rfl, ?_⟩, fun t y e => absurd e (hnl t y)⟩
  · by_cases e : t = d0
    · subst e
      rw [lget_put_self] at h1
      injection h1 with h1; subst h1
      exact ⟨_, by simp only [aput]; rw [List.getElem?_set_self (hd t rfl)], by simp [SRel]⟩
    · have hne : (some d0 : Option Tmp) ≠ some t := by rintro ⟨⟩; exact e rfl
      rw [lget_put_ne hne] at h1
      simp only [killL, killS_get] at h1
      cases hu : aget L.S t with
      | none => rw [hu] at h1; cases h1
      | some u0 =>
        rw [hu] at h1; injection h1 with h1; subst h1
        obtain ⟨a, h3, h4⟩ := h.slot t u0 hu (by rintro rfl; exact h2 rfl)
        exact ⟨a, aput_get hne h3, srel_kill hρ h4⟩
  · rw [lput_N] at h1
    simp only [killL, killN_get] at h1
    obtain ⟨k, hk, rfl⟩ := map_some1 h1
    obtain ⟨as_, h3, h4⟩ := h.locs t k hk
    exact ⟨as_, h3, crels_kill hρ h4⟩
  · rcases hvis j s0 es0 hh with ⟨rfl, rfl, rfl⟩ | ⟨h1, h2, h3⟩
    · simp only [if_true]; exact hm
    · simp only [if_neg h3]
      refine (h.tok j s0 es0 h1).else hel ?_
      rcases hsrc with h4 | ⟨h4, s1, es1, h5⟩
      · subst h4
        cases hj : ρ j with
        | full => exact .inl rfl
        | _ => exact .inr (by simp)
      · rcases h.apart j s0 es0 i s1 es1 h1 h5 h2 with h6 | h6
        · exact .inl h6
        · exact .inr (by rw [h4]; exact fun e => h6 e.symm)
  · rcases hvis j s0 es0 h1 with ⟨rfl, rfl, rfl⟩ | ⟨g1, g2, g3⟩
    · rcases hvis k s1 es1 h2 with ⟨rfl, rfl, rfl⟩ | ⟨k1, k2, k3⟩
      · exact absurd rfl hne
      · simp only [if_true, if_neg k3]
        exact hrow k s1 es1 k1 k2
    · rcases hvis k s1 es1 h2 with ⟨rfl, rfl, rfl⟩ | ⟨k1, k2, k3⟩
      · simp only [if_true, if_neg g3]
        rcases hrow j s0 es0 g1 g2 with h5 | h5
        · rw [h5]
          cases hj : ρ j with
          | full => exact .inl rfl
          | _ => exact .inr (by simp)
        · exact .inr fun e => h5 e.symm
      · simp only [if_neg g3, if_neg k3]
        exact h.apart j s0 es0 k s1 es1 g1 k1 hne
  · rw [lput_N] at h1 h2
    simp only [killL, killN_get] at h1 h2
    obtain ⟨k1, g1, _⟩ := map_some1 h1
    obtain ⟨k2, g2, _⟩ := map_some1 h2
    exact h.inj t t' _ _ g1 g2 h3
  · obtain ⟨⟨k, h1⟩, h2⟩ := h.bor p hp
    exact ⟨⟨_, by rw [lput_N]; simp only [killL, killN_get, h1]; rfl⟩, h2⟩
  · rw [lput_N] at h1
    simp only [killL, killN_get] at h1
    obtain ⟨k1, g1, _⟩ := map_some1 h1
    exact h.low t k1 g1
  · rcases hvis j s0 es0 hh with ⟨rfl, rfl, rfl⟩ | ⟨h1, h2, h3⟩
    · simp only [if_true] at hid
      rcases hown with rfl | rfl
      · rcases hsrc with h4 | ⟨h4, s1, es1, h5⟩
        · rw [h4] at hid; cases hid
        · exact h.rlow i s1 es1 h5 id (by rw [← h4]; exact hid)
      · injection hid with hid; left; rw [← hid]; exact h.len.2
    · simp only [if_neg h3] at hid
      exact h.rlow j s0 es0 h1 id hid
  · refine hel id (fun e => ?_) x (h.rframe id x h1 h2)
    rcases hsrc with h4 | ⟨h4, s1, es1, h5⟩
    · rw [h4] at e; cases e
    · rcases h.rlow i s1 es1 h5 id (by rw [← h4]; exact e) with h6 | h6
      · have := (List.getElem?_eq_some_iff.1 h1).1; omega
      · exact h2 h6
  · rw [lput_N] at h1
    simp only [killL, killN_get] at h1
    obtain ⟨k1, g1, _⟩ := map_some1 h1
    exact h.froz.2 q hq t k1 g1
  · have hf := hearly he
    subst hf
    refine ⟨⟨[], by simp⟩, ⟨R'.drop m.rows.length, ?_⟩, rfl⟩
    apply List.ext_getElem?
    intro k
    by_cases hk : k < m.rows.length
    · rw [List.getElem?_append_left hk, List.getElem?_eq_getElem hk]
      exact hel k (by simp) _ (List.getElem?_eq_getElem hk)
    · rw [List.getElem?_append_right (by omega), List.getElem?_drop]; congr 1; omega
  · exact ⟨_, by simp only [killL, killN_get, hk]; rfl⟩

theorem lapp_inv {t xt : TypeId} {es ys : List AV} {s : Nat} (h : lapp P t xt es ys = some s) : ∃ el el' b, elemT P t = some el ∧ elemT P xt = some el' ∧ sizeT P el = some s ∧ bytesT P el = some b ∧ zsizeT P el = some s ∧ (decide (0 < s) && decide (0 < b)) = true ∧ (es.length + ys.length) * b ≤ 140737488355328 ∧ (∀ e ∈ es, e.cells.length = s) ∧ ∀ e ∈ ys, e.cells.length = s := by
  unfold lapp at h
  split at h
  · rename_i e e' h1 h2
    split at h
    · rename_i s' b h3 h4
      split at h
      · rename_i hc
        injection h with h; subst h
        obtain ⟨c1, c2, c3, c4, c5, c6⟩ := hc
        exact ⟨_, _, _, h1, h2, h3, h4, c3, by simp [c1, c2], c4, c5, c6⟩
      · cases h
    · cases h
  · cases h
theorem LopPost.appendOp (h : RelW P fr ℓ ρ c L env m) {x y : Operand} {t xt : TypeId} {dst : Option Tmp} {pos : LPos} {v vx : LV} {vy : AV} {L1 : LEnv} {pd : List Nat} {as_ : Array Operand} {ts : Array TypeId} (has : as_.toList = [x, y]) (hts : ts.toList = [t, xt])
    (hx : levalA L x = some vx) (hy : levalR L y = some vy) (hl : lappend P t xt vx vy dst pos.early L = some (v, L1, pd)) (hd : DstOk env dst) : LopPost P ℓ c L env m (.call { callee := .builtin .append, args := as_, argTypes := ts }) dst pos v L1 pd := by
  obtain ⟨hpl, ⟨ax, hax, hrx⟩, hvx⟩ := h.levalA hx
  obtain ⟨ay, hay, hey⟩ := h.levalR hy
  obtain ⟨B, R, μ⟩ := m
  have hμ : μ = seatMu := h.mode
  subst hμ
  have hrun : ∀ r, aappend P ⟨B, R, seatMu⟩ t xt ax ay = some r → aop P (.call { callee := .builtin .append, args := as_, argTypes := ts }) env ⟨B, R, seatMu⟩ = some r := by
    intro r hr
    simp only [aop, has, hts, aevals, List.mapM_cons, List.mapM_nil, Option.pure_def, Option.bind_eq_bind, hax, hay, Option.bind_some, abuiltin]
    exact hr
  unfold lappend at hl
  split at hl
  · rename_i d o ys
    have hay' : ∃ o', ay = .slice o' ys := by cases hey <;> exact ⟨_, rfl⟩
    obtain ⟨o', rfl⟩ := hay'
    split at hl
    · rename_i es
      split at hl
      · cases hl
      · rename_i hno
        cases hs : lapp P t xt es ys with
        | none => rw [hs] at hl; cases hl
        | some s =>
          rw [hs] at hl
          simp only [Option.map_some] at hl
          injection hl with hl; injection hl with h1 h2; injection h2 with h2 h3; subst h1 h2 h3
          obtain ⟨el2, el', b, g1, g2, g3, g4, g5, g6, g7, g8, g9⟩ := lapp_inv hs
          have hmt : muT P t = seatMu el2 := by unfold muT; rw [g1]
          rw [hmt] at hno ⊢
          have : ax = .slice .full es := hrx
          subst this
          cases hmu : seatMu el2 with
          | false =>
            obtain ⟨own', R', ha, hm, hel, hown, hlen⟩ := append_own (P := P) (B := B) (R := R) (μ := seatMu) (o := o') g1 g2 g3 g4 g5 hmu g6 (.inl rfl) g7 g8 g9
            have hdv : isV (vOf false d) = false := isV_vOf _ _
            exact LopPost.append h (own := .full) ⟨d, rfl⟩ (by rw [hrun _ ha]; simp only [ownAV, hdv, Bool.false_eq_true, if_false]) (.of hdv hm) hel hown hlen (.inl rfl) (fun _ => rfl) (fun t y e => by cases e) hd
          | true =>
            have hdv : isV (vOf true d) = true := isV_vOf _ _
            have hne : ys = [] → es = [] := fun hy => by
              subst hy
              cases es with
              | nil => rfl
              | cons x l => exact absurd ⟨hmu, rfl⟩ hno
            obtain ⟨own', R', ha, hm, hel, hown, hlen⟩ := append_vecT (P := P) (B := B) (R := R) (μ := seatMu) (o := o') (i := 0) g1 g2 g3 g4 g5 hmu g6 hdv (isB_vOf _ _) (.inl ⟨rfl, hne⟩) g7 g8 g9
            rw [if_pos rfl] at ha
            exact LopPost.append h (own := .full) ⟨d, rfl⟩ (hrun _ ha) hm hel hown hlen (.inl rfl) (fun _ => rfl) (fun t y e => by cases e) hd
    · rename_i i s es
      split at hl
      · cases hl
      · rename_i hne
        obtain ⟨s', hs, hl⟩ := bind_some' hl
        split at hl
        · rename_i hss
          subst hss
          injection hl with hl; injection hl with h1 h2; injection h2 with h2 h3; subst h1 h2 h3
          obtain ⟨el2, el', b, g1, g2, g3, g4, g5, g6, g7, g8, g9⟩ := lapp_inv hs
          have hmt : muT P t = seatMu el2 := by unfold muT; rw [g1]
          rw [hmt] at hne ⊢
          have hea : pos.early ≠ true := fun he => hne (.inl he)
          have hiv : isV i = seatMu el2 := Classical.byContradiction fun hh => hne (.inr (.inl hh))
          have hnb : isB i = false := by cases hb : isB i with
            | false => rfl
            | true => exact absurd (.inr (.inr hb)) hne
          have : ax = ownAV i s' (ρ i) es := hrx
          subst this
          have hvis := hvx i s' es ⟨rfl, rfl, rfl⟩
          have htok := h.tok i s' es hvis
          cases hmu : seatMu el2 with
          | false =>
            rw [hmu] at hiv
            have hm0 : Mine R (ρ i) es.length s' := by unfold MineT at htok; rw [if_neg (by rw [hiv]; simp)] at htok; exact htok
            obtain ⟨own', R', ha, hm, hel, hown, hlen⟩ := append_own (P := P) (B := B) (R := R) (μ := seatMu) (o := o') g1 g2 g3 g4 g5 hmu g6 hm0 g7 g8 g9
            have hdv : isV (vOf false d) = false := isV_vOf _ _
            have ha' : aappend P ⟨B, R, seatMu⟩ t xt (ownAV i s' (ρ i) es) (.slice o' ys) = some (ownAV (vOf false d) s' own' (es ++ ys), ⟨B, R', seatMu⟩) := by
              simp only [ownAV, hdv, hiv, Bool.false_eq_true, if_false]; exact ha
            exact LopPost.append h (own := ρ i) ⟨d, rfl⟩ (hrun _ ha') (.of hdv hm) hel hown hlen (.inr ⟨rfl, s', es, hvis⟩) (fun he => absurd he hea) (fun t y e => by cases e) hd
          | true =>
            rw [hmu] at hiv
            have hdv : isV (vOf true d) = true := isV_vOf _ _
            obtain ⟨own', R', ha, hm, hel, hown, hlen⟩ := append_vecT (P := P) (B := B) (R := R) (μ := seatMu) (o := o') (i := i) g1 g2 g3 g4 g5 hmu g6 hdv (isB_vOf _ _) (.inr ⟨hiv, htok⟩) g7 g8 g9
            have ha' : aappend P ⟨B, R, seatMu⟩ t xt (ownAV i s' (ρ i) es) (.slice o' ys) = some (ownAV (vOf true d) s' own' (es ++ ys), ⟨B, R', seatMu⟩) := by
              rw [← ha]
              split
              · rename_i hf
                simp only [ownAV, hiv, if_true, hf, hnb, Bool.false_eq_true, if_false]
              · rfl
            exact LopPost.append h (own := ρ i) ⟨d, rfl⟩ (hrun _ ha') hm hel hown hlen (.inr ⟨rfl, s', es, hvis⟩) (fun he => absurd he hea) (fun t y e => by cases e) hd
        · cases hl
    · cases hl
  · cases hl

theorem flatC_take {s : Nat} : ∀ {es : List AV} (a : Nat), (∀ e ∈ es, e.cells.length = s) → (flatC es).take (a * s) = flatC (es.take a) := by
  intro es
  induction es with
  | nil => intro a _; simp [flatC]
  | cons x l ih =>
    intro a h
    have hx := h x List.mem_cons_self
    cases a with
    | zero => simp [flatC]
    | succ a =>
      have := ih a (fun e he => h e (List.mem_cons_of_mem _ he))
      simp only [flatC, List.flatMap_cons, List.take_succ_cons] at this ⊢
      rw [show (a + 1) * s = s + a * s by rw [Nat.add_mul]; omega, ← hx, List.take_length_add_append, hx, this]
theorem flatC_drop {s : Nat} : ∀ {es : List AV} (a : Nat), (∀ e ∈ es, e.cells.length = s) → (flatC es).drop (a * s) = flatC (es.drop a) := by
  intro es
  induction es with
  | nil => intro a _; simp [flatC]
  | cons x l ih =>
    intro a h
    have hx := h x List.mem_cons_self
    cases a with
    | zero => simp [flatC]
    | succ a =>
      have := ih a (fun e he => h e (List.mem_cons_of_mem _ he))
      simp only [flatC, List.flatMap_cons, List.drop_succ_cons] at this ⊢
      rw [show (a + 1) * s = s + a * s by rw [Nat.add_mul]; omega, ← hx, List.drop_length_add_append, hx, this]
/-- The middle of a row is left out, in place. -/
theorem LopPost.cutOp (h : RelW P fr ℓ ρ c L env m) {x y : Operand} {t xt : TypeId} {dst : Option Tmp} {pos : LPos} {v vx vy : LV} {L1 : LEnv} {pd : List Nat} {as_ : Array Operand} {ts : Array TypeId} (has : as_.toList = [x, y]) (hts : ts.toList = [t, xt])
    (hx : levalA L x = some vx) (hy : levalA L y = some vy) (hl : lcut P t xt vx vy dst pos.early L = some (v, L1, pd)) (hd : DstOk env dst) : LopPost P ℓ c L env m (.call { callee := .builtin .append, args := as_, argTypes := ts }) dst pos v L1 pd := by
  obtain ⟨hpl, ⟨ax, hax, hrx⟩, hvx⟩ := h.levalA hx
  obtain ⟨hpl2, ⟨ay, hay, hry⟩, hvx2⟩ := h.levalA hy
  obtain ⟨B, R, μ⟩ := m
  have hμ : μ = seatMu := h.mode
  subst hμ
  have hrun : ∀ r, aappend P ⟨B, R, seatMu⟩ t xt ax ay = some r → aop P (.call { callee := .builtin .append, args := as_, argTypes := ts }) env ⟨B, R, seatMu⟩ = some r := by
    intro r hr
    simp only [aop, has, hts, aevals, List.mapM_cons, List.mapM_nil, Option.pure_def, Option.bind_eq_bind, hax, hay, Option.bind_some, abuiltin]
    exact hr
  unfold lcut at hl
  split at hl
  · rename_i d i s k a i' s2 b n
    split at hl
    · rename_i s3 es hf
      split at hl
      · rename_i hc
        obtain ⟨rfl, rfl, rfl, rfl, hea, hiv, hmt, hab, hbn, hs⟩ := hc
        injection hl with hl; injection hl with h1 h2; injection h2 with h2 h3; subst h1 h2 h3
        have hvis := findL_vis hf
        obtain ⟨el2, el', bb, g1, g2, g3, g4, g5, g6, g7, g8, g9⟩ := lapp_inv hs
        have hmu : seatMu el2 = true := by unfold muT at hmt; rw [g1] at hmt; exact hmt
        simp only [Bool.and_eq_true, decide_eq_true_eq] at g6
        obtain ⟨id, hid, rfl⟩ : ∃ id, ρ i' = .row id ∧ ax = .vec id 0 a s3 .opn := by
          rcases hrx with ⟨_, h0, _⟩ | ⟨_, id, h1, h2⟩
          · omega
          · exact ⟨id, h1, by rw [h2, Nat.zero_mul]⟩
        obtain ⟨r1, r2, r3⟩ := MineT.vrow (by have := h.tok i' s3 es hvis; rw [hid] at this; exact this) hiv
        have hlf : (flatC es).length = es.length * s3 := flatC_length r2
        have hm1 : (es.take a).length = a := by rw [List.length_take]; omega
        have hm2 : ((es.drop b).take n).length = n := by rw [List.length_take, List.length_drop]; omega
        have l1 : a * s3 ≤ es.length * s3 := Nat.mul_le_mul_right _ (by omega)
        have l2 : (b + n) * s3 ≤ es.length * s3 := Nat.mul_le_mul_right _ hbn
        have l3 : (a + n) * s3 ≤ (b + n) * s3 := Nat.mul_le_mul_right _ (by omega)
        rw [Nat.add_mul] at l2 l3
        rw [Nat.add_mul] at l3
        have hcx : cellsIn ⟨B, R, seatMu⟩ s3 (.vec id 0 a s3 .opn) = some (flatC (es.take a), a) := by
          simp only [cellsIn, r1]
          rw [if_pos ⟨trivial, by rw [hlf]; omega⟩, List.drop_zero, flatC_take a r2]
        have hyc : cellsIn ⟨B, R, seatMu⟩ s3 ay = some (flatC ((es.drop b).take n), n) := by
          rcases hry with ⟨h0, _, rfl⟩ | ⟨_, id', h1, rfl⟩
          · subst h0
            simp [cellsIn, flatC]
          · rw [hid] at h1; injection h1 with h1; subst h1
            simp only [cellsIn, r1]
            rw [if_pos ⟨trivial, by rw [hlf]; omega⟩, flatC_drop b r2, flatC_take n (fun e he => r2 e (List.mem_of_mem_drop he))]
        have hidl : id < R.length := (List.getElem?_eq_some_iff.1 r1).1
        have hall : ∀ e ∈ es.take a ++ (es.drop b).take n, e.cells.length = s3 := fun e he => (List.mem_append.1 he).elim (fun h => r2 e (List.mem_of_mem_take h)) (fun h => r2 e (List.mem_of_mem_drop (List.mem_of_mem_take h)))
        have hdv : isV (vOf true d) = true := isV_vOf _ _
        have hfl : flatC (es.take a ++ (es.drop b).take n) = flatC (es.take a) ++ flatC ((es.drop b).take n) := flatC_append _ _
        have ha : aappend P ⟨B, R, seatMu⟩ t xt (.vec id 0 a s3 .opn) ay = some (ownAV (vOf true d) s3 (.row id) (es.take a ++ (es.drop b).take n), ⟨B, R.set id (some (0, flatC (es.take a ++ (es.drop b).take n))), seatMu⟩) := by
          simp only [aappend, aappendV, g1, g2, g3, g4, hcx, hyc]
          rw [if_pos ⟨g6.1, g6.2, g5, by rw [hm1, hm2] at g7; exact g7⟩]
          simp only [ownAV, if_pos hdv, List.length_append, hm1, hm2]
          by_cases hn : n = 0
          · subst hn
            rw [if_pos rfl]
            simp only [atrunc, r1, Mem.setRow]
            rw [Nat.zero_add, flatC_take a r2, Nat.add_zero, List.take_zero, List.append_nil]
          · rw [if_neg hn]
            simp only [avec, r1]
            rw [if_pos (by rw [hlf, Nat.add_mul]; omega), Nat.zero_add, Nat.zero_add]
            simp only [Mem.setRow, splice]
            rw [flatC_take a r2, hfl]
            have e1 : (flatC (es.take a)).length = a * s3 := by rw [flatC_length (fun e he => r2 e (List.mem_of_mem_take he)), hm1]
            have e2 : (flatC ((es.drop b).take n)).length = n * s3 := by rw [flatC_length (fun e he => r2 e (List.mem_of_mem_drop (List.mem_of_mem_take he))), hm2]
            rw [List.take_append_of_le_length (by rw [List.length_append, e1, e2, Nat.add_mul]; omega), List.take_of_length_le (by rw [List.length_append, e1, e2, Nat.add_mul]; omega)]
        refine LopPost.append h (own := .row id) ⟨d, rfl⟩ (hrun _ ha) ?_ (fun id' hne z hz => ?_) (.inl rfl) (by simp) (.inr ⟨hid.symm, s3, es, hvis⟩) (fun he => by rw [he] at hea; cases hea) (fun t y e => by cases e) hd
        · unfold MineT
          rw [if_pos hdv]
          exact .inr ⟨id, rfl, by rw [List.getElem?_set_self hidl], hall, r3⟩
        · rw [List.getElem?_set_ne (fun e => hne (by rw [e]))]; exact hz
      · cases hl
    · cases hl
  · cases hl
theorem map_some' {α β : Type} {o : Option α} {f : α → β} {b : β} (h : o.map f = some b) : ∃ a, o = some a ∧ f a = b := by
  cases o with
  | none => cases h
  | some a => injection h with h; exact ⟨a, rfl, h⟩

theorem free_vals (d : Nat) (l : List AV) : CVs.free d (l.map .v) = true := by
  induction l with
  | nil => rfl
  | cons x l ih => simp only [List.map_cons, CVs.free, CV.free, ih, Bool.and_self]
theorem levalA_free {d : Nat} {x : Operand} {u : LV} (h : levalA L x = some u) (hok : allocOk d L = true) : u.free d = true := by
  simp only [allocOk, Bool.and_eq_true] at hok
  cases x with
  | tmp t =>
    obtain ⟨v, h1, h2⟩ := bind_some' h
    have e : v = u := by cases v <;> simp only [LV.any] at h2 <;> first | (cases h2; done) | (injection h2)
    subst e
    exact freeS_get hok.1 t _ h1
  | const v => obtain ⟨a, _, rfl⟩ := map_some' h; rfl
  | func f => injection h with h; subst h; rfl
  | global k => obtain ⟨a, _, rfl⟩ := map_some' h; rfl
theorem lcells_free {d : Nat} {v : LV} {ys : List CV} (h : v.cells = some ys) (hf : v.free d = true) : CVs.free d ys = true := by
  cases v <;> simp only [LV.cells] at h <;> try cases h
  · split at h
    · injection h with h; subst h; exact free_vals d _
    · cases h
  · rfl
  · exact hf
  · simp only [CVs.free, CV.free, Bool.and_true]; exact hf
theorem la2_ok {v : LV} {x : LA} {a : AV} (h : v.la2 = some x) (hr : SRel P fr ℓ ρ v a) : LA.av ℓ x = a := by
  unfold LV.la2 at h
  split at h
  · injection h with h; subst h; exact hr.symm
  · injection h with h; subst h; simp only [SRel] at hr; subst hr; rfl
  · injection h with h; subst h; simp only [SRel] at hr; subst hr; rfl
  · cases h
theorem la1_ok {v : LV} {x : LA} {a : AV} (h : v.la1 = some x) (hr : SRel P fr ℓ ρ v a) : LA.av ℓ x = a.strip := by
  unfold LV.la1 at h
  split at h
  · injection h with h; subst h; simp only [SRel] at hr; subst hr; rfl
  · split at h
    · cases h
    · rename_i hv
      injection h with h; subst h; simp only [SRel, ownAV, if_neg hv] at hr; subst hr; rfl
  · rename_i cs
    obtain ⟨l, hl, rfl⟩ := map_some' h
    have : (LV.ag cs).rd = some (.agg l) := by simp only [LV.rd, hl, Option.map_some]
    exact (LV.rd_rel this hr).strip
  · injection h with h; subst h; simp only [SRel] at hr; subst hr; rfl
  · injection h with h; subst h; simp only [SRel] at hr; subst hr; rfl
  · cases h
theorem RelW.levalsA (h : RelW P fr ℓ ρ c L env m) {g : LV → Option LA} {T : AV → AV} (hg : ∀ v x y, g v = some x → SRel P fr ℓ ρ v y → LA.av ℓ x = T y) : ∀ {l : List Operand} {vs : List LV} {xs : List LA}, levalsA L l = some vs → vs.mapM g = some xs → ∃ as_, aevals env l = some as_ ∧ LAs.av ℓ xs = as_.map T := by
  intro l
  induction l with
  | nil => intro vs xs h1 h2; simp [G.levalsA] at h1; subst h1; simp at h2; subst h2; exact ⟨[], rfl, rfl⟩
  | cons o l ih =>
    intro vs xs h1 h2
    simp only [G.levalsA, List.mapM_cons, Option.pure_def, Option.bind_eq_bind] at h1
    obtain ⟨v, h3, h1⟩ := bind_some' h1
    obtain ⟨vs', h4, h1⟩ := bind_some' h1
    injection h1 with h1; subst h1
    simp only [List.mapM_cons, Option.pure_def, Option.bind_eq_bind] at h2
    obtain ⟨x, h5, h2⟩ := bind_some' h2
    obtain ⟨xs', h6, h2⟩ := bind_some' h2
    injection h2 with h2; subst h2
    obtain ⟨_, ⟨a, k1, k2⟩, _⟩ := h.levalA h3
    obtain ⟨as_, k3, k4⟩ := ih h4 h6
    refine ⟨a :: as_, ?_, by simp only [LAs.av, List.map_cons, k4, hg v x a h5 k2]⟩
    simp only [aevals, List.mapM_cons, Option.pure_def, Option.bind_eq_bind, k1, Option.bind_some]
    rw [show l.mapM (aeval env) = some as_ from k3]; rfl
theorem LAs.av_val : ∀ {l : List LA} {xs : List AV}, l.mapM LA.val = some xs → LAs.av ℓ l = xs := by
  intro l
  induction l with
  | nil => intro xs h; simp at h; subst h; rfl
  | cons x l ih =>
    intro xs h
    simp only [List.mapM_cons, Option.pure_def, Option.bind_eq_bind] at h
    obtain ⟨a, h1, h⟩ := bind_some' h
    obtain ⟨as_, h2, h⟩ := bind_some' h
    injection h with h; subst h
    cases x <;> simp only [LA.val] at h1 <;> cases h1
    simp only [LAs.av, LA.av, ih h2]
theorem mkFn_rel {f : FuncId} {a b : List LA} : SRel P fr ℓ ρ (mkFn f a b) (.func f (LAs.av ℓ a) (LAs.av ℓ b)) := by
  unfold mkFn
  split
  · rename_i xs ys h1 h2; simp only [SRel, LAs.av_val h1, LAs.av_val h2]
  · rfl
theorem mkFn_has {f : FuncId} {a b : List LA} {i s : Nat} {es : List AV} (h : (mkFn f a b).has i s es) : False := by
  unfold mkFn at h
  split at h <;> exact h.elim

/-- **Every operation does what is told.** -/
theorem lop_ok (h : RelW P fr ℓ ρ c L env m) {op : Op} {dst : Option Tmp} {pos : LPos} {v : LV} {L1 : LEnv} {pd : List Nat} (hop : lop P op dst pos L = some (v, L1, pd)) (hd : DstOk env dst) : LopPost P ℓ c L env m op dst pos v L1 pd := by
  have same : ∀ {x : Operand}, lsame L (levalA L x) = some (v, L1, pd) → (∀ a, aeval env x = some a → aop P op env m = some (a, m)) → (∀ t y, op ≠ .load t y) → LopPost P ℓ c L env m op dst pos v L1 pd := by
    intro x hx ho hnl
    obtain ⟨h1, rfl, rfl⟩ := lsame_inv hx
    obtain ⟨g1, ⟨a, g2, g3⟩, g4⟩ := h.levalA h1
    exact .same h (ho a g2) g3 g4 hd (fun t y e => absurd e (hnl t y))
  unfold lop at hop
  split at hop
  · exact same hop (fun a ha => by simp [aop, ha]) (fun t y e => by cases e)
  · exact same hop (fun a ha => by simp [aop, ha]) (fun t y e => by cases e)
  · -- pick
    rename_i c a b
    obtain ⟨h1, rfl, rfl⟩ := lsame_inv hop
    unfold lpick at h1
    split at h1
    · rename_i t hc
      obtain ⟨g1, ⟨x, g2, g3⟩, g4⟩ := h.levalA h1
      exact .same h (by simp [aop, h.leval hc, g2]) g3 g4 hd (fun t y e => by cases e)
    · cases h1
  · -- alloc
    rename_i t
    refine .alloc h hop (fun cs hcs => ?_) (fun t y e => by cases e) hd
    obtain ⟨zs, hz, rfl⟩ := map_some' hcs
    refine ⟨zs, by simp [aop, hz], ⟨by simp, fun j c a hj ha => ?_⟩, fun d _ => free_vals d zs, fun i s es hh => by simp at hh⟩
    rw [List.getElem?_map, ha] at hj
    injection hj with hj; subst hj; exact rfl
  · -- box
    rename_i t x
    refine .alloc h hop (fun cs hcs => ?_) (fun t y e => by cases e) hd
    obtain ⟨u, hu, hcs⟩ := bind_some' hcs
    obtain ⟨hpl, ⟨a, ha, har⟩, hvis⟩ := h.levalA hu
    obtain ⟨k1, k2, k3⟩ := lcells_ok hcs (har)
    exact ⟨a.cells, by simp [aop, ha, k2], k1, fun d hok => lcells_free hcs (levalA_free hu hok), fun i s es hh => hvis i s es (k3 i s es hh)⟩
  · -- build
    rename_i t ps
    refine .pure h hop (fun a ha => ?_) (fun t y e => by cases e) hd
    obtain ⟨l, hl, ha⟩ := bind_some' ha
    obtain ⟨l', h1, h2, h3⟩ := h.lparts hl
    simp only [aop, h1, Option.bind_some, abuild_eq ⟨h2, h3⟩, ha, Option.map_some]
  · -- buildSlice
    rename_i t len ps
    unfold llit at hop
    obtain ⟨a, hq, hop⟩ := bind_some' hop
    obtain ⟨l, hl, ha⟩ := bind_some' hq
    clear hq
    obtain ⟨l', h1, h2, h3⟩ := h.lparts hl
    have haop : aop P (.buildSlice t len ps) env m = some (alit P t m a) := by
      simp only [aop, h1, Option.bind_some, abuildSlice_eq ⟨h2, h3⟩, ha, Option.map_some]
    split at hop
    · rename_i hc
      obtain ⟨hc1, hc2⟩ := hc
      split at hop
      · rename_i d s o es hsz hold
        clear hold
        injection hop with hop; injection hop with e1 hop; injection hop with e2 e3; subst e1 e2 e3
        obtain ⟨el, hel, hmu⟩ : ∃ el, elemT P t = some el ∧ seatMu el = true := by
          unfold muT at hc2
          cases he : elemT P t with
          | none => rw [he] at hc2; cases hc2
          | some el => rw [he] at hc2; exact ⟨el, rfl, hc2⟩
        rw [hel] at hsz
        have hs : sizeT P el = some s := hsz
        obtain ⟨x, y, l2, rfl, rfl⟩ : ∃ x y l2, o = .full ∧ es = x :: y :: l2 := by
          unfold isLit2 at hc1
          split at hc1
          · rename_i heq; injection heq with e1 e2; exact ⟨_, _, _, e1, e2⟩
          · cases hc1
        obtain ⟨h0, hall⟩ : 0 < s ∧ ∀ e ∈ x :: y :: l2, e.cells.length = s := by
          unfold abuildSlice at ha
          rw [hel] at ha
          dsimp only at ha
          rw [hs] at ha
          dsimp only at ha
          split at ha
          · rename_i hcond
            injection ha with ha; injection ha with _ ha
            refine ⟨hcond.1, fun e he => ?_⟩
            rw [← ha] at he
            obtain ⟨p, hp, rfl⟩ := List.mem_map.1 he
            rw [strip_cells, List.length_map]; exact (hcond.2.2.2.2 p hp).1
          · cases ha
        have hdv : isV (vOf true d) = true := isV_vOf _ _
        have hdb : isB (vOf true d) = false := isB_vOf _ _
        have hal : alit P t m (.slice .full (x :: y :: l2)) = (ownAV (vOf true d) s (.row m.rows.length) ([] ++ (x :: y :: l2)), { m with rows := m.rows ++ [some (0, flatC (x :: y :: l2))] }) := by
          unfold alit
          rw [hel]
          have hmode : m.mode el = true := by rw [h.mode]; exact hmu
          simp only [Option.bind_some, hs, hmode, if_true, ownAV, hdv, List.nil_append]
          rfl
        refine LopPost.append h (own := .full) (es := []) (ys := x :: y :: l2) (R' := m.rows ++ [some (0, flatC (x :: y :: l2))]) (own' := .row m.rows.length) ⟨d, rfl⟩ (haop.trans (congrArg some hal)) ?_ (fun id _ z hz => ?_) (.inr rfl) (by simp) (.inl rfl) (fun _ => rfl) (fun t y e => by cases e) hd
        · unfold MineT
          rw [if_pos hdv]
          exact .inr ⟨m.rows.length, rfl, by rw [List.nil_append, List.getElem?_append_right (Nat.le_refl _), Nat.sub_self]; rfl, by rw [List.nil_append]; exact hall, h0⟩
        · rw [List.getElem?_append_left (List.getElem?_eq_some_iff.1 hz).1]; exact hz
      · cases hop
    · rename_i hc
      have hal : alit P t m a = (a, m) := by
        unfold alit
        split
        · rename_i e e2 l3 el s he hs
          rw [if_neg]
          intro hm
          refine hc ⟨rfl, ?_⟩
          unfold muT
          rw [he]
          have := h.mode
          rw [this] at hm
          exact hm
        · rfl
      rw [hal] at haop
      refine .pure (x := some a) h (by simpa only [lpure, Option.map_some] using hop) (fun b hb => ?_) (fun t y e => by cases e) hd
      injection hb with hb; subst hb
      exact haop
  · -- load
    rename_i t x
    obtain ⟨p, hp, hop⟩ := bind_some' hop
    obtain ⟨hpl, ⟨a, ha, har⟩, hvx⟩ := h.levalA hp
    unfold lload at hop
    split at hop
    · rename_i t' off
      split at hop
      · rename_i cs hc
        obtain ⟨u, hu, hop⟩ := map_some' hop
        injection hop with h1 h2; injection h2 with h2 h3; subst h1 h2 h3
        have : a = .ptr (ℓ t') off := har
        subst this
        obtain ⟨as_, hbox, hcr⟩ := h.locs t' _ hc
        obtain ⟨r, k1, k3, k4⟩ := lsub_ok (P := P) (fr := fr) hu hcr
        have hld : aload P m t (.ptr (ℓ t') off) = some r := by simp only [aload, hbox]; exact k1
        refine .same h (by simp [aop, ha, hld]) k3 (fun i s es hh => .inr ⟨t', _, hc, k4 i s es hh⟩) hd (fun t0 y e => ?_)
        injection e with e1 e2; subst e1 e2
        refine ⟨fun hlate => ⟨_, ha, hld, .inr ⟨t', off, by simp [hlate], rfl⟩⟩, fun t0 ht0 => ?_⟩
        split at ht0
        · simp at ht0; subst ht0; exact ⟨cs, hc⟩
        · cases ht0
      · cases hop
    · rename_i e off
      obtain ⟨u, hu, hop⟩ := map_some' hop
      injection hop with h1 h2; injection h2 with h2 h3; subst h1 h2 h3
      have : a = .eptr e off := har
      subst this
      have hld : aload P m t (.eptr e off) = some u := hu
      refine .same h (by simp [aop, ha, hld]) rfl (fun i s es hh => hh.elim) hd (fun t0 y e => ?_)
      injection e with e1 e2; subst e1 e2
      exact ⟨fun hlate => ⟨_, ha, hld, .inl ⟨_, _, rfl⟩⟩, fun t0 ht0 => by cases ht0⟩
    · rename_i i s k off
      split at hop
      · cases hop
      · rename_i hnl
        split at hop
        · rename_i s' es hf
          split at hop
          · cases hop
          · rename_i hss
            have hvi : isV i = true := by cases hh : isV i with
              | true => rfl
              | false => exact absurd (.inr hh) hss
            have hss : s' = s := Classical.byContradiction fun hh => hss (.inl hh)
            subst hss
            obtain ⟨e, he, hop⟩ := bind_some' hop
            obtain ⟨u, hu, hop⟩ := map_some' hop
            injection hop with h1 h2; injection h2 with h2 h3; subst h1 h2 h3
            obtain ⟨id, hid, rfl⟩ := har
            have hv : Vis L i s' es := findL_vis hf
            have htok := h.tok i s' es hv
            rw [hid] at htok
            have hld : aload P m t (.vptr id (k * s' + off)) = some u := by
              unfold MineT at htok
              split at htok
              · rcases htok with ⟨h5, _⟩ | ⟨id', h5, h6, h7, _⟩
                · cases h5
                · injection h5 with h5; subst h5
                  simp only [aload, h6]
                  exact sub_flat h7 he hu
              · rename_i hv0
                exact absurd hvi hv0
            refine .same h (by simp [aop, ha, hld]) rfl (fun i s es hh => hh.elim) hd (fun t0 y e => ?_)
            injection e with e1 e2; subst e1 e2
            exact ⟨fun hlate => absurd hlate hnl, fun t0 ht0 => by cases ht0⟩
        · cases hop
    · cases hop
  · -- store
    rename_i t x y
    obtain ⟨p, hp, hop⟩ := bind_some' hop
    obtain ⟨u, hu, hop⟩ := bind_some' hop
    exact .store h hp hu hop hd
  · -- nilCheck
    rename_i x
    obtain ⟨h1, rfl, rfl⟩ := lsame_inv hop
    obtain ⟨u, hu, h1⟩ := bind_some' h1
    obtain ⟨g1, ⟨a, g2, g3⟩, g4⟩ := h.levalA hu
    have e : v = u ∧ aop P (.nilCheck x) env m = some (a, m) := by
      unfold lnil at h1
      have g30 := g3
      split at h1
      · injection h1 with h1; subst h1
        simp only [SRel] at g30; subst g30
        exact ⟨rfl, by simp [aop, g2]⟩
      · injection h1 with h1; subst h1
        simp only [SRel] at g30; subst g30
        exact ⟨rfl, by simp [aop, g2]⟩
      · injection h1 with h1; subst h1
        simp only [SRel] at g30; subst g30
        exact ⟨rfl, by simp [aop, g2]⟩
      · injection h1 with h1; subst h1
        simp only [SRel] at g30; subst g30
        exact ⟨rfl, by simp [aop, g2]⟩
      · injection h1 with h1; subst h1
        obtain ⟨id, _, rfl⟩ := g30
        exact ⟨rfl, by simp [aop, g2]⟩
      · cases h1
    obtain ⟨rfl, ho⟩ := e
    exact .same h ho g3 g4 hd (fun t y e => by cases e)
  · -- binOp
    rename_i bop t x y _
    refine .pure h hop (fun a ha => ?_) (fun t y e => by cases e) hd
    obtain ⟨a1, h1, ha⟩ := bind_some' ha
    obtain ⟨a2, h2, ha⟩ := bind_some' ha
    simp [aop, h.leval h1, h.leval h2, ha]
  · rename_i uop _ x
    refine .pure h hop (fun a ha => ?_) (fun t y e => by cases e) hd
    obtain ⟨a1, h1, ha⟩ := bind_some' ha
    simp [aop, h.leval h1, ha]
  · rename_i s t x
    refine .pure h hop (fun a ha => ?_) (fun t y e => by cases e) hd
    obtain ⟨a1, h1, ha⟩ := bind_some' ha
    simp only [aop, h.leval h1, Option.bind_some]
    unfold lconv at ha
    split at ha
    · rename_i e1 e2
      injection ha with ha; subst ha
      simp only [e1, e2]
    · cases ha
  · -- makeFunc
    rename_i f first cap
    obtain ⟨h1, rfl, rfl⟩ := lsame_inv hop
    obtain ⟨a, h2, h1⟩ := bind_some' h1
    obtain ⟨b, h3, rfl⟩ := map_some' h1
    obtain ⟨vs, h4, h5⟩ := bind_some' h2
    obtain ⟨ws, h6, h7⟩ := bind_some' h3
    obtain ⟨as_, k1, k2⟩ := h.levalsA (g := LV.la1) (T := AV.strip) (fun v x y h1 h2 => la1_ok h1 h2) h4 h5
    obtain ⟨bs, k3, k4⟩ := h.levalsA (g := LV.la2) (T := id) (fun v x y h1 h2 => la2_ok h1 h2) h6 h7
    rw [List.map_id] at k4
    exact .same h (a := .func f (LAs.av ℓ a) (LAs.av ℓ b)) (by simp [aop, k1, k3, k2, k4]) mkFn_rel (fun i s es hh => (mkFn_has hh).elim) hd (fun t y e => by cases e)
  · -- slice
    rename_i t x lo hi mx
    cases hq : lvslice P t (levalA L x) (lopt L lo) (lopt L hi) (lopt L mx) with
    | none =>
      rw [hq] at hop
      refine .pure h hop (fun a ha => ?_) (fun t y e => by cases e) hd
      obtain ⟨a1, h1, ha⟩ := bind_some' ha
      obtain ⟨a2, h2, ha⟩ := bind_some' ha
      obtain ⟨a3, h3, ha⟩ := bind_some' ha
      obtain ⟨a4, h4, ha⟩ := bind_some' ha
      obtain ⟨b1, g1, g2⟩ := h.levalR h1
      simp only [aop, g1, h.lopt h2, h.lopt h3, h.lopt h4, Option.bind_some, aslice_eq g2, ha, Option.map_some]
    | some v0 =>
      rw [hq] at hop
      injection hop with hop; injection hop with e1 hop; injection hop with e2 e3; subst e1 e2 e3
      unfold lvslice at hq
      split at hq
      · rename_i i s es l0 h0 s' q1 q2 q3 q4 q5
        split at hq
        · rename_i l hh b1 b2
          split at hq
          · rename_i hc
            obtain ⟨c1, rfl, c3, c4, c5, c6⟩ := hc
            injection hq with hq; subst hq
            obtain ⟨hpl, ⟨ax, hax, hrx⟩, hvx⟩ := h.levalA q1
            have hvis := hvx i s' es ⟨rfl, rfl, rfl⟩
            have htok := h.tok i s' es hvis
            obtain ⟨id, hid⟩ : ∃ id, ρ i = .row id := by
              unfold MineT at htok
              rw [if_pos c1] at htok
              rcases htok with ⟨_, h5⟩ | ⟨id, hid, _⟩
              · subst h5; simp at c6
              · exact ⟨id, hid⟩
            have hax2 : ax = .vec id 0 es.length s' .opn := by
              simp only [SRel, ownAV, if_pos c1, hid] at hrx; exact hrx
            subst hax2
            obtain ⟨el, q6, q7⟩ := bind_some' q5
            have run : ∀ r, aslice P t (.vec id 0 es.length s' .opn) l0 h0 none = some r → aop P (.slice t x lo hi mx) env m = some (r, m) := by
              intro r hr
              simp only [aop, hax, h.lopt q2, h.lopt q3, h.lopt q4, Option.bind_some, hr, Option.map_some]
            by_cases hz : l = hh ∧ 0 < l
            · refine .same h (run (.slice .foreign []) ?_) (.inl ⟨by omega, by omega, rfl⟩) (fun i s es hv => hv.elim) hd (fun t y e => by cases e)
              simp only [aslice, q6, q7, b1, b2, show abound none es.length = some (es.length : Int) from rfl]
              rw [if_pos ⟨c3, c4, c5, Int.le_refl _, by simp, trivial⟩, if_pos hz]; rfl
            · refine .same h (run (.vec id (l.toNat * s') (hh - l).toNat s' .opn) ?_) (.inr ⟨by omega, id, hid, rfl⟩) (fun i s es hv => hv.elim) hd (fun t y e => by cases e)
              simp only [aslice, q6, q7, b1, b2, show abound none es.length = some (es.length : Int) from rfl]
              rw [if_pos ⟨c3, c4, c5, Int.le_refl _, by simp, trivial⟩, if_neg hz]
              simp
          · cases hq
        · cases hq
      · cases hq
  · -- fieldAddr
    rename_i t x f
    obtain ⟨h1, rfl, rfl⟩ := lsame_inv hop
    obtain ⟨u, hu, h1⟩ := bind_some' h1
    obtain ⟨hpl, ⟨a, ha, har⟩, hvx⟩ := h.levalA hu
    have har0 := har
    unfold lfieldAddr at h1
    split at h1
    · rename_i t' off
      split at h1
      · rename_i ft o hf
        split at h1
        · rename_i k hz
          injection h1 with h1; subst h1
          simp only [SRel] at har0; subst har0
          refine .same (a := .ptr (ℓ t') (off + o)) h ?_ rfl (fun i s es hh => hh.elim) hd (fun t y e => by cases e)
          simp [aop, ha, afieldAddr, hf, hz]
        · cases h1
      · cases h1
    · rename_i e off
      obtain ⟨b, hb, rfl⟩ := map_some' h1
      simp only [SRel] at har0; subst har0
      exact .same h (by simp [aop, ha, hb]) rfl (fun i s es hh => hh.elim) hd (fun t y e => by cases e)
    · rename_i i s k0 off
      split at h1
      · rename_i ft o hf
        split at h1
        · rename_i k hz
          injection h1 with h1; subst h1
          obtain ⟨id, hid, rfl⟩ := har0
          refine .same (a := .vptr id (k0 * s + off + o)) h ?_ ⟨id, hid, by rw [Nat.add_assoc]⟩ (fun i s es hh => hh.elim) hd (fun t y e => by cases e)
          simp [aop, ha, afieldAddr, hf, hz]
        · cases h1
      · cases h1
    · cases h1
  · -- field
    rename_i t x f
    refine .pure h hop (fun a ha => ?_) (fun t y e => by cases e) hd
    obtain ⟨a1, h1, ha⟩ := bind_some' ha
    simp [aop, h.leval h1, ha]
  · -- indexAddr
    rename_i t x i
    obtain ⟨h1, rfl, rfl⟩ := lsame_inv hop
    obtain ⟨u, hu, h10⟩ := bind_some' h1
    clear h1
    obtain ⟨k, hk, h1⟩ := bind_some' h10
    clear h10
    obtain ⟨hpl, ⟨a, ha, har⟩, hvx⟩ := h.levalA hu
    have har0 := har
    have hk' := h.leval hk
    unfold lindexAddr at h1
    split at h1
    · rename_i t' off
      split at h1
      · rename_i n len e hat
        split at h1
        · rename_i s hz
          split at h1
          · rename_i hc
            injection h1 with h1; subst h1
            simp only [SRel] at har0; subst har0
            refine .same (a := .ptr (ℓ t') (off + n.toNat * s)) h ?_ rfl (fun i s es hh => hh.elim) hd (fun t y e => by cases e)
            simp only [aop, ha, hk', Option.bind_some, aindexAddr, hat, hz]
            rw [if_pos hc]; rfl
          · cases h1
        · cases h1
      · cases h1
    · rename_i j s es
      split at h1
      · rename_i hv
        split at h1
        · rename_i n e hel
          split at h1
          · rename_i s' hz
            split at h1
            · rename_i hc
              injection h1 with h1; subst h1
              obtain ⟨rfl, hc1, hc2⟩ := hc
              have htok := h.tok j s' es (hvx j s' es ⟨rfl, rfl, rfl⟩)
              unfold MineT at htok
              rw [if_pos hv] at htok
              rcases htok with ⟨_, h5⟩ | ⟨id, hid, _⟩
              · subst h5; simp at hc2; omega
              · simp only [SRel, ownAV, if_pos hv, hid] at har0; subst har0
                refine .same (a := .vptr id (0 + n.toNat * s')) h ?_ ⟨id, hid, by simp⟩ (fun i s es hh => hh.elim) hd (fun t y e => by cases e)
                simp only [aop, ha, hk', Option.bind_some, aindexAddr, hel, hz]
                rw [if_pos ⟨trivial, hc1, by exact_mod_cast hc2⟩]; rfl
            · cases h1
          · cases h1
        · cases h1
      · rename_i hv
        obtain ⟨b, hb, rfl⟩ := map_some' h1
        simp only [SRel, ownAV, if_neg hv] at har0; subst har0
        refine .same h (a := b) ?_ rfl (fun i s es hh => hh.elim) hd (fun t y e => by cases e)
        simp only [aop, ha, hk', Option.bind_some]
        rw [aindexAddr_eq (o' := .foreign), hb]; rfl
    · obtain ⟨b, hb, rfl⟩ := map_some' h1
      simp only [SRel] at har0; subst har0
      exact .same h (a := b) (by simp [aop, ha, hk', hb]) rfl (fun i s es hh => hh.elim) hd (fun t y e => by cases e)
    · cases h1
  · -- index
    rename_i t x i
    refine .pure h hop (fun a ha => ?_) (fun t y e => by cases e) hd
    obtain ⟨a1, h1, ha⟩ := bind_some' ha
    obtain ⟨a2, h2, ha⟩ := bind_some' ha
    simp [aop, h.leval h1, h.leval h2, ha]
  · -- extract
    rename_i t i
    refine .pure h hop (fun a ha => ?_) (fun t y e => by cases e) hd
    obtain ⟨a1, h1, ha⟩ := bind_some' ha
    simp only [aop, h.leval h1, Option.bind_some]
    unfold lextract at ha
    split at ha
    · simp [ha]
    · cases ha
  · -- len
    rename_i as_ ts
    refine .pure h hop (fun a ha => ?_) (fun t y e => by cases e) hd
    obtain ⟨l, hl, ha⟩ := bind_some' ha
    have one : ∀ {v : LV}, l = [v] → ∃ x, aevals env as_.toList = some [x] ∧ SRel P fr ℓ ρ v x := by
      intro v hv
      subst hv
      generalize as_.toList = xs at hl
      cases xs with
      | nil => simp [G.levalsA] at hl
      | cons x0 tl =>
        simp only [G.levalsA, List.mapM_cons, Option.pure_def, Option.bind_eq_bind] at hl
        obtain ⟨v0, k1, hl⟩ := bind_some' hl
        obtain ⟨vs, k2, hl⟩ := bind_some' hl
        injection hl with hl; injection hl with e1 e2
        subst e1 e2
        cases tl with
        | nil =>
          obtain ⟨_, ⟨a0, k3, k4⟩, _⟩ := h.levalA k1
          exact ⟨a0, by simp only [aevals, List.mapM_cons, List.mapM_nil, Option.pure_def, Option.bind_eq_bind, k3, Option.bind_some], k4⟩
        | cons y tl =>
          simp only [List.mapM_cons, Option.pure_def, Option.bind_eq_bind] at k2
          obtain ⟨_, _, k2⟩ := bind_some' k2
          obtain ⟨_, _, k2⟩ := bind_some' k2
          injection k2 with k2; cases k2
    split at ha
    · rename_i t tl i s es hts
      obtain ⟨x, h1, h2⟩ := one rfl
      simp only [aop, h1, Option.bind_some]
      have : alen P t x = some a := by
        rw [← ha]
        simp only [SRel] at h2; subst h2
        unfold ownAV
        split
        · split
          · unfold alen; rcases P.underlying t with _ | d <;> first | rfl | (cases d <;> rfl)
          · unfold alen; rcases P.underlying t with _ | d <;> first | rfl | (cases d <;> rfl)
        · unfold alen; rcases P.underlying t with _ | d <;> first | rfl | (cases d <;> rfl)
      simp only [abuiltin, this, Option.map_some, hts]
    · rename_i t tl y hts
      obtain ⟨x, h1, h2⟩ := one rfl
      simp only [SRel] at h2; subst h2
      simp only [aop, h1, Option.bind_some, abuiltin, ha, Option.map_some, hts]
    · cases ha
  · rename_i as_ ts
    refine .pure h hop (fun a ha => ?_) (fun t y e => by cases e) hd
    obtain ⟨l, hl, ha⟩ := bind_some' ha
    simp [aop, h.levals hl, abuiltin, ha]
  · rename_i as_ ts
    refine .pure h hop (fun a ha => ?_) (fun t y e => by cases e) hd
    obtain ⟨l, hl, ha⟩ := bind_some' ha
    simp [aop, h.levals hl, abuiltin, ha]
  · rename_i as_ ts
    split at hop
    · rename_i x y t xt has hts
      obtain ⟨vx, hx, hop⟩ := bind_some' hop
      split at hop
      · obtain ⟨vy, hy, hop⟩ := bind_some' hop
        exact .cutOp h has hts hx hy hop hd
      · obtain ⟨vy, hy, hop⟩ := bind_some' hop
        exact .appendOp h has hts hx hy hop hd
    · cases hop
  · cases hop
end
end Go.Proofs.YtdnnmopncndebaaDoor.G
set_option linter.unusedVariables false
set_option linter.unusedSectionVars false
set_option linter.unusedSimpArgs false
namespace Go.Proofs.YtdnnmopncndebaaDoor.G

/-- Other names. -/
def rn : List (Nat × Nat) → Nat → Nat
  | [], t => t
  | (a, b) :: l, t => if a = t then b else rn l t
mutual
def LA.ren (τ : List (Nat × Nat)) : LA → LA
  | .a x => .a x
  | .p t => .p (rn τ t)
  | .fn f first cap => .fn f (LAs.ren τ first) (LAs.ren τ cap)
def LAs.ren (τ : List (Nat × Nat)) : List LA → List LA
  | [] => []
  | x :: l => LA.ren τ x :: LAs.ren τ l
end
mutual
theorem LA.av_ren {τ : List (Nat × Nat)} {ℓ : Nat → Nat} : ∀ {x : LA}, LA.av ℓ (LA.ren τ x) = LA.av (fun t => ℓ (rn τ t)) x
  | .a x => rfl
  | .p t => rfl
  | .fn f first cap => by simp only [LA.ren, LA.av, LAs.av_ren (x := first), LAs.av_ren (x := cap)]
theorem LAs.av_ren {τ : List (Nat × Nat)} {ℓ : Nat → Nat} : ∀ {x : List LA}, LAs.av ℓ (LAs.ren τ x) = LAs.av (fun t => ℓ (rn τ t)) x
  | [] => rfl
  | y :: l => by simp only [LAs.ren, LAs.av, LA.av_ren (x := y), LAs.av_ren (x := l)]
end

/-- Slices' numbers: which one it was, or that it is full. -/
def sg : List (Nat × Option Nat) → Nat → Option Nat
  | [], _ => none
  | (a, b) :: l, j => if a = j then b else sg l j
def sgFree (i : Nat) : List (Nat × Option Nat) → Bool
  | [] => true
  | (_, some k) :: l => (k != i) && sgFree i l
  | (_, none) :: l => sgFree i l
def sgOk : List (Nat × Option Nat) → Bool
  | [] => true
  | (a, some i) :: l => (isV a == isV i && isB a == isB i) && (sgFree i l && sgOk l)
  | (_, none) :: l => sgOk l
def vwC (σ : List (Nat × Option Nat)) (τ : List (Nat × Nat)) : CV → CV → Prop
  | .v a, .v b => a = b
  | .own i s es, .own j s' es' => sg σ j = some i ∧ s = s' ∧ es = es'
  | .v a, .own j _ es => sg σ j = none ∧ a = .slice .full es ∧ (isV j = true → es = [] ∧ isB j = false)
  | .fn f first cap, .fn f' first' cap' => f = f' ∧ first = LAs.ren τ first' ∧ cap = LAs.ren τ cap'
  | _, .dead => True
  | _, _ => False
def vwCs (σ : List (Nat × Option Nat)) (τ : List (Nat × Nat)) : List CV → List CV → Prop
  | [], [] => True
  | c :: cs, d :: ds => vwC σ τ c d ∧ vwCs σ τ cs ds
  | _, _ => False
/-- What lies in the variables, under other names. -/
def vwN (σ : List (Nat × Option Nat)) (τ : List (Nat × Nat)) (N : List (Nat × List CV)) : List (Nat × List CV) → Prop
  | [] => True
  | (t, ds) :: l => (match aget N (rn τ t) with
    | some cs => vwCs σ τ cs ds
    | none => False) ∧ vwN σ τ N l
/-- Names that go apart. -/
def rnFree (b : Nat) (τ : List (Nat × Nat)) : List (Nat × List CV) → Bool
  | [] => true
  | (t, _) :: l => (rn τ t != b) && rnFree b τ l
def rnOk (τ : List (Nat × Nat)) : List (Nat × List CV) → Bool
  | [] => true
  | (t, _) :: l => rnFree (rn τ t) τ l && rnOk τ l

def TokIn (N : List (Nat × List CV)) (i s : Nat) (es : List AV) : Prop := ∃ t cs, aget N t = some cs ∧ CV.own i s es ∈ cs
variable [Mu]
/-- What lies in variables by their names. -/
structure Held (ℓ : Nat → Nat) (ρ : Nat → Own) (m : Mem) (N : List (Nat × List CV)) : Prop where
  locs : ∀ t cs, aget N t = some cs → ∃ as_, m.boxes[ℓ t]? = some (.cells as_) ∧ CRels ℓ ρ cs as_
  tok : ∀ i s es, TokIn N i s es → MineT m.rows i (ρ i) s es
  apart : ∀ i s es j s' es', TokIn N i s es → TokIn N j s' es' → i ≠ j → ρ i = .full ∨ ρ i ≠ ρ j
  inj : ∀ t t' cs cs', aget N t = some cs → aget N t' = some cs' → ℓ t = ℓ t' → t = t'
/-- What stays besides. -/
structure Stays (ℓ : Nat → Nat) (ρ : Nat → Own) (m : Mem) (N : List (Nat × List CV)) (ρ' : Nat → Own) (m' : Mem) (N' : List (Nat × List CV)) : Prop where
  mode : m'.mode = seatMu
  len : m.boxes.length ≤ m'.boxes.length ∧ m.rows.length ≤ m'.rows.length
  frame : ∀ l b, m.boxes[l]? = some b → (∀ t cs, aget N t = some cs → t < roName → ℓ t ≠ l) → m'.boxes[l]? = some b
  rframe : ∀ id x, m.rows[id]? = some x → (∀ i s es, TokIn N i s es → ρ i ≠ .row id) → m'.rows[id]? = some x
  rlow : ∀ i s es, TokIn N' i s es → ∀ id, ρ' i = .row id → m.rows.length ≤ id ∨ ∃ i0 s0 es0, TokIn N i0 s0 es0 ∧ ρ i0 = .row id
/-- **What a call does that works on some variables**: what lies in them before, after. -/
def FnB (P : Program) (f : FuncId) (N : List (Nat × List CV)) (args : List LA) (r : AV) (N' : List (Nat × List CV)) : Prop :=
  ∀ (m : Mem) (ℓ : Nat → Nat) (ρ : Nat → Own), m.mode = seatMu → Held ℓ ρ m N → ∃ m' ρ', ACalls P f (LAs.av ℓ args) m r m' ∧ Held ℓ ρ' m' N' ∧ Stays ℓ ρ m N ρ' m' N'
/-- What a call does that makes an iterator. -/
def FnI (P : Program) (f : FuncId) (args : List AV) (xs : List (List AV)) : Prop :=
  ∀ (m : Mem), ∃ fi first cap m' fr, ACalls P f args m (.func fi first cap) m' ∧ Ext m m' ∧ FroOk fr m' ∧ Iter P fi first cap (FroOk fr) xs ∧ ∀ q ∈ fr, m.boxes.length ≤ q.1

def sgToks : List (Nat × Option Nat) → List Nat
  | [] => []
  | (_, some i) :: l => i :: sgToks l
  | (_, none) :: l => sgToks l
def toksC : List CV → List Nat
  | [] => []
  | .own i _ _ :: l => i :: toksC l
  | _ :: l => toksC l
def toksN : List (Nat × List CV) → List Nat
  | [] => []
  | (_, cs) :: l => toksC cs ++ toksN l
def killAll (L : LEnv) : List Nat → LEnv
  | [] => L
  | i :: l => killL i i (killAll L l)
def CV.ren (τ : List (Nat × Nat)) : CV → CV
  | .fn f first cap => .fn f (LAs.ren τ first) (LAs.ren τ cap)
  | c => c
def setAll (τ : List (Nat × Nat)) (L : LEnv) : List (Nat × List CV) → LEnv
  | [] => L
  | (t, cs) :: l => lvar (setAll τ L l) (rn τ t) (cs.map (CV.ren τ))
/-- Only the variables of others that are read may be so here. -/
def roOk (τ : List (Nat × Nat)) : List (Nat × List CV) → Bool
  | [] => true
  | (t, _) :: l => (decide (roName ≤ t) || decide (rn τ t < roName)) && roOk τ l
def allRo : List (Nat × List CV) → Bool
  | [] => true
  | (t, _) :: l => decide (roName ≤ t) && allRo l
/-- The same variables. -/
def sameNames : List (Nat × List CV) → List (Nat × List CV) → Bool
  | [], [] => true
  | (t, _) :: l, (t', _) :: l' => (t == t') && sameNames l l'
  | _, _ => false
/-- None of some variables is turned. -/
def pendFree (τ : List (Nat × Nat)) (pend : List Nat) : List (Nat × List CV) → Bool
  | [] => true
  | (t, _) :: l => (decide (roName ≤ t) || !pend.contains (rn τ t)) && pendFree τ pend l
def LV.la : LV → Option LA
  | .v a => some (.a a.strip)
  | .own i _ es => if isV i = true then none else some (.a (.slice .foreign es))
  | .ag cs => (cs.mapM CV.rd).map fun l => .a (AV.agg l).strip
  | .lref t 0 => some (.p t)
  | .fn f first cap => some (.fn f first cap)
  | _ => none
def lArgs (L : LEnv) (l : List Operand) : Option (List LA) := (levalsA L l).bind (·.mapM LV.la)
/-- A function's value: the function, what it holds. -/
def LV.fun_ : LV → Option (FuncId × List LA × List LA)
  | .v (.func f first cap) => some (f, first.map .a, cap.map .a)
  | .fn f first cap => some (f, first, cap)
  | _ => none
/-- The slices that a value holds as_ its own; no address in it. -/
def LV.toks : LV → List Nat
  | .own i _ _ => [i]
  | .ag cs => toksC cs
  | _ => []
def CV.resOk : CV → Bool
  | .fn _ _ _ => false
  | _ => true
def LV.resOk : LV → Bool
  | .v _ => true
  | .own _ _ _ => true
  | .ag cs => cs.all CV.resOk
  | _ => false
/-- What stays of boxes and rows. -/
structure Stays0 (ℓ : Nat → Nat) (ρ : Nat → Own) (m : Mem) (N : List (Nat × List CV)) (m' : Mem) : Prop where
  mode : m'.mode = seatMu
  len : m.boxes.length ≤ m'.boxes.length ∧ m.rows.length ≤ m'.rows.length
  frame : ∀ l b, m.boxes[l]? = some b → (∀ t cs, aget N t = some cs → t < roName → ℓ t ≠ l) → m'.boxes[l]? = some b
  rframe : ∀ id x, m.rows[id]? = some x → (∀ i s es, TokIn N i s es → ρ i ≠ .row id) → m'.rows[id]? = some x
def ResTok (N' : List (Nat × List CV)) (res : LV) (i s : Nat) (es : List AV) : Prop := TokIn N' i s es ∨ res.has i s es
/-- **What a call does whose result has slices of its own.** -/
def FnR (P : Program) (f : FuncId) (N : List (Nat × List CV)) (args : List LA) (res : LV) (N' : List (Nat × List CV)) : Prop :=
  ∀ (m : Mem) (ℓ : Nat → Nat) (ρ : Nat → Own), m.mode = seatMu → Held ℓ ρ m N → ∃ m' ρ' a, ACalls P f (LAs.av ℓ args) m a m' ∧ SRel P [] ℓ ρ' res a ∧ (∀ t cs, aget N' t = some cs → ∃ as_, m'.boxes[ℓ t]? = some (.cells as_) ∧ CRels ℓ ρ' cs as_) ∧
    (∀ i s es, ResTok N' res i s es → MineT m'.rows i (ρ' i) s es) ∧ (∀ i s es j s' es', ResTok N' res i s es → ResTok N' res j s' es' → i ≠ j → ρ' i = .full ∨ ρ' i ≠ ρ' j) ∧ Stays0 ℓ ρ m N m' ∧
    ∀ i s es, ResTok N' res i s es → ∀ id, ρ' i = .row id → m.rows.length ≤ id ∨ ∃ i0 s0 es0, TokIn N i0 s0 es0 ∧ ρ i0 = .row id
/-- What comes of a call. -/
inductive LCall (P : Program) (f : FuncId) (args : List LA) (pos : LPos) (L : LEnv) (K : LV → LEnv → List Nat → Prop) : Prop
  | plain (as_ : List AV) (r : AV) (ha : args.mapM LA.val = some as_) (h : Fn P f as_ r) (hk : K (.v r) L [])
  | vars (σ : List (Nat × Option Nat)) (τ : List (Nat × Nat)) (N N' : List (Nat × List CV)) (args' : List LA) (r : AV) (h : FnB P f N args' r N') (ha : args = LAs.ren τ args') (hσ : sgOk σ = true) (hτ : rnOk τ N = true) (hro : roOk τ N = true) (hN : sameNames N N' = true) (hv : vwN σ τ L.N N)
      (he : pos.early = true → allRo N = true ∧ toksN N = []) (hp : pendFree τ pos.pend N = true) (hk : K (.v r) (setAll τ (killAll L (sgToks σ ++ toksN N')) N') [])
  | res (σ : List (Nat × Option Nat)) (τ : List (Nat × Nat)) (N N' : List (Nat × List CV)) (args' : List LA) (res : LV) (h : FnR P f N args' res N') (ha : args = LAs.ren τ args') (hσ : sgOk σ = true) (hτ : rnOk τ N = true) (hro : roOk τ N = true) (hN : sameNames N N' = true) (hv : vwN σ τ L.N N) (hres : res.resOk = true)
      (he : pos.early = true → allRo N = true ∧ toksN N = []) (hp : pendFree τ pos.pend N = true) (hk : K res (setAll τ (killAll L (sgToks σ ++ (toksN N' ++ res.toks))) N') [])
  | iter (as_ : List AV) (xs : List (List AV)) (ha : args.mapM LA.val = some as_) (h : FnI P f as_ xs) (hk : K (.iter xs) L [])

section
variable {P : Program} {fr : Fro} {ℓ : Nat → Nat} {ρ : Nat → Own} {c : LCtx} {L : LEnv} {env : List AV} {m : Mem} {σ : List (Nat × Option Nat)} {τ : List (Nat × Nat)}

theorem sgFree_spec {i : Nat} : ∀ {σ : List (Nat × Option Nat)}, sgFree i σ = true → ∀ j, sg σ j ≠ some i := by
  intro σ
  induction σ with
  | nil => intro _ j h; cases h
  | cons x l ih =>
    obtain ⟨a, b⟩ := x
    intro h j hj
    simp only [sg] at hj
    split at hj
    · subst hj; simp [sgFree] at h
    · cases b with
      | none => exact ih h j hj
      | some k => simp only [sgFree, Bool.and_eq_true] at h; exact ih h.2 j hj
theorem sgOk_spec : ∀ {σ : List (Nat × Option Nat)}, sgOk σ = true → ∀ j k i, sg σ j = some i → sg σ k = some i → j = k := by
  intro σ
  induction σ with
  | nil => intro _ j k i h; cases h
  | cons x l ih =>
    obtain ⟨a, b⟩ := x
    intro h j k i hj hk
    simp only [sg] at hj hk
    cases b with
    | none =>
      split at hj
      · cases hj
      · split at hk
        · cases hk
        · exact ih h j k i hj hk
    | some c =>
      simp only [sgOk, Bool.and_eq_true] at h
      split at hj
      · injection hj with hj; subst hj
        split at hk
        · rename_i e1 e2; rw [← e1, ← e2]
        · exact absurd hk (sgFree_spec h.2.1 k)
      · split at hk
        · injection hk with hk; subst hk; exact absurd hj (sgFree_spec h.2.1 j)
        · exact ih h.2.2 j k i hj hk
theorem sgOk_kind : ∀ {σ : List (Nat × Option Nat)}, sgOk σ = true → ∀ j i, sg σ j = some i → isV i = isV j ∧ isB i = isB j := by
  intro σ
  induction σ with
  | nil => intro _ j i h; cases h
  | cons x l ih =>
    obtain ⟨a, b⟩ := x
    intro h j i hj
    simp only [sg] at hj
    cases b with
    | none =>
      simp only [sgOk] at h
      split at hj
      · cases hj
      · exact ih h j i hj
    | some c =>
      simp only [sgOk, Bool.and_eq_true, beq_iff_eq] at h
      split at hj
      · rename_i e; injection hj with hj; subst e hj; exact ⟨h.1.1.symm, h.1.2.symm⟩
      · exact ih h.2.2 j i hj
theorem MineT.kind {R : List (Option (Nat × List AV))} {i j s : Nat} {o : Own} {es : List AV} (e : isV i = isV j ∧ isB i = isB j) (h : MineT R i o s es) : MineT R j o s es := by
  unfold MineT at h ⊢
  rw [← e.1]; exact h
theorem ownAV_kind {i j s : Nat} {o : Own} {es : List AV} (e : isV i = isV j ∧ isB i = isB j) : ownAV i s o es = ownAV j s o es := by
  unfold ownAV; rw [e.1, e.2]
theorem ownAV_full {j s : Nat} {es : List AV} (h : isV j = true → isB j = false) : ownAV j s .full es = .slice .full es := by
  unfold ownAV; split
  · rename_i hv; simp [h hv]
  · rfl
def vρ (σ : List (Nat × Option Nat)) (ρ : Nat → Own) (j : Nat) : Own :=
  match sg σ j with
  | some i => ρ i
  | none => .full
theorem vwCs_get : ∀ {cs ds : List CV}, vwCs σ τ cs ds → cs.length = ds.length ∧ ∀ (j : Nat) (c d : CV), cs[j]? = some c → ds[j]? = some d → vwC σ τ c d := by
  intro cs
  induction cs with
  | nil => intro ds h; cases ds with
    | nil => exact ⟨rfl, fun j c d h => by simp at h⟩
    | cons d ds => exact h.elim
  | cons c cs ih =>
    intro ds h
    cases ds with
    | nil => exact h.elim
    | cons d ds =>
      obtain ⟨h1, h2⟩ := h
      obtain ⟨g1, g2⟩ := ih h2
      refine ⟨by simp [g1], fun j x y hx hy => ?_⟩
      cases j with
      | zero => simp at hx hy; subst hx hy; exact h1
      | succ j => exact g2 j x y (by simpa using hx) (by simpa using hy)
theorem vwC_rel {x d : CV} {a : AV} (hσ : sgOk σ = true) (h : vwC σ τ x d) (hr : CRel ℓ ρ x a) : CRel (fun t => ℓ (rn τ t)) (vρ σ ρ) d a := by
  cases d with
  | dead => trivial
  | v b => cases x <;> simp only [vwC] at h
           subst h; exact hr
  | own j s es =>
    cases x with
    | v x => simp only [vwC] at h; simp only [CRel] at hr ⊢; rw [hr, h.2.1]; simp only [vρ, h.1]; rw [ownAV_full (fun hv => (h.2.2 hv).2)]
    | own i s' es' => simp only [vwC] at h; obtain ⟨h1, rfl, rfl⟩ := h; simp only [CRel] at hr ⊢; rw [hr, ownAV_kind (sgOk_kind hσ j i h1)]; simp [vρ, h1]
    | fn f first cap => simp only [vwC] at h
    | dead => simp only [vwC] at h
  | fn f first cap =>
    cases x <;> simp only [vwC] at h
    obtain ⟨rfl, rfl, rfl⟩ := h
    simp only [CRel] at hr ⊢
    rw [hr, LAs.av_ren, LAs.av_ren]
theorem vwCs_rel {cs ds : List CV} {as_ : List AV} (hσ : sgOk σ = true) (h : vwCs σ τ cs ds) (hr : CRels ℓ ρ cs as_) : CRels (fun t => ℓ (rn τ t)) (vρ σ ρ) ds as_ := by
  obtain ⟨h1, h2⟩ := vwCs_get h
  refine ⟨by rw [hr.1, h1], fun j d a hd ha => ?_⟩
  have hj : j < cs.length := by rw [h1]; exact (List.getElem?_eq_some_iff.1 hd).1
  exact vwC_rel hσ (h2 j _ d (List.getElem?_eq_getElem hj) hd) (hr.2 j _ a (List.getElem?_eq_getElem hj) ha)
theorem vwCs_own {cs ds : List CV} {j s : Nat} {es : List AV} (h : vwCs σ τ cs ds) (hm : CV.own j s es ∈ ds) : (sg σ j = none ∧ (isV j = true → es = [])) ∨ ∃ i, sg σ j = some i ∧ CV.own i s es ∈ cs := by
  obtain ⟨h1, h2⟩ := vwCs_get h
  obtain ⟨k, hk, he⟩ := List.getElem_of_mem hm
  have hk' : k < cs.length := by omega
  have := h2 k _ _ (List.getElem?_eq_getElem hk') (by rw [List.getElem?_eq_getElem hk, he])
  cases hc : cs[k] with
  | v x => rw [hc] at this; exact .inl ⟨this.1, fun hv => (this.2.2 hv).1⟩
  | own i s' es' => rw [hc] at this; obtain ⟨g1, rfl, rfl⟩ := this; exact .inr ⟨i, g1, by rw [← hc]; exact List.getElem_mem hk'⟩
  | fn f first cap => rw [hc] at this; exact this.elim
  | dead => rw [hc] at this; exact this.elim
theorem vwN_get : ∀ {N N0 : List (Nat × List CV)}, vwN σ τ N0 N → ∀ t ds, aget N t = some ds → ∃ cs, aget N0 (rn τ t) = some cs ∧ vwCs σ τ cs ds := by
  intro N
  induction N with
  | nil => intro N0 _ t ds h; cases h
  | cons x l ih =>
    obtain ⟨t0, d0⟩ := x
    intro N0 h t ds hd
    simp only [aget] at hd
    split at hd
    · rename_i e; subst e
      injection hd with hd; subst hd
      have := h.1
      split at this
      · exact ⟨_, by assumption, this⟩
      · exact this.elim
    · exact ih h.2 t ds hd
theorem rnFree_spec {b : Nat} : ∀ {N : List (Nat × List CV)}, rnFree b τ N = true → ∀ t cs, aget N t = some cs → rn τ t ≠ b := by
  intro N
  induction N with
  | nil => intro _ t cs h; cases h
  | cons x l ih =>
    obtain ⟨t0, d0⟩ := x
    intro h t cs hc
    simp only [rnFree, Bool.and_eq_true, bne_iff_ne, ne_eq] at h
    simp only [aget] at hc
    split at hc
    · rename_i e; subst e; exact h.1
    · exact ih h.2 t cs hc
theorem rnOk_spec : ∀ {N : List (Nat × List CV)}, rnOk τ N = true → ∀ t t' cs cs', aget N t = some cs → aget N t' = some cs' → rn τ t = rn τ t' → t = t' := by
  intro N
  induction N with
  | nil => intro _ t t' cs cs' h; cases h
  | cons x l ih =>
    obtain ⟨t0, d0⟩ := x
    intro h t t' cs cs' hc hc' he
    simp only [rnOk, Bool.and_eq_true] at h
    simp only [aget] at hc hc'
    split at hc
    · rename_i e; subst e
      split at hc'
      · assumption
      · exact absurd he.symm (rnFree_spec h.1 t' cs' hc')
    · split at hc'
      · rename_i e; subst e; exact absurd he (rnFree_spec h.1 t cs hc)
      · exact ih h.2 t t' cs cs' hc hc' he
theorem vwN_tok' {N N0 : List (Nat × List CV)} (h : vwN σ τ N0 N) {j s : Nat} {es : List AV} (ht : TokIn N j s es) : (sg σ j = none ∧ (isV j = true → es = [])) ∨ ∃ i, sg σ j = some i ∧ TokIn N0 i s es := by
  obtain ⟨t, ds, h1, h2⟩ := ht
  obtain ⟨cs, h3, h4⟩ := vwN_get h t ds h1
  exact (vwCs_own h4 h2).imp id fun ⟨i, g1, g2⟩ => ⟨i, g1, _, cs, h3, g2⟩
theorem vwN_tok {N N0 : List (Nat × List CV)} (h : vwN σ τ N0 N) {j s : Nat} {es : List AV} (ht : TokIn N j s es) : sg σ j = none ∨ ∃ i, sg σ j = some i ∧ TokIn N0 i s es := (vwN_tok' h ht).imp (·.1) id
theorem MineT.full {R : List (Option (Nat × List AV))} {i s : Nat} {es : List AV} (h : isV i = true → es = []) : MineT R i .full s es := by
  unfold MineT
  split
  · rename_i hv; exact .inl ⟨rfl, h hv⟩
  · exact .inl rfl
/-- What lies in some of the variables, under other names. -/
theorem Held.view {N N0 : List (Nat × List CV)} (h : Held ℓ ρ m N0) (hσ : sgOk σ = true) (hτ : rnOk τ N = true) (hv : vwN σ τ N0 N) : Held (fun t => ℓ (rn τ t)) (vρ σ ρ) m N := by
  refine ⟨fun t ds h1 => ?_, fun j s es hj => ?_, fun j s es k s' es' h1 h2 hne => ?_, fun t t' ds ds' h1 h2 h3 => ?_⟩
  · obtain ⟨cs, h3, h4⟩ := vwN_get hv t ds h1
    obtain ⟨as_, h5, h6⟩ := h.locs _ cs h3
    exact ⟨as_, h5, vwCs_rel hσ h4 h6⟩
  · rcases vwN_tok' hv hj with ⟨h1, h0⟩ | ⟨i, h1, h2⟩
    · simp only [vρ, h1]; exact .full h0
    · simp only [vρ, h1]; exact (h.tok i s es h2).kind (sgOk_kind hσ j i h1)
  · rcases vwN_tok hv h1 with g1 | ⟨i, g1, g2⟩
    · left; simp only [vρ, g1]
    · rcases vwN_tok hv h2 with k1 | ⟨i', k1, k2⟩
      · simp only [vρ, g1, k1]
        cases hj : ρ i with
        | full => exact .inl rfl
        | _ => exact .inr (by simp)
      · simp only [vρ, g1, k1]
        exact h.apart i s es i' s' es' g2 k2 (fun e => hne (sgOk_spec hσ j k i g1 (by rw [k1, e])))
  · obtain ⟨c1, g1, _⟩ := vwN_get hv t ds h1
    obtain ⟨c2, g2, _⟩ := vwN_get hv t' ds' h2
    exact rnOk_spec hτ t t' _ _ h1 h2 (h.inj _ _ _ _ g1 g2 h3)
theorem TokIn.vis {i s : Nat} {es : List AV} (h : TokIn L.N i s es) : Vis L i s es := .inr h
theorem RelW.held (h : RelW P fr ℓ ρ c L env m) : Held ℓ ρ m L.N := ⟨h.locs, fun i s es hi => h.tok i s es hi.vis, fun i s es j s' es' h1 h2 => h.apart i s es j s' es' h1.vis h2.vis, h.inj⟩

theorem vis_killAll {j s : Nat} {es : List AV} : ∀ {ks : List Nat}, Vis (killAll L ks) j s es → Vis L j s es ∧ j ∉ ks := by
  intro ks
  induction ks with
  | nil => intro h; exact ⟨h, by simp⟩
  | cons i l ih =>
    intro h
    obtain ⟨h1, h2, _⟩ := vis_kill h
    obtain ⟨h3, h4⟩ := ih h1
    exact ⟨h3, by simp [h2, h4]⟩
def LV.killAll (v : LV) : List Nat → LV
  | [] => v
  | i :: l => (v.killAll l).kill i i
def CV.killAll (v : CV) : List Nat → CV
  | [] => v
  | i :: l => (v.killAll l).kill i i
theorem killAll_S {t : Nat} : ∀ {ks : List Nat}, aget (killAll L ks).S t = (aget L.S t).map (·.killAll ks) := by
  intro ks
  induction ks with
  | nil => simp only [G.killAll, LV.killAll]; cases aget L.S t <;> rfl
  | cons i l ih => simp only [G.killAll, killL, killS_get, ih, Option.map_map]; rfl
theorem killAll_N {t : Nat} : ∀ {ks : List Nat}, aget (killAll L ks).N t = (aget L.N t).map (·.map (·.killAll ks)) := by
  intro ks
  induction ks with
  | nil => simp only [G.killAll, CV.killAll]; cases aget L.N t <;> simp
  | cons i l ih => simp only [G.killAll, killL, killN_get, ih, Option.map_map]; congr 1; funext x; simp [CV.killAll, Function.comp_def]
theorem srel_killAll {ρ' : Nat → Own} {u : LV} {a : AV} (h : SRel P fr ℓ ρ u a) : ∀ {ks : List Nat}, (∀ j, j ∉ ks → ρ' j = ρ j) → SRel P fr ℓ ρ' (u.killAll ks) a := by
  intro ks
  induction ks generalizing ρ' with
  | nil => intro hρ; have : ρ' = ρ := funext fun j => hρ j (by simp)
           subst this; exact h
  | cons i l ih =>
    intro hρ
    have h1 := ih (ρ' := fun j => if j ∈ l then ρ' j else ρ j) (fun j hj => if_neg hj)
    refine srel_kill (ρ := fun j => if j ∈ l then ρ' j else ρ j) (fun j h2 _ => ?_) h1
    by_cases hj : j ∈ l
    · simp only [if_pos hj]
    · simp only [if_neg hj]; exact hρ j (by simp [h2, hj])
theorem crels_killAll {ρ' : Nat → Own} {cs : List CV} {as_ : List AV} (h : CRels ℓ ρ cs as_) : ∀ {ks : List Nat}, (∀ j, j ∉ ks → ρ' j = ρ j) → CRels ℓ ρ' (cs.map (·.killAll ks)) as_ := by
  intro ks
  induction ks generalizing ρ' with
  | nil => intro hρ; have : ρ' = ρ := funext fun j => hρ j (by simp)
           subst this; simp only [CV.killAll, List.map_id']; exact h
  | cons i l ih =>
    intro hρ
    have h1 := ih (ρ' := fun j => if j ∈ l then ρ' j else ρ j) (fun j hj => if_neg hj)
    have h2 := crels_kill (ρ := fun j => if j ∈ l then ρ' j else ρ j) (ρ' := ρ') (i := i) (d := i) (fun j h2 _ => by
      by_cases hj : j ∈ l
      · simp only [if_pos hj]
      · simp only [if_neg hj]; exact hρ j (by simp [h2, hj])) h1
    rw [List.map_map] at h2
    exact h2
theorem killAll_dead {v : LV} : ∀ {ks : List Nat}, v.killAll ks ≠ .dead → v ≠ .dead := by
  intro ks
  induction ks with
  | nil => exact fun h => h
  | cons i l ih => intro h; exact ih fun e => h (by simp only [LV.killAll, e]; rfl)

theorem sgToks_mem : ∀ {σ : List (Nat × Option Nat)} {j i : Nat}, sg σ j = some i → i ∈ sgToks σ := by
  intro σ
  induction σ with
  | nil => intro j i h; cases h
  | cons x l ih =>
    obtain ⟨a, b⟩ := x
    intro j i h
    simp only [sg] at h
    split at h
    · subst h; simp [sgToks]
    · cases b with
      | none => exact ih h
      | some k => exact List.mem_cons_of_mem _ (ih h)
theorem toksC_mem : ∀ {cs : List CV} {i s : Nat} {es : List AV}, CV.own i s es ∈ cs → i ∈ toksC cs := by
  intro cs
  induction cs with
  | nil => intro i s es h; cases h
  | cons x l ih =>
    intro i s es h
    rcases List.mem_cons.1 h with rfl | h
    · simp [toksC]
    · have := ih h
      cases x <;> simp only [toksC] <;> first | exact this | exact List.mem_cons_of_mem _ this
theorem toksN_mem : ∀ {N : List (Nat × List CV)} {t : Nat} {cs : List CV}, aget N t = some cs → ∀ {i s : Nat} {es : List AV}, CV.own i s es ∈ cs → i ∈ toksN N := by
  intro N
  induction N with
  | nil => intro t cs h; cases h
  | cons x l ih =>
    obtain ⟨t0, c0⟩ := x
    intro t cs h i s es hi
    simp only [aget] at h
    simp only [toksN, List.mem_append]
    split at h
    · injection h with h; subst h; exact .inl (toksC_mem hi)
    · exact .inr (ih h hi)
theorem setAll_S : ∀ {N' : List (Nat × List CV)}, (setAll τ L N').S = L.S := by
  intro N'
  induction N' with
  | nil => rfl
  | cons x l ih => obtain ⟨t, cs⟩ := x; simp only [setAll, lvar, ih]
theorem setAll_N : ∀ {N' : List (Nat × List CV)} {t : Nat} {ds : List CV}, aget (setAll τ L N').N t = some ds → (∃ n cs, (n, cs) ∈ N' ∧ rn τ n = t ∧ ds = cs.map (CV.ren τ) ∧ aget N' n = some cs) ∨ ((∀ n cs, (n, cs) ∈ N' → rn τ n ≠ t) ∧ aget L.N t = some ds) := by
  intro N'
  induction N' with
  | nil => intro t ds h; exact .inr ⟨fun n cs h => (by cases h), h⟩
  | cons x l ih =>
    obtain ⟨n0, c0⟩ := x
    intro t ds h
    simp only [setAll, lvar, aget] at h
    split at h
    · rename_i e
      injection h with h
      exact .inl ⟨n0, c0, List.mem_cons_self, e, h.symm, by simp [aget]⟩
    · rename_i e
      rcases ih h with ⟨n, cs, h1, h2, h3, h4⟩ | ⟨h1, h2⟩
      · by_cases hn : n0 = n
        · subst hn; exact absurd h2 e
        · exact .inl ⟨n, cs, List.mem_cons_of_mem _ h1, h2, h3, by simp only [aget]; rw [if_neg hn]; exact h4⟩
      · refine .inr ⟨fun n cs hn => ?_, h2⟩
        rcases List.mem_cons.1 hn with hn | hn
        · injection hn with e1 e2; subst e1; exact e
        · exact h1 n cs hn
theorem mem_of_aget {α : Type} : ∀ {N : List (Nat × α)} {t : Nat} {x : α}, aget N t = some x → (t, x) ∈ N := by
  intro N
  induction N with
  | nil => intro t x h; cases h
  | cons y l ih =>
    obtain ⟨t0, c0⟩ := y
    intro t x h
    simp only [aget] at h
    split at h
    · rename_i e; subst e; injection h with h; subst h; exact List.mem_cons_self
    · exact List.mem_cons_of_mem _ (ih h)
theorem mem_ren {cs : List CV} {i s : Nat} {es : List AV} (h : CV.own i s es ∈ cs.map (CV.ren τ)) : CV.own i s es ∈ cs := by
  obtain ⟨x, h1, h2⟩ := List.mem_map.1 h
  cases x <;> simp only [CV.ren] at h2 <;> first | (rw [← h2]; exact h1) | cases h2
theorem crels_ren {cs : List CV} {as_ : List AV} (h : CRels (fun t => ℓ (rn τ t)) ρ cs as_) : CRels ℓ ρ (cs.map (CV.ren τ)) as_ := by
  refine ⟨by simp [h.1], fun j x a hj ha => ?_⟩
  rw [List.getElem?_map] at hj
  cases hc : cs[j]? with
  | none => rw [hc] at hj; cases hj
  | some c0 =>
    rw [hc] at hj; injection hj with hj; subst hj
    have := h.2 j c0 a hc ha
    cases c0 with
    | fn f first cap => simp only [CV.ren, CRel] at this ⊢; rw [LAs.av_ren, LAs.av_ren]; exact this
    | _ => exact this
theorem sameNames_get : ∀ {N N' : List (Nat × List CV)}, sameNames N N' = true → ∀ t cs', aget N' t = some cs' → ∃ cs, aget N t = some cs := by
  intro N
  induction N with
  | nil => intro N' h t cs' h'; cases N' with
    | nil => cases h'
    | cons x l => cases h
  | cons x l ih =>
    obtain ⟨t0, c0⟩ := x
    intro N' h t cs' h'
    cases N' with
    | nil => cases h
    | cons y l' =>
      obtain ⟨t1, c1⟩ := y
      simp only [sameNames, Bool.and_eq_true, beq_iff_eq] at h
      obtain ⟨rfl, h⟩ := h
      simp only [aget] at h' ⊢
      split
      · exact ⟨_, rfl⟩
      · rename_i e; rw [if_neg e] at h'; exact ih h t cs' h'
theorem sameNames_get' : ∀ {N N' : List (Nat × List CV)}, sameNames N N' = true → ∀ t cs, aget N t = some cs → ∃ cs', aget N' t = some cs' := by
  intro N
  induction N with
  | nil => intro N' h t cs' h'; cases h'
  | cons x l ih =>
    obtain ⟨t0, c0⟩ := x
    intro N' h t cs' h'
    cases N' with
    | nil => cases h
    | cons y l' =>
      obtain ⟨t1, c1⟩ := y
      simp only [sameNames, Bool.and_eq_true, beq_iff_eq] at h
      obtain ⟨rfl, h⟩ := h
      simp only [aget] at h' ⊢
      split
      · exact ⟨_, rfl⟩
      · rename_i e; rw [if_neg e] at h'; exact ih h t cs' h'
theorem roOk_spec : ∀ {N : List (Nat × List CV)}, roOk τ N = true → ∀ t cs, aget N t = some cs → t < roName → rn τ t < roName := by
  intro N
  induction N with
  | nil => intro _ t cs h; cases h
  | cons x l ih =>
    obtain ⟨t0, c0⟩ := x
    intro h t cs hc hlt
    simp only [roOk, Bool.and_eq_true, Bool.or_eq_true, decide_eq_true_eq] at h
    simp only [aget] at hc
    split at hc
    · rename_i e; subst e; omega
    · exact ih h.2 t cs hc hlt
theorem allRo_spec : ∀ {N : List (Nat × List CV)}, allRo N = true → ∀ t cs, aget N t = some cs → roName ≤ t := by
  intro N
  induction N with
  | nil => intro _ t cs h; cases h
  | cons x l ih =>
    obtain ⟨t0, c0⟩ := x
    intro h t cs hc
    simp only [allRo, Bool.and_eq_true, decide_eq_true_eq] at h
    simp only [aget] at hc
    split at hc
    · rename_i e; subst e; exact h.1
    · exact ih h.2 t cs hc
theorem pendFree_spec {pend : List Nat} : ∀ {N : List (Nat × List CV)}, pendFree τ pend N = true → ∀ t cs, aget N t = some cs → t < roName → rn τ t ∉ pend := by
  intro N
  induction N with
  | nil => intro _ t cs h; cases h
  | cons x l ih =>
    obtain ⟨t0, c0⟩ := x
    intro h t cs hc hlt
    simp only [pendFree, Bool.and_eq_true, Bool.or_eq_true, decide_eq_true_eq, Bool.not_eq_true'] at h
    simp only [aget] at hc
    split at hc
    · rename_i e; subst e
      rcases h.1 with h1 | h1
      · omega
      · intro hm; rw [List.contains_iff_mem.2 hm] at h1; cases h1
    · exact ih h.2 t cs hc hlt

theorem Stays.to0 {N N' : List (Nat × List CV)} {ρ' : Nat → Own} {m' : Mem} (h : Stays ℓ ρ m N ρ' m' N') : Stays0 ℓ ρ m N m' := ⟨h.mode, h.len, h.frame, h.rframe⟩
/-- After a call that works on some variables; T': whose slices there are then. -/
theorem RelW.varsT (h : RelW P fr ℓ ρ c L env m) {N N' : List (Nat × List CV)} {ρ' : Nat → Own} {m' : Mem} {T' : Nat → Nat → List AV → Prop} {ks2 : List Nat} (hN : sameNames N N' = true) (hτ : rnOk τ N = true) (hro : roOk τ N = true) (hv : vwN σ τ L.N N)
    (hT : ∀ i s es, TokIn N' i s es → T' i s es) (hk2 : ∀ i s es, T' i s es → i ∈ ks2) (hlocs : ∀ t cs, aget N' t = some cs → ∃ as_, m'.boxes[ℓ (rn τ t)]? = some (.cells as_) ∧ CRels (fun t => ℓ (rn τ t)) ρ' cs as_) (htok : ∀ i s es, T' i s es → MineT m'.rows i (ρ' i) s es)
    (hap : ∀ i s es j s' es', T' i s es → T' j s' es' → i ≠ j → ρ' i = .full ∨ ρ' i ≠ ρ' j) (hst : Stays0 (fun t => ℓ (rn τ t)) (vρ σ ρ) m N m') (hrl : ∀ i s es, T' i s es → ∀ id, ρ' i = .row id → m.rows.length ≤ id ∨ ∃ i0 s0 es0, TokIn N i0 s0 es0 ∧ vρ σ ρ i0 = .row id) :
    RelW P fr ℓ (fun j => if j ∈ ks2 then ρ' j else ρ j) c (setAll τ (killAll L (sgToks σ ++ ks2)) N') env m' ∧ (∀ t cs, aget L.N t = some cs → (∀ n k, aget N n = some k → n < roName → rn τ n ≠ t) → m'.boxes[ℓ t]? = m.boxes[ℓ t]?) ∧
      (∀ i s es j s' es', T' i s es → Vis L j s' es' → j ∉ sgToks σ → ρ' i = .full ∨ ρ' i ≠ ρ j) ∧ (∀ i s es, T' i s es → ∀ id, ρ' i = .row id → c.base.rows.length ≤ id ∨ c.R0 id) ∧ ∀ j s es, Vis (setAll τ (killAll L (sgToks σ ++ ks2)) N') j s es → (T' j s es ∧ j ∈ ks2) ∨ (Vis L j s es ∧ j ∉ sgToks σ ∧ j ∉ ks2) := by
  have hks : ∀ j, j ∉ sgToks σ ++ ks2 → (fun j => if j ∈ ks2 then ρ' j else ρ j) j = ρ j := fun j hj => if_neg fun h => hj (List.mem_append_right _ h)
  -- rows that are not the call's
  have hmine : ∀ j s es, Vis L j s es → j ∉ sgToks σ → ∀ id, ρ j = .row id → ∀ x, m.rows[id]? = some x → m'.rows[id]? = some x := by
    intro j s es hj hjs id hid x hx
    refine hst.rframe id x hx (fun i s0 es0 hi e => ?_)
    rcases vwN_tok hv hi with h1 | ⟨i', h1, h2⟩
    · simp only [vρ, h1] at e; cases e
    · simp only [vρ, h1] at e
      rcases h.apart j s es i' s0 es0 hj h2.vis (fun e' => hjs (by rw [e']; exact sgToks_mem h1)) with h3 | h3
      · rw [h3] at hid; cases hid
      · exact h3 (by rw [hid, e])
  have hbox : ∀ t cs, aget L.N t = some cs → (∀ n k, aget N n = some k → n < roName → rn τ n ≠ t) → ∀ b, m.boxes[ℓ t]? = some b → m'.boxes[ℓ t]? = some b := by
    intro t cs ht hn b hb
    refine hst.frame _ b hb (fun n k hk hlt e => ?_)
    obtain ⟨c1, g1, _⟩ := vwN_get hv n k hk
    exact hn n k hk hlt (h.inj _ _ _ _ g1 ht e)
  have cases1 : ∀ {t ds}, aget (setAll τ (killAll L (sgToks σ ++ ks2)) N').N t = some ds → (∃ n cs, rn τ n = t ∧ ds = cs.map (CV.ren τ) ∧ aget N' n = some cs) ∨ ((∀ n cs, aget N n = some cs → rn τ n ≠ t) ∧ ∃ k, aget L.N t = some k ∧ ds = k.map (·.killAll (sgToks σ ++ ks2))) := by
    intro t ds hd
    rcases setAll_N hd with ⟨n, cs, _, h2, h3, h4⟩ | ⟨h1, h2⟩
    · exact .inl ⟨n, cs, h2, h3, h4⟩
    · refine .inr ⟨fun n cs hn => ?_, ?_⟩
      · obtain ⟨cs', hn'⟩ := sameNames_get' hN n cs hn
        exact h1 n cs' (mem_of_aget hn')
      · rw [killAll_N] at h2
        obtain ⟨k, hk, e⟩ := map_some1 h2
        exact ⟨k, hk, e.symm⟩
  have names : ∀ {t ds}, aget (setAll τ (killAll L (sgToks σ ++ ks2)) N').N t = some ds → ∃ k, aget L.N t = some k := by
    intro t ds hd
    rcases cases1 hd with ⟨n, cs, rfl, _, h3⟩ | ⟨_, k, hk, _⟩
    · obtain ⟨k, hk⟩ := sameNames_get hN n cs h3
      obtain ⟨c1, g1, _⟩ := vwN_get hv n k hk
      exact ⟨c1, g1⟩
    · exact ⟨k, hk⟩
  have visc : ∀ {j s es}, Vis (setAll τ (killAll L (sgToks σ ++ ks2)) N') j s es → (T' j s es ∧ j ∈ ks2) ∨ (Vis L j s es ∧ j ∉ sgToks σ ∧ j ∉ ks2) := by
    rintro j s es (⟨t, u, h1, h2⟩ | ⟨t, ds, h1, h2⟩)
    · rw [setAll_S] at h1
      obtain ⟨h3, h4⟩ := vis_killAll (.inl ⟨t, u, h1, h2⟩)
      exact .inr ⟨h3, fun e => h4 (List.mem_append_left _ e), fun e => h4 (List.mem_append_right _ e)⟩
    · rcases setAll_N h1 with ⟨n, cs, _, _, rfl, h4⟩ | ⟨_, h4⟩
      · exact .inl ⟨hT _ _ _ ⟨n, cs, h4, mem_ren h2⟩, hk2 _ _ _ (hT _ _ _ ⟨n, cs, h4, mem_ren h2⟩)⟩
      · obtain ⟨h5, h6⟩ := vis_killAll (.inr ⟨t, ds, h4, h2⟩)
        exact .inr ⟨h5, fun e => h6 (List.mem_append_left _ e), fun e => h6 (List.mem_append_right _ e)⟩
  have hold : ∀ j s es, Vis L j s es → j ∉ sgToks σ → MineT m'.rows j (ρ j) s es := by
    intro j s es h1 h2
    exact (h.tok j s es h1).mono fun id h3 x h4 => hmine j s es h1 h2 id h3 x h4
  have hrows : ∀ j s es, Vis L j s es → ∀ id, ρ j = .row id → id < m.rows.length := by
    intro j s es h1 id hid
    rcases (h.tok j s es h1).row with h2 | ⟨id', h2, h3⟩
    · rw [h2] at hid; cases hid
    · rw [h2] at hid; injection hid with hid; omega
  have cross : ∀ i s es j s' es', T' i s es → Vis L j s' es' → j ∉ sgToks σ → ρ' i = .full ∨ ρ' i ≠ ρ j := by
    intro i s es j s' es' h1 h2 h3
    cases hi : ρ' i with
    | full => exact .inl rfl
    | foreign =>
      exfalso
      rcases (htok i s es h1).row with g1 | ⟨id, g1, _⟩
      · rw [hi] at g1; cases g1
      · rw [hi] at g1; cases g1
    | row id =>
      right
      intro e
      rcases hrl i s es h1 id hi with g1 | ⟨i0, s0, es0, g1, g2⟩
      · have := hrows j s' es' h2 id e.symm; omega
      · rcases vwN_tok hv g1 with g3 | ⟨i', g3, g4⟩
        · simp only [vρ, g3] at g2; cases g2
        · simp only [vρ, g3] at g2
          rcases h.apart i' s0 es0 j s' es' g4.vis h2 (fun e' => h3 (by rw [← e']; exact sgToks_mem g3)) with g5 | g5
          · rw [g5] at g2; cases g2
          · exact g5 (by rw [g2, e])
  refine ⟨⟨hst.mode, fun t u h1 h2 => ?_, fun t ds h1 => ?_, fun j s es hj => ?_, fun i s es j s' es' h1 h2 hne => ?_, fun t t' k k' h1 h2 h3 => ?_, fun p hp => ?_, fun t k h1 => ?_, fun j s es hj id hid => ?_, ⟨Nat.le_trans h.len.1 hst.len.1, Nat.le_trans h.len.2 hst.len.2⟩, fun l b h1 h2 => ?_, fun id x h1 h2 => ?_, fun q hq => ?_, fun q hq t k h1 => ?_⟩, fun t cs ht hn => ?_, cross, fun j s es h1 id hid => ?_, fun j s es hj => visc hj⟩
  · rw [setAll_S, killAll_S] at h1
    obtain ⟨u0, h3, rfl⟩ := map_some1 h1
    obtain ⟨a, h4, h5⟩ := h.slot t u0 h3 (killAll_dead h2)
    exact ⟨a, h4, srel_killAll h5 hks⟩
  · rcases cases1 h1 with ⟨n, cs, rfl, rfl, h4⟩ | ⟨h2, k, h3, rfl⟩
    · obtain ⟨as_, h5, h6⟩ := hlocs n cs h4
      refine ⟨as_, h5, crels_ren ⟨h6.1, fun j x a hj ha => ?_⟩⟩
      have := h6.2 j x a hj ha
      cases x with
      | own i s es => simp only [CRel] at this ⊢; rw [if_pos (hk2 _ _ _ (hT _ _ _ ⟨n, cs, h4, List.mem_of_getElem? hj⟩))]; exact this
      | _ => exact this
    · obtain ⟨as_, h5, h6⟩ := h.locs t k h3
      exact ⟨as_, hbox t k h3 (fun n k hk _ => h2 n k hk) _ h5, crels_killAll h6 hks⟩
  · rcases visc hj with ⟨h1, h2⟩ | ⟨h1, h2, h3⟩
    · simp only [if_pos h2]; exact htok j s es h1
    · simp only [if_neg h3]; exact hold j s es h1 h2
  · rcases visc h1 with ⟨g1, g2⟩ | ⟨g1, g2, g3⟩
    · rcases visc h2 with ⟨k1, k2⟩ | ⟨k1, k2, k3⟩
      · simp only [if_pos g2, if_pos k2]; exact hap i s es j s' es' g1 k1 hne
      · simp only [if_pos g2, if_neg k3]; exact cross i s es j s' es' g1 k1 k2
    · rcases visc h2 with ⟨k1, k2⟩ | ⟨k1, k2, k3⟩
      · simp only [if_neg g3, if_pos k2]
        rcases cross j s' es' i s es k1 g1 g2 with h5 | h5
        · rw [h5]
          cases hj : ρ i with
          | full => exact .inl rfl
          | _ => exact .inr (by simp)
        · exact .inr fun e => h5 e.symm
      · simp only [if_neg g3, if_neg k3]; exact h.apart i s es j s' es' g1 k1 hne
  · obtain ⟨k1, g1⟩ := names h1
    obtain ⟨k2, g2⟩ := names h2
    exact h.inj t t' _ _ g1 g2 h3
  · obtain ⟨⟨k, h1⟩, h2⟩ := h.bor p hp
    refine ⟨?_, h2⟩
    have : ∀ (N' : List (Nat × List CV)) (L : LEnv) k, aget L.N p.1 = some k → ∃ k', aget (setAll τ L N').N p.1 = some k' := by
      intro N'
      induction N' with
      | nil => intro L k h; exact ⟨k, h⟩
      | cons x l ih =>
        obtain ⟨n0, c0⟩ := x
        intro L k h
        simp only [setAll, lvar, aget]
        split
        · exact ⟨_, rfl⟩
        · exact ih L k h
    exact this N' _ _ (by rw [killAll_N, h1]; rfl)
  · obtain ⟨k1, g1⟩ := names h1
    exact h.low t k1 g1
  · rcases visc hj with ⟨h1, h2⟩ | ⟨h1, h2, h3⟩
    · simp only [if_pos h2] at hid
      rcases hrl j s es h1 id hid with g1 | ⟨i0, s0, es0, g1, g2⟩
      · left; have := h.len.2; omega
      · rcases vwN_tok hv g1 with g3 | ⟨i', g3, g4⟩
        · simp only [vρ, g3] at g2; cases g2
        · simp only [vρ, g3] at g2; exact h.rlow i' s0 es0 g4.vis id g2
    · simp only [if_neg h3] at hid; exact h.rlow j s es h1 id hid
  · refine hst.frame l b (h.frame l b h1 h2) (fun n k hk hlt e => ?_)
    obtain ⟨c1, g1, _⟩ := vwN_get hv n k hk
    rcases h.low _ c1 g1 with h3 | ⟨p, hp, h3⟩ | h3
    · have := (List.getElem?_eq_some_iff.1 h1).1; omega
    · obtain ⟨⟨k0, g3⟩, g4⟩ := h.bor p hp
      have e1 := h.inj p.1 _ k0 c1 g3 g1 (g4.trans h3)
      have := roOk_spec hro n k hk hlt
      exact h2 p hp (by omega) (h3.trans e)
    · have := roOk_spec hro n k hk hlt; omega
  · refine hst.rframe id x (h.rframe id x h1 h2) (fun i s es hi e => ?_)
    rcases vwN_tok hv hi with g3 | ⟨i', g3, g4⟩
    · simp only [vρ, g3] at e; cases e
    · simp only [vρ, g3] at e
      rcases h.rlow i' s es g4.vis id e with h6 | h6
      · have := (List.getElem?_eq_some_iff.1 h1).1; omega
      · exact h2 h6
  · refine hst.frame q.1 q.2 (h.froz.1 q hq) (fun n k hk _ e => ?_)
    obtain ⟨c1, g1, _⟩ := vwN_get hv n k hk
    exact h.froz.2 q hq _ c1 g1 e
  · obtain ⟨k1, g1⟩ := names h1
    exact h.froz.2 q hq t k1 g1
  · obtain ⟨as_, h5, _⟩ := h.locs t cs ht
    rw [h5]; exact hbox t cs ht hn _ h5
  · rcases hrl j s es h1 id hid with g1 | ⟨i0, s0, es0, g1, g2⟩
    · left; have := h.len.2; omega
    · rcases vwN_tok hv g1 with g3 | ⟨i', g3, g4⟩
      · simp only [vρ, g3] at g2; cases g2
      · simp only [vρ, g3] at g2; exact h.rlow i' s0 es0 g4.vis id g2
/-- After a call that works on some variables. -/
theorem RelW.vars (h : RelW P fr ℓ ρ c L env m) {N N' : List (Nat × List CV)} {ρ' : Nat → Own} {m' : Mem} (hN : sameNames N N' = true) (hτ : rnOk τ N = true) (hro : roOk τ N = true) (hv : vwN σ τ L.N N) (hh : Held (fun t => ℓ (rn τ t)) ρ' m' N') (hst : Stays (fun t => ℓ (rn τ t)) (vρ σ ρ) m N ρ' m' N') :
    RelW P fr ℓ (fun j => if j ∈ toksN N' then ρ' j else ρ j) c (setAll τ (killAll L (sgToks σ ++ toksN N')) N') env m' ∧ ∀ t cs, aget L.N t = some cs → (∀ n k, aget N n = some k → n < roName → rn τ n ≠ t) → m'.boxes[ℓ t]? = m.boxes[ℓ t]? := by
  obtain ⟨h1, h2, _⟩ := h.varsT (T' := TokIn N') (ks2 := toksN N') hN hτ hro hv (fun _ _ _ h => h) (fun i s es ⟨t, cs, h1, h2⟩ => toksN_mem h1 h2) hh.locs hh.tok hh.apart hst.to0 hst.rlow
  exact ⟨h1, h2⟩
/-- .. that only reads them. -/
theorem Stays.ext {N N' : List (Nat × List CV)} {ρ' : Nat → Own} {m' : Mem} (hm : m.mode = seatMu) (h : Stays ℓ ρ m N ρ' m' N') (hr : allRo N = true) (hrow : ∀ (id : Nat) (x : Option (Nat × List AV)), m.rows[id]? = some x → m'.rows[id]? = some x) : Ext m m' := by
  have key : ∀ {α : Type} {a b : List α}, a.length ≤ b.length → (∀ (i : Nat) (x : α), a[i]? = some x → b[i]? = some x) → ∃ x, b = a ++ x := by
    intro α a b hl h
    refine ⟨b.drop a.length, ?_⟩
    apply List.ext_getElem?
    intro i
    by_cases hi : i < a.length
    · rw [List.getElem?_append_left hi, List.getElem?_eq_getElem hi]; exact h i _ (List.getElem?_eq_getElem hi)
    · rw [List.getElem?_append_right (by omega), List.getElem?_drop]; congr 1; omega
  refine ⟨key h.len.1 fun l b hb => h.frame l b hb fun t cs ht hlt => ?_, key h.len.2 hrow, by rw [h.mode, hm]⟩
  have := allRo_spec hr t cs ht
  omega
theorem Stays0.ext {N : List (Nat × List CV)} {m' : Mem} (hm : m.mode = seatMu) (h : Stays0 ℓ ρ m N m') (hr : allRo N = true) (hrow : ∀ (id : Nat) (x : Option (Nat × List AV)), m.rows[id]? = some x → m'.rows[id]? = some x) : Ext m m' := by
  have key : ∀ {α : Type} {a b : List α}, a.length ≤ b.length → (∀ (i : Nat) (x : α), a[i]? = some x → b[i]? = some x) → ∃ x, b = a ++ x := by
    intro α a b hl h
    refine ⟨b.drop a.length, ?_⟩
    apply List.ext_getElem?
    intro i
    by_cases hi : i < a.length
    · rw [List.getElem?_append_left hi, List.getElem?_eq_getElem hi]; exact h i _ (List.getElem?_eq_getElem hi)
    · rw [List.getElem?_append_right (by omega), List.getElem?_drop]; congr 1; omega
  refine ⟨key h.len.1 fun l b hb => h.frame l b hb fun t cs ht hlt => ?_, key h.len.2 hrow, by rw [h.mode, hm]⟩
  have := allRo_spec hr t cs ht
  omega
theorem LV.toks_mem {v : LV} {i s : Nat} {es : List AV} (h : v.has i s es) : i ∈ v.toks := by
  cases v with
  | own j s' es' => obtain ⟨rfl, _, _⟩ := h; simp [LV.toks]
  | ag cs => exact toksC_mem h
  | _ => exact h.elim
/-- A result without addresses, wherever the variables lie. -/
theorem SRel.move {ℓ' : Nat → Nat} {ρ' : Nat → Own} {v : LV} {a : AV} (hv : v.resOk = true) (h : SRel P [] ℓ ρ v a) (hρ : ∀ i s es, v.has i s es → ρ' i = ρ i) : SRel P fr ℓ' ρ' v a := by
  cases v with
  | v x => exact h
  | own i s es => simp only [SRel] at h ⊢; rw [hρ i s es ⟨rfl, rfl, rfl⟩]; exact h
  | ag cs =>
    obtain ⟨as_, h1, h2, h3⟩ := h
    refine ⟨as_, h1, h2, fun j c a hj ha => ?_⟩
    have h4 := h3 j c a hj ha
    have h5 := List.all_eq_true.1 hv c (List.mem_of_getElem? hj)
    cases c with
    | own i s es => simp only [CRel] at h4 ⊢; rw [hρ i s es (List.mem_of_getElem? hj)]; exact h4
    | fn f a b => cases h5
    | _ => exact h4
  | _ => cases hv
/-- A value with new slices. -/
theorem RelW.putNew (h : RelW P fr ℓ ρ c L env m) {dst : Option Tmp} {v : LV} {a : AV} (hv : SRel P fr ℓ ρ v a) (htok : ∀ i s es, v.has i s es → MineT m.rows i (ρ i) s es) (hap1 : ∀ i s es j s' es', v.has i s es → v.has j s' es' → i ≠ j → ρ i = .full ∨ ρ i ≠ ρ j)
    (hap2 : ∀ i s es j s' es', v.has i s es → Vis L j s' es' → i ≠ j → ρ i = .full ∨ ρ i ≠ ρ j) (hrl : ∀ i s es, v.has i s es → ∀ id, ρ i = .row id → c.base.rows.length ≤ id ∨ c.R0 id) (hd : DstOk env dst) : RelW P fr ℓ ρ c (lput L dst v) (aput env dst a) m := by
  have vis : ∀ {i s es}, Vis (lput L dst v) i s es → v.has i s es ∨ Vis L i s es := by
    rintro i s es (⟨t, u, h1, h2⟩ | ⟨t, cs, h1, h2⟩)
    · by_cases e : dst = some t
      · subst e
        rw [lget_put_self] at h1
        injection h1 with h1; subst h1; exact .inl h2
      · rw [lget_put_ne e] at h1; exact .inr (.inl ⟨t, u, h1, h2⟩)
    · rw [lput_N] at h1; exact .inr (.inr ⟨t, cs, h1, h2⟩)
  refine ⟨h.mode, fun t u h1 h2 => ?_, fun t cs h1 => by rw [lput_N] at h1; exact h.locs t cs h1, fun i s es hx => (vis hx).elim (htok i s es) (h.tok i s es), fun i s es j s' es' h1 h2 hne => ?_, fun t t' cs cs' h1 h2 => by rw [lput_N] at h1 h2; exact h.inj t t' cs cs' h1 h2, fun p hp => by rw [lput_N]; exact h.bor p hp, fun t cs h1 => by rw [lput_N] at h1; exact h.low t cs h1, fun i s es hx => (vis hx).elim (hrl i s es) (h.rlow i s es), h.len, h.frame, h.rframe, ⟨h.froz.1, fun q hq t cs h1 => by rw [lput_N] at h1; exact h.froz.2 q hq t cs h1⟩⟩
  · by_cases e : dst = some t
    · subst e
      rw [lget_put_self] at h1
      injection h1 with h1; subst h1
      exact ⟨a, by simp only [aput]; rw [List.getElem?_set_self (hd t rfl)], hv⟩
    · rw [lget_put_ne e] at h1
      obtain ⟨b, h3, h4⟩ := h.slot t u h1 h2
      exact ⟨b, aput_get e h3, h4⟩
  · rcases vis h1 with g1 | g1
    · rcases vis h2 with g2 | g2
      · exact hap1 i s es j s' es' g1 g2 hne
      · exact hap2 i s es j s' es' g1 g2 hne
    · rcases vis h2 with g2 | g2
      · rcases hap2 j s' es' i s es g2 g1 (fun e => hne e.symm) with h5 | h5
        · rw [h5]
          cases hj : ρ i with
          | full => exact .inl rfl
          | _ => exact .inr (by simp)
        · exact .inr fun e => h5 e.symm
      · exact h.apart i s es j s' es' g1 g2 hne
end
end Go.Proofs.YtdnnmopncndebaaDoor.G
set_option linter.unusedVariables false
set_option linter.unusedSectionVars false
set_option linter.unusedSimpArgs false
set_option maxRecDepth 20000
namespace Go.Proofs.YtdnnmopncndebaaDoor.G

variable [Mu]
section
variable {P : Program} {fr : Fro} {ℓ : Nat → Nat} {ρ : Nat → Own} {c : LCtx} {L : LEnv} {env : List AV} {m : Mem}

def AV.fz : AV → AV
  | .tuple vs => .tuple (vs.map AV.strip)
  | a => a.strip
/-- A result that is handed on: rows that were turned in place stay from now on. -/
def CV.rdF : CV → Option AV
  | .own _ _ es => some (.slice .foreign es)
  | x => x.rd
def LV.rdF : LV → Option AV
  | .own _ _ es => some (.slice .foreign es)
  | .ag cs => (cs.mapM CV.rdF).map .agg
  | x => x.rd
/-- A result that nobody owns any more. -/
theorem frz_strip {m : Mem} {a : AV} (hf : Flat a.strip) : Frz m a a.strip := by
  have cell : ∀ c : AV, Flat c.strip1 → Frz m c c.strip1 := by
    intro c hc
    cases c with
    | slice o es => cases hc with | slice _ _ _ h => exact .mk h
    | _ => exact Flat.frz hc
  cases a with
  | slice o es => cases hf with | slice _ _ _ h => exact .mk h
  | agg cs =>
    cases hf with
    | agg _ h =>
      refine .agg _ _ (by simp) (fun j c c' h1 h2 => ?_)
      rw [List.getElem?_map, h1] at h2
      injection h2 with h2; subst h2
      exact cell c (h _ (List.mem_map.2 ⟨c, List.mem_of_getElem? h1, rfl⟩))
  | _ => exact Flat.frz hf
theorem stripR1_strip (a : AV) : a.stripR1.strip = a.strip := by
  cases a <;> simp [AV.stripR1, AV.strip, AV.strip1]
  intro c _
  cases c <;> rfl
theorem frz_fz {m : Mem} {a : AV} (hf : Flat a.fz) : Frz m a.stripR a.fz := by
  cases a with
  | tuple vs =>
    simp only [AV.fz, AV.stripR] at hf ⊢
    cases hf with
    | tuple _ h =>
      refine .tuple _ _ (by simp) (fun j c c' h1 h2 => ?_)
      rw [List.getElem?_map] at h1 h2
      cases hv : vs[j]? with
      | none => rw [hv] at h1; cases h1
      | some x =>
        rw [hv] at h1 h2
        injection h1 with h1; injection h2 with h2; subst h1 h2
        rw [← stripR1_strip]
        exact frz_strip (by rw [stripR1_strip]; exact h _ (List.mem_map.2 ⟨x, List.mem_of_getElem? hv, rfl⟩))
  | agg cs =>
    have e : (AV.agg cs).stripR = (AV.agg cs).fz := rfl
    rw [e]; exact hf.frz
  | slice o es => exact frz_strip hf
  | _ => exact hf.frz

theorem mapM_two {α β : Type} {f : α → Option β} : ∀ {l : List α} {r : List β}, l.mapM f = some r → r.length = l.length ∧ ∀ (j : Nat) (y : β), r[j]? = some y → ∃ z, l[j]? = some z ∧ f z = some y := by
  intro l
  induction l with
  | nil => intro r h; simp at h; subst h; exact ⟨rfl, fun j y h => by simp at h⟩
  | cons x l ih =>
    intro r h
    simp only [List.mapM_cons, Option.pure_def, Option.bind_eq_bind] at h
    obtain ⟨a, h1, h⟩ := bind_some' h
    obtain ⟨as_, h2, h⟩ := bind_some' h
    injection h with h; subst h
    obtain ⟨i1, i2⟩ := ih h2
    refine ⟨by simp [i1], fun j y hy => ?_⟩
    cases j with
    | zero => simp at hy; subst hy; exact ⟨x, rfl, h1⟩
    | succ j => simpa using i2 j y (by simpa using hy)
theorem MineT.frz {i s : Nat} {o : Own} {es : List AV} (h : MineT m.rows i o s es) (hf : ∀ e ∈ es, ∀ c ∈ e.cells, Flat c) : Frz m (ownAV i s o es) (.slice .foreign es) := by
  unfold MineT at h
  split at h
  · rename_i hv
    rcases h with ⟨rfl, rfl⟩ | ⟨id, rfl, h1, h2, h3⟩
    · simp only [ownAV, if_pos hv]; exact .mk hf
    · simp only [ownAV, if_pos hv]
      refine .vec id 0 es.length s 0 .opn (flatC es) es h1 rfl (by rw [flatC_length h2]; omega) h2 (fun k j e' c c' g1 g2 g3 => ?_)
      have hj : j < s := by rw [← h2 e' (List.mem_of_getElem? g1)]; exact (List.getElem?_eq_some_iff.1 g3).1
      rw [Nat.zero_add, flatC_get h2 g1 hj, g3] at g2
      injection g2 with g2; subst g2
      exact (hf e' (List.mem_of_getElem? g1) c' (List.mem_of_getElem? g3)).frz
  · rename_i hv
    simp only [ownAV, if_neg hv]; exact .mk hf
theorem ownAV_strip (i s : Nat) (o : Own) (es : List AV) : (ownAV i s o es).stripR = ownAV i s o es ∧ (ownAV i s o es).stripR1 = ownAV i s o es ∧ (isV i = true → (∃ id, o = .row id) → (ownAV i s o es).strip1 = ownAV i s o es) ∧ (ownAV i s o es).strip1 = (match isV i, o with
    | true, .row id => .vec id 0 es.length s .opn
    | _, _ => .slice .foreign es) := by
  unfold ownAV
  cases isV i <;> cases o <;> refine ⟨rfl, rfl, ?_, rfl⟩ <;> intro h1 h2 <;> first | (cases h1; done) | (obtain ⟨_, h2⟩ := h2; cases h2; done) | rfl
theorem MineT.frz1 {i s : Nat} {o : Own} {es : List AV} (h : MineT m.rows i o s es) (hf : ∀ e ∈ es, ∀ c ∈ e.cells, Flat c) : Frz m (ownAV i s o es).strip1 (.slice .foreign es) := by
  have k := h.frz hf
  rw [(ownAV_strip i s o es).2.2.2]
  cases hv : isV i with
  | false => exact .mk hf
  | true =>
    cases o with
    | row id => simp only [ownAV, hv, if_true] at k; exact k
    | _ => exact .mk hf
theorem slice_flat {o : Own} {es : List AV} (h : Flat (.slice o es)) : ∀ e ∈ es, ∀ c ∈ e.cells, Flat c := by
  cases h with | slice _ _ _ h => exact h
/-- A result, handed on. -/
theorem LV.frzF {v : LV} {a a' : AV} (h : v.rdF = some a) (hr : SRel P fr ℓ ρ v a') (ht : ∀ i s es, v.has i s es → MineT m.rows i (ρ i) s es) : (Flat a.fz → Frz m a'.stripR a.fz) ∧ (Flat a.strip → Frz m a'.stripR1 a.strip) := by
  cases v with
  | v x =>
    simp only [LV.rdF, LV.rd] at h
    injection h with h; subst h
    have e : a' = x := hr
    subst e
    exact ⟨frz_fz, fun hf => by rw [← stripR1_strip] at hf ⊢; exact frz_strip hf⟩
  | own i s es =>
    simp only [LV.rdF] at h
    injection h with h; subst h
    have e : a' = ownAV i s (ρ i) es := hr
    subst e
    have hm := ht i s es ⟨rfl, rfl, rfl⟩
    obtain ⟨e1, e2, _⟩ := ownAV_strip i s (ρ i) es
    rw [e1, e2]
    exact ⟨fun hf => hm.frz (slice_flat hf), fun hf => hm.frz (slice_flat hf)⟩
  | ag cs =>
    obtain ⟨as_, rfl, hc⟩ := hr
    simp only [LV.rdF] at h
    obtain ⟨ds, hds, rfl⟩ := map_some1 h
    have cells : ∀ (j : Nat) (c' d' : AV), (as_.map AV.strip1)[j]? = some c' → (ds.map AV.strip1)[j]? = some d' → Flat d' → Frz m c' d' := by
      intro j c' d' h1 h2 hf
      rw [List.getElem?_map] at h1 h2
      obtain ⟨x, hx, rfl⟩ := map_some1 h1
      obtain ⟨y, hy, rfl⟩ := map_some1 h2
      obtain ⟨z, hz, hzy⟩ := (mapM_two hds).2 j y hy
      have hrel := hc.2 j z x hz hx
      cases z with
      | v w =>
        simp only [CV.rdF, CV.rd] at hzy
        injection hzy with hzy; subst hzy
        have e : x = w := hrel
        subst e
        exact hf.frz
      | own i s es =>
        simp only [CV.rdF] at hzy
        injection hzy with hzy; subst hzy
        have e : x = ownAV i s (ρ i) es := hrel
        subst e
        exact (ht i s es (List.mem_of_getElem? hz)).frz1 (slice_flat hf)
      | fn f a b => cases hzy
      | dead => cases hzy
    have hl : as_.length = ds.length := by rw [hc.1, (mapM_two hds).1]
    have main : Flat (.agg (ds.map AV.strip1)) → Frz m (.agg (as_.map AV.strip1)) (.agg (ds.map AV.strip1)) := by
      intro hf
      cases hf with
      | agg _ hf =>
        exact .agg _ _ (by simp [hl]) (fun j c c' h1 h2 => cells j c c' h1 h2 (hf c' (List.mem_of_getElem? h2)))
    exact ⟨main, main⟩
  | _ => cases h

/- Calls that read slices which are turned in place; values built of such slices. -/
theorem LV.frzA {v : LV} {a a' : AV} (h : v.rdF = some a) (hr : SRel P fr ℓ ρ v a') (ht : ∀ i s es, v.has i s es → MineT m.rows i (ρ i) s es) (hf : Flat a.strip) : Frz m a'.strip a.strip := by
  cases v with
  | v x => simp only [LV.rdF, LV.rd] at h; injection h with h; subst h; have e : a' = x := hr; subst e; exact hf.frz
  | own i s es =>
    simp only [LV.rdF] at h; injection h with h; subst h
    have e : a' = ownAV i s (ρ i) es := hr
    subst e
    have hm := ht i s es ⟨rfl, rfl, rfl⟩
    have e2 : (ownAV i s (ρ i) es).strip = (ownAV i s (ρ i) es).strip1 := by unfold ownAV; cases isV i <;> cases ρ i <;> rfl
    rw [e2]; exact hm.frz1 (slice_flat hf)
  | ag cs =>
    have h2 := (LV.frzF (v := .ag cs) h hr ht).2 hf
    obtain ⟨as', rfl, _⟩ := hr
    exact h2
  | _ => cases h
/-- A call's arguments, as_ they stand now. -/
def lArgsF (L : LEnv) (l : List Operand) : Option (List AV) := (levalsA L l).bind (·.mapM fun v => v.rdF.map AV.strip)
theorem RelW.lArgsF (h : RelW P fr ℓ ρ c L env m) : ∀ {l : List Operand} {xs : List AV}, lArgsF L l = some xs → (∀ a ∈ xs, Flat a) → ∃ bs, aevals env l = some bs ∧ xs.length = (bs.map AV.strip).length ∧ ∀ (j : Nat) (a a' : AV), (bs.map AV.strip)[j]? = some a → xs[j]? = some a' → Frz m a a' := by
  intro l
  induction l with
  | nil => intro xs hx _; simp [G.lArgsF, G.levalsA] at hx; subst hx; exact ⟨[], rfl, rfl, fun j a a' h => by simp at h⟩
  | cons x l ih =>
    intro xs hx hfl
    obtain ⟨vs, h1, h2⟩ := bind_some' hx
    simp only [G.levalsA, List.mapM_cons, Option.pure_def, Option.bind_eq_bind] at h1
    obtain ⟨v, h3, h1⟩ := bind_some' h1
    obtain ⟨vs', h4, h1⟩ := bind_some' h1
    injection h1 with h1; subst h1
    simp only [List.mapM_cons, Option.pure_def, Option.bind_eq_bind] at h2
    obtain ⟨y, h5, h2⟩ := bind_some' h2
    obtain ⟨ys, h6, h2⟩ := bind_some' h2
    injection h2 with h2; subst h2
    obtain ⟨z, hz, rfl⟩ := map_some1 h5
    obtain ⟨bs, k1, k2, k3⟩ := ih (xs := ys) (by simp only [G.lArgsF, G.levalsA, h4, Option.bind_some]; exact h6) (fun a ha => hfl a (List.mem_cons_of_mem _ ha))
    obtain ⟨_, ⟨b, hb, hbr⟩, hvis⟩ := h.levalA h3
    refine ⟨b :: bs, ?_, by simpa using k2, fun j a a' hj hj' => ?_⟩
    · simp only [aevals, List.mapM_cons, Option.pure_def, Option.bind_eq_bind, hb, Option.bind_some]
      rw [show l.mapM (aeval env) = some bs from k1]; rfl
    · cases j with
      | zero =>
        simp at hj hj'; subst hj hj'
        exact LV.frzA hz hbr (fun i s es hh => h.tok i s es (hvis i s es hh)) (hfl _ List.mem_cons_self)
      | succ j => exact k3 j a a' (by simpa using hj) (by simpa using hj')
/-- A call that reads and tells numbers and truths. -/
def LBor (P : Program) (f : FuncId) (as_ : List AV) (L : LEnv) (K : LV → LEnv → List Nat → Prop) : Prop := ∃ r, Fn P f as_ r ∧ (∀ a ∈ as_, Flat a) ∧ Scal r ∧ K (.v r) L []

/-- Another number for a slice in a value's part. -/
@[irreducible] def unB (j : Nat) : Nat := j - 40000000
theorem unB_add (i : Nat) : unB (i + 40000000) = i := by unfold unB; omega
theorem unB_inj {i j : Nat} (hi : 40000000 ≤ i) (hj : 40000000 ≤ j) (h : unB i = unB j) : i = j := by unfold unB at h; omega
def CV.toB : CV → Option CV
  | .v a => some (.v a.strip1)
  | .own i s es => if isV i = true then some (.own (i + 40000000) s es) else some (.v (.slice .foreign es))
  | _ => none
def lpartsB (L : LEnv) (l : List (Nat × Operand)) : Option (List (Nat × List CV)) := l.mapM fun p => (levalA L p.2).bind fun v => (v.cells).bind fun cs => (cs.mapM CV.toB).map (p.1, ·)
def lfillB (places : Nat → Option (Nat × Nat)) (cells : List CV) : List (Nat × List CV) → Option (List CV)
  | [] => some cells
  | (i, xs) :: rest => match places i with
    | none => none
    | some (off, size) => if xs.length = size ∧ off + size ≤ cells.length then lfillB places (spliceC cells off xs) rest else none
def lbuildB (P : Program) (t : TypeId) (parts : List (Nat × List CV)) : Option (List CV) :=
  match zeroT P t, placesT P t with
  | some cs, some ps => lfillB (ps[·]?) (cs.map .v) parts
  | _, _ => none
def bKill (L : LEnv) (cs : List CV) : LEnv := killAll L (toksC cs ++ (toksC cs).map unB)

theorem toB_rel {x d : CV} {a : AV} (h : x.toB = some d) (hr : CRel ℓ ρ x a) : CRel ℓ (fun j => ρ (unB j)) d a.strip1 ∧ ∀ j s es, d = .own j s es → isV (unB j) = true ∧ isV j = true ∧ 40000000 ≤ j ∧ x = .own (unB j) s es := by
  cases x with
  | v y => injection h with h; subst h; have e : a = y := hr; subst e; exact ⟨rfl, fun j s es e => by cases e⟩
  | own i s es =>
    have e : a = ownAV i s (ρ i) es := hr
    subst e
    simp only [CV.toB] at h
    cases hi : isV i with
    | true =>
      rw [hi, if_pos rfl] at h
      injection h with h; subst h
      have h1 : isV (i + 40000000) = true := by simp only [isV, decide_eq_true_eq] at hi ⊢; omega
      have h2 : isB (i + 40000000) = true := by simp only [isV, isB, decide_eq_true_eq] at hi ⊢; omega
      refine ⟨?_, fun j s' es' e => ?_⟩
      · simp only [CRel, unB_add]
        rw [(ownAV_strip i s (ρ i) es).2.2.2, hi]
        unfold ownAV
        rw [if_pos h1, h2]
        cases ρ i <;> rfl
      · injection e with e1 e2 e3; subst e1 e2 e3
        exact ⟨by rw [unB_add]; exact hi, h1, by omega, by rw [unB_add]⟩
    | false =>
      rw [hi] at h
      simp only [Bool.false_eq_true, if_false] at h
      injection h with h; subst h
      refine ⟨?_, fun j s' es' e => by cases e⟩
      simp only [CRel]
      rw [(ownAV_strip i s (ρ i) es).2.2.2, hi]
  | fn f a b => cases h
  | dead => cases h
theorem toBs_rel {cs ds : List CV} {bs : List AV} (h : cs.mapM CV.toB = some ds) (hr : CRels ℓ ρ cs bs) : CRels ℓ (fun j => ρ (unB j)) ds (bs.map AV.strip1) ∧ ∀ j s es, CV.own j s es ∈ ds → isV (unB j) = true ∧ isV j = true ∧ 40000000 ≤ j ∧ CV.own (unB j) s es ∈ cs := by
  obtain ⟨h1, h2⟩ := mapM_two h
  refine ⟨⟨by rw [List.length_map, hr.1, h1], fun j d a hd ha => ?_⟩, fun j s es hm => ?_⟩
  · obtain ⟨z, hz, hzd⟩ := h2 j d hd
    rw [List.getElem?_map] at ha
    obtain ⟨b, hb, rfl⟩ := map_some1 ha
    exact (toB_rel (ρ := ρ) (ℓ := ℓ) hzd (hr.2 j z b hz hb)).1
  · obtain ⟨k, hk, he⟩ := List.getElem_of_mem hm
    have hd : ds[k]? = some (.own j s es) := by rw [← he]; exact List.getElem?_eq_getElem hk
    obtain ⟨z, hz, hzd⟩ := h2 k _ hd
    have hkb : k < bs.length := by rw [hr.1, ← h1]; exact hk
    obtain ⟨e1, e2, e3, e4⟩ := (toB_rel (ρ := ρ) (ℓ := ℓ) hzd (hr.2 k z _ hz (List.getElem?_eq_getElem hkb))).2 j s es rfl
    exact ⟨e1, e2, e3, by rw [← e4]; exact List.mem_of_getElem? hz⟩
theorem lfillB_rel {places : Nat → Option (Nat × Nat)} : ∀ {ps : List (Nat × List CV)} {qs : List (Nat × AV)} {cells out : List CV} {bs : List AV}, lfillB places cells ps = some out → CRels ℓ ρ cells bs → ps.length = qs.length → (∀ (j : Nat) (p : Nat × List CV) (q : Nat × AV), ps[j]? = some p → qs[j]? = some q → p.1 = q.1 ∧ notTuple q.2 = true ∧ CRels ℓ ρ p.2 (q.2.cells.map AV.strip1)) →
    (∃ out', afill places bs qs = some out' ∧ CRels ℓ ρ out out') ∧ ∀ x ∈ out, x ∈ cells ∨ ∃ p ∈ ps, x ∈ p.2 := by
  intro ps
  induction ps with
  | nil =>
    intro qs cells out bs h hr hl _
    simp [lfillB] at h; subst h
    have : qs = [] := List.eq_nil_of_length_eq_zero hl.symm
    subst this
    exact ⟨⟨bs, rfl, hr⟩, fun x hx => .inl hx⟩
  | cons p ps ih =>
    intro qs cells out bs h hr hl hp
    obtain ⟨i, xs⟩ := p
    cases qs with
    | nil => simp at hl
    | cons q qs =>
      obtain ⟨i', v⟩ := q
      obtain ⟨e1, e2, e3⟩ := hp 0 _ _ rfl rfl
      dsimp only at e1 e2 e3
      subst e1
      simp only [lfillB] at h
      cases hpl : places i with
      | none => rw [hpl] at h; cases h
      | some os =>
        obtain ⟨off, size⟩ := os
        rw [hpl] at h
        dsimp only at h
        split at h
        · rename_i hc
          have hl3 : v.cells.length = size := by rw [← hc.1, ← e3.1, List.length_map]
          have hl4 : off + size ≤ bs.length := by rw [hr.1]; exact hc.2
          obtain ⟨⟨out', k1, k2⟩, k3⟩ := ih (bs := splice bs off (v.cells.map AV.strip1)) h (crels_splice hr e3 off) (by simpa using hl) (fun j p q hj hq => hp (j + 1) p q (by simpa using hj) (by simpa using hq))
          refine ⟨⟨out', ?_, k2⟩, fun x hx => ?_⟩
          · simp only [afill, hpl]; rw [if_pos ⟨hl3, hl4, e2⟩]; exact k1
          · rcases k3 x hx with k4 | ⟨p, k4, k5⟩
            · rcases mem_splice k4 with k6 | k6
              · exact .inl k6
              · exact .inr ⟨_, List.mem_cons_self, k6⟩
            · exact .inr ⟨p, List.mem_cons_of_mem _ k4, k5⟩
        · cases h
/-- What is not told any more. -/
theorem RelW.kills (h : RelW P fr ℓ ρ c L env m) {ks : List Nat} {ρ' : Nat → Own} (hρ : ∀ j, j ∉ ks → ρ' j = ρ j) : RelW P fr ℓ ρ' c (killAll L ks) env m := by
  have names : ∀ {t cs}, aget (killAll L ks).N t = some cs → ∃ k, aget L.N t = some k := fun h1 => by rw [killAll_N] at h1; obtain ⟨k, hk, _⟩ := map_some1 h1; exact ⟨k, hk⟩
  refine ⟨h.mode, fun t v h1 h2 => ?_, fun t cs h1 => ?_, fun i s es hi => ?_, fun i s es j s' es' h1 h2 hne => ?_, fun t t' cs cs' h1 h2 he => ?_, fun p hp => ?_, fun t cs h1 => ?_, fun i s es hi id hid => ?_, h.len, h.frame, h.rframe, ⟨h.froz.1, fun q hq t cs h1 => ?_⟩⟩
  · rw [killAll_S] at h1
    obtain ⟨u, hu, rfl⟩ := map_some1 h1
    obtain ⟨a, h3, h4⟩ := h.slot t u hu (killAll_dead h2)
    exact ⟨a, h3, srel_killAll h4 hρ⟩
  · rw [killAll_N] at h1
    obtain ⟨u, hu, rfl⟩ := map_some1 h1
    obtain ⟨bs, h3, h4⟩ := h.locs t u hu
    exact ⟨bs, h3, crels_killAll h4 hρ⟩
  · obtain ⟨k1, k2⟩ := vis_killAll hi
    rw [hρ i k2]; exact h.tok i s es k1
  · obtain ⟨k1, k2⟩ := vis_killAll h1
    obtain ⟨k3, k4⟩ := vis_killAll h2
    rw [hρ i k2, hρ j k4]; exact h.apart i s es j s' es' k1 k3 hne
  · obtain ⟨k1, g1⟩ := names h1
    obtain ⟨k2, g2⟩ := names h2
    exact h.inj t t' _ _ g1 g2 he
  · obtain ⟨⟨k, h1⟩, h2⟩ := h.bor p hp
    exact ⟨⟨_, by rw [killAll_N, h1]; rfl⟩, h2⟩
  · obtain ⟨k1, g1⟩ := names h1
    exact h.low t k1 g1
  · obtain ⟨k1, k2⟩ := vis_killAll hi
    rw [hρ i k2] at hid; exact h.rlow i s es k1 id hid
  · obtain ⟨k1, g1⟩ := names h1
    exact h.froz.2 q hq t k1 g1
/-- A value built of slices that are turned in place. -/
theorem RelW.buildB (h : RelW P fr ℓ ρ c L env m) {t : TypeId} {ps : Array (Nat × Operand)} {dst : Option Tmp} {parts : List (Nat × List CV)} {cs : List CV} (hp : lpartsB L ps.toList = some parts) (hb : lbuildB P t parts = some cs) (hd : DstOk env dst) :
    ∃ d ρ', aop P (.build t ps) env m = some (d, m) ∧ RelW P fr ℓ ρ' c (lput (bKill L cs) dst (.ag cs)) (aput env dst d) m := by
  obtain ⟨p1, p2⟩ := mapM_two hp
  -- the parts' values
  have hval : ∀ (l : List (Nat × Operand)) (parts : List (Nat × List CV)), lpartsB L l = some parts → ∃ qs : List (Nat × AV), aparts env l = some qs ∧ parts.length = qs.length ∧ (∀ (j : Nat) (p : Nat × List CV) (q : Nat × AV), parts[j]? = some p → qs[j]? = some q → p.1 = q.1 ∧ notTuple q.2 = true ∧ CRels ℓ (fun j => ρ (unB j)) p.2 (q.2.cells.map AV.strip1)) ∧
      ∀ p ∈ parts, ∀ j s es, CV.own j s es ∈ p.2 → isV (unB j) = true ∧ isV j = true ∧ 40000000 ≤ j ∧ Vis L (unB j) s es := by
    intro l
    induction l with
    | nil => intro parts hp; simp [lpartsB] at hp; subst hp; exact ⟨[], rfl, rfl, fun j p q h => by simp at h, fun p h => by simp at h⟩
    | cons x l ih =>
      intro parts hp
      simp only [lpartsB, List.mapM_cons, Option.pure_def, Option.bind_eq_bind] at hp
      obtain ⟨p, h1, hp⟩ := bind_some' hp
      obtain ⟨ps', h2, hp⟩ := bind_some' hp
      injection hp with hp; subst hp
      obtain ⟨v, h3, h1⟩ := bind_some' h1
      obtain ⟨ys, h4, h1⟩ := bind_some' h1
      obtain ⟨zs, h5, rfl⟩ := map_some1 h1
      obtain ⟨qs, k1, k2, k3, k4⟩ := ih ps' h2
      obtain ⟨_, ⟨b, hb1, hb2⟩, hvis⟩ := h.levalA h3
      obtain ⟨g1, g2, g3⟩ := lcells_ok h4 hb2
      obtain ⟨g4, g5⟩ := toBs_rel h5 g1
      refine ⟨(x.1, b) :: qs, ?_, by simp [k2], fun j p q hj hq => ?_, fun p hp j s es hm => ?_⟩
      · simp only [aparts, List.mapM_cons, Option.pure_def, Option.bind_eq_bind, hb1, Option.bind_some, Option.map_some]
        rw [show l.mapM (fun p => (aeval env p.2).map (p.1, ·)) = some qs from k1]; rfl
      · cases j with
        | zero => simp at hj hq; subst hj hq; exact ⟨rfl, g2, g4⟩
        | succ j => exact k3 j p q (by simpa using hj) (by simpa using hq)
      · rcases List.mem_cons.1 hp with rfl | hp
        · obtain ⟨e1, e2, e3, e4⟩ := g5 j s es hm
          exact ⟨e1, e2, e3, hvis _ _ _ (g3 _ _ _ e4)⟩
        · exact k4 p hp j s es hm
  obtain ⟨qs, k1, k2, k3, k4⟩ := hval _ _ hp
  unfold lbuildB at hb
  split at hb
  · rename_i zs pl hz hpl
    have hz0 : CRels ℓ (fun j => ρ (unB j)) (zs.map CV.v) zs := ⟨by simp, fun j x a hx ha => by
      rw [List.getElem?_map, ha] at hx
      injection hx with hx; subst hx; exact rfl⟩
    obtain ⟨⟨out', f1, f2⟩, f3⟩ := lfillB_rel hb hz0 k2 k3
    have hown : ∀ j s es, CV.own j s es ∈ cs → isV (unB j) = true ∧ isV j = true ∧ 40000000 ≤ j ∧ Vis L (unB j) s es := by
      intro j s es hm
      rcases f3 _ hm with hm | ⟨p, hp, hm⟩
      · obtain ⟨x, _, e⟩ := List.mem_map.1 hm; cases e
      · exact k4 p hp j s es hm
    let ρ' : Nat → Own := fun j => if j ∈ toksC cs then ρ (unB j) else ρ j
    have hin : ∀ j s es, CV.own j s es ∈ cs → ρ' j = ρ (unB j) := fun j s es hm => if_pos (toksC_mem hm)
    have hk : RelW P fr ℓ ρ' c (bKill L cs) env m := h.kills (fun j hj => if_neg (fun e => hj (List.mem_append_left _ e)))
    have hcr : CRels ℓ ρ' cs out' := ⟨f2.1, fun j x a hx ha => by
      have := f2.2 j x a hx ha
      cases x with
      | own i s es => simp only [CRel] at this ⊢; rw [hin i s es (List.mem_of_getElem? hx)]; exact this
      | _ => exact this⟩
    refine ⟨.agg out', ρ', ?_, hk.putNew (v := .ag cs) (a := .agg out') ⟨out', rfl, hcr⟩ (fun i s es hh => ?_) (fun i s es j s' es' h1 h2 hne => ?_) (fun i s es j s' es' h1 h2 hne => ?_) (fun i s es hh id hid => ?_) hd⟩
    · simp only [aop, k1, Option.bind_some, abuild, hz, hpl, f1, Option.map_some]
    · have hq := hown i s es hh
      have h5 : MineT m.rows (unB i) (ρ (unB i)) s es := h.tok (unB i) s es hq.2.2.2
      rw [hin i s es hh]
      unfold MineT at h5 ⊢
      rw [if_pos hq.1] at h5
      rw [if_pos hq.2.1]; exact h5
    · have hq := hown i s es h1
      have hr := hown j s' es' h2
      rw [hin i s es h1, hin j s' es' h2]
      exact h.apart (unB i) s es (unB j) s' es' hq.2.2.2 hr.2.2.2 (fun e => hne (unB_inj hq.2.2.1 hr.2.2.1 e))
    · have hq := hown i s es h1
      obtain ⟨g1, g2⟩ := vis_killAll h2
      have n1 : j ∉ toksC cs := fun e => g2 (List.mem_append_left _ e)
      have n2 : j ≠ unB i := fun e => g2 (List.mem_append_right _ (List.mem_map.2 ⟨i, toksC_mem h1, e.symm⟩))
      rw [hin i s es h1, show ρ' j = ρ j from if_neg n1]
      exact h.apart (unB i) s es j s' es' hq.2.2.2 g1 (fun e => n2 e.symm)
    · have hq := hown i s es hh
      rw [hin i s es hh] at hid
      exact h.rlow (unB i) s es hq.2.2.2 id hid
  · cases hb
end
end Go.Proofs.YtdnnmopncndebaaDoor.G
set_option linter.unusedVariables false
set_option linter.unusedSectionVars false
set_option linter.unusedSimpArgs false
namespace Go.Proofs.YtdnnmopncndebaaDoor.G

def wantedL (L : LEnv) (o : SOper) : Option Bool :=
  match o.guard with
  | none => some true
  | some (none, _) => some false
  | some (some d, want) =>
    match aget L.S d with
    | some (.v (.atom (.bool b))) => some (b == want)
    | some (.v (.tuple _)) => some false
    | _ => none
def isLoad : Op → Bool
  | .load .. => true
  | _ => false
def lres (x : Option (LV × LEnv × List Nat)) (K : LV → LEnv → List Nat → Prop) : Prop :=
  match x with
  | some (v, L1, pd) => K v L1 pd
  | none => False
def lgo (x : Option Bool) (A B : Prop) : Prop :=
  match x with
  | some true => A
  | some false => B
  | none => False
def lcall [Mu] (P : Program) (x : Option (FuncId × List LA × List LA)) (y : Option (List LA)) (z : Option (List AV)) (pos : LPos) (L : LEnv) (K : LV → LEnv → List Nat → Prop) : Prop :=
  match x, y, z with
  | some (f, first, cap), some as_, _ => LCall P f (first ++ as_ ++ cap) pos L K
  | some (f, [], []), none, some as_ => LBor P f as_ L K
  | _, _, _ => False
def lbuild (P : Program) (t : TypeId) (x : Option (List (Nat × AV))) (y : Option (List (Nat × List CV))) (L : LEnv) (K : LV → LEnv → List Nat → Prop) : Prop :=
  match x, y with
  | some l, _ => lres (lpure L (abuild P t l)) K
  | none, some l => lres ((lbuildB P t l).map fun cs => (.ag cs, bKill L cs, [])) K
  | _, _ => False
def LOp [Mu] (P : Program) (op : Op) (dst : Option Tmp) (pos : LPos) (L : LEnv) (K : LV → LEnv → List Nat → Prop) : Prop :=
  match op with
  | .call { callee := .value f, args, .. } => lcall P ((levalA L f).bind LV.fun_) (lArgs L args.toList) (lArgsF L args.toList) pos L K
  | .build t ps => lbuild P t (lparts L ps.toList) (lpartsB L ps.toList) L K
  | op => lres (lop P op dst pos L) K
def lposOf (pr : Nat × List Nat) (k : Nat) (pend : List Nat) : LPos := ⟨decide (k < pr.1), pend, pr.2.contains k⟩
def LOps [Mu] (P : Program) (pr : Nat × List Nat) (Q : LEnv → Prop) : Nat → List SOper → List Nat → LEnv → Prop
  | _, [], _, L => Q L
  | k, o :: l, pend, L => lgo (wantedL L o)
      (sguard (!pr.2.contains k || isLoad o.op) (LOp P o.op o.dst (lposOf pr k pend) L fun v L1 pd => LOps P pr Q (k + 1) l (pd ++ pend) (lput L1 o.dst v)))
      (LOps P pr Q (k + 1) l pend (lput L o.dst (.v .undef)))

/- How a drawing region may be ordered. -/
def freshApp (ops : Array Oper) (o : Oper) : Bool :=
  match o.op with
  | .call { callee := .builtin .append, args, .. } => match args.toList with
    | .tmp a :: _ => ops.toList.any fun x => x.dst == some a && (match x.op with
      | .buildSlice .. => true
      | _ => false)
    | _ => false
  | _ => false
def lsplit (ops : Array Oper) : Nat → List Oper → Nat
  | k, [] => k
  | k, o :: l => if opKeeps o.op || opCalls o.op || freshApp ops o then lsplit ops (k + 1) l else k
def lateOf (ops : Array Oper) (p : Nat) : List Nat :=
  let bs := aheadOf [] ops.toList
  (List.range p).filter fun i => match ops[i]? with
    | some x => isLoad x.op && (List.range ops.size).any fun j => decide (p ≤ j) && (match ops[j]?, bs[j]? with
      | some o, some b => !opPure o.op && !b.testBit i
      | _, _ => false)
    | none => false
def lp (ops : Array Oper) : Nat × List Nat := (lsplit ops 0 ops.toList, lateOf ops (lsplit ops 0 ops.toList))
def lrpC (id : Nat) : Code → Option (Nat × List Nat)
  | .seq a b => (lrpC id a).or (lrpC id b)
  | .cond _ a b => (lrpC id a).or (lrpC id b)
  | .block _ c => lrpC id c
  | .scope c => lrpC id c
  | .loop c => lrpC id c
  | .rangeFunc _ _ a b => (lrpC id a).or (lrpC id b)
  | .region i ops draw => if i = id ∧ draw = true then some (lp ops) else none
  | _ => none
def lrp (P : Program) (f : FuncId) (id : Nat) : Nat × List Nat := (lrpC id (bodyOf P f)).getD (0, [])
/-- Each operation's result has its place, each drawing region its order. -/
def okL (all : Code) (n : Nat) : Code → Bool
  | .seq a b => okL all n a && okL all n b
  | .cond _ a b => okL all n a && okL all n b
  | .block _ c => okL all n c
  | .scope c => okL all n c
  | .loop c => okL all n c
  | .region id ops draw => (ops.toList.all fun o => match o.dst with
    | some t => decide (t < n)
    | none => true) && (!draw || (decide (lrpC id all = some (lp ops)) && drawOkL ops (lp ops).1 none (lp ops).2 && decide ((lp ops).1 ≤ ops.size)))
  | .rangeFunc _ ps a b => okL all n a && okL all n b && ps.toList.all fun t => decide (t < n)
  | _ => true

def UpQ [Mu] (P : Program) (n : Nat) (c : LCtx) (Q : LEnv → Prop) (env : List AV) (m : Mem) : Prop := env.length = n ∧ ∃ L, Rel P c L env m ∧ Q L
def LLoop [Mu] (P : Program) (f : FuncId) (lo : Option Nat) (c : LCtx) (k : Nat) (Q : Exit → LEnv → Prop) (L : LEnv) : Prop :=
  ∀ env m, env.length = ntmpsOf P f → Rel P c L env m → WLoop P lo (partOf P f k) (fun x => UpQ P (ntmpsOf P f) c (Q x)) env m
/-- A range over a function. -/
def LRange [Mu] (P : Program) (f : FuncId) (lo : Option Nat) (c : LCtx) (g : Operand) (ps : Array Tmp) (k j : Nat) (Q : Exit → LEnv → Prop) (L : LEnv) : Prop :=
  ∀ env m, env.length = ntmpsOf P f → Rel P c L env m → ∃ x env' m', AExec P lo (.rangeFunc g ps (partOf P f k) (partOf P f j)) env m x env' m' ∧ UpQ P (ntmpsOf P f) c (Q x) env' m'
def lcond (A B : Prop) : Option LV → Prop
  | some (.v (.atom (.bool true))) => A
  | some (.v (.atom (.bool false))) => B
  | _ => False
def thenL (K : LEnv → Prop) (Q : Exit → LEnv → Prop) : Exit → LEnv → Prop
  | .normal => K
  | e => Q e
def LC [Mu] (P : Program) (f : FuncId) (lo : Option Nat) (c : LCtx) : SCode → (Exit → LEnv → Prop) → LEnv → Prop
  | .skip, Q => Q .normal
  | .exit id, Q => Q (.exit id)
  | .ret, Q => Q .ret
  | .bad, _ => fun _ => False
  | .seq a b, Q => LC P f lo c a (thenL (LC P f lo c b Q) Q)
  | .cond t a b, Q => fun L => lcond (LC P f lo c a Q L) (LC P f lo c b Q L) (aget L.S t)
  | .block id a, Q => LC P f lo c a fun e => Q (leave id e)
  | .scope a, Q => LC P f lo c a fun e L => noJump e = true ∧ Q e L
  | .loop k, Q => LLoop P f lo c k Q
  | .region none ops, Q => LOps P (0, []) (Q .normal) 0 ops []
  | .region (some id) ops, Q => LOps P (lrp P f id) (Q .normal) 0 ops []
  | .range g ps k j, Q => LRange P f lo c g ps k j Q

variable [Mu]
section
variable {fr : Fro} {ℓ : Nat → Nat} {ρ : Nat → Own} {c : LCtx} {L : LEnv} {env : List AV} {m : Mem} {P : Program} {f : FuncId} {lo : Option Nat}

theorem wantedL_ok (h : RelW P fr ℓ ρ c L env m) {ops : Array Oper} {o : Oper} {b : Bool} (hw : wantedL L (slimOp ops o) = some b) : wantedA ops env o = some b := by
  unfold wantedL slimOp at hw
  unfold wantedA
  cases hg : o.guard with
  | none => rw [hg] at hw; exact hw
  | some g =>
    obtain ⟨j, w⟩ := g
    rw [hg] at hw
    simp only [Option.map_some] at hw
    dsimp only
    cases hd : (ops[j]?).bind (·.dst) with
    | none => rw [hd] at hw; exact hw
    | some d =>
      rw [hd] at hw
      dsimp only at hw ⊢
      have key : ∀ a, aget L.S d = some (.v a) → env[d]? = some a := by
        intro a ha
        obtain ⟨b, h1, h2⟩ := h.slot d _ ha (by simp)
        simp only [SRel] at h2; subst h2; exact h1
      split at hw
      · rename_i c hc; rw [key _ hc]; exact hw
      · rename_i vs hc; rw [key _ hc]; exact hw
      · cases hw

theorem lop_pd {op : Op} {dst : Option Tmp} {pos : LPos} {v : LV} {L1 : LEnv} {pd : List Nat} (h : lop P op dst pos L = some (v, L1, pd)) (hn : isLoad op = false) : pd = [] := by
  have pu : ∀ {x : Option AV}, lpure L x = some (v, L1, pd) → pd = [] := by
    intro x hx
    cases x with
    | none => cases hx
    | some a => simp only [lpure, Option.map_some] at hx; injection hx with hx; injection hx with _ hx; injection hx with _ hx; exact hx.symm
  have sl : ∀ {u : Option LV} {x : Option AV}, lslice L u x = some (v, L1, pd) → pd = [] := by
    intro u x hx
    unfold lslice at hx
    split at hx
    · injection hx with hx; injection hx with _ hx; injection hx with _ hx; exact hx.symm
    · exact pu hx
  have cu : ∀ {t xt : TypeId} {x y : LV} {e : Bool}, lcut P t xt x y dst e L = some (v, L1, pd) → pd = [] := by
    intro t xt x y e hx
    unfold lcut at hx
    split at hx
    · split at hx
      · split at hx
        · injection hx with hx; injection hx with _ hx; injection hx with _ hx; exact hx.symm
        · cases hx
      · cases hx
    · cases hx
  have sa : ∀ {x : Option LV}, lsame L x = some (v, L1, pd) → pd = [] := fun hx => (lsame_inv hx).2.2
  have bo : ∀ {x : Option (List CV)}, lbox dst L x = some (v, L1, pd) → pd = [] := by
    intro x hx
    unfold lbox at hx
    split at hx
    · split at hx
      · obtain ⟨a, _, hx⟩ := map_some' hx
        injection hx with _ hx; injection hx with _ hx; exact hx.symm
      · cases hx
    · cases hx
  have li : ∀ {t : TypeId} {x : Option AV}, llit P t dst L x = some (v, L1, pd) → pd = [] := by
    intro t x hx
    unfold llit at hx
    obtain ⟨a, _, hx⟩ := bind_some' hx
    split at hx
    · split at hx
      · injection hx with hx; injection hx with _ hx; injection hx with _ hx; exact hx.symm
      · cases hx
    · injection hx with hx; injection hx with _ hx; injection hx with _ hx; exact hx.symm
  unfold lop at h
  split at h <;> first | exact pu h | exact sl h | exact li h | exact sa h | exact bo h | (cases hn; done) | skip
  · obtain ⟨p, _, h⟩ := bind_some' h
    obtain ⟨u, _, h⟩ := bind_some' h
    unfold lstore at h
    split at h
    · split at h
      · obtain ⟨ys, _, h⟩ := bind_some' h
        split at h
        · injection h with h; injection h with _ h; injection h with _ h; exact h.symm
        · cases h
      · cases h
    · split at h
      · split at h
        · obtain ⟨e, _, h⟩ := bind_some' h
          obtain ⟨s, _, h⟩ := map_some' h
          injection h with _ h; injection h with _ h; exact h.symm
        · cases h
      · cases h
    · cases h
  · split at h
    · obtain ⟨vx, _, h⟩ := bind_some' h
      split at h
      · obtain ⟨vy, _, h⟩ := bind_some' h
        exact cu h
      obtain ⟨vy, _, h⟩ := bind_some' h
      unfold lappend at h
      split at h
      · split at h
        · split at h
          · cases h
          · obtain ⟨s, _, h⟩ := map_some' h
            injection h with _ h; injection h with _ h; exact h.symm
        · split at h
          · cases h
          · obtain ⟨s, _, h⟩ := bind_some' h
            split at h
            · injection h with h; injection h with _ h; injection h with _ h; exact h.symm
            · cases h
        · cases h
      · cases h
    · cases h
  · cases h

/-- The loads that may come later find what they found. -/
def PInv (P : Program) (ℓ : Nat → Nat) (L : LEnv) (m : Mem) (pend : List Nat) (pr : List (Oper × List AV × AV)) : Prop :=
  (∀ t ∈ pend, ∃ cs, aget L.N t = some cs) ∧ ∀ x ∈ pr, ∃ t a p, x.1.op = .load t a ∧ aeval x.2.1 a = some p ∧ aload P m t p = some x.2.2 ∧ ((∃ e off, p = .eptr e off) ∨ ∃ t' off, t' ∈ pend ∧ p = .ptr (ℓ t') off)
theorem PInv.aop {pend : List Nat} {pr : List (Oper × List AV × AV)} (h : PInv P ℓ L m pend pr) : ∀ x ∈ pr, AOp P x.1 x.2.1 m x.2.2 m := by
  intro x hx
  obtain ⟨t, a, p, h1, h2, h3, _⟩ := h.2 x hx
  refine aop_ok ?_
  rw [h1]
  simp only [G.aop, h2, Option.bind_some, h3, Option.map_some]
theorem PInv.step {ℓ' : Nat → Nat} {L1 : LEnv} {m1 : Mem} {dst : Option Tmp} {v : LV} {pend : List Nat} {pr : List (Oper × List AV × AV)} (h : PInv P ℓ L m pend pr)
    (hs : ∀ t ∈ pend, (∃ cs, aget L.N t = some cs) → ℓ' t = ℓ t ∧ m1.boxes[ℓ t]? = m.boxes[ℓ t]? ∧ ∃ cs, aget L1.N t = some cs) : PInv P ℓ' (lput L1 dst v) m1 pend pr := by
  refine ⟨fun t ht => by rw [lput_N]; exact (hs t ht (h.1 t ht)).2.2, fun x hx => ?_⟩
  obtain ⟨t, a, p, h1, h2, h3, h4⟩ := h.2 x hx
  refine ⟨t, a, p, h1, h2, ?_, ?_⟩
  · rcases h4 with ⟨e, off, rfl⟩ | ⟨t', off, h5, rfl⟩
    · exact h3
    · have := (hs t' h5 (h.1 t' h5)).2.1
      simp only [aload, this]; exact h3
  · rcases h4 with h4 | ⟨t', off, h5, rfl⟩
    · exact .inl h4
    · exact .inr ⟨t', off, h5, by rw [(hs t' h5 (h.1 t' h5)).1]⟩

theorem Iter.mono {fi : FuncId} {first cap : List AV} {C C' : Mem → Prop} {xs : List (List AV)} (h : Iter P fi first cap C xs) (hc : ∀ m, C' m → C m) : Iter P fi first cap C' xs :=
  fun b yv I D m h1 h2 h3 h4 h5 h6 h7 => h b yv I D m h1 h2 (fun i m hi => hc m (h3 i m hi)) h4 h5 h6 h7
/-- The memory grows; what must stay from now on. -/
theorem RelW.grow (h : RelW P fr ℓ ρ c L env m) {m' : Mem} (he : Ext m m') {fr2 : Fro} (h2 : FroOk fr2 m') (h3 : ∀ q ∈ fr2, m.boxes.length ≤ q.1) : RelW P (fr2 ++ fr) ℓ ρ c L env m' where
  mode := by rw [he.modeEq, h.mode]
  slot := fun t v h4 h5 => by
    obtain ⟨a, h6, h7⟩ := h.slot t v h4 h5
    refine ⟨a, h6, ?_⟩
    cases v with
    | iter xs =>
      obtain ⟨fi, first, cap, rfl, hi⟩ := h7
      exact ⟨fi, first, cap, rfl, hi.mono fun m hm q hq => hm q (List.mem_append_right _ hq)⟩
    | _ => exact h7
  locs := fun t cs h4 => let ⟨as_, h5, h6⟩ := h.locs t cs h4; ⟨as_, he.get h5, h6⟩
  tok := fun i s es hv => by
    exact (h.tok i s es hv).mono fun id _ x hx => he.getRow hx
  apart := h.apart
  inj := h.inj
  bor := h.bor
  low := h.low
  rlow := h.rlow
  len := ⟨Nat.le_trans h.len.1 he.mono.1, Nat.le_trans h.len.2 he.mono.2⟩
  frame := fun l b h4 h5 => he.get (h.frame l b h4 h5)
  rframe := fun id x h4 h5 => he.getRow (h.rframe id x h4 h5)
  froz := ⟨fun q hq => by
    rcases List.mem_append.1 hq with hq | hq
    · exact h2 q hq
    · exact he.get (h.froz.1 q hq), fun q hq t cs ht => by
    rcases List.mem_append.1 hq with hq | hq
    · have h4 := h3 q hq
      have := h.boxLt ht
      omega
    · exact h.froz.2 q hq t cs ht⟩
theorem LAs.av_append : ∀ {x y : List LA}, LAs.av ℓ (x ++ y) = LAs.av ℓ x ++ LAs.av ℓ y := by
  intro x
  induction x with
  | nil => intro y; rfl
  | cons a l ih => intro y; simp only [List.cons_append, LAs.av, ih]
theorem LAs.av_map {l : List AV} : LAs.av ℓ (l.map .a) = l := by
  induction l with
  | nil => rfl
  | cons a l ih => simp only [List.map_cons, LAs.av, LA.av, ih]
theorem la_ok {v : LV} {x : LA} {a : AV} (h : v.la = some x) (hr : SRel P fr ℓ ρ v a) : LA.av ℓ x = a.strip := la1_ok (P := P) (fr := fr) (ρ := ρ) (by unfold LV.la at h; unfold LV.la1; exact h) hr
theorem fun_ok {v : LV} {g : FuncId} {first cap : List LA} {a : AV} (h : v.fun_ = some (g, first, cap)) (hr : SRel P fr ℓ ρ v a) : a = .func g (LAs.av ℓ first) (LAs.av ℓ cap) := by
  unfold LV.fun_ at h
  split at h
  · injection h with h; injection h with h1 h2; injection h2 with h2 h3; subst h1 h2 h3
    rw [LAs.av_map, LAs.av_map]; exact hr
  · injection h with h; injection h with h1 h2; injection h2 with h2 h3; subst h1 h2 h3
    exact hr
  · cases h
def DstsOk (n : Nat) (l : List Oper) : Prop := ∀ o ∈ l, ∀ t, o.dst = some t → t < n
theorem aput_len {dst : Option Tmp} {d : AV} : (aput env dst d).length = env.length := by
  unfold aput; split <;> simp
theorem setAll_has {τ : List (Nat × Nat)} {t : Nat} : ∀ {N' : List (Nat × List CV)} {L : LEnv}, (∃ k, aget L.N t = some k) → ∃ k', aget (setAll τ L N').N t = some k' := by
  intro N'
  induction N' with
  | nil => intro L h; exact h
  | cons x l ih =>
    obtain ⟨n0, c0⟩ := x
    intro L h
    simp only [setAll, lvar, aget]
    split
    · exact ⟨_, rfl⟩
    · exact ih h

theorem LOps.run {ops : Array Oper} {pr : Nat × List Nat} {n : Nat} {Q : LEnv → Prop} : ∀ (l : List Oper) (k : Nat) (pend : List Nat) (prl : List (Oper × List AV × AV)) (fr : Fro) (ℓ : Nat → Nat) (ρ : Nat → Own) (L : LEnv) (env : List AV) (m : Mem), env.length = n → RelW P fr ℓ ρ c L env m → PInv P ℓ L m pend prl → DstsOk n l →
    LOps P pr Q k (slimOps ops l) pend L → ∃ env' m', AOpsDL P ops pr.1 pr.2 k l prl env m env' m' ∧ UpQ P n c Q env' m' := by
  intro l
  induction l with
  | nil => intro k pend prl fr ℓ ρ L env m hn hr hi hd h; exact ⟨env, m, .nil k prl env m, hn, L, ⟨fr, ℓ, ρ, hr⟩, h⟩
  | cons o l ih =>
    intro k pend prl fr ℓ ρ L env m hn hr hi hd h
    have hdo : DstOk env o.dst := fun t ht => by rw [hn]; exact hd o List.mem_cons_self t ht
    have hdl : DstsOk n l := fun x hx => hd x (List.mem_cons_of_mem _ hx)
    simp only [slimOps, LOps] at h
    unfold lgo at h
    split at h
    · rename_i hw
      have hw' := wantedL_ok hr hw
      obtain ⟨hlt, h⟩ := h
      -- one more
      have go : ∀ {d : AV} {m1 : Mem} {fr' : Fro} {ℓ' : Nat → Nat} {ρ' : Nat → Own} {v : LV} {L1 : LEnv} {pd : List Nat}, AOp P o env m d m1 → (opPure o.op = true → aop P o.op env m = some (d, m1)) → RelW P fr' ℓ' ρ' c (lput L1 o.dst v) (aput env o.dst d) m1 → (decide (k < pr.1) = true → Ext m m1) → (k ∈ pr.2 → m1 = m) →
          PInv P ℓ' (lput L1 o.dst v) m1 (pd ++ pend) (if k ∈ pr.2 then (o, env, d) :: prl else prl) → (opPure o.op = true → k ∉ pr.2) → LOps P pr Q (k + 1) (slimOps ops l) (pd ++ pend) (lput L1 o.dst v) → ∃ env' m', AOpsDL P ops pr.1 pr.2 k (o :: l) prl env m env' m' ∧ UpQ P n c Q env' m' := by
        intro d m1 fr' ℓ' ρ' v L1 pd h1 h2 h3 h4 h5 h6 h7 h8
        obtain ⟨env', m', g1, g2⟩ := ih (k + 1) _ _ fr' ℓ' ρ' _ _ m1 (by rw [aput_len]; exact hn) h3 h6 hdl h8
        cases hpu : opPure o.op with
        | true =>
          rw [if_neg (h7 hpu)] at g1
          exact ⟨env', m', .pure hw' hpu (h2 hpu) g1, g2⟩
        | false =>
          refine ⟨env', m', .loud hw' hpu h1 (fun hk => h4 (by simpa using hk)) h5 (fun x hx => ?_) g1, g2⟩
          exact h6.aop x (by split; exact List.mem_cons_of_mem _ hx; exact hx)
      have plain : lres (lop P o.op o.dst (lposOf pr k pend) L) (fun v L1 pd => LOps P pr Q (k + 1) (slimOps ops l) (pd ++ pend) (lput L1 o.dst v)) → ∃ env' m', AOpsDL P ops pr.1 pr.2 k (o :: l) prl env m env' m' ∧ UpQ P n c Q env' m' := by
        clear h
        intro h
        unfold lres at h
        split at h
        · rename_i v L1 pd hop
          obtain ⟨d, m1, fr', ℓ', ρ', g1, g2, g3, g4, g5⟩ := lop_ok hr hop hdo
          have hst := hi.step (dst := o.dst) (v := v) (L1 := L1) g4
          cases hil : isLoad o.op with
          | false =>
            have hk : k ∉ pr.2 := by
              intro hk
              have hlt' : (!pr.2.contains k || isLoad o.op) = true := hlt
              rw [hil, List.contains_iff_mem.2 hk] at hlt'; cases hlt'
            have := lop_pd hop hil
            subst this
            exact go (aop_ok g1) (fun _ => g1) g2 g3 (fun hk' => absurd hk' hk) (by rw [if_neg hk]; exact hst) (fun _ => hk) h
          | true =>
            obtain ⟨t, a, hta⟩ : ∃ t a, o.op = .load t a := by
              cases hoo : o.op <;> rw [hoo] at hil <;> first | exact ⟨_, _, rfl⟩ | cases hil
            obtain ⟨e1, e2, e3, g6, g7⟩ := g5 t a hta
            subst e1 e2 e3
            have hnp : opPure o.op = false := by rw [hta]; rfl
            have hloc : ∀ t' ∈ pd ++ pend, ∃ cs, aget (lput L1 o.dst v).N t' = some cs := by
              intro t' ht'
              rw [lput_N]
              rcases List.mem_append.1 ht' with h1 | h1
              · exact g7 t' h1
              · exact hi.1 t' h1
            have old : ∀ x ∈ prl, ∃ t a p, x.1.op = .load t a ∧ aeval x.2.1 a = some p ∧ aload P m1 t p = some x.2.2 ∧ ((∃ e off, p = .eptr e off) ∨ ∃ t' off, t' ∈ pd ++ pend ∧ p = .ptr (ℓ' t') off) := by
              intro x hx
              obtain ⟨t, a, p, k1, k2, k3, k4⟩ := hst.2 x hx
              exact ⟨t, a, p, k1, k2, k3, k4.imp id fun ⟨t', off, k5, k6⟩ => ⟨t', off, List.mem_append_right _ k5, k6⟩⟩
            refine go (aop_ok g1) (fun hp => by rw [hnp] at hp; cases hp) g2 g3 (fun _ => rfl) ⟨hloc, fun x hx => ?_⟩ (fun hp => by rw [hnp] at hp; cases hp) h
            by_cases hk : k ∈ pr.2
            · rw [if_pos hk] at hx
              rcases List.mem_cons.1 hx with rfl | hx
              · obtain ⟨p, k1, k2, k3⟩ := g6 (by simp [lposOf, hk])
                exact ⟨t, a, p, hta, k1, k2, k3.imp id fun ⟨t', off, k5, k6⟩ => ⟨t', off, List.mem_append_left _ k5, k6⟩⟩
              · exact old x hx
            · rw [if_neg hk] at hx; exact old x hx
        · exact h.elim
      obtain ⟨dst0, op0, ty0, pos0, after0, guard0⟩ := o
      have bld : ∀ (t : TypeId) (ps : Array (Nat × Operand)), op0 = .build t ps → ∃ env' m', AOpsDL P ops pr.1 pr.2 k (⟨dst0, op0, ty0, pos0, after0, guard0⟩ :: l) prl env m env' m' ∧ UpQ P n c Q env' m' := by
        intro t ps e
        subst e
        simp only [slimOp, LOp] at h
        unfold lbuild at h
        split at h
        · rename_i x y q hq
          refine plain ?_
          simp only [lop, hq, Option.bind_some]
          exact h
        · rename_i x y q hn hq
          have hk : k ∉ pr.2 := by
            intro hk
            have hlt' : (!pr.2.contains k || false) = true := hlt
            rw [List.contains_iff_mem.2 hk] at hlt'; cases hlt'
          cases hb : lbuildB P t q with
          | none => rw [hb] at h; exact h.elim
          | some cs =>
            rw [hb] at h
            obtain ⟨d, ρ', g1, g2⟩ := hr.buildB hq hb hdo
            refine go (d := d) (m1 := m) (fr' := fr) (ℓ' := ℓ) (ρ' := ρ') (v := .ag cs) (L1 := bKill L cs) (pd := []) (aop_ok g1) (fun _ => g1) g2 (fun _ => Ext.refl _) (fun hk' => absurd hk' hk) ?_ (fun _ => hk) h
            rw [if_neg hk]
            exact hi.step (fun t ht ⟨cs, hl⟩ => ⟨rfl, rfl, _, by simp only [bKill, killAll_N, hl]; rfl⟩)
        · exact h.elim
      cases op0 <;> try exact plain h
      case build t ps => exact bld t ps rfl
      rename_i cc
      obtain ⟨callee, as_, ts⟩ := cc
      cases callee <;> try exact plain h
      rename_i g
      have hk : k ∉ pr.2 := by
        intro hk
        have hlt' : (!pr.2.contains k || false) = true := hlt
        rw [List.contains_iff_mem.2 hk] at hlt'; cases hlt'
      simp only [slimOp, LOp, lcall] at h
      split at h
      · rename_i x y z fid first cap las h1 h2
        obtain ⟨u, hu, h3⟩ := bind_some' h1
        obtain ⟨_, ⟨fv, hfv, hfr⟩, _⟩ := hr.levalA hu
        have hf := fun_ok h3 hfr
        subst hf
        obtain ⟨vs, h4, h5⟩ := bind_some' h2
        obtain ⟨as', h6, h7⟩ := hr.levalsA (g := LV.la) (T := AV.strip) (fun v x y h1 h2 => la_ok h1 h2) h4 h5
        have hcall : ∀ {r : AV} {m' : Mem}, ACalls P fid (LAs.av ℓ (first ++ las ++ cap)) m r m' → AOp P ⟨dst0, .call { callee := .value g, args := as_, argTypes := ts }, ty0, pos0, after0, guard0⟩ env m r m' := by
          intro r m' hc
          rw [LAs.av_append, LAs.av_append, h7] at hc
          exact .call rfl rfl hfv h6 (.of_func hc)
        cases h with
        | plain as0 r ha hfn hkk =>
          have hc := hfn m
          rw [← LAs.av_val ha (ℓ := ℓ)] at hc
          refine go (d := r) (m1 := m) (fr' := fr) (ℓ' := ℓ) (ρ' := ρ) (v := .v r) (L1 := L) (pd := []) (hcall hc) (fun hp => by cases hp) (hr.put (v := .v r) rfl (fun i s es hh => hh.elim) hdo) (fun _ => Ext.refl _) (fun _ => rfl) ?_ (fun hp => by cases hp) hkk
          rw [if_neg hk]
          exact hi.step (fun t ht hl => ⟨rfl, rfl, hl⟩)
        | vars σ τ N N' args' r hfb ha hσ hτ hro hN hv he hp hkk =>
          have hheld := hr.held.view hσ hτ hv
          obtain ⟨m', ρ', hc, hh, hst⟩ := hfb m _ _ hr.mode hheld
          rw [← LAs.av_ren, ← ha] at hc
          obtain ⟨hrel, hbox⟩ := hr.vars hN hτ hro hv hh hst
          refine go (d := r) (m1 := m') (fr' := fr) (ℓ' := ℓ) (v := .v r) (L1 := setAll τ (killAll L (sgToks σ ++ toksN N')) N') (pd := []) (hcall hc) (fun hp => by cases hp) (hrel.put (v := .v r) rfl (fun i s es hh => hh.elim) hdo) (fun hearly => ?_) (fun hk' => absurd hk' hk) ?_ (fun hp => by cases hp) hkk
          · obtain ⟨e1, e2⟩ := he hearly
            refine hst.ext hr.mode e1 (fun id x hx => hst.rframe id x hx (fun i s es hi => ?_))
            obtain ⟨t, cs, k1, k2⟩ := hi
            have := toksN_mem k1 k2
            rw [e2] at this; cases this
          · rw [if_neg hk]
            refine hi.step (fun t ht ⟨cs, hl⟩ => ⟨rfl, hbox t cs hl (fun n0 k0 hk0 hlt0 e => pendFree_spec hp n0 k0 hk0 hlt0 (by rw [e]; exact ht)), ?_⟩)
            exact setAll_has ⟨_, by rw [killAll_N, hl]; rfl⟩
        | res σ τ N N' args' rs hfr0 ha hσ hτ hro hN hv hrok he hp hkk =>
          have hheld := hr.held.view hσ hτ hv
          obtain ⟨m', ρ', a0, hc, hsr, hlocs, htok, hap, hst, hrl⟩ := hfr0 m _ _ hr.mode hheld
          rw [← LAs.av_ren, ← ha] at hc
          have hmem : ∀ i s es, ResTok N' rs i s es → i ∈ toksN N' ++ rs.toks := by
            rintro i s es (⟨t, cs, k1, k2⟩ | k1)
            · exact List.mem_append_left _ (toksN_mem k1 k2)
            · exact List.mem_append_right _ (LV.toks_mem k1)
          obtain ⟨hrel, hbox, hcross, hrl2, hvis⟩ := hr.varsT (T' := ResTok N' rs) (ks2 := toksN N' ++ rs.toks) hN hτ hro hv (fun i s es h => .inl h) hmem hlocs htok hap hst hrl
          have hput := hrel.putNew (dst := dst0) (v := rs) (a := a0) (hsr.move hrok (fun i s es hh => if_pos (hmem i s es (.inr hh)))) (fun i s es hh => by
              have := htok i s es (.inr hh)
              simp only [if_pos (hmem i s es (.inr hh))]; exact this) (fun i s es j s' es' h1 h2 hne => by
              simp only [if_pos (hmem i s es (.inr h1)), if_pos (hmem j s' es' (.inr h2))]
              exact hap i s es j s' es' (.inr h1) (.inr h2) hne) (fun i s es j s' es' h1 h2 hne => by
              simp only [if_pos (hmem i s es (.inr h1))]
              rcases hvis j s' es' h2 with ⟨k1, k2⟩ | ⟨k1, k2, k3⟩
              · simp only [if_pos k2]; exact hap i s es j s' es' (.inr h1) k1 hne
              · simp only [if_neg k3]; exact hcross i s es j s' es' (.inr h1) k1 k2) (fun i s es hh id hid => by
              simp only [if_pos (hmem i s es (.inr hh))] at hid
              exact hrl2 i s es (.inr hh) id hid) hdo
          refine go (d := a0) (m1 := m') (fr' := fr) (ℓ' := ℓ) (v := rs) (L1 := setAll τ (killAll L (sgToks σ ++ (toksN N' ++ rs.toks))) N') (pd := []) (hcall hc) (fun hp => by cases hp) hput (fun hearly => ?_) (fun hk' => absurd hk' hk) ?_ (fun hp => by cases hp) hkk
          · obtain ⟨e1, e2⟩ := he hearly
            refine hst.ext hr.mode e1 (fun id x hx => hst.rframe id x hx (fun i s es hi => ?_))
            obtain ⟨t, cs, k1, k2⟩ := hi
            have := toksN_mem k1 k2
            rw [e2] at this; cases this
          · rw [if_neg hk]
            refine hi.step (fun t ht ⟨cs, hl⟩ => ⟨rfl, hbox t cs hl (fun n0 k0 hk0 hlt0 e => pendFree_spec hp n0 k0 hk0 hlt0 (by rw [e]; exact ht)), ?_⟩)
            exact setAll_has ⟨_, by rw [killAll_N, hl]; rfl⟩
        | iter as0 xs ha hfi hkk =>
          obtain ⟨fi, first', cap', m', fr2, hc, hext, g1, g2, g3⟩ := hfi m
          rw [← LAs.av_val ha (ℓ := ℓ)] at hc
          have hrel := hr.grow hext g1 g3
          refine go (d := .func fi first' cap') (m1 := m') (fr' := fr2 ++ fr) (ℓ' := ℓ) (ρ' := ρ) (v := .iter xs) (L1 := L) (pd := []) (hcall hc) (fun hp => by cases hp) (hrel.put (v := .iter xs) ⟨fi, first', cap', rfl, g2.mono fun m hm q hq => hm q (List.mem_append_left _ hq)⟩ (fun i s es hh => hh.elim) hdo) (fun _ => hext) (fun hk' => absurd hk' hk) ?_ (fun hp => by cases hp) hkk
          rw [if_neg hk]
          exact hi.step (fun t ht ⟨cs, hl⟩ => ⟨rfl, by
            obtain ⟨as1, k1, _⟩ := hr.locs t cs hl
            rw [k1]; exact hext.get k1, cs, hl⟩)
      · rename_i x y z fid bs h1 hn h2
        obtain ⟨u, hu, h3⟩ := bind_some' h1
        obtain ⟨_, ⟨fv, hfv, hfr⟩, _⟩ := hr.levalA hu
        have hf := fun_ok h3 hfr
        subst hf
        obtain ⟨r, hfn, hfl, hsc, hkk⟩ := h
        obtain ⟨as', h6, h7, h8⟩ := hr.lArgsF h2 hfl
        have hc : ACalls P fid (as'.map AV.strip) m r m := hfn.read hsc h7 h8
        have hop : AOp P ⟨dst0, .call { callee := .value g, args := as_, argTypes := ts }, ty0, pos0, after0, guard0⟩ env m r m := .call rfl rfl hfv h6 (.of_func (by simpa [LAs.av] using hc))
        refine go (d := r) (m1 := m) (fr' := fr) (ℓ' := ℓ) (ρ' := ρ) (v := .v r) (L1 := L) (pd := []) hop (fun hp => by cases hp) (hr.put (v := .v r) rfl (fun i s es hh => hh.elim) hdo) (fun _ => Ext.refl _) (fun _ => rfl) ?_ (fun hp => by cases hp) hkk
        rw [if_neg hk]
        exact hi.step (fun t ht hl => ⟨rfl, rfl, hl⟩)
      · exact h.elim
    · rename_i hw
      have hw' := wantedL_ok hr hw
      obtain ⟨env', m', g1, g2⟩ := ih (k + 1) pend prl fr ℓ ρ _ _ m (by rw [aput_len]; exact hn) (hr.put (v := .v .undef) (a := .undef) rfl (fun i s es hh => hh.elim) hdo) (hi.step (fun t ht hl => ⟨rfl, rfl, hl⟩)) hdl h
      exact ⟨env', m', .skip hw' g1, g2⟩
    · exact h.elim

theorem okL_dsts {all : Code} {n id : Nat} {ops : Array Oper} {draw : Bool} (h : okL all n (.region id ops draw) = true) : DstsOk n ops.toList := by
  intro o ho t ht
  simp only [okL, Bool.and_eq_true] at h
  have := List.all_eq_true.1 h.1 o ho
  rw [ht] at this
  simpa using this

/-- **A piece of code.** -/
theorem LC.exec (hmix : P.follows .mixedOrders = true) : ∀ {cc : Code} {k : Nat} {Q : Exit → LEnv → Prop} {L : LEnv} {env : List AV} {m : Mem}, env.length = ntmpsOf P f → Rel P c L env m → okL (bodyOf P f) (ntmpsOf P f) cc = true → (∀ i, i < nparts cc → (parts cc)[i]? = (parts (bodyOf P f))[k + i]?) → LC P f lo c (slimC k cc) Q L →
    ∃ x env' m', AExec P lo cc env m x env' m' ∧ UpQ P (ntmpsOf P f) c (Q x) env' m' := by
  intro cc
  induction cc with
  | skip => intro k Q L env m hn hr hd hp h; exact ⟨_, env, m, .skip env m, hn, L, hr, h⟩
  | exit id => intro k Q L env m hn hr hd hp h; exact ⟨_, env, m, .exit id env m, hn, L, hr, h⟩
  | ret => intro k Q L env m hn hr hd hp h; exact ⟨_, env, m, .ret env m, hn, L, hr, h⟩
  | seq a b iha ihb =>
    intro k Q L env m hn hr hd hp h
    simp only [okL, Bool.and_eq_true] at hd
    have hla := nparts_eq a
    obtain ⟨x, env1, m1, h1, h2, L1, h3, h4⟩ := iha (k := k) hn hr hd.1 (fun i hi => by
      have := hp i (by simp [nparts]; omega)
      simp only [parts] at this
      rwa [List.getElem?_append_left (by omega)] at this) h
    cases x with
    | normal =>
      obtain ⟨y, env2, m2, h5, h6⟩ := ihb (k := k + nparts a) h2 h3 hd.2 (fun i hi => by
        have := hp (nparts a + i) (by simp [nparts]; omega)
        simp only [parts] at this
        rw [List.getElem?_append_right (by omega), hla] at this
        rw [show nparts a + i - nparts a = i from by omega] at this
        rw [this]; congr 1; omega) h4
      exact ⟨y, env2, m2, h1.seq h5, h6⟩
    | _ => exact ⟨_, env1, m1, h1.seq_out (by simp), h2, L1, h3, h4⟩
  | cond cd a b iha ihb =>
    intro k Q L env m hn hr hd hp h
    simp only [okL, Bool.and_eq_true] at hd
    have hla := nparts_eq a
    cases cd with
    | tmp t =>
      simp only [slimC, LC] at h
      have key : ∀ x, aget L.S t = some (.v x) → env[t]? = some x := by
        intro x hx
        obtain ⟨fr, ℓ, ρ, hr⟩ := hr
        obtain ⟨b, h1, h2⟩ := hr.slot t _ hx (by simp)
        simp only [SRel] at h2; subst h2; exact h1
      unfold lcond at h
      split at h
      · rename_i ht
        obtain ⟨x, env1, m1, h1, h2⟩ := iha (k := k) hn hr hd.1 (fun i hi => by
          have := hp i (by simp [nparts]; omega)
          simp only [parts] at this
          rwa [List.getElem?_append_left (by omega)] at this) h
        exact ⟨x, env1, m1, AExec.cond (b := true) rfl (key _ ht) h1, h2⟩
      · rename_i ht
        obtain ⟨x, env1, m1, h1, h2⟩ := ihb (k := k + nparts a) hn hr hd.2 (fun i hi => by
          have := hp (nparts a + i) (by simp [nparts]; omega)
          simp only [parts] at this
          rw [List.getElem?_append_right (by omega), hla] at this
          rw [show nparts a + i - nparts a = i from by omega] at this
          rw [this]; congr 1; omega) h
        exact ⟨x, env1, m1, AExec.cond (b := false) rfl (key _ ht) h1, h2⟩
      · exact h.elim
    | _ => exact h.elim
  | block id c0 ih =>
    intro k Q L env m hn hr hd hp h
    obtain ⟨x, env1, m1, h1, h2⟩ := ih (k := k) hn hr hd (fun i hi => hp i hi) h
    exact ⟨_, env1, m1, h1.block, h2⟩
  | scope c0 ih =>
    intro k Q L env m hn hr hd hp h
    obtain ⟨x, env1, m1, h1, h2, L1, h3, h4, h5⟩ := ih (k := k) hn hr hd (fun i hi => hp i hi) h
    exact ⟨_, env1, m1, h1.scope h4, h2, L1, h3, h5⟩
  | label l => intro k Q L env m hn hr hd hp h; exact ⟨_, env, m, .label l env m, hn, L, hr, h⟩
  | loop c0 ih =>
    intro k Q L env m hn hr hd hp h
    have h0 := hp 0 (by simp [nparts])
    simp only [parts, List.getElem?_cons_zero, Nat.add_zero] at h0
    have e0 : partOf P f k = c0 := by simp [partOf, ← h0]
    have h1 := h env m hn hr
    rw [e0] at h1
    obtain ⟨x, env1, m1, h1, h2⟩ := h1
    exact ⟨x, env1, m1, .loop h1, h2⟩
  | region id ops draw =>
    intro k Q L env m hn hr hd hp h
    have hds := okL_dsts hd
    obtain ⟨fr, ℓ, ρ, hr⟩ := hr
    cases draw with
    | false =>
      obtain ⟨env', m', h1, h2⟩ := LOps.run ops.toList 0 [] [] fr ℓ ρ L env m hn hr ⟨fun t ht => (by cases ht), fun x hx => (by cases hx)⟩ hds h
      exact ⟨_, env', m', .region h1.aops, h2⟩
    | true =>
      simp only [okL, Bool.and_eq_true, Bool.not_true, Bool.false_or, decide_eq_true_eq] at hd
      obtain ⟨_, ⟨hd1, hd2⟩, hd3⟩ := hd
      have e1 : lrp P f id = lp ops := by simp [lrp, hd1]
      have h' : LOps P (lrp P f id) (Q .normal) 0 (slimOps ops ops.toList) [] L := h
      rw [e1] at h'
      obtain ⟨env', m', h1, h2⟩ := LOps.run ops.toList 0 [] [] fr ℓ ρ L env m hn hr ⟨fun t ht => (by cases ht), fun x hx => (by cases hx)⟩ hds h'
      exact ⟨_, env', m', .drawL hmix hd3 hd2 h1, h2⟩
  | rangeFunc g ps a b iha ihb =>
    intro k Q L env m hn hr hd hp h
    have h0 := hp 0 (by simp [nparts])
    have h1 := hp (nparts a + 1) (by simp [nparts]; omega)
    simp only [parts, List.getElem?_cons_zero, Nat.add_zero, List.getElem?_cons_succ] at h0 h1
    rw [List.getElem?_append_right (by rw [nparts_eq]; exact Nat.le_refl _), nparts_eq, Nat.sub_self, List.getElem?_cons_zero] at h1
    have e0 : partOf P f k = a := by simp [partOf, ← h0]
    have e1 : partOf P f (k + 1 + nparts a) = b := by rw [show k + (nparts a + 1) = k + 1 + nparts a from by omega] at h1; simp [partOf, ← h1]
    have h2 := h env m hn hr
    rw [e0, e1] at h2
    exact h2
  | _ => intro k Q L env m hn hr hd hp h; exact h.elim

omit [Mu] in
def okLPart (fn : Func) (k : Nat) : Bool := decide (k < nparts (bodyF fn)) && okL (bodyF fn) fn.ntmps (partF fn k)
/-- One round of a loop. -/
theorem LLoop.step {fn : Func} (hmix : P.follows .mixedOrders = true) (hf : P.funcs[f]? = some fn)  {k : Nat} {Q : Exit → LEnv → Prop} {L : LEnv} (hd : okLPart fn k = true)
    (h : LC P f lo c (slimC (k + 1) (partF fn k)) (thenL (LLoop P f lo c k Q) Q) L) : LLoop P f lo c k Q L := by
  intro env m hn hr
  simp only [okLPart, Bool.and_eq_true, decide_eq_true_eq] at hd
  have hbo : bodyOf P f = bodyF fn := by simp [bodyOf, bodyF, hf]
  have e1 : partOf P f k = partF fn k := by simp [partOf, partF, hbo]
  have e2 : fn.ntmps = ntmpsOf P f := by simp [ntmpsOf, hf]
  rw [← e1, e2, ← hbo] at hd
  rw [← e1] at h
  have h0 : (parts (bodyOf P f))[k]? = some (partOf P f k) := by
    have h1 : k < (parts (bodyOf P f)).length := by rw [nparts_eq]; exact hd.1
    simp [partOf, List.getElem?_eq_getElem h1]
  obtain ⟨x, env1, m1, h1, h2, L1, h3, h4⟩ := LC.exec hmix hn hr hd.2 (fun i hi => parts_within h0 i hi) h
  cases x with
  | normal =>
    obtain ⟨y, env2, m2, h5, h6⟩ := h4 env1 m1 h2 h3
    exact ⟨y, env2, m2, ALoop.round h1 h5, h6⟩
  | _ => exact ⟨_, env1, m1, .out h1 (by simp), h2, L1, h3, h4⟩
end
end Go.Proofs.YtdnnmopncndebaaDoor.G
set_option linter.unusedVariables false
set_option linter.unusedSectionVars false
set_option linter.unusedSimpArgs false
namespace Go.Proofs.YtdnnmopncndebaaDoor.G

def largs : Nat → List AV → List (Nat × LV)
  | _, [] => []
  | k, a :: l => (k, .v a) :: largs (k + 1) l
def vw (σ : List (Nat × Option Nat)) : Option LV → LV → Prop
  | some (.v a), .v b => a = b
  | some (.own i s es), .own j s' es' => sg σ j = some i ∧ s = s' ∧ es = es'
  | some (.v a), .own j _ es => sg σ j = none ∧ a = .slice .full es ∧ (isV j = true → es = [] ∧ isB j = false)
  | some (.ag cs), .ag ds => vwCs σ [] cs ds
  | some (.lref t o), .lref t' o' => t = t' ∧ o = o'
  | some (.fn f a b), .fn f' a' b' => f = f' ∧ a = a' ∧ b = b'
  | some (.iter xs), .iter ys => xs = ys
  | _, _ => False
def vwS (σ : List (Nat × Option Nat)) (S : List (Nat × LV)) : List (Nat × LV) → Prop
  | [] => True
  | (t, v) :: l => vw σ (aget S t) v ∧ vwS σ S l
def isSome {α : Type} : Option α → Bool
  | some _ => true
  | none => false
/-- The variables of others are kept. -/
def keepB (N' : List (Nat × List CV)) : List (Nat × List CV) → Bool
  | [] => true
  | (t, _) :: l => (decide (t < 2000000) || isSome (aget N' t)) && keepB N' l
def views (σ : List (Nat × Option Nat)) (L L' : LEnv) : Prop := (sgOk σ && (rnOk [] L'.N && keepB L'.N L.N)) = true ∧ vwN σ [] L.N L'.N ∧ vwS σ L.S L'.S

variable [Mu]
section
variable {P : Program} {fr : Fro} {ℓ : Nat → Nat} {ρ : Nat → Own} {c : LCtx} {L : LEnv} {env : List AV} {m : Mem} {f : FuncId} {lo : Option Nat} {σ : List (Nat × Option Nat)}

theorem vwS_get : ∀ {S' S : List (Nat × LV)}, vwS σ S S' → ∀ t v, aget S' t = some v → vw σ (aget S t) v := by
  intro S'
  induction S' with
  | nil => intro S _ t v h; cases h
  | cons x l ih =>
    obtain ⟨t0, v0⟩ := x
    intro S h t v hv
    simp only [aget] at hv
    split at hv
    · rename_i e; subst e; injection hv with hv; subst hv; exact h.1
    · exact ih h.2 t v hv
theorem keepB_spec {N' : List (Nat × List CV)} : ∀ {N : List (Nat × List CV)}, keepB N' N = true → ∀ t cs, aget N t = some cs → 2000000 ≤ t → ∃ cs', aget N' t = some cs' := by
  intro N
  induction N with
  | nil => intro _ t cs h; cases h
  | cons x l ih =>
    obtain ⟨t0, c0⟩ := x
    intro h t cs hc hlt
    simp only [keepB, Bool.and_eq_true, Bool.or_eq_true, decide_eq_true_eq] at h
    simp only [aget] at hc
    split at hc
    · rename_i e; subst e
      rcases h.1 with h1 | h1
      · omega
      · unfold isSome at h1; split at h1
        · exact ⟨_, by assumption⟩
        · cases h1
    · exact ih h.2 t cs hc hlt
/-- **What is not looked at any more is dropped; slices get new numbers.** -/
theorem Rel.view {L' : LEnv} (h : Rel P c L env m) (hv : views σ L L') : Rel P c L' env m := by
  obtain ⟨fr, ℓ, ρ, h⟩ := h
  obtain ⟨hk, hN, hS⟩ := hv
  simp only [Bool.and_eq_true] at hk
  obtain ⟨hσ, hrn, hk⟩ := hk
  have hg := vwS_get hS
  have was' : ∀ j s es, Vis L' j s es → (sg σ j = none ∧ (isV j = true → es = [])) ∨ ∃ i, sg σ j = some i ∧ Vis L i s es := by
    rintro j s es (⟨t, v, h1, h2⟩ | h1)
    · have h3 := hg t v h1
      cases v with
      | own j' s' es' =>
        obtain ⟨rfl, rfl, rfl⟩ := h2
        cases hl : aget L.S t with
        | none => rw [hl] at h3; exact h3.elim
        | some u =>
          rw [hl] at h3
          cases u <;> simp only [vw] at h3
          · exact .inl ⟨h3.1, fun hv => (h3.2.2 hv).1⟩
          · obtain ⟨g1, rfl, rfl⟩ := h3; exact .inr ⟨_, g1, .inl ⟨t, _, hl, rfl, rfl, rfl⟩⟩
      | ag ds =>
        cases hl : aget L.S t with
        | none => rw [hl] at h3; exact h3.elim
        | some u =>
          rw [hl] at h3
          cases u <;> simp only [vw] at h3
          exact (vwCs_own h3 h2).imp id fun ⟨i, g1, g2⟩ => ⟨i, g1, .inl ⟨t, _, hl, g2⟩⟩
      | _ => exact h2.elim
    · exact (vwN_tok' hN h1).imp id fun ⟨i, g1, g2⟩ => ⟨i, g1, g2.vis⟩
  have was : ∀ j s es, Vis L' j s es → sg σ j = none ∨ ∃ i, sg σ j = some i ∧ Vis L i s es := fun j s es h => (was' j s es h).imp (·.1) id
  have hheld : Held ℓ (vρ σ ρ) m L'.N := h.held.view (τ := []) hσ hrn hN
  have names : ∀ t cs, aget L'.N t = some cs → ∃ k, aget L.N t = some k := fun t cs h1 => let ⟨k, h2, _⟩ := vwN_get hN t cs h1; ⟨k, h2⟩
  refine ⟨fr, ℓ, vρ σ ρ, h.mode, fun t v h1 h2 => ?_, hheld.locs, fun j s es hj => ?_, fun j s es k s' es' h1 h2 hne => ?_, hheld.inj, fun p hp => ?_, fun t cs h1 => ?_, fun j s es hj id hid => ?_, h.len, h.frame, h.rframe, h.froz.1, fun q hq t cs h1 => ?_⟩
  · have h3 := hg t v h1
    cases hl : aget L.S t with
    | none => rw [hl] at h3; exact h3.elim
    | some u =>
      rw [hl] at h3
      have hnd : u ≠ .dead := by rintro rfl; cases v <;> exact h3.elim
      obtain ⟨a, h4, h5⟩ := h.slot t u hl hnd
      refine ⟨a, h4, ?_⟩
      cases u with
      | v x =>
        cases v <;> simp only [vw] at h3
        · subst h3; exact h5
        · simp only [SRel] at h5 ⊢; rw [h5, h3.2.1]; simp only [vρ, h3.1]; rw [ownAV_full (fun hv => (h3.2.2 hv).2)]
      | own i s es =>
        cases v <;> simp only [vw] at h3
        obtain ⟨g1, rfl, rfl⟩ := h3
        simp only [SRel] at h5 ⊢; rw [h5, ownAV_kind (sgOk_kind hσ _ _ g1)]; simp [vρ, g1]
      | ag cs =>
        cases v <;> simp only [vw] at h3
        obtain ⟨as_, g1, g2⟩ := h5
        exact ⟨as_, g1, vwCs_rel (τ := []) hσ h3 g2⟩
      | lref t' o =>
        cases v <;> simp only [vw] at h3
        obtain ⟨rfl, rfl⟩ := h3
        exact h5
      | fn g a b =>
        cases v <;> simp only [vw] at h3
        obtain ⟨rfl, rfl, rfl⟩ := h3
        exact h5
      | iter xs =>
        cases v <;> simp only [vw] at h3
        subst h3; exact h5
      | vref i s k off => cases v <;> exact h3.elim
      | vsub i s k n => cases v <;> exact h3.elim
      | dead => exact absurd rfl hnd
  · rcases was' j s es hj with ⟨h1, h0⟩ | ⟨i, h1, h2⟩
    · simp only [vρ, h1]; exact .full h0
    · simp only [vρ, h1]; exact (h.tok i s es h2).kind (sgOk_kind hσ j i h1)
  · rcases was j s es h1 with g1 | ⟨i, g1, g2⟩
    · left; simp only [vρ, g1]
    · rcases was k s' es' h2 with k1 | ⟨i', k1, k2⟩
      · simp only [vρ, g1, k1]
        cases hj : ρ i with
        | full => exact .inl rfl
        | _ => exact .inr (by simp)
      · simp only [vρ, g1, k1]
        exact h.apart i s es i' s' es' g2 k2 (fun e => hne (sgOk_spec hσ j k i g1 (by rw [k1, e])))
  · obtain ⟨⟨k, h1⟩, h2⟩ := h.bor p hp
    exact ⟨keepB_spec hk p.1 k h1 (c.hb p hp), h2⟩
  · obtain ⟨k, h2⟩ := names t cs h1
    exact h.low t k h2
  · rcases was j s es hj with h1 | ⟨i, h1, h2⟩
    · simp only [vρ, h1] at hid; cases hid
    · simp only [vρ, h1] at hid; exact h.rlow i s es h2 id hid
  · obtain ⟨k, h2⟩ := names t cs h1
    exact h.froz.2 q hq t k h2
theorem LLoop.view {L' : LEnv} {k : Nat} {Q : Exit → LEnv → Prop} (σ : List (Nat × Option Nat)) (hv : views σ L L') (h : LLoop P f lo c k Q L') : LLoop P f lo c k Q L :=
  fun env m hn hr => h env m hn (hr.view hv)
/-- Where code is left, less may be looked at. -/
def VQ (Q : Exit → LEnv → Prop) (x : Exit) (L : LEnv) : Prop := Q x L ∨ ∃ σ L', views σ L L' ∧ Q x L'
theorem UpQ.unview {Q : Exit → LEnv → Prop} {x : Exit} {n : Nat} (h : UpQ P n c (VQ Q x) env m) : UpQ P n c (Q x) env m := by
  obtain ⟨h1, L, h2, h3⟩ := h
  rcases h3 with h3 | ⟨σ, L', h3, h4⟩
  · exact ⟨h1, L, h2, h3⟩
  · exact ⟨h1, L', h2.view h3, h4⟩
theorem LLoop.viewQ {k : Nat} {Q : Exit → LEnv → Prop} (h : LLoop P f lo c k (VQ Q) L) : LLoop P f lo c k Q L := by
  intro env m hn hr
  obtain ⟨x, env', m', h1, h2⟩ := h env m hn hr
  exact ⟨x, env', m', h1, h2.unview⟩

/- Functions. -/
def lresult (P : Program) (L : LEnv) : ResultVar → Option LV
  | .tmp t => aget L.S t
  | .cell a t => match aget L.S a with
    | some (.lref n off) => (aget L.N n).bind fun cs => lsub P t cs off
    | _ => none
def lfin (r : AV) (x : Option AV) : Prop :=
  match x with
  | some d => d.fz = r
  | none => False
def LPost (P : Program) (rs : List ResultVar) (r : AV) (Q : LEnv → Prop) : Exit → LEnv → Prop
  | .ret, L | .normal, L => lfin r ((rs.mapM fun x => (lresult P L x).bind LV.rd).map retOf) ∧ Q L
  | _, _ => False
theorem LC.mono {Q Q' : Exit → LEnv → Prop} (hq : ∀ x L, Q x L → Q' x L) : ∀ {cc : SCode} {L : LEnv}, LC P f lo c cc Q L → LC P f lo c cc Q' L := by
  have hU : ∀ {Q Q' : LEnv → Prop} {n : Nat} {env : List AV} {m : Mem}, (∀ L, Q L → Q' L) → UpQ P n c Q env m → UpQ P n c Q' env m := fun h ⟨h1, L, h2, h3⟩ => ⟨h1, L, h2, h _ h3⟩
  have hops : ∀ {pr : Nat × List Nat} {Q Q' : LEnv → Prop}, (∀ L, Q L → Q' L) → ∀ (l : List SOper) (k : Nat) (pend : List Nat) (L : LEnv), LOps P pr Q k l pend L → LOps P pr Q' k l pend L := by
    intro pr Q Q' hq l
    induction l with
    | nil => intro k pend L h; exact hq _ h
    | cons o l ih =>
      intro k pend L h
      simp only [LOps] at h ⊢
      unfold lgo at h ⊢
      split at h
      · refine ⟨h.1, ?_⟩
        have h := h.2
        unfold LOp at h ⊢
        split at h
        · unfold lcall at h ⊢
          split at h
          · cases h with
            | plain as_ r ha hf hk => exact .plain as_ r ha hf (ih _ _ _ hk)
            | vars σ τ N N' args' r h1 h2 h3 h4 h5 h6 h7 h8 h9 hk => exact .vars σ τ N N' args' r h1 h2 h3 h4 h5 h6 h7 h8 h9 (ih _ _ _ hk)
            | res σ τ N N' args' rs h1 h2 h3 h4 h5 h6 h7 h8 h9 h10 hk => exact .res σ τ N N' args' rs h1 h2 h3 h4 h5 h6 h7 h8 h9 h10 (ih _ _ _ hk)
            | iter as_ xs ha hf hk => exact .iter as_ xs ha hf (ih _ _ _ hk)
          · obtain ⟨r, h1, h2, h3, hk⟩ := h; exact ⟨r, h1, h2, h3, ih _ _ _ hk⟩
          · exact h.elim
        · unfold lbuild at h ⊢
          split at h
          · unfold lres at h ⊢
            split at h
            · exact ih _ _ _ h
            · exact h.elim
          · unfold lres at h ⊢
            split at h
            · exact ih _ _ _ h
            · exact h.elim
          · exact h.elim
        · unfold lres at h ⊢
          split at h
          · exact ih _ _ _ h
          · exact h.elim
      · exact ih _ _ _ h
      · exact h.elim
  intro cc
  induction cc generalizing Q Q' with
  | skip => intro L h; exact hq _ _ h
  | ret => intro L h; exact hq _ _ h
  | bad => intro L h; exact h.elim
  | exit id => intro L h; exact hq _ _ h
  | region d ops =>
    intro L h
    cases d with
    | none => exact hops (fun L h => hq _ _ h) _ _ _ _ h
    | some d => exact hops (fun L h => hq _ _ h) _ _ _ _ h
  | seq a b iha ihb =>
    intro L h
    refine iha (fun x L hx => ?_) h
    cases x with
    | normal => exact ihb hq hx
    | _ => exact hq _ _ hx
  | cond t a b iha ihb =>
    intro L h
    simp only [LC, lcond] at h ⊢
    split at h
    · exact iha hq h
    · exact ihb hq h
    · exact h.elim
  | block id a ih => intro L h; exact ih (fun x L h => hq _ _ h) h
  | scope a ih => intro L h; exact ih (fun x L h => ⟨h.1, hq _ _ h.2⟩) h
  | loop k =>
    intro L h env m hn hr
    obtain ⟨x, env', m', h1, h2⟩ := h env m hn hr
    exact ⟨x, env', m', h1, hU (fun L h => hq _ _ h) h2⟩
  | range g ps k j =>
    intro L h env m hn hr
    obtain ⟨x, env', m', h1, h2⟩ := h env m hn hr
    exact ⟨x, env', m', h1, hU (fun L h => hq _ _ h) h2⟩
def LPostF (P : Program) (rs : List ResultVar) (r : AV) (Q : LEnv → Prop) : Exit → LEnv → Prop
  | .ret, L | .normal, L => lfin r ((rs.mapM fun x => (lresult P L x).bind LV.rdF).map retOf) ∧ Q L
  | _, _ => False
theorem LPostF.to {rs : List ResultVar} {r : AV} {Q : LEnv → Prop} {cc : SCode} (h : LC P f lo c cc (LPostF P rs r Q) L) : LC P f lo c cc (fun x L => (x = .ret ∨ x = .normal) ∧ lfin r ((rs.mapM fun x => (lresult P L x).bind LV.rdF).map retOf) ∧ Q L) L := by
  refine LC.mono (fun x L h => ?_) h
  cases x with
  | ret => exact ⟨.inl rfl, h⟩
  | normal => exact ⟨.inr rfl, h⟩
  | _ => exact h.elim
theorem fz_eq {vs vs' : List AV} (hl : vs'.length = vs.length) (h : ∀ (j : Nat) (a a' : AV), vs[j]? = some a → vs'[j]? = some a' → OwnEq a a') : (retOf vs').fz = (retOf vs).fz := by
  have e : vs'.map AV.strip = vs.map AV.strip := by
    apply List.ext_getElem?; intro j
    simp only [List.getElem?_map]
    rcases Nat.lt_or_ge j vs.length with hj | hj
    · rw [List.getElem?_eq_getElem hj, List.getElem?_eq_getElem (by omega : j < vs'.length)]
      simp only [Option.map_some]
      rw [(h j _ _ (List.getElem?_eq_getElem hj) (List.getElem?_eq_getElem (by omega))).strip]
    · rw [List.getElem?_eq_none hj, List.getElem?_eq_none (by omega)]
  match vs, vs', hl with
  | [], [], _ => rfl
  | [a], [a'], _ =>
    have h1 := h 0 a a' rfl rfl
    simp only [retOf]
    cases h1 with
    | refl => rfl
    | sl o es => rfl
    | ag cs cs' hl hh => simp only [AV.fz, AV.strip]; rw [OwnEq.mapStrip hl hh]
  | a :: b :: l, a' :: b' :: l', _ =>
    simp only [retOf, AV.fz]
    rw [e]


theorem fz_stripR (a : AV) : a.stripR.fz = a.fz := by
  cases a with
  | tuple vs =>
    simp only [AV.stripR, AV.fz, List.map_map]
    congr 1
    apply List.map_congr_left
    intro x _
    exact stripR1_strip x
  | agg cs =>
    simp only [AV.stripR, AV.fz, AV.strip, List.map_map]
    congr 1
    apply List.map_congr_left
    intro x _
    cases x <;> rfl
  | _ => rfl
/-- From a body to its results. -/
theorem LC.results {fn : Func} {cb : Code} {args : List AV} {r : AV} {Q : LEnv → Prop} (hmix : P.follows .mixedOrders = true) (hf : P.funcs[f]? = some fn) (hbb : fn.body = some cb) (h2 : (fn.name == "runtime.NumGoroutine") = false) (h3 : okL (bodyF fn) fn.ntmps (bodyF fn) = true) (ha : args.length ≤ fn.ntmps) {L : LEnv}
    (hrel : Rel P c L (args ++ List.replicate (fn.ntmps - args.length) AV.undef) m)
    (h : LC P f none c (slimC 0 (bodyF fn)) (fun x L => (x = .ret ∨ x = .normal) ∧ lfin r ((fn.results.toList.mapM fun x => (lresult P L x).bind LV.rd).map retOf) ∧ Q L) L) :
    ∃ r0 env' m', ACalls P f args m r0 m' ∧ r0.fz = r ∧ (∀ {m1 : Mem}, Flat r → Frz m1 r0 r) ∧ ∃ L', Rel P c L' env' m' ∧ Q L' := by
  have e : bodyF fn = cb := by simp [bodyF, hbb]
  have e2 : bodyOf P f = cb := by simp [bodyOf, hf, hbb]
  have e3 : fn.ntmps = ntmpsOf P f := by simp [ntmpsOf, hf]
  rw [e] at h h3
  have hlen : (args ++ List.replicate (fn.ntmps - args.length) AV.undef).length = ntmpsOf P f := by rw [← e3]; simp; omega
  obtain ⟨x, env', m', g1, g2, L', g3, hx, hfin, hQ⟩ := LC.exec (f := f) (c := c) hmix hlen hrel (by rw [e2, ← e3]; exact h3) (fun i hi => by rw [e2, Nat.zero_add]) h
  cases hvs : fn.results.toList.mapM fun x => (lresult P L' x).bind LV.rd with
  | none => rw [hvs] at hfin; exact hfin.elim
  | some vs =>
    rw [hvs] at hfin
    simp only [Option.map_some, lfin] at hfin
    obtain ⟨fr, ℓ, ρ, g3⟩ := g3
    have one : ∀ (x : ResultVar) (a : AV), (lresult P L' x).bind LV.rd = some a → ∃ a', aresult P env' m' x = some a' ∧ OwnEq a a' := by
      intro x a hxa
      obtain ⟨v, k1, k2⟩ := bind_some' hxa
      cases x with
      | tmp t =>
        simp only [lresult] at k1
        obtain ⟨b, k3, k4⟩ := g3.slot t v k1 (by rintro rfl; cases k2)
        exact ⟨b, k3, v.rd_rel k2 k4⟩
      | cell q t =>
        simp only [lresult] at k1
        split at k1
        · rename_i n off hc
          obtain ⟨b, k3, k4⟩ := g3.slot q _ hc (by simp)
          simp only [SRel] at k4; subst k4
          obtain ⟨cs, k5, k6⟩ := bind_some' k1
          obtain ⟨as_, k7, k8⟩ := g3.locs n cs k5
          obtain ⟨d, k9, k10, _⟩ := lsub_ok (P := P) (fr := fr) k6 k8
          refine ⟨d, ?_, LV.rd_rel k2 k10⟩
          simp only [aresult, k3, Option.bind_some, aload, k7, k9]
        · cases k1
    have all : ∀ (rs : List ResultVar) (vs : List AV), (rs.mapM fun x => (lresult P L' x).bind LV.rd) = some vs → ∃ vs', rs.mapM (aresult P env' m') = some vs' ∧ vs'.length = vs.length ∧ ∀ (j : Nat) (a a' : AV), vs[j]? = some a → vs'[j]? = some a' → OwnEq a a' := by
      intro rs
      induction rs with
      | nil => intro vs h; simp at h; subst h; exact ⟨[], rfl, rfl, fun j a a' h => by simp at h⟩
      | cons x rs ih =>
        intro vs h
        simp only [List.mapM_cons, Option.pure_def, Option.bind_eq_bind] at h
        obtain ⟨a, k1, h⟩ := bind_some' h
        obtain ⟨as_, k2, h⟩ := bind_some' h
        injection h with h; subst h
        obtain ⟨a', k3, k4⟩ := one x a k1
        obtain ⟨as', k5, k6, k7⟩ := ih as_ k2
        refine ⟨a' :: as', by simp only [List.mapM_cons, Option.pure_def, Option.bind_eq_bind, k3, k5, Option.bind_some], by simp [k6], fun j c c' hc hc' => ?_⟩
        cases j with
        | zero => simp at hc hc'; subst hc hc'; exact k4
        | succ j => exact k7 j c c' (by simpa using hc) (by simpa using hc')
    obtain ⟨vs', k1, k2, k3⟩ := all _ _ hvs
    have efz := fz_eq k2 k3
    have hres : aresults P fn env' m' = some (retOf vs') := by
      simp only [aresults, k1, Option.map_some]; rfl
    refine ⟨_, env', m', .of_body hf hbb h2 g1 hx hres, by rw [fz_stripR, efz, hfin], fun hr => ?_, L', ⟨fr, ℓ, ρ, g3⟩, hQ⟩
    rw [← hfin, ← efz]
    exact frz_fz (by rw [efz, hfin]; exact hr)

/-- From a body to its results, handed on. -/
theorem LC.resultsF {fn : Func} {cb : Code} {args : List AV} {r : AV} {Q : LEnv → Prop} (hmix : P.follows .mixedOrders = true) (hf : P.funcs[f]? = some fn) (hbb : fn.body = some cb) (h2 : (fn.name == "runtime.NumGoroutine") = false) (h3 : okL (bodyF fn) fn.ntmps (bodyF fn) = true) (ha : args.length ≤ fn.ntmps) {L : LEnv}
    (hrel : Rel P c L (args ++ List.replicate (fn.ntmps - args.length) AV.undef) m)
    (h : LC P f none c (slimC 0 (bodyF fn)) (fun x L => (x = .ret ∨ x = .normal) ∧ lfin r ((fn.results.toList.mapM fun x => (lresult P L x).bind LV.rdF).map retOf) ∧ Q L) L) :
    ∃ r0 m', ACalls P f args m r0 m' ∧ (Flat r → Frz m' r0 r) := by
  have e : bodyF fn = cb := by simp [bodyF, hbb]
  have e2 : bodyOf P f = cb := by simp [bodyOf, hf, hbb]
  have e3 : fn.ntmps = ntmpsOf P f := by simp [ntmpsOf, hf]
  rw [e] at h h3
  have hlen : (args ++ List.replicate (fn.ntmps - args.length) AV.undef).length = ntmpsOf P f := by rw [← e3]; simp; omega
  obtain ⟨x, env', m', g1, g2, L', g3, hx, hfin, hQ⟩ := LC.exec (f := f) (c := c) hmix hlen hrel (by rw [e2, ← e3]; exact h3) (fun i hi => by rw [e2, Nat.zero_add]) h
  cases hvs : fn.results.toList.mapM fun x => (lresult P L' x).bind LV.rdF with
  | none => rw [hvs] at hfin; exact hfin.elim
  | some vs =>
    rw [hvs] at hfin
    simp only [Option.map_some, lfin] at hfin
    obtain ⟨fr, ℓ, ρ, g3⟩ := g3
    have one : ∀ (x : ResultVar) (a : AV), (lresult P L' x).bind LV.rdF = some a → ∃ a', aresult P env' m' x = some a' ∧ (Flat a.fz → Frz m' a'.stripR a.fz) ∧ (Flat a.strip → Frz m' a'.stripR1 a.strip) := by
      intro x a hxa
      obtain ⟨v, k1, k2⟩ := bind_some' hxa
      cases x with
      | tmp t =>
        simp only [lresult] at k1
        obtain ⟨b, k3, k4⟩ := g3.slot t v k1 (by rintro rfl; cases k2)
        exact ⟨b, k3, LV.frzF k2 k4 (fun i s es hh => g3.tok i s es (.inl ⟨t, v, k1, hh⟩))⟩
      | cell q t =>
        simp only [lresult] at k1
        split at k1
        · rename_i n off hc
          obtain ⟨b, k3, k4⟩ := g3.slot q _ hc (by simp)
          simp only [SRel] at k4; subst k4
          obtain ⟨cs, k5, k6⟩ := bind_some' k1
          obtain ⟨as_, k7, k8⟩ := g3.locs n cs k5
          obtain ⟨d, k9, k10, k11⟩ := lsub_ok (P := P) (fr := fr) k6 k8
          refine ⟨d, ?_, LV.frzF k2 k10 (fun i s es hh => g3.tok i s es (.inr ⟨n, cs, k5, k11 i s es hh⟩))⟩
          simp only [aresult, k3, Option.bind_some, aload, k7, k9]
        · cases k1
    have all : ∀ (rs : List ResultVar) (vs : List AV), (rs.mapM fun x => (lresult P L' x).bind LV.rdF) = some vs → ∃ vs', rs.mapM (aresult P env' m') = some vs' ∧ vs'.length = vs.length ∧ ∀ (j : Nat) (a a' : AV), vs[j]? = some a → vs'[j]? = some a' → (Flat a.fz → Frz m' a'.stripR a.fz) ∧ (Flat a.strip → Frz m' a'.stripR1 a.strip) := by
      intro rs
      induction rs with
      | nil => intro vs h; simp at h; subst h; exact ⟨[], rfl, rfl, fun j a a' h => by simp at h⟩
      | cons x rs ih =>
        intro vs h
        simp only [List.mapM_cons, Option.pure_def, Option.bind_eq_bind] at h
        obtain ⟨a, k1, h⟩ := bind_some' h
        obtain ⟨as_, k2, h⟩ := bind_some' h
        injection h with h; subst h
        obtain ⟨a', k3, k4⟩ := one x a k1
        obtain ⟨as', k5, k6, k7⟩ := ih as_ k2
        refine ⟨a' :: as', by simp only [List.mapM_cons, Option.pure_def, Option.bind_eq_bind, k3, k5, Option.bind_some], by simp [k6], fun j c c' hc hc' => ?_⟩
        cases j with
        | zero => simp at hc hc'; subst hc hc'; exact k4
        | succ j => exact k7 j c c' (by simpa using hc) (by simpa using hc')
    obtain ⟨vs', k1, k2, k3⟩ := all _ _ hvs
    have hres : aresults P fn env' m' = some (retOf vs') := by
      simp only [aresults, k1, Option.map_some]; rfl
    refine ⟨_, m', .of_body hf hbb h2 g1 hx hres, fun hr => ?_⟩
    rw [← hfin] at hr ⊢
    match vs, vs', k2, k3, hr with
    | [], [], _, _, hr => exact hr.frz
    | [a], [a'], _, k3, hr => exact (k3 0 a a' rfl rfl).1 hr
    | a :: b :: l, a' :: b' :: l', k2, k3, hr =>
      simp only [retOf, AV.fz, AV.stripR] at hr ⊢
      cases hr with
      | tuple _ hr =>
        refine .tuple _ _ (by simpa using k2.symm) (fun j c c' h1 h2 => ?_)
        rw [List.getElem?_map] at h1 h2
        obtain ⟨x, hx, rfl⟩ := map_some1 h1
        obtain ⟨y, hy, rfl⟩ := map_some1 h2
        exact (k3 j y x hy hx).2 (hr _ (List.mem_map.2 ⟨y, List.mem_of_getElem? hy, rfl⟩))

theorem largs_get : ∀ (l : List AV) (k t : Nat) (v : LV), aget (largs k l) t = some v → ∃ a, v = .v a ∧ k ≤ t ∧ l[t - k]? = some a := by
  intro l
  induction l with
  | nil => intro k t v h; cases h
  | cons x l ih =>
    intro k t v h
    simp only [largs, aget] at h
    split at h
    · rename_i e; subst e; injection h with h; subst h; exact ⟨x, rfl, Nat.le_refl _, by simp⟩
    · obtain ⟨a, h4, h5, h6⟩ := ih (k + 1) t v h
      refine ⟨a, h4, by omega, ?_⟩
      rw [show t - k = (t - (k + 1)) + 1 from by omega, List.getElem?_cons_succ]; exact h6
/-- No memory, no variable. -/
def c0 : LCtx := ⟨mE seatMu, [], fun _ => False, fun p hp => by cases hp⟩
/-- **A function's contract out of its body.** -/
theorem Fn.of_lc {fn : Func} {args : List AV} {r : AV} (hmix : P.follows .mixedOrders = true) (hf : P.funcs[f]? = some fn) (hok : (fn.body.isSome && !(fn.name == "runtime.NumGoroutine") && okL (bodyF fn) fn.ntmps (bodyF fn)) = true) (ha : decide (args.length ≤ fn.ntmps) = true)
    (hargs : ∀ a ∈ args, Flat a) (hr : Flat r) (h : LC P f none c0 (slimC 0 (bodyF fn)) (LPostF P fn.results.toList r fun _ => True) ⟨largs 0 args, []⟩) : Fn P f args r := by
  simp only [Bool.and_eq_true, Bool.not_eq_true'] at hok
  obtain ⟨⟨h1, h2⟩, h3⟩ := hok
  simp only [decide_eq_true_eq] at ha
  cases hbb : fn.body with
  | none => rw [hbb] at h1; cases h1
  | some cb =>
    have hrel : Rel P c0 ⟨largs 0 args, []⟩ (args ++ List.replicate (fn.ntmps - args.length) AV.undef) (mE seatMu) := by
      have noV : ∀ i s es, ¬ Vis ⟨largs 0 args, []⟩ i s es := by
        rintro i s es (⟨t, v, h4, h5⟩ | ⟨t, cs, h4, _⟩)
        · obtain ⟨a, rfl, _⟩ := largs_get args 0 t v h4; exact h5
        · cases h4
      refine ⟨[], fun _ => 0, fun _ => .full, rfl, fun t v h4 _ => ?_, fun t cs h4 => (by cases h4), fun i s es hv => (noV i s es hv).elim, fun i s es j s' es' hv => (noV i s es hv).elim, fun t t' k k' h4 => (by cases h4), fun p hp => (by cases hp), fun t k h4 => (by cases h4), fun i s es hv => (noV i s es hv).elim, ⟨Nat.le_refl _, Nat.le_refl _⟩, fun l b h4 _ => h4, fun id x h4 _ => h4, fun q hq => (by cases hq), fun q hq => (by cases hq)⟩
      obtain ⟨a, rfl, _, h5⟩ := largs_get args 0 t v h4
      rw [Nat.sub_zero] at h5
      exact ⟨a, by rw [List.getElem?_append_left (List.getElem?_eq_some_iff.1 h5).1]; exact h5, rfl⟩
    obtain ⟨r0, m', g1, g3⟩ := LC.resultsF (c := c0) (Q := fun _ => True) hmix hf hbb h2 h3 ha hrel (LPostF.to h)
    exact Fn.of (μ := seatMu) g1 hargs (g3 hr)

/- What lies in the variables of others. -/
def largsB : Nat → List LA → List (Nat × LV)
  | _, [] => []
  | k, .a x :: l => (k, .v x) :: largsB (k + 1) l
  | k, .p t :: l => (k, .lref t 0) :: largsB (k + 1) l
  | k, .fn f first cap :: l => (k, .fn f first cap) :: largsB (k + 1) l
def namesB : List (Nat × List CV) → Bool
  | [] => true
  | (t, _) :: l => decide (2000000 ≤ t) && namesB l
def bsOf (ℓ : Nat → Nat) : List (Nat × List CV) → List (Nat × Nat)
  | [] => []
  | (t, _) :: l => (t, ℓ t) :: bsOf ℓ l
theorem bsOf_mem : ∀ {N : List (Nat × List CV)}, namesB N = true → ∀ p ∈ bsOf ℓ N, 2000000 ≤ p.1 ∧ p.2 = ℓ p.1 ∧ ∃ cs, aget N p.1 = some cs := by
  intro N
  induction N with
  | nil => intro _ p hp; cases hp
  | cons x l ih =>
    obtain ⟨t0, c0⟩ := x
    intro h p hp
    simp only [namesB, Bool.and_eq_true, decide_eq_true_eq] at h
    simp only [bsOf] at hp
    rcases List.mem_cons.1 hp with rfl | hp
    · exact ⟨h.1, rfl, c0, by simp [aget]⟩
    · obtain ⟨h1, h3, cs, h4⟩ := ih h.2 p hp
      refine ⟨h1, h3, ?_⟩
      simp only [aget]; split
      · exact ⟨_, rfl⟩
      · exact ⟨cs, h4⟩
theorem bsOf_has : ∀ {N : List (Nat × List CV)} {t : Nat} {cs : List CV}, aget N t = some cs → (t, ℓ t) ∈ bsOf ℓ N := by
  intro N
  induction N with
  | nil => intro t cs h; cases h
  | cons x l ih =>
    obtain ⟨t0, c0⟩ := x
    intro t cs h
    simp only [aget] at h
    simp only [bsOf]
    split at h
    · rename_i e; subst e; exact List.mem_cons_self
    · exact List.mem_cons_of_mem _ (ih h)
mutual
/-- Only some variables' addresses. -/
def LA.inN (N : List (Nat × List CV)) : LA → Bool
  | .a _ => true
  | .p t => isSome (aget N t)
  | .fn _ first cap => LAs.inN N first && LAs.inN N cap
def LAs.inN (N : List (Nat × List CV)) : List LA → Bool
  | [] => true
  | x :: l => LA.inN N x && LAs.inN N l
end
def CVs.inN (N : List (Nat × List CV)) : List CV → Bool
  | [] => true
  | .fn _ first cap :: l => LAs.inN N first && (LAs.inN N cap && CVs.inN N l)
  | _ :: l => CVs.inN N l
def closedN (N : List (Nat × List CV)) : List (Nat × List CV) → Bool
  | [] => true
  | (_, cs) :: l => CVs.inN N cs && closedN N l
mutual
theorem LA.inN_av {N : List (Nat × List CV)} {ℓ' : Nat → Nat} (hℓ : ∀ t cs, aget N t = some cs → ℓ' t = ℓ t) : ∀ {x : LA}, LA.inN N x = true → LA.av ℓ' x = LA.av ℓ x
  | .a x, _ => rfl
  | .p t, h => by
    simp only [LA.inN, isSome] at h
    split at h
    · simp only [LA.av, hℓ t _ (by assumption)]
    · cases h
  | .fn f first cap, h => by
    simp only [LA.inN, Bool.and_eq_true] at h
    simp only [LA.av, LAs.inN_av hℓ h.1, LAs.inN_av hℓ h.2]
theorem LAs.inN_av {N : List (Nat × List CV)} {ℓ' : Nat → Nat} (hℓ : ∀ t cs, aget N t = some cs → ℓ' t = ℓ t) : ∀ {l : List LA}, LAs.inN N l = true → LAs.av ℓ' l = LAs.av ℓ l
  | [], _ => rfl
  | x :: l, h => by
    simp only [LAs.inN, Bool.and_eq_true] at h
    simp only [LAs.av, LA.inN_av hℓ h.1, LAs.inN_av hℓ h.2]
end
theorem CVs.inN_mem {N : List (Nat × List CV)} : ∀ {cs : List CV}, CVs.inN N cs = true → ∀ f first cap, CV.fn f first cap ∈ cs → LAs.inN N first = true ∧ LAs.inN N cap = true := by
  intro cs
  induction cs with
  | nil => intro _ f a b h; cases h
  | cons y l ih =>
    intro h f a b hm
    have hm0 := List.mem_cons.1 hm
    clear hm
    rcases hm0 with rfl | hm
    · simp only [CVs.inN, Bool.and_eq_true] at h; exact ⟨h.1, h.2.1⟩
    · cases y with
      | fn g x y => simp only [CVs.inN, Bool.and_eq_true] at h; exact ih h.2.2 f a b hm
      | _ => exact ih h f a b hm
theorem closedN_get {N0 : List (Nat × List CV)} : ∀ {N : List (Nat × List CV)}, closedN N0 N = true → ∀ t cs, aget N t = some cs → CVs.inN N0 cs = true := by
  intro N
  induction N with
  | nil => intro _ t cs h; cases h
  | cons x l ih =>
    obtain ⟨t0, c0⟩ := x
    intro h t cs hc
    simp only [closedN, Bool.and_eq_true] at h
    simp only [aget] at hc
    split at hc
    · injection hc with hc; subst hc; exact h.1
    · exact ih h.2 t cs hc
theorem crels_inN {N : List (Nat × List CV)} {ℓ' : Nat → Nat} {ρ : Nat → Own} (hℓ : ∀ t cs, aget N t = some cs → ℓ' t = ℓ t) {cs : List CV} {as_ : List AV} (hi : CVs.inN N cs = true) (h : CRels ℓ' ρ cs as_) : CRels ℓ ρ cs as_ :=
  ⟨h.1, fun j x a hj ha => by
    have h1 := h.2 j x a hj ha
    cases x with
    | fn f first cap =>
      obtain ⟨h2, h3⟩ := CVs.inN_mem hi f first cap (List.mem_of_getElem? hj)
      simp only [CRel] at h1 ⊢
      rw [← LAs.inN_av hℓ h2, ← LAs.inN_av hℓ h3]; exact h1
    | _ => exact h1⟩
end
end Go.Proofs.YtdnnmopncndebaaDoor.G
set_option linter.unusedVariables false
set_option linter.unusedSectionVars false
set_option linter.unusedSimpArgs false
namespace Go.Proofs.YtdnnmopncndebaaDoor.G

/- What comes next, as_ data: a rewriting goes into none of these before it is its turn. -/
def LNext [Mu] (P : Program) (pr : Nat × List Nat) (Q : LEnv → Prop) (k : Nat) (l : List SOper) (pend : List Nat) (dst : Option Tmp) (v : LV) (L1 : LEnv) (pd : List Nat) : Prop := LOps P pr Q (k + 1) l (pd ++ pend) (lput L1 dst v)
def LGo [Mu] (P : Program) (pr : Nat × List Nat) (Q : LEnv → Prop) (k : Nat) (o : SOper) (l : List SOper) (pend : List Nat) (L : LEnv) (w : Option Bool) : Prop :=
  lgo w (sguard (!pr.2.contains k || isLoad o.op) (LOp P o.op o.dst (lposOf pr k pend) L (LNext P pr Q k l pend o.dst))) (LOps P pr Q (k + 1) l pend (lput L o.dst (.v .undef)))
def LCond [Mu] (P : Program) (f : FuncId) (lo : Option Nat) (c : LCtx) (a b : SCode) (Q : Exit → LEnv → Prop) (L : LEnv) (x : Option LV) : Prop := lcond (LC P f lo c a Q L) (LC P f lo c b Q L) x
def LScope (Q : Exit → LEnv → Prop) (e : Exit) (L : LEnv) : Prop := noJump e = true ∧ Q e L
def LLeave (id : Nat) (Q : Exit → LEnv → Prop) (e : Exit) (L : LEnv) : Prop := Q (leave id e) L
/-- An append that is to be looked at. -/
def LApp (s : Option Nat) (d : Nat) (src : Option (Nat × Nat)) (es ys : List AV) (L : LEnv) (K : LV → LEnv → List Nat → Prop) : Prop :=
  match s with
  | some s => match src with
    | none => K (.own d s (es ++ ys)) (killL d d L) []
    | some (i, s') => s = s' ∧ K (.own d s (es ++ ys)) (killL i d L) []
  | none => False
variable [Mu]
section
variable {P : Program} {f : FuncId} {lo : Option Nat} {c : LCtx} {pr : Nat × List Nat} {k n : Nat} {Q : LEnv → Prop} {R : Exit → LEnv → Prop} {o : SOper} {l : List SOper} {L L1 : LEnv} {pend pd : List Nat} {a b : SCode} {K : LV → LEnv → List Nat → Prop} {d fv : AV} {as_ : List AV} {dst : Option Tmp} {v : LV}
theorem LOps_nil : LOps P pr Q k [] pend L = Q L := rfl
theorem LOps_cons : LOps P pr Q k (o :: l) pend L = LGo P pr Q k o l pend L (wantedL L o) := rfl
theorem LNext_nil : LNext P pr Q k l pend dst v L1 [] = LOps P pr Q (k + 1) l pend (lput L1 dst v) := rfl
theorem LGo_true : LGo P (n, []) Q k o l pend L (some true) = LOp P o.op o.dst ⟨decide (k < n), pend, false⟩ L (LNext P (n, []) Q k l pend o.dst) := propext ⟨fun h => h.2, fun h => ⟨rfl, h⟩⟩
theorem LGo_false : LGo P pr Q k o l pend L (some false) = LOps P pr Q (k + 1) l pend (lput L o.dst (.v .undef)) := rfl
theorem lcall_some {g : FuncId} {first cap las : List LA} {z : Option (List AV)} {pos : LPos} : lcall P (some (g, first, cap)) (some las) z pos L K = LCall P g (first ++ las ++ cap) pos L K := rfl
theorem lres_some : lres (some (v, L1, pd)) K = K v L1 pd := rfl
theorem LC_seq : LC P f lo c (.seq a b) R L = LC P f lo c a (thenL (LC P f lo c b R) R) L := rfl
theorem LC_cond {t : Tmp} : LC P f lo c (.cond t a b) R L = LCond P f lo c a b R L (aget L.S t) := rfl
theorem LC_block {id : Nat} : LC P f lo c (.block id a) R L = LC P f lo c a (LLeave id R) L := rfl
theorem LC_scope : LC P f lo c (.scope a) R L = LC P f lo c a (LScope R) L := rfl
theorem LScope_ret : LScope R .ret L = R .ret L := propext ⟨fun h => h.2, fun h => ⟨rfl, h⟩⟩
theorem LC_skip : LC P f lo c .skip R L = R .normal L := rfl
theorem LC_exit {id : Nat} : LC P f lo c (.exit id) R L = R (.exit id) L := rfl
theorem LC_ret : LC P f lo c .ret R L = R .ret L := rfl
theorem LC_loop {i : Nat} : LC P f lo c (.loop i) R L = LLoop P f lo c i R L := rfl
theorem LC_region {ops : List SOper} : LC P f lo c (.region none ops) R L = LOps P (0, []) (R .normal) 0 ops [] L := rfl
theorem LC_draw {ops : List SOper} {id : Nat} : LC P f lo c (.region (some id) ops) R L = LOps P (lrp P f id) (R .normal) 0 ops [] L := rfl
theorem thenL_normal {X : LEnv → Prop} : thenL X R .normal L = X L := rfl
theorem thenL_ret {X : LEnv → Prop} : thenL X R .ret L = R .ret L := rfl
theorem thenL_exit {X : LEnv → Prop} {id : Nat} : thenL X R (.exit id) L = R (.exit id) L := rfl
theorem LLeave_run {id : Nat} {x : Exit} : LLeave id R x L = R (leave id x) L := rfl
theorem LCond_true : LCond P f lo c a b R L (some (.v (.atom (.bool true)))) = LC P f lo c a R L := rfl
theorem LCond_false : LCond P f lo c a b R L (some (.v (.atom (.bool false)))) = LC P f lo c b R L := rfl
theorem lfin_some {r : AV} : lfin r (some d) = (d.fz = r) := rfl
theorem lappend_own {t xt : TypeId} {es ys : List AV} {o : Own} {dd i s : Nat} (hm : (isV i == muT P t && !isB i) = true) : lres (lappend P t xt (.own i s es) (.slice o ys) (some dd) false L) K = LApp (lapp P t xt es ys) (vOf (muT P t) dd) (some (i, s)) es ys L K := by
  simp only [Bool.and_eq_true, Bool.not_eq_true'] at hm
  have hb := hm.2
  have hm := eq_of_beq hm.1
  simp only [lappend, LApp, hm, hb, Bool.false_eq_true, if_false, ne_eq, not_true_eq_false, or_self]
  cases lapp P t xt es ys with
  | none => rfl
  | some s' =>
    simp only [Option.bind_some]
    by_cases h : s' = s
    · subst h; rw [if_pos rfl]; exact propext ⟨fun g => ⟨rfl, g⟩, fun g => g.2⟩
    · rw [if_neg h]; exact propext ⟨fun g => g.elim, fun g => absurd g.1 h⟩
theorem lload_lref {t : TypeId} {t' off : Nat} {late : Bool} : lload P t (.lref t' off) late L = (match aget L.N t' with
    | some cs => (lsub P t cs off).map (·, L, if late = true then [t'] else [])
    | none => none) := rfl
theorem lload_eptr {t : TypeId} {e : AV} {off : Nat} {late : Bool} : lload P t (.v (.eptr e off)) late L = (subAV P t e.cells off).map (.v ·, L, []) := rfl
theorem lload_vref {t : TypeId} {i s k off : Nat} {late : Bool} : lload P t (.vref i s k off) late L = if late = true then none else (match findL i L with
    | some (s', es) => if s' ≠ s ∨ isV i = false then none else (es[k]?).bind fun e => (subAV P t e.cells off).map (.v ·, L, [])
    | none => none) := rfl
theorem lstore_lref {t : TypeId} {t' off : Nat} {y : LV} {pos : LPos} : lstore P t (.lref t' off) y pos L = (match aget L.N t', sizeT P t with
    | some cs, some n => (y.cells).bind fun ys => if decide (t' < roName) = true ∧ pos.early = false ∧ pos.pend.contains t' = false ∧ ys.length = n ∧ off + n ≤ cs.length then some (.v .undef, lvar L t' (spliceC cs off ys), []) else none
    | _, _ => none) := rfl
@[go_sem] theorem seatMu_none (t : TypeId) : @seatMu muNone t = false := rfl
theorem LPostF_ret {rs : List ResultVar} {r : AV} : LPostF P rs r Q .ret L = (lfin r ((rs.mapM fun x => (lresult P L x).bind LV.rdF).map retOf) ∧ Q L) := rfl
attribute [go_sem ↓] LPostF_ret
attribute [go_sem] LV.rdF CV.rdF vOf isV isB CV.upd LV.upd updS updN updL findC findN findS findV findL Option.or Nat.reduceMod List.isEmpty_nil List.isEmpty_cons Bool.or_true Bool.true_or Bool.not_false Bool.not_true List.contains_nil List.contains_cons
/-- An append of some elements. -/
theorem LApp.map {α : Type} {F : α → AV} {t el s b dd i : Nat} {xs ys : List α} {es zs : List AV} (h1 : elemT P t = some el) (h3 : sizeT P el = some s) (h4 : bytesT P el = some b) (h5 : zsizeT P el = some s) (hc : (decide (0 < s) && decide (0 < b)) = true) (hF : ∀ x, (F x).cells.length = s) (hes : es = xs.map F) (hzs : zs = ys.map F) (hlen : (xs.length + ys.length) * b ≤ 140737488355328)
    (h : K (.own dd s ((xs ++ ys).map F)) (killL i dd L) []) : LApp (lapp P t t es zs) dd (some (i, s)) es zs L K := by
  subst hes hzs
  simp only [Bool.and_eq_true, decide_eq_true_eq] at hc
  have hcond : 0 < s ∧ 0 < b ∧ zsizeT P el = some s ∧ ((xs.map F).length + (ys.map F).length) * b ≤ roomBytes' ∧ (∀ e ∈ xs.map F, e.cells.length = s) ∧ (∀ e ∈ ys.map F, e.cells.length = s) :=
    ⟨hc.1, hc.2, h5, by (show _ * b ≤ 140737488355328); simpa using hlen, fun e he => by obtain ⟨x, _, rfl⟩ := List.mem_map.1 he; exact hF x, fun e he => by obtain ⟨x, _, rfl⟩ := List.mem_map.1 he; exact hF x⟩
  unfold lapp
  simp only [h1, h3, h4]
  rw [if_pos hcond]
  simp only [LApp]
  rw [← List.map_append]
  exact ⟨trivial, h⟩
theorem LC_range {g : Operand} {ps : Array Tmp} {i j : Nat} : LC P f lo c (.range g ps i j) R L = LRange P f lo c g ps i j R L := rfl
theorem lput_mk {S : List (Nat × LV)} {N : List (Nat × List CV)} {t : Nat} : lput ⟨S, N⟩ (some t) v = ⟨(t, v) :: S, N⟩ := rfl
theorem lput_none : lput L none v = L := rfl
theorem lvar_mk {S : List (Nat × LV)} {N : List (Nat × List CV)} {t : Nat} {cs : List CV} : lvar ⟨S, N⟩ t cs = ⟨S, (t, cs) :: N⟩ := rfl
theorem killL_mk {S : List (Nat × LV)} {N : List (Nat × List CV)} {i j : Nat} : killL i j ⟨S, N⟩ = ⟨killS i j S, killN i j N⟩ := rfl
end
attribute [go_sem ↓] LOps_nil LOps_cons LNext_nil LGo_true LGo_false lcall_some lres_some LC_seq LC_cond LC_block LC_scope LScope_ret LC_skip LC_exit LC_ret LC_loop LC_region LC_draw LC_range thenL_normal thenL_ret thenL_exit LLeave_run LCond_true LCond_false lfin_some lappend_own LOp
attribute [go_sem] lArgsF lpartsB CV.toB lfillB lbuildB bKill Nat.reduceSub
attribute [go_sem] lput_mk lput_none lvar_mk killL_mk
attribute [go_sem] wantedL lop llit aget largs CV.rd LV.rd LV.val LV.any leval levalR levalA levals levalsA lparts lopt LV.cells CV.val mkAg CV.lv lsub spliceC LA.free LAs.free CV.free CVs.free LV.free freeS freeN allocOk CV.kill LV.kill killS killN lload_lref lload_eptr lload_vref lstore_lref lfieldAddr lindexAddr lpick lpure lsame lnil lextract lbox lresult AV.fz isLoad lconv roName LV.la LV.la1 LV.la2 LA.val mkFn lArgs LV.fun_
attribute [go_sem] views vw vwC vwCs vwS vwN sg sgOk sgFree rn rnOk rnFree LA.ren LAs.ren CV.ren keepB isSome sgToks toksC toksN killAll setAll largsB List.all_cons List.all_nil

/-- What comes of a loop: it is left, or the function. -/
inductive Lp (S R : Type) where
  | brk (s : S)
  | ret (r : R)
/-- An element of a slice, by a number. -/
def getI {α : Type} (l : List α) (i : Int) : Option α := if 0 ≤ i then l[i.toNat]? else none
theorem getI_some {α : Type} {l : List α} {i : Int} {x : α} (h : getI l i = some x) : 0 ≤ i ∧ l[i.toNat]? = some x := by
  unfold getI at h
  split at h
  · exact ⟨by assumption, h⟩
  · cases h
def w64 (x : Int) : Int := IntKind.i64.wrap x
@[go_sem] theorem w64_eq (x : Int) : IntKind.i64.wrap x = w64 x := rfl
/-- No more than there is room for. -/
def room {α : Type} (b : Nat) (xs ys : List α) : Option (List α) := if (xs.length + ys.length) * b ≤ 140737488355328 then some (xs ++ ys) else none
theorem room_some {α : Type} {b : Nat} {xs ys zs : List α} (h : room b xs ys = some zs) : (xs.length + ys.length) * b ≤ 140737488355328 ∧ zs = xs ++ ys := by
  unfold room at h
  split at h
  · injection h with h; exact ⟨by assumption, h.symm⟩
  · cases h
theorem ite_some {α : Type} {c : Prop} [Decidable c] {x y : Option α} {r : α} (h : (if c then x else y) = some r) (hc : c) : x = some r := by rw [if_pos hc] at h; exact h
theorem ite_none {α : Type} {c : Prop} [Decidable c] {x y : Option α} {r : α} (h : (if c then x else y) = some r) (hc : ¬ c) : y = some r := by rw [if_neg hc] at h; exact h
theorem bfalse {b : Bool} (h : ¬ b = true) : b = false := by simpa using h
theorem pos_some {α : Type} {c : Prop} [Decidable c] {x : Option α} {r : α} (h : (if c then x else none) = some r) : c ∧ x = some r := by
  split at h
  · exact ⟨by assumption, h⟩
  · cases h
end Go.Proofs.YtdnnmopncndebaaDoor.G
set_option linter.unusedVariables false
set_option linter.unusedSimpArgs false
namespace Go.Proofs.YtdnnmopncndebaaDoor.G

/-- Below which variables, which rows all stays. -/
abbrev Low := Nat × Nat
def big : Nat := 1000000000000
def Low.top : Low := (big, big)
/-- The lower ones. -/
def low2 {α : Type} (a b : Low) (k : Low → α) : α :=
  match a, b with
  | (a1, a2), (b1, b2) => if a1 ≤ b1 then (if a2 ≤ b2 then k (a1, a2) else k (a1, b2)) else (if a2 ≤ b2 then k (b1, a2) else k (b1, b2))
structure Keep (lw : Low) (m m1 : Mem) : Prop where
  len : m.boxes.length ≤ m1.boxes.length
  lenR : m.rows.length ≤ m1.rows.length
  box : ∀ l, l < lw.1 → l < m.boxes.length → m1.boxes[l]? = m.boxes[l]?
  row : ∀ l, l < lw.2 → l < m.rows.length → m1.rows[l]? = m.rows[l]?
  mode : m1.mode = m.mode
def lowAV : AV → Low
  | .slice (.row id) _ => (big, id)
  | .vec id _ _ _ _ => (big, id)
  | _ => .top
def lowOp (env : List AV) : Op → Low
  | .store _ x _ => match aeval env x with
    | some (.ptr l _) => (l, big)
    | some (.vptr id _) => (big, id)
    | _ => .top
  | .call { callee := .builtin .append, args, .. } => match aevals env args.toList with
    | some (x :: _) => lowAV x
    | _ => .top
  | .mapUpdate _ x _ _ => match aeval env x with
    | some (.map l) => (l, big)
    | _ => .top
  | .insert _ x _ _ => match aeval env x with
    | some (.map l) => (l, big)
    | _ => .top
  | _ => .top

section
variable {P : Program}
theorem Keep.refl (lw : Low) (m : Mem) : Keep lw m m := ⟨Nat.le_refl _, Nat.le_refl _, fun _ _ _ => rfl, fun _ _ _ => rfl, rfl⟩
theorem Keep.of_ext {m m1 : Mem} (lw : Low) (h : Ext m m1) : Keep lw m m1 := ⟨h.mono.1, h.mono.2, fun l _ hl => h.box hl, fun l _ hl => h.row hl, h.modeEq⟩
theorem take_eq {α : Type} {a b : List α} (hl : a.length ≤ b.length) (h : ∀ l, l < a.length → b[l]? = a[l]?) : ∃ x, b = a ++ x := by
  refine ⟨b.drop a.length, ?_⟩
  apply List.ext_getElem?
  intro i
  by_cases hi : i < a.length
  · rw [List.getElem?_append_left hi, h i hi]
  · rw [List.getElem?_append_right (by omega), List.getElem?_drop]; congr 1; omega
theorem Keep.ext {lw : Low} {m m1 : Mem} (h : Keep lw m m1) (h1 : m.boxes.length ≤ lw.1) (h2 : m.rows.length ≤ lw.2) : Ext m m1 :=
  ⟨take_eq h.len fun l hl => h.box l (by omega) hl, take_eq h.lenR fun l hl => h.row l (by omega) hl, h.mode⟩
theorem Keep.trans {a b c : Low} {m m1 m2 : Mem} (h : Keep a m m1) (k : Keep b m1 m2) (h1 : c.1 ≤ a.1 ∧ c.1 ≤ b.1) (h2 : c.2 ≤ a.2 ∧ c.2 ≤ b.2) : Keep c m m2 :=
  ⟨Nat.le_trans h.len k.len, Nat.le_trans h.lenR k.lenR, fun l hl hm => (k.box l (by omega) (Nat.lt_of_lt_of_le hm h.len)).trans (h.box l (by omega) hm), fun l hl hm => (k.row l (by omega) (Nat.lt_of_lt_of_le hm h.lenR)).trans (h.row l (by omega) hm), k.mode.trans h.mode⟩
theorem low2_eq {α : Type} {a b : Low} {k : Low → α} : ∃ c : Low, low2 a b k = k c ∧ (c.1 ≤ a.1 ∧ c.1 ≤ b.1) ∧ c.2 ≤ a.2 ∧ c.2 ≤ b.2 := by
  obtain ⟨a1, a2⟩ := a
  obtain ⟨b1, b2⟩ := b
  simp only [low2]
  split <;> split <;> refine ⟨_, rfl, ?_, ?_⟩ <;> dsimp only <;> omega
theorem Keep.set {m : Mem} {l : Nat} {c : ABox} : Keep (l, big) m (m.set l c) :=
  ⟨by simp [Mem.set], Nat.le_refl _, fun k hk _ => by simp only [Mem.set]; rw [List.getElem?_set_ne (by simp at hk; omega)], fun _ _ _ => rfl, rfl⟩
theorem Keep.setRow {m : Mem} {l n : Nat} {cs : List AV} : Keep (big, l) m (m.setRow l n cs) :=
  ⟨Nat.le_refl _, by simp [Mem.setRow], fun _ _ _ => rfl, fun k hk _ => by simp only [Mem.setRow]; rw [List.getElem?_set_ne (by simp at hk; omega)], rfl⟩
theorem Keep.grow {m : Mem} {l n : Nat} {cs : List AV} : Keep (big, l) m ((m.retire l).pushRow n cs) :=
  ⟨Nat.le_refl _, by simp [Mem.retire, Mem.pushRow], fun _ _ _ => rfl, fun k hk hl => by simp only [Mem.retire, Mem.pushRow]; rw [List.getElem?_append_left (by simpa using hl), List.getElem?_set_ne (by simp at hk; omega)], rfl⟩
theorem Keep.pushRow {lw : Low} {m : Mem} {n : Nat} {cs : List AV} : Keep lw m (m.pushRow n cs) :=
  ⟨Nat.le_refl _, by simp [Mem.pushRow], fun _ _ _ => rfl, fun k hk hl => by simp only [Mem.pushRow]; rw [List.getElem?_append_left hl], rfl⟩

theorem aappend_keep {env : List AV} {m m1 : Mem} {t xt : TypeId} {x y d : AV} (h : aappend P m t xt x y = some (d, m1)) :
    Keep (lowAV x) m m1 := by
  have hS : ∀ own es, x = .slice own es → aappendS P m t xt x y = some (d, m1) → Keep (lowAV x) m m1 := by
    rintro own es rfl h
    unfold aappendS at h
    split at h
    · rename_i own' es' _ _ _ _ heq _ _ _
      injection heq with e1 e2
      subst e1 e2
      split at h
      · split at h
        · split at h
          · injection h with h; injection h with h1 h2; subst h2; exact Keep.refl _ _
          · split at h
            · cases h
            · injection h with h; injection h with h1 h2; subst h2; exact Keep.pushRow
            · split at h
              · injection h with h; injection h with h1 h2; subst h2; exact Keep.grow
              · cases h
        · cases h
      · cases h
    · cases h
  have hV : aappendV P m t xt x y = some (d, m1) → Keep (lowAV x) m m1 := by
    intro h
    unfold aappendV at h
    split at h
    · split at h
      · split at h
        · split at h
          · split at h
            · injection h with h; injection h with h1 h2; subst h2
              unfold atrunc
              split
              · split
                · exact Keep.setRow
                · exact Keep.refl _ _
              · exact Keep.refl _ _
            · unfold avec at h
              split at h
              · injection h with h; injection h with h1 h2; subst h2; exact Keep.pushRow
              · injection h with h; injection h with h1 h2; subst h2; exact Keep.pushRow
              · split at h
                · split at h
                  · injection h with h; injection h with h1 h2; subst h2; exact Keep.setRow
                  · split at h
                    · injection h with h; injection h with h1 h2; subst h2; exact Keep.grow
                    · cases h
                · cases h
              · cases h
          · cases h
        · cases h
      · cases h
    · cases h
  cases x with
  | vec id off len sz k => exact hV h
  | slice own es =>
    cases own with
    | full =>
      simp only [aappend] at h
      split at h
      · split at h
        · exact hV h
        · exact hS _ _ rfl h
      · cases h
    | _ => exact hS _ _ rfl h
  | _ => simp [aappend, aappendS] at h

theorem amapset_keep {m m1 : Mem} {t : TypeId} {p k v d : AV} (h : (amapset P m t p k v).map (AV.undef, ·) = some (d, m1)) : Keep (match (some p : Option AV) with | some (.map l) => (l, big) | _ => .top) m m1 := by
  obtain ⟨m2, hs, h⟩ := Option.map_eq_some_iff.1 h
  injection h with _ h; subst h
  unfold amapset at hs
  split at hs
  · split at hs
    · obtain ⟨q, hq, hs⟩ := Option.bind_eq_some_iff.1 hs
      obtain ⟨kd, hkd, hs⟩ := Option.bind_eq_some_iff.1 hs
      obtain ⟨kv, hkv, hs⟩ := Option.bind_eq_some_iff.1 hs
      split at hs
      · obtain ⟨r, hr, rfl⟩ := Option.map_eq_some_iff.1 hs
        exact Keep.set
      · cases hs
    · cases hs
  · cases hs
theorem aop_keep {op : Op} {env : List AV} {m m1 : Mem} {d : AV} (h : aop P op env m = some (d, m1)) : Keep (lowOp env op) m m1 := by
  by_cases hk : opKeeps op = true
  · exact .of_ext _ (keeps_ext hk h)
  · unfold aop at h
    split at h <;> first | (exact absurd rfl hk) | skip
    · -- store
      rename_i t a x
      obtain ⟨p, hp, h⟩ := bind_some' h
      obtain ⟨y, hy, h⟩ := bind_some' h
      cases hs : astore P m t p y with
      | none => rw [hs] at h; cases h
      | some m2 =>
        rw [hs] at h; injection h with h; injection h with h1 h2; subst h2
        simp only [lowOp, hp]
        unfold astore at hs
        split at hs
        · split at hs
          · split at hs
            · injection hs with hs; subst hs; exact Keep.set
            · cases hs
          · cases hs
        · split at hs
          · split at hs
            · injection hs with hs; subst hs; exact Keep.setRow
            · cases hs
          · cases hs
        · cases hs
    · -- a builtin
      rename_i b as_ ts
      obtain ⟨l, hl, h⟩ := bind_some' h
      unfold abuiltin at h
      split at h
      · exact absurd rfl hk
      · rename_i t xt x y hts hw
        simp only [lowOp, hl]
        exact aappend_keep (env := env) h
      · exact absurd rfl hk
      · exact absurd rfl hk
      · cases h
    · rename_i t a k x
      obtain ⟨p, hp, h⟩ := bind_some' h
      obtain ⟨kv, _, h⟩ := bind_some' h
      obtain ⟨v, _, h⟩ := bind_some' h
      simp only [lowOp, hp]
      exact amapset_keep h
    · rename_i t a k x
      obtain ⟨p, hp, h⟩ := bind_some' h
      obtain ⟨kv, _, h⟩ := bind_some' h
      obtain ⟨v, _, h⟩ := bind_some' h
      simp only [lowOp, hp]
      exact amapset_keep h
    · cases h

abbrev CallF := AV → List AV → Mem → Option (AV × Mem × Low)
def exOp (P : Program) (call : CallF) (op : Op) (env : List AV) (m : Mem) : Option (AV × Mem × Low) :=
  match op with
  | .call { callee := .value f, args, .. } => (aeval env f).bind fun fv => (aevals env args.toList).bind fun as_ => call fv (as_.map AV.strip) m
  | op => (aop P op env m).bind fun r => some (r.1, r.2, lowOp env op)
/-- Ahead of where memory may turn: has it stayed? -/
def calm (p k : Nat) (lw : Low) (m : Mem) : Bool := decide (p ≤ k) || (decide (m.boxes.length ≤ lw.1) && decide (m.rows.length ≤ lw.2))
def exOps (P : Program) (call : CallF) (ops : Array Oper) (pr : Nat × Option (Nat × Nat)) : Nat → List Oper → List AV → Mem → Option (List AV × Mem × Low)
  | _, [], env, m => some (env, m, .top)
  | k, o :: l, env, m => (wantedA ops env o).bind fun w => match w with
    | true => if swChk pr k o.op (aeval env) = true then
        (exOp P call o.op env m).bind fun r => if calm pr.1 k r.2.2 m = true then (exOps P call ops pr (k + 1) l (aput env o.dst r.1) r.2.1).bind fun s => low2 r.2.2 s.2.2 fun lw => some (s.1, s.2.1, lw) else none
      else none
    | false => exOps P call ops pr (k + 1) l (aput env o.dst .undef) m
abbrev Out := Exit × List AV × Mem × Low
def loopN (step : List AV → Mem → Option Out) : Nat → List AV → Mem → Option Out
  | 0, _, _ => none
  | n + 1, env, m => (step env m).bind fun r => match r.1 with
    | .normal => (loopN step n r.2.1 r.2.2.1).bind fun s => low2 r.2.2.2 s.2.2.2 fun lw => some (s.1, s.2.1, s.2.2.1, lw)
    | _ => some r
def loOk (m : Mem) : Option Nat → Bool
  | none => true
  | some l => match m.boxes[l]? with
    | some (.loop ..) => true
    | _ => false
def ex (P : Program) (call : CallF) (n : Nat) (lo : Option Nat) : Code → List AV → Mem → Option Out
  | .skip, env, m => some (.normal, env, m, .top)
  | .exit id, env, m => some (.exit id, env, m, .top)
  | .ret, env, m => some (.ret, env, m, .top)
  | .seq a b, env, m => (ex P call n lo a env m).bind fun r => match r.1 with
    | .normal => (ex P call n lo b r.2.1 r.2.2.1).bind fun s => low2 r.2.2.2 s.2.2.2 fun lw => some (s.1, s.2.1, s.2.2.1, lw)
    | _ => some r
  | .cond (.tmp t) a b, env, m => (env[t]?).bind fun v => match v with
    | .atom (.bool true) => ex P call n lo a env m
    | .atom (.bool false) => ex P call n lo b env m
    | _ => none
  | .block id c, env, m => (ex P call n lo c env m).bind fun r => some (leave id r.1, r.2)
  | .scope c, env, m => (ex P call n lo c env m).bind fun r => if noJump r.1 = true then some r else none
  | .label _, env, m => some (.normal, env, m, .top)
  | .loop c, env, m => loopN (ex P call n lo c) n env m
  | .region _ ops draw, env, m => (exOps P call ops (drawP ops draw) 0 ops.toList env m).bind fun s => some (.normal, s)
  | .rangeFunc x ps a b, env, m => if loOk m lo = true then (aeval env x).bind fun fv => match fv with
      | .func f first cap => (call (.func f first cap) [.yield m.boxes.length] (m.push (.loop .ready none env ps a b))).bind fun r => (r.2.1.boxes[m.boxes.length]?).bind fun c => match c with
        | .loop st pend e2 p2 a2 b2 => if st = .busy then none else (jumpExit pend).bind fun e => some (e, env, r.2.1.set m.boxes.length (.loop .exhausted pend e2 p2 a2 b2), r.2.2)
        | _ => none
      | _ => none
    else none
  | _, _, _ => none
/-- A call, by so many nested calls and rounds at most. -/
def run (P : Program) (ok : Nat) : Nat → CallF
  | 0, _, _, _ => none
  | n + 1, fv, args, m => match fv with
    | .func f first cap => if ok.testBit f = true then (P.funcs[f]?).bind fun fn => (fn.body).bind fun c =>
        (ex P (run P ok n) n none c (first ++ args ++ cap ++ List.replicate (fn.ntmps - (first ++ args ++ cap).length) .undef) m).bind fun r => if ends r.1 = true then (aresults P fn r.2.1 r.2.2.1).bind fun v => some (v.stripR, r.2.2.1, r.2.2.2) else none
      else none
    | .yield l => (m.boxes[l]?).bind fun c => match c with
      | .loop .ready pend env0 ps as_ body => if args.length = ps.size ∧ drawsOk as_ = true ∧ drawsOk body = true then
          (ex P (run P ok n) n (some l) as_ (putAll env0 ps.toList args) m).bind fun r => match r.1 with
            | .normal => (r.2.2.1.boxes[l]?).bind fun c1 => match c1 with
              | .loop .ready pend1 e1 p1 a1 b1 => (ex P (run P ok n) n (some l) body r.2.1 (r.2.2.1.set l (.loop .busy pend1 e1 p1 a1 b1))).bind fun s => (s.2.2.1.boxes[l]?).bind fun c2 => match c2 with
                | .loop .busy pend2 e2 p2 a2 b2 => (exitJump s.1).bind fun j => low2 r.2.2.2 s.2.2.2 fun lw => low2 lw (l, big) fun lw => some (.bool j.isNone, s.2.2.1.set l (.loop (if j.isNone then .ready else .done) j e2 p2 a2 b2), lw)
                | _ => none
              | _ => none
            | _ => none
        else none
      | _ => none
    | _ => none

/-- What is asked of calls. -/
def CallOk (P : Program) (call : CallF) : Prop := ∀ fv args m r m1 lw, call fv args m = some (r, m1, lw) → ACallV P fv args m r m1 ∧ Keep lw m m1 ∧ ∀ f first cap, fv = .func f first cap → ACalls P f (first ++ args ++ cap) m r m1

theorem exOps_ok {call : CallF} (hcall : CallOk P call) {ops : Array Oper} {pr : Nat × Option (Nat × Nat)} : ∀ {l : List Oper} {k : Nat} {env env' : List AV} {m m' : Mem} {lw : Low}, exOps P call ops pr k l env m = some (env', m', lw) →
    WOps P ops pr (fun a b => a = env' ∧ b = m') k l env m ∧ Keep lw m m' := by
  intro l
  induction l with
  | nil => intro k env env' m m' lw h; injection h with h; injection h with h1 h; injection h with h2 h3; subst h1 h2 h3; exact ⟨⟨rfl, rfl⟩, Keep.refl _ _⟩
  | cons o l ih =>
    intro k env env' m m' lw h
    simp only [exOps] at h
    obtain ⟨w, hw, h⟩ := bind_some' h
    simp only [WOps, hw]
    cases w with
    | false => exact ih h
    | true =>
      dsimp only at h ⊢
      split at h
      · rename_i hsw
        obtain ⟨⟨d, m1, lw1⟩, hr, h⟩ := bind_some' h
        split at h
        · rename_i hcalm
          obtain ⟨⟨env2, m2, lw2⟩, hs, h⟩ := bind_some' h
          obtain ⟨c, hc, hc1, hc2⟩ := low2_eq (a := lw1) (b := lw2) (k := fun lw => some (env2, m2, lw))
          rw [hc] at h
          injection h with h; injection h with h1 h; injection h with h2 h3; subst h1 h2 h3
          obtain ⟨ih1, ih2⟩ := ih hs
          have key : WOp P o.op env m (k < pr.1) (fun d m1 => WOps P ops pr (fun a b => a = env2 ∧ b = m2) (k + 1) l (aput env o.dst d) m1) ∧ Keep lw1 m m1 := by
            have hcm : Keep lw1 m m1 → k < pr.1 → Ext m m1 := by
              intro hk hlt
              simp only [calm, Bool.or_eq_true, Bool.and_eq_true, decide_eq_true_eq] at hcalm
              rcases hcalm with h1 | ⟨h1, h2⟩
              · omega
              · exact hk.ext h1 h2
            unfold exOp at hr
            unfold WOp
            split at hr
            · rename_i heq
              rw [heq]
              obtain ⟨fv, hfv, hr⟩ := bind_some' hr
              obtain ⟨as_, has, hr⟩ := bind_some' hr
              simp only [hfv, has]
              obtain ⟨h1, h2, _⟩ := hcall _ _ _ _ _ _ hr
              exact ⟨⟨d, m1, h1, hcm h2, ih1⟩, h2⟩
            · rename_i hne
              obtain ⟨⟨d', m1'⟩, ha, hr⟩ := bind_some' hr
              injection hr with hr; injection hr with e1 hr; injection hr with e2 e3
              dsimp only at e1 e2
              subst e1 e2 e3
              split
              · rename_i f args ts heq; exact absurd heq (hne f args ts)
              · rw [ha]; exact ⟨ih1, aop_keep ha⟩
          exact ⟨⟨hsw, key.1⟩, key.2.trans ih2 hc1 hc2⟩
        · cases h
      · cases h

theorem ex_ok (hmix : P.follows .mixedOrders = true) {call : CallF} (hcall : CallOk P call) {n : Nat} {lo : Option Nat} : ∀ {c : Code} {env env' : List AV} {m m' : Mem} {e : Exit} {lw : Low}, drawsOk c = true → ex P call n lo c env m = some (e, env', m', lw) →
    WC P lo c (fun x y z => x = e ∧ y = env' ∧ z = m') env m ∧ Keep lw m m' := by
  intro c
  induction c with
  | skip => intro env env' m m' e lw _ h; injection h with h; injection h with h0 h; injection h with h1 h; injection h with h2 h3; subst h0 h1 h2 h3; exact ⟨⟨rfl, rfl, rfl⟩, Keep.refl _ _⟩
  | exit id => intro env env' m m' e lw _ h; injection h with h; injection h with h0 h; injection h with h1 h; injection h with h2 h3; subst h0 h1 h2 h3; exact ⟨⟨rfl, rfl, rfl⟩, Keep.refl _ _⟩
  | ret => intro env env' m m' e lw _ h; injection h with h; injection h with h0 h; injection h with h1 h; injection h with h2 h3; subst h0 h1 h2 h3; exact ⟨⟨rfl, rfl, rfl⟩, Keep.refl _ _⟩
  | seq a b iha ihb =>
    intro env env' m m' e lw hd h
    simp only [drawsOk, Bool.and_eq_true] at hd
    obtain ⟨⟨e1, env1, m1, lw1⟩, hr, h⟩ := bind_some' h
    obtain ⟨h1, k1⟩ := iha hd.1 hr
    have other : e1 ≠ .normal → some (e1, env1, m1, lw1) = some (e, env', m', lw) → WC P lo (.seq a b) (fun x y z => x = e ∧ y = env' ∧ z = m') env m ∧ Keep lw m m' := by
      intro hne h
      injection h with h; injection h with h0 h; injection h with h2 h; injection h with h3 h4; subst h0 h2 h3 h4
      simp only [WC]
      refine ⟨WC.mono (fun x y z hx => ?_) h1, k1⟩
      obtain ⟨rfl, rfl, rfl⟩ := hx
      cases x <;> first | exact absurd rfl hne | exact ⟨rfl, rfl, rfl⟩
    cases e1 with
    | normal =>
      obtain ⟨⟨e2, env2, m2, lw2⟩, hs, h⟩ := bind_some' h
      obtain ⟨c, hc, hc1, hc2⟩ := low2_eq (a := lw1) (b := lw2) (k := fun lw => some (e2, env2, m2, lw))
      rw [hc] at h
      injection h with h; injection h with h0 h; injection h with h2 h; injection h with h3 h4; subst h0 h2 h3 h4
      obtain ⟨h2, k2⟩ := ihb hd.2 hs
      simp only [WC]
      refine ⟨WC.mono (fun x y z hx => ?_) h1, k1.trans k2 hc1 hc2⟩
      obtain ⟨rfl, rfl, rfl⟩ := hx
      exact h2
    | _ => exact other (by simp) h
  | cond t a b iha ihb =>
    intro env env' m m' e lw hd h
    simp only [drawsOk, Bool.and_eq_true] at hd
    cases t with
    | tmp t =>
      obtain ⟨v, hv, h⟩ := bind_some' h
      simp only [WC, hv]
      split at h
      · exact iha hd.1 h
      · exact ihb hd.2 h
      · cases h
    | _ => cases h
  | block id c ih =>
    intro env env' m m' e lw hd h
    obtain ⟨⟨e1, env1, m1, lw1⟩, hr, h⟩ := bind_some' h
    injection h with h; injection h with h0 h; injection h with h2 h; injection h with h3 h4; subst h0 h2 h3 h4
    obtain ⟨h1, k1⟩ := ih hd hr
    simp only [WC]
    refine ⟨WC.mono (fun x y z hx => ?_) h1, k1⟩
    obtain ⟨rfl, rfl, rfl⟩ := hx
    exact ⟨rfl, rfl, rfl⟩
  | loop c ih =>
    intro env env' m m' e lw hd h
    have key : ∀ (j : Nat) (lw : Low) (env : List AV) (m : Mem), loopN (ex P call n lo c) j env m = some (e, env', m', lw) → ∀ lw', lw' = lw → ALoop P lo c env m e env' m' ∧ Keep lw m m' := by
      intro j
      induction j with
      | zero => intro lw env m h; cases h
      | succ j ihj =>
        intro lw env m h lw' _
        simp only [loopN] at h
        obtain ⟨⟨e1, env1, m1, lw1⟩, hr, h⟩ := bind_some' h
        obtain ⟨h1, k1⟩ := ih (by simpa only [drawsOk] using hd) hr
        obtain ⟨x, y, z, hx, rfl, rfl, rfl⟩ := WC.exec hmix (by simpa only [drawsOk] using hd) h1
        have other : x ≠ .normal → some (x, y, z, lw1) = some (e, env', m', lw) → ALoop P lo c env m e env' m' ∧ Keep lw m m' := by
          intro hne h
          injection h with h; injection h with h0 h; injection h with h2 h; injection h with h3 h4; subst h0 h2 h3 h4
          exact ⟨.out hx hne, k1⟩
        cases x with
        | normal =>
          obtain ⟨⟨e2, env2, m2, lw2⟩, hs, h⟩ := bind_some' h
          obtain ⟨c', hc, hc1, hc2⟩ := low2_eq (a := lw1) (b := lw2) (k := fun lw => some (e2, env2, m2, lw))
          rw [hc] at h
          injection h with h; injection h with h0 h; injection h with h2 h; injection h with h3 h4; subst h0 h2 h3 h4
          obtain ⟨h5, h6⟩ := ihj _ _ _ hs lw2 rfl
          exact ⟨.round hx h5, k1.trans h6 hc1 hc2⟩
        | _ => exact other (by simp) h
    obtain ⟨h1, h2⟩ := key n lw env m h lw rfl
    exact ⟨⟨_, _, _, h1, rfl, rfl, rfl⟩, h2⟩
  | region id ops draw =>
    intro env env' m m' e lw hd h
    obtain ⟨⟨env1, m1, lw1⟩, hr, h⟩ := bind_some' h
    injection h with h; injection h with h0 h; injection h with h2 h; injection h with h3 h4; subst h0 h2 h3 h4
    obtain ⟨h1, k1⟩ := exOps_ok hcall hr
    refine ⟨?_, k1⟩
    simp only [WC]
    exact WOps.mono (fun a b hx => by simpa using hx) _ _ _ _ _ h1
  | rangeFunc x ps a b iha ihb =>
    intro env env' m m' e lw hd h
    simp only [ex] at h
    split at h
    · rename_i hlo
      obtain ⟨fv, hfv, h⟩ := bind_some' h
      split at h
      · rename_i f first cap
        obtain ⟨⟨r, m1, lw1⟩, hr, h⟩ := bind_some' h
        obtain ⟨cb, hcb, h⟩ := bind_some' h
        split at h
        · rename_i st pend e2 p2 a2 b2
          split at h
          · cases h
          · rename_i hst
            obtain ⟨ee, hee, h⟩ := bind_some' h
            injection h with h; injection h with h0 h; injection h with h2 h; injection h with h3 h4; subst h0 h2 h3 h4
            obtain ⟨_, k1, hc⟩ := hcall _ _ _ _ _ _ hr
            have hloat : LoAt m lo := by
              cases lo with
              | none => trivial
              | some l0 =>
                simp only [loOk] at hlo
                split at hlo
                · exact ⟨_, _, _, _, _, _, by assumption⟩
                · cases hlo
            refine ⟨⟨_, _, _, AExec.range hloat hfv (hc _ _ _ rfl) hcb hst hee, rfl, rfl, rfl⟩, ?_⟩
            refine ⟨?_, k1.lenR, fun l hl hm => ?_, fun l hl hm => k1.row l hl hm, k1.mode⟩
            · have := k1.len; simp [Mem.push, Mem.set] at this ⊢; omega
            · simp only [Mem.set]
              rw [List.getElem?_set_ne (by omega), k1.box l hl (by simp [Mem.push]; omega)]
              simp only [Mem.push]
              rw [List.getElem?_append_left hm]
        · cases h
      · cases h
    · cases h
  | scope c ih =>
    intro env env' m m' e lw hd h
    obtain ⟨⟨e1, env1, m1, lw1⟩, hr, h⟩ := bind_some' h
    split at h
    · rename_i hj
      injection h with h; injection h with h0 h; injection h with h2 h; injection h with h3 h4; subst h0 h2 h3 h4
      obtain ⟨h1, k1⟩ := ih hd hr
      simp only [WC]
      refine ⟨WC.mono (fun x y z hx => ?_) h1, k1⟩
      obtain ⟨rfl, rfl, rfl⟩ := hx
      exact ⟨hj, rfl, rfl, rfl⟩
    · cases h
  | label l => intro env env' m m' e lw _ h; injection h with h; injection h with h0 h; injection h with h1 h; injection h with h2 h3; subst h0 h1 h2 h3; exact ⟨⟨rfl, rfl, rfl⟩, Keep.refl _ _⟩
  | _ => intro env env' m m' e lw _ h; cases h

theorem run_ok (hmix : P.follows .mixedOrders = true) {ok : Nat} (hok : ∀ f, ok.testBit f = true → ∃ fn, P.funcs[f]? = some fn ∧ okFn fn = true) : ∀ n, CallOk P (run P ok n) := by
  intro n
  induction n with
  | zero => intro fv args m r m1 lw h; cases h
  | succ n ih =>
    intro fv args m r m1 lw h
    simp only [run] at h
    split at h
    · rename_i f first cap
      split at h
      · rename_i hb
        obtain ⟨fn, hfn, h⟩ := bind_some' h
        obtain ⟨c, hc, h⟩ := bind_some' h
        obtain ⟨⟨e1, env1, m2, lw1⟩, hr, h⟩ := bind_some' h
        split at h
        · rename_i he
          obtain ⟨v, hv, h⟩ := bind_some' h
          injection h with h; injection h with h0 h; injection h with h2 h3; subst h0 h2 h3
          obtain ⟨fn', hfn', hk⟩ := hok f hb
          rw [hfn] at hfn'; injection hfn' with hfn'; subst hfn'
          simp only [okFn, Bool.and_eq_true, Bool.not_eq_true'] at hk
          obtain ⟨⟨⟨⟨h1, h2⟩, h3⟩, h4⟩, h5⟩ := hk
          have hbf : bodyF fn = c := by simp [bodyF, hc]
          rw [hbf] at h3
          obtain ⟨hw, k1⟩ := ex_ok hmix ih h3 hr
          obtain ⟨x, y, z, hx, rfl, rfl, rfl⟩ := WC.exec hmix h3 hw
          have hcalls : ACalls P f (first ++ args ++ cap) m v.stripR z := ACalls.of_body hfn hc h2 hx (by cases x <;> simp [ends] at he <;> simp) hv
          exact ⟨.of_func hcalls, k1, fun f' first' cap' heq => by injection heq with e1 e2 e3; subst e1 e2 e3; exact hcalls⟩
        · cases h
      · cases h
    · rename_i l
      obtain ⟨cb, hcb, h⟩ := bind_some' h
      split at h
      · rename_i pend env0 ps as_ body
        split at h
        · rename_i hcond
          obtain ⟨hlen, hda, hdb⟩ := hcond
          obtain ⟨⟨e1, env1, m2, lw1⟩, hr, h⟩ := bind_some' h
          split at h
          · rename_i he1
            dsimp only at he1
            subst he1
            obtain ⟨c1, hc1, h⟩ := bind_some' h
            split at h
            · rename_i pend1 ea pa aa ba
              obtain ⟨⟨e2, env2, m3, lw2⟩, hs, h⟩ := bind_some' h
              obtain ⟨c2, hc2, h⟩ := bind_some' h
              split at h
              · rename_i pend2 eb pb ab bb
                obtain ⟨j, hj, h⟩ := bind_some' h
                obtain ⟨lwA, hlA, hA1, hA2⟩ := low2_eq (a := lw1) (b := lw2) (k := fun lw => low2 lw (l, big) fun lw => some (AV.bool j.isNone, m3.set l (.loop (if j.isNone then .ready else .done) j eb pb ab bb), lw))
                obtain ⟨lwB, hlB, hB1, hB2⟩ := low2_eq (a := lwA) (b := (l, big)) (k := fun lw => some (AV.bool j.isNone, m3.set l (.loop (if j.isNone then .ready else .done) j eb pb ab bb), lw))
                rw [hlA, hlB] at h
                injection h with h; injection h with h0 h; injection h with h2 h3; subst h0 h2 h3
                obtain ⟨hw1, k1⟩ := ex_ok hmix ih hda hr
                obtain ⟨x, y, z, hx, rfl, rfl, rfl⟩ := WC.exec hmix hda hw1
                obtain ⟨hw2, k2⟩ := ex_ok hmix ih hdb hs
                obtain ⟨x2, y2, z2, hx2, rfl, rfl, rfl⟩ := WC.exec hmix hdb hw2
                refine ⟨ACallV.yield hcb hlen hx hc1 hx2 hc2 hj, ?_, fun f first cap heq => by cases heq⟩
                have ka : Keep lwB z (z.set l (.loop .busy pend1 ea pa aa ba)) := by
                  have := Keep.set (m := z) (l := l) (c := .loop .busy pend1 ea pa aa ba)
                  exact this.trans (Keep.refl lwB _) ⟨by dsimp only at hB1 ⊢; omega, Nat.le_refl _⟩ ⟨by dsimp only at hB2 ⊢; omega, Nat.le_refl _⟩
                have kb : Keep lwB z2 (z2.set l (.loop (if j.isNone then .ready else .done) j eb pb ab bb)) := by
                  have := Keep.set (m := z2) (l := l) (c := .loop (if j.isNone then .ready else .done) j eb pb ab bb)
                  exact this.trans (Keep.refl lwB _) ⟨by dsimp only at hB1 ⊢; omega, Nat.le_refl _⟩ ⟨by dsimp only at hB2 ⊢; omega, Nat.le_refl _⟩
                exact ((k1.trans ka (c := lwB) ⟨by omega, Nat.le_refl _⟩ ⟨by omega, Nat.le_refl _⟩).trans k2 (c := lwB) ⟨Nat.le_refl _, by omega⟩ ⟨Nat.le_refl _, by omega⟩).trans kb (c := lwB) ⟨Nat.le_refl _, Nat.le_refl _⟩ ⟨Nat.le_refl _, Nat.le_refl _⟩
              · cases h
            · cases h
          · cases h
        · cases h
      · cases h
    · cases h

/-- Does a run tell such a truth? -/
def tells (b : Bool) : Option (AV × Mem × Low) → Bool
  | some (.atom (.bool c), _, _) => b == c
  | _ => false
/-- **A closed call that is seen by computing.** -/
theorem Fn.run_bool (hmix : P.follows .mixedOrders = true) {ok : Nat} (hok : ∀ f, ok.testBit f = true → ∃ fn, P.funcs[f]? = some fn ∧ okFn fn = true) {f n : Nat} {b : Bool} {μ : TypeId → Bool} (h : tells b (run P ok n (.func f [] []) [] (mE μ)) = true) : Fn P f [] (.bool b) := by
  unfold tells at h
  split at h
  · rename_i c m1 lw he
    obtain ⟨_, _, h1⟩ := run_ok hmix hok n _ _ _ _ _ _ he
    have hb : b = c := by simpa using h
    subst hb
    exact .of (h1 _ _ _ rfl) (fun a ha => by simp at ha) (.atom _)
  · cases h
end
end Go.Proofs.YtdnnmopncndebaaDoor.G
