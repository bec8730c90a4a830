/-
Values made out of parts; new variables; the least and the greatest.
-/
import Derived.Test.YtakmilmckdllfaaG7
set_option linter.unusedVariables false
set_option linter.unusedSimpArgs false
namespace Go.Proofs.Ytakmilmckdllfaa.G

theorem foldl_set : ∀ (c : List Value) (n off : Nat) (cells : Array Value),
    ((c.zipIdx n).foldl (fun cs (p : Value × Nat) => cs.setIfInBounds (off + p.2) p.1) cells).size = cells.size ∧
    ∀ k, ((c.zipIdx n).foldl (fun cs (p : Value × Nat) => cs.setIfInBounds (off + p.2) p.1) cells)[k]? = if off + n ≤ k ∧ k < off + n + c.length ∧ k < cells.size then c[k - (off + n)]? else cells[k]? := by
  intro c
  induction c with
  | nil => intro n off cells; simp; intro k h1 h2; omega
  | cons x c ih =>
    intro n off cells
    simp only [List.zipIdx_cons, List.foldl_cons]
    obtain ⟨h1, h2⟩ := ih (n + 1) off (cells.setIfInBounds (off + n) x)
    refine ⟨by rw [h1]; simp, fun k => ?_⟩
    rw [h2 k]
    simp only [Array.size_setIfInBounds, Array.getElem?_setIfInBounds, List.length_cons]
    by_cases e1 : off + n = k
    · subst e1
      by_cases e2 : off + n < cells.size
      · rw [if_neg (by omega), if_pos rfl, if_pos e2, if_pos (by omega)]; simp
      · rw [if_neg (by omega), if_pos rfl, if_neg e2, if_neg (by omega), Array.getElem?_eq_none (by omega)]
    · by_cases e2 : off + (n + 1) ≤ k ∧ k < off + (n + 1) + c.length ∧ k < cells.size
      · rw [if_pos e2, if_pos (by omega)]
        have : k - (off + n) = (k - (off + (n + 1))) + 1 := by omega
        rw [this, List.getElem?_cons_succ]
      · rw [if_neg e2, if_neg e1, if_neg (by omega)]

section
variable {g : Gh} {m : Mem} {w : World} {P : Program}

def PRel (g : Gh) (w : World) : List (Nat × AV) → List (Nat × Value) → Prop
  | [], [] => True
  | (i, a) :: l, (k, v) :: l' => i = k ∧ Rep g w a v ∧ PRel g w l l'
  | _, _ => False

theorem strip1_rep {a : AV} {v : Value} (h : Rep g w a v) : Rep g w a.strip1 v := by
  cases a with
  | slice own es => exact h.forget
  | _ => exact h
theorem strip1_one (a : AV) : a.strip1.one = a.one := by cases a <;> rfl
theorem Reps.strip1 {as : List AV} {vs : Array Value} (h : Reps g w as vs) : Reps g w (as.map AV.strip1) vs :=
  ⟨by simp [h.1], fun j a v ha hv => by
    rw [List.getElem?_map] at ha
    cases hx : as[j]? with
    | none => rw [hx] at ha; cases ha
    | some x => rw [hx] at ha; injection ha with ha; subst ha; exact strip1_rep (h.2 j x v hx hv)⟩
theorem strip_rep {a : AV} {v : Value} (h : Rep g w a v) : Rep g w a.strip v := by
  cases a with
  | slice own es => exact h.forget
  | agg cs =>
    obtain ⟨vs, rfl, hr, ho⟩ := h.agg_inv
    have := hr.strip1
    refine .agg _ _ this.1 (fun c hc => ?_) this.2
    obtain ⟨x, hx, rfl⟩ := List.mem_map.1 hc
    rw [strip1_one]; exact ho x hx
  | _ => exact h
theorem strip_cells {a : AV} : a.strip.cells = a.cells.map AV.strip1 := by cases a <;> rfl

theorem fill_ok {places : Nat → Option (Nat × Nat)} : ∀ {aps : List (Nat × AV)} {vps : List (Nat × Value)} {cs cs' : List AV} {cells : Array Value}, PRel g w aps vps → Reps g w cs cells → (∀ c ∈ cs, c.one = true) → afill places cs aps = some cs' →
    ∃ cells', Instr.fill places cells vps = some cells' ∧ Reps g w cs' cells' ∧ ∀ c ∈ cs', c.one = true := by
  intro aps
  induction aps with
  | nil =>
    intro vps cs cs' cells hp hr ho h
    cases vps with
    | nil => simp only [afill] at h; injection h with h; subst h; exact ⟨cells, rfl, hr, ho⟩
    | cons => exact hp.elim
  | cons p aps ih =>
    intro vps cs cs' cells hp hr ho h
    obtain ⟨i, a⟩ := p
    cases vps with
    | nil => exact hp.elim
    | cons q vps =>
      obtain ⟨k, v⟩ := q
      obtain ⟨rfl, hav, hp⟩ := hp
      simp only [afill] at h
      cases hpl : places i with
      | none => rw [hpl] at h; cases h
      | some os =>
        obtain ⟨off, size⟩ := os
        rw [hpl] at h
        dsimp only at h
        split at h
        · rename_i hc
          obtain ⟨c1, c2, c3⟩ := hc
          obtain ⟨h1, h2⟩ := hav.cells (notTuple_ne c3)
          have h3 := h1.strip1
          obtain ⟨k1, k2⟩ := foldl_set v.cells.toList 0 off cells
          have hlen : (a.cells.map AV.strip1).length = a.cells.length := by simp
          have hr' : Reps g w (splice cs off (a.cells.map AV.strip1)) ((v.cells.toList.zipIdx 0).foldl (fun cs (p : Value × Nat) => cs.setIfInBounds (off + p.2) p.1) cells) := by
            refine ⟨by rw [k1, splice_length (by omega), hr.1], fun j c x hc hx => ?_⟩
            rw [splice_get (by omega)] at hc
            rw [k2 j] at hx
            have hsz := hr.1
            have hvz := h1.1
            simp only [Nat.add_zero, Array.length_toList] at hx
            by_cases e : off ≤ j ∧ j < off + (a.cells.map AV.strip1).length
            · rw [if_pos e] at hc
              rw [if_pos (by omega)] at hx
              exact h3.2 (j - off) c x hc (by simpa using hx)
            · rw [if_neg e] at hc
              rw [if_neg (by omega)] at hx
              exact hr.2 j c x hc hx
          obtain ⟨cells', h4, h5⟩ := ih hp hr' (splice_one ho (fun c hc => by
            obtain ⟨y, hy, rfl⟩ := List.mem_map.1 hc
            rw [strip1_one]; exact h2 y hy)) h
          refine ⟨cells', ?_, h5⟩
          have hv1 := h1.1
          have hr1 := hr.1
          have e1 : (v.cells.zipIdx.foldl (fun cs (x : Value × Nat) => cs.setIfInBounds (off + x.2) x.1) cells) = ((v.cells.toList.zipIdx 0).foldl (fun cs (p : Value × Nat) => cs.setIfInBounds (off + p.2) p.1) cells) := by
            rw [← Array.foldl_toList, Array.toList_zipIdx]
          have hcond : ¬ ((v.cells.size ≠ size) || (off + v.cells.size > cells.size)) = true := by
            simp; omega
          simp only [Instr.fill, hpl]
          rw [if_neg hcond]
          rw [show (v.cells.zipIdx.foldl (fun cs (c, j) => cs.setIfInBounds (off + j) c) cells) = _ from e1]
          exact h4
        · cases h

theorem zero_ok {t : TypeId} {cs : List AV} (h : zeroT P t = some cs) : ∃ zv, (P.info? t).bind (·.zero) = some zv ∧ (∀ g w, Reps g w cs zv.cells) ∧ ∀ c ∈ cs, c.one = true := by
  unfold zeroT at h
  cases hz : (P.info? t).bind (·.zero) with
  | none => rw [hz] at h; cases h
  | some zv =>
    rw [hz] at h
    simp only [Option.bind_some] at h
    cases hc : constAVs zv.cells.toList with
    | none => rw [hc] at h; cases h
    | some as =>
      rw [hc] at h
      simp only [Option.bind_some] at h
      split at h
      · rename_i hall
        injection h with h; subst h
        refine ⟨zv, rfl, fun g w => ?_, fun c hc' => List.all_eq_true.1 hall c hc'⟩
        obtain ⟨h1, h2⟩ := constAVs_rep (g := g) (w := w) hc
        exact ⟨by simpa using h1.symm, fun j a v ha hv => (h2 j a v ha (by simpa using hv)).1⟩
      · cases h

theorem mapM_places {fs : List Field} {ps : List (Nat × Nat)} (h : fs.mapM (fun f => (sizeT P f.type).map fun n => (f.offset, n)) = some ps) (w : World) :
    (fs.mapM (fun f => do pure (f.offset, ← sizeOf f.type) : Field → Sem (Nat × Nat))).run P w = .ok ps w := by
  induction fs generalizing ps with
  | nil => simp at h; subst h; simp
  | cons f fs ih =>
    rw [List.mapM_cons] at h
    cases hf : sizeT P f.type with
    | none => rw [hf] at h; cases h
    | some n =>
      cases hr : fs.mapM (fun f => (sizeT P f.type).map fun n => (f.offset, n)) with
      | none => rw [hf, hr] at h; cases h
      | some ps' =>
        rw [hf, hr] at h
        injection h with h; subst h
        have := ih hr
        rw [List.mapM_cons]
        simp only [Sem.run_bind, run_sizeOf hf, Result.andThen_ok, Sem.run_pure]
        rw [this]
        rfl

theorem abuild_ok {t : TypeId} {aps : List (Nat × AV)} {vps : List (Nat × Value)} {d : AV} (h : abuild P t aps = some d) (hp : PRel g w aps vps) : ∃ v, (Instr.build t vps.toArray).run P w = .ok v w ∧ Rep g w d v := by
  unfold abuild at h
  split at h
  · rename_i cs ps hz hpl
    obtain ⟨zv, hzv, hr, ho⟩ := zero_ok hz
    cases hf : afill (ps[·]?) cs aps with
    | none => rw [hf] at h; cases h
    | some cs' =>
      rw [hf] at h; injection h with h; subst h
      obtain ⟨cells', h1, h2, h3⟩ := fill_ok hp (hr g w) ho hf
      unfold placesT at hpl
      split at hpl
      · rename_i fs hu
        refine ⟨.agg cells', ?_, .agg _ _ h2.1 h3 h2.2⟩
        have hpls := mapM_places hpl w
        have hm2 : (fs.mapM (fun f => do pure (f.offset, ← sizeOf f.type) : Field → Sem (Nat × Nat))).run P w = .ok ps.toArray w := by
          rw [Array.mapM_eq_mapM_toList]
          simp only [Sem.run_map, hpls, Result.andThen_ok]
        simp only [Instr.build, Sem.run_bind, run_zeroValue hzv, Result.andThen_ok, run_under hu, hm2]
        simp [h1]
      · cases hpl
  · rename_i cs len e hz hpl hat
    split at h
    · rename_i s hs
      obtain ⟨zv, hzv, hr, ho⟩ := zero_ok hz
      cases hf : afill (fun i => some (i * s, s)) cs aps with
      | none => rw [hf] at h; cases h
      | some cs' =>
        rw [hf] at h; injection h with h; subst h
        obtain ⟨cells', h1, h2, h3⟩ := fill_ok hp (hr g w) ho hf
        refine ⟨.agg cells', ?_, .agg _ _ h2.1 h3 h2.2⟩
        simp [Instr.build, run_zeroValue hzv, run_under (under_arr hat), run_sizeOf hs, h1]
    · cases h
  · cases h

theorem afill_all {s : Nat} : ∀ (parts : List (Nat × AV)) (k : Nat) (A B : List AV), A.length = k * s → B.length = parts.length * s → parts.map (·.1) = List.range' k parts.length → (∀ p ∈ parts, p.2.cells.length = s ∧ notTuple p.2 = true) →
    afill (fun i => some (i * s, s)) (A ++ B) parts = some (A ++ flatC (parts.map fun p => p.2.strip)) := by
  intro parts
  induction parts with
  | nil => intro k A B hA hB h1 h2; simp at hB; subst hB; simp [afill, flatC]
  | cons p parts ih =>
    intro k A B hA hB h1 h2
    obtain ⟨i, a⟩ := p
    simp only [List.map_cons, List.length_cons, List.range'_succ] at h1 hB
    injection h1 with h1 h1'
    subst h1
    obtain ⟨h3, h4⟩ := h2 (i, a) (List.mem_cons_self ..)
    dsimp only at h3 h4
    rw [Nat.succ_mul] at hB
    have hcond : a.cells.length = s ∧ i * s + s ≤ (A ++ B).length ∧ notTuple a = true := ⟨h3, by simp; omega, h4⟩
    simp only [afill]
    rw [if_pos hcond]
    have hsp : splice (A ++ B) (i * s) (a.cells.map AV.strip1) = (A ++ a.strip.cells) ++ B.drop s := by
      simp only [splice, List.length_map, h3]
      rw [← hA, List.take_left, strip_cells, show A.length + s = A.length + s from rfl, List.drop_append, List.drop_eq_nil_of_le (by omega), List.nil_append, show A.length + s - A.length = s from by omega]
    rw [hsp, ih (i + 1) (A ++ a.strip.cells) (B.drop s) (by simp [strip_cells, h3, hA, Nat.succ_mul]) (by simp; omega) h1' (fun p hp => h2 p (List.mem_cons_of_mem _ hp))]
    simp [flatC]

theorem abuildSlice_ok {t : TypeId} {len : Nat} {aps : List (Nat × AV)} {vps : List (Nat × Value)} {d : AV} (h : abuildSlice P t len aps = some d) (hp : PRel g w aps vps) (hm : MemOk g m w) :
    ∃ v w', (Instr.buildSlice t len vps.toArray).run P w = .ok v w' ∧ Step g m g m w w' ∧ MemOk g m w' ∧ Rep g w' d v := by
  unfold abuildSlice at h
  split at h
  · rename_i e he
    split at h
    · rename_i s hs
      split at h
      · rename_i hc
        obtain ⟨h0, hbig, hz, hidx, hall⟩ := hc
        injection h with h; subst h
        obtain ⟨zs, hzs, hzl⟩ : ∃ zs, zeroT P e = some zs ∧ zs.length = s := by
          cases hx : zeroT P e with
          | none => rw [hx] at hz; cases hz
          | some zs => rw [hx] at hz; injection hz with hz; exact ⟨zs, rfl, hz⟩
        obtain ⟨zv, hzv, hr, ho⟩ := zero_ok hzs
        have hlen : aps.length = len := by have := congrArg List.length hidx; simpa using this
        have hzvs : zv.cells.size = s := by rw [(hr g w).1, hzl]
        let init : List AV := (List.range (len * s)).map fun k => (zs[k % s]?).getD AV.undef
        have hget : ∀ k, ∃ c v, zs[k % s]? = some c ∧ zv.cells[k % s]? = some v ∧ c.one = true ∧ Rep g w c v := by
          intro k
          have hlt : k % s < s := Nat.mod_lt _ h0
          refine ⟨zs[k % s]'(by omega), zv.cells[k % s]'(by omega), List.getElem?_eq_getElem (by omega), Array.getElem?_eq_getElem (by omega), ho _ (List.getElem_mem ..), ?_⟩
          exact (hr g w).2 (k % s) _ _ (List.getElem?_eq_getElem (by omega)) (Array.getElem?_eq_getElem (by omega))
        have hinit : Reps g w init ((Array.range (len * s)).map (zv.cells[· % zv.cells.size]!)) := by
          refine ⟨by simp [init], fun j c v hc hv => ?_⟩
          have hj : j < len * s := by have := (List.getElem?_eq_some_iff.1 hc).1; simpa [init] using this
          obtain ⟨c0, v0, h1, h2, _, h4⟩ := hget j
          simp only [init, List.getElem?_map, List.getElem?_range hj, Option.map_some, h1, Option.getD_some] at hc
          injection hc with hc; subst hc
          simp only [Array.getElem?_map, Array.getElem?_range, hj, if_true, Option.map_some, hzvs] at hv
          injection hv with hv; subst hv
          rw [getElem!_def, h2]
          exact h4
        have hinito : ∀ c ∈ init, c.one = true := by
          intro c hc
          simp only [init, List.mem_map] at hc
          obtain ⟨k, _, rfl⟩ := hc
          obtain ⟨c0, v0, h1, _, h3, _⟩ := hget k
          rw [h1]; exact h3
        have hfl : afill (fun i => some (i * s, s)) init aps = some (flatC (aps.map fun p => p.2.strip)) := by
          have := afill_all aps 0 [] init (by simp) (by simp [init, hlen]) (by rw [hidx, hlen, List.range_eq_range']) hall
          simpa using this
        obtain ⟨cells', h1, h2, h3⟩ := fill_ok hp hinit hinito hfl
        have hst : Step g m g m w (w.alloc (.cells cells' e (0, 0))) := Step.plain rfl rfl rfl (by simp) (fun b hb => alloc_old w _ hb)
        refine ⟨.slice (some ⟨w.heap.size, 0, none⟩) len len, w.alloc (.cells cells' e (0, 0)), ?_, hst, hm.plain hst (fun b hb => alloc_old w _ hb), ?_⟩
        · have hbig' : ¬ (len * s > 2 ^ 24) := by omega
          by_cases hn : len * s = 0
          · have e0 : len = 0 := by
              rcases Nat.mul_eq_zero.1 hn with h | h
              · exact h
              · omega
            subst e0
            have : aps = [] := List.eq_nil_of_length_eq_zero hlen
            subst this
            cases vps with
            | nil =>
              simp [Instr.fill] at h1
              subst h1
              have hmt : ∀ f : Nat → Value, Array.map f (Array.range 0) = #[] := fun f => by simp
              simp [Instr.buildSlice, run_under (under_elem he), run_sizeOf hs, Instr.fill, newRow]
              rw [hmt, hmt]
            | cons => exact hp.elim
          · simp only [Instr.buildSlice, Sem.run_bind, run_under (under_elem he), Result.andThen_ok, run_sizeOf hs, if_neg hbig', if_neg hn, run_zeroValue hzv, Sem.run_pure]
            simp [h1, newRow]
        · have hl2 : (aps.map fun p => p.2.strip).length = len := by simp [hlen]
          have hstrip : ∀ x ∈ (aps.map fun p => p.2.strip), x.cells.length = s := by
            intro x hx
            obtain ⟨p, hp', rfl⟩ := List.mem_map.1 hx
            rw [strip_cells, List.length_map]; exact (hall p hp').1
          suffices key : Rep g (w.alloc (.cells cells' e (0, 0))) (.slice .full (aps.map fun p => p.2.strip)) (.slice (some ⟨w.heap.size, 0, none⟩) (aps.map fun p => p.2.strip).length len) by
            rw [hl2] at key; exact key
          refine Rep.of_block h0 hstrip (alloc_new w _) ⟨fun l hl => absurd (hm.box l _ hl) (Nat.lt_irrefl _), fun id hid => absurd (hm.row id _ hid) (Nat.lt_irrefl _)⟩ ?_ (fun j c v hj hv => (h2.2 j c v hj hv).step hm hst) h3 (by rw [hl2]; exact Nat.le_refl _) (by rw [hl2]; rfl)
          rw [h2.1, flatC_length hstrip]; exact Nat.le_refl _
      · cases h
    · cases h
  · cases h

theorem alloc_ok {t : TypeId} {cs : List AV} (h : zeroT P t = some cs) (hf : Fresh g m (m.push (.cells cs))) (hm : MemOk g m w) :
    ∃ v w', (Instr.alloc t true (.tuple #[])).run P w = .ok v w' ∧ ∃ g', Step g m g' (m.push (.cells cs)) w w' ∧ MemOk g' (m.push (.cells cs)) w' ∧ Rep g' w' (.ptr m.boxes.length 0) v := by
  obtain ⟨zv, hzv, hr, ho⟩ := zero_ok h
  have hst := step_newBox (.cells zv.cells t (0, 0)) (.cells cs) hf hm
  refine ⟨.pointer (some ⟨w.heap.size, 0, none⟩), w.alloc (.cells zv.cells t (0, 0)), ?_, _, hst, mem_newBox _ _ hf hm ⟨_, t, alloc_new w _, hr _ _, ho⟩, .ptr _ _ _ (by simp [Gh.newBox])⟩
  simp [Instr.alloc, run_zeroValue hzv, newVar, newRow]
theorem box_ok {t : TypeId} {a : AV} {v : Value} (hn : notTuple a = true) (hf : Fresh g m (m.push (.cells a.cells))) (hm : MemOk g m w) (ha : Rep g w a v) :
    ∃ v' w', (Instr.box t v).run P w = .ok v' w' ∧ ∃ g', Step g m g' (m.push (.cells a.cells)) w w' ∧ MemOk g' (m.push (.cells a.cells)) w' ∧ Rep g' w' (.ptr m.boxes.length 0) v' := by
  obtain ⟨hr, ho⟩ := ha.cells (notTuple_ne hn)
  have hst := step_newBox (.cells v.cells t (0, 0)) (.cells a.cells) hf hm
  refine ⟨.pointer (some ⟨w.heap.size, 0, none⟩), w.alloc (.cells v.cells t (0, 0)), ?_, _, hst, mem_newBox _ _ hf hm ⟨_, t, alloc_new w _, hr.step hm hst, ho⟩, .ptr _ _ _ (by simp [Gh.newBox])⟩
  simp [Instr.box, newVar, newRow]

theorem amm_ok {b : Bool} {x y d : AV} {vx vy : Value} (h : amm b x y = some d) (hx : Rep g w x vx) (hy : Rep g w y vy) : ∃ v, (if b then Builtin.max2 vx vy else Builtin.min2 vx vy).run P w = .ok v w ∧ Rep g w d v := by
  unfold amm at h
  split at h
  · obtain rfl := hx.atom_inv
    obtain rfl := hy.atom_inv
    split at h
    · rename_i hk
      subst hk
      injection h with h; subst h
      cases b
      · exact ⟨_, by simp [Builtin.min2], .atom _ rfl⟩
      · exact ⟨_, by simp [Builtin.max2], .atom _ rfl⟩
    · cases h
  · cases h
theorem aminmax_ok {b : Bool} {as : List AV} {d : AV} {vs : Array Value} (ts : Array TypeId) (ty : TypeId) (h : aminmax b as = some d) (hr : Reps g w as vs) : ∃ v, (if b then Builtin.max_ ts ty vs else Builtin.min_ ts ty vs).run P w = .ok v w ∧ Rep g w d v := by
  obtain ⟨vs⟩ := vs
  have key : ∀ (as : List AV) (vs : List Value) (x : AV) (vx : Value), as.length = vs.length → (∀ (j : Nat) (a : AV) (v : Value), as[j]? = some a → vs[j]? = some v → Rep g w a v) → Rep g w x vx → ∀ d, as.foldlM (amm b) x = some d →
      ∃ v, (vs.foldlM (fun x y => if b then Builtin.max2 x y else Builtin.min2 x y) vx).run P w = .ok v w ∧ Rep g w d v := by
    intro as
    induction as with
    | nil =>
      intro vs x vx hl _ hx d hd
      have : vs = [] := List.eq_nil_of_length_eq_zero hl.symm
      subst this
      simp at hd; subst hd
      exact ⟨vx, by simp, hx⟩
    | cons a as ih =>
      intro vs x vx hl hr hx d hd
      cases vs with
      | nil => simp at hl
      | cons v vs =>
        rw [List.foldlM_cons] at hd
        cases h1 : amm b x a with
        | none => rw [h1] at hd; cases hd
        | some x' =>
          rw [h1] at hd
          obtain ⟨v', h2, h3⟩ := amm_ok (P := P) h1 hx (hr 0 a v rfl rfl)
          obtain ⟨v'', h4, h5⟩ := ih vs x' v' (by simpa using hl) (fun j a v ha hv => hr (j + 1) a v (by simpa using ha) (by simpa using hv)) h3 d hd
          refine ⟨v'', ?_, h5⟩
          rw [List.foldlM_cons]
          simp only [Sem.run_bind, h2, Result.andThen_ok, h4]
  cases as with
  | nil => cases h
  | cons a as =>
    have hl := hr.1
    cases vs with
    | nil => simp at hl
    | cons v vs =>
      obtain ⟨v', h1, h2⟩ := key as vs a v (by simpa using hl.symm) (fun j a v ha hv => hr.2 (j + 1) a v (by simpa using ha) (by simpa using hv)) (hr.2 0 a v rfl rfl) d h
      refine ⟨v', ?_, h2⟩
      cases b
      · simpa [Builtin.min_] using h1
      · simpa [Builtin.max_] using h1
end
end Go.Proofs.Ytakmilmckdllfaa.G
