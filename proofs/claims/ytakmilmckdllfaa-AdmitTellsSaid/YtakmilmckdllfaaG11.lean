/-
A function's contract out of its body.
-/
import Derived.Test.YtakmilmckdllfaaG10
set_option linter.unusedVariables false
set_option linter.unusedSimpArgs false
namespace Go.Proofs.Ytakmilmckdllfaa.G

/-- Worlds that part in blocks alone that are no cells. -/
structure Turn (w w' : World) : Prop where
  os : w'.os = w.os
  tape : w'.tape = w.tape
  output : w'.output = w.output
  size : w'.heap.size = w.heap.size
  cells : ∀ (b : Nat) (c : Array Value) (t : TypeId) (f : Nat × Nat), w.heap[b]? = some (.cells c t f) → w'.heap[b]? = some (.cells c t f)

section
variable {g : Gh} {m : Mem} {w w' : World} {P : Program}

theorem Turn.cell (h : Turn w w') {b o : Nat} {v : Value} (hc : w.cell? ⟨b, o, none⟩ = some v) : w'.cell? ⟨b, o, none⟩ = some v := by
  unfold World.cell? at hc ⊢
  dsimp only at hc ⊢
  split at hc
  · rename_i c t f hb
    rw [h.cells b c t f hb]; exact hc
  · cases hc
theorem Turn.own (h : Turn w w') {own : Own} {b o len cap sz : Nat} (ho : OwnOk g w own b o len cap sz) : OwnOk g w' own b o len cap sz := by
  cases own with
  | foreign => trivial
  | full => exact ho
  | row id =>
    refine ⟨ho.1, fun b' hb' => ?_⟩
    obtain ⟨h1, h2, arr, t, h3, h4⟩ := ho.2 b' hb'
    exact ⟨h1, h2, arr, t, h.cells _ _ _ _ h3, h4⟩
theorem Rep.turn {a : AV} {v : Value} (hr : Rep g w a v) (h : Turn w w') : Rep g w' a v := by
  induction hr with
  | atom v hv => exact .atom v hv
  | ptr l off b hb => exact .ptr l off b hb
  | yield l b hb => exact .yield l b hb
  | map l b hb => exact .map l b hb
  | vptr id off a hs hn ha => exact .vptr id off a hs hn ha
  | vec id off len sz k a cap hs hz hcap hf hn ha => exact .vec id off len sz k a cap hs hz hcap hf hn (fun b hb => let ⟨e, arr, t, h1, h2⟩ := ha b hb; ⟨e, arr, t, h.cells _ _ _ _ h1, h2⟩)
  | eptr e off b o vals hi hc hr ho hn ih => exact .eptr e off b o vals hi (fun j hj => h.cell (hc j hj)) ih ho hn
  | func f first cap fs vs hlf hrf hl hr ihf ih => exact .func f first cap fs vs hlf ihf hl ih
  | iface t x v hx ih => exact .iface t x v ih
  | agg cs vs hl ho hr ih => exact .agg cs vs hl ho ih
  | tuple cs vs hl hr ih => exact .tuple cs vs hl ih
  | nil own a cap hown hf => exact .nil own a cap hown hf
  | slice own es b o cap sz vals hz hs hi hc hr ho hcap hown ih => exact .slice own es b o cap sz vals hz hs hi (fun j hj => h.cell (hc j hj)) ih ho hcap (h.own hown)
theorem Reps.turn {as : List AV} {vs : Array Value} (hr : Reps g w as vs) (h : Turn w w') : Reps g w' as vs := ⟨hr.1, fun j a v ha hv => (hr.2 j a v ha hv).turn h⟩
theorem BoxOk.turn {b : Nat} {c : ABox} (hb : BoxOk g w b c) (h : Turn w w') (he : w'.heap[b]? = w.heap[b]?) : BoxOk g w' b c := by
  cases c with
  | cells cs =>
    obtain ⟨vs, t, h1, h2, h3⟩ := hb
    exact ⟨vs, t, he.trans h1, h2.turn h, h3⟩
  | loop st pending tmps params assign body =>
    obtain ⟨vs, d, fn, h1, h2⟩ := hb
    exact ⟨vs, d, fn, he.trans h1, h2.turn h⟩
  | map es clock =>
    obtain ⟨vs, h1, h2, h3⟩ := hb
    exact ⟨vs, he.trans h1, h2, fun j k a n e hj hv => let ⟨x, y, z⟩ := h3 j k a n e hj hv; ⟨x, y, z.turn h⟩⟩
theorem RowOk.turn {b : Nat} {cs : List AV} (hr : RowOk g w b cs) (h : Turn w w') : RowOk g w' b cs :=
  let ⟨arr, t, h1, h2, h3⟩ := hr; ⟨arr, t, h.cells _ _ _ _ h1, h2, fun j c hj => ⟨(h3 j c hj).1, fun v hv => ((h3 j c hj).2 v hv).turn h⟩⟩
theorem MemOk.turn (hm : MemOk g m w) (h : Turn w w') (he : ∀ l b, g.box l = some b → w'.heap[b]? = w.heap[b]?) : MemOk g m w' where
  box := fun l b hb => by rw [h.size]; exact hm.box l b hb
  row := fun l b hb => by rw [h.size]; exact hm.row l b hb
  boxOk := fun l b c hb hc => (hm.boxOk l b c hb hc).turn h (he l b hb)
  rowCells := fun l b hb => let ⟨arr, t, h1⟩ := hm.rowCells l b hb; ⟨arr, t, h.cells _ _ _ _ h1⟩
  rowLive := hm.rowLive
  rowOk := fun id b n cs hb hc => (hm.rowOk id b n cs hb hc).turn h
  boxInj := hm.boxInj
  rowInj := hm.rowInj
  apart := hm.apart
theorem Step.turn {g' : Gh} {m' : Mem} {w1 w2 : World} (hs : Step g m g' m' w w1) (hm : MemOk g m w) (h : Turn w1 w2) (he : ∀ b, b < w.heap.size → w2.heap[b]? = w1.heap[b]?) : Step g m g' m' w w2 :=
  { hs with
    os := h.os.trans hs.os
    tape := h.tape.trans hs.tape
    output := h.output.trans hs.output
    size := by rw [h.size]; exact hs.size
    same := fun b hb h1 h2 => (he b hb).trans (hs.same b hb h1 h2)
    sameRow := fun id b hid hb arr t ha => let ⟨arr', h1, h2, h3⟩ := hs.sameRow id b hid hb arr t ha; ⟨arr', (he b (hm.row id b hb)).trans h1, h2, h3⟩ }

/-- A frame that leaves with marks. -/
theorem leaves_marks {fn : Func} {tmps : Array Value} {R : Ending → World → Prop} {B : Nat} : ∀ {ds : List Deferred} {w : World}, Marks g w B ds →
    (∀ w', Turn w w' → (∀ b, (∀ d ∈ ds, d.target ≠ .collected b) → w'.heap[b]? = w.heap[b]?) → ∃ v, (results fn tmps).run P w' = .ok v w' ∧ R (.returned v) w') →
    LeavesInM Fence.wide 0 P fn tmps R ds .returning w := by
  intro ds
  induction ds with
  | nil =>
    intro w hk h
    exact h w ⟨rfl, rfl, rfl, rfl, fun _ _ _ _ h => h⟩ (fun _ _ => rfl)
  | cons d ds ih =>
    intro w hk h
    obtain ⟨hp, hk⟩ := hk
    obtain ⟨r, hd, hB, hr, h1, h2⟩ := hk d (List.mem_cons_self ..)
    have hpc := List.pairwise_cons.1 hp
    have hne : ∀ d' ∈ ds, ∀ r', d' = { target := .collected r', args := #[] } → r' ≠ r := by
      rintro d' hd' r' rfl rfl
      exact hpc.1 _ hd' (by rw [hd])
    refine ⟨by simp, .inl ⟨r, w.putObj r (.deferred none), by rw [hd], run_takeDeferred hr, ?_⟩⟩
    have hlt : r < w.heap.size := (Array.getElem?_eq_some_iff.1 hr).1
    have hput : ∀ b, b ≠ r → (w.putObj r (.deferred none)).heap[b]? = w.heap[b]? := fun b hb => wput_other w r b _ hb
    have ht : Turn w (w.putObj r (.deferred none)) := ⟨rfl, rfl, rfl, wput_size w r _, fun b c t f hb => by
      rw [hput b (by rintro rfl; rw [hr] at hb; cases hb)]; exact hb⟩
    refine ih (w := w.putObj r (.deferred none)) ⟨hpc.2, fun d' hd' => ?_⟩ (fun w' hw' he' => ?_)
    · obtain ⟨r', h3, h4, h5, h6⟩ := hk d' (List.mem_cons_of_mem _ hd')
      exact ⟨r', h3, h4, by rw [hput r' (hne d' hd' r' h3)]; exact h5, h6⟩
    · refine h w' ⟨hw'.os.trans ht.os, hw'.tape.trans ht.tape, hw'.output.trans ht.output, hw'.size.trans ht.size, fun b c t f hb => hw'.cells b c t f (ht.cells b c t f hb)⟩ (fun b hb => ?_)
      rw [he' b (fun d' hd' => hb d' (List.mem_cons_of_mem _ hd')), hput b ?_]
      rintro rfl
      exact hb d (List.mem_cons_self ..) (by rw [hd])

/-- A function's results. -/
def aresult (P : Program) (env : List AV) (m : Mem) : ResultVar → Option AV
  | .tmp t => env[t]?
  | .cell a t => (env[a]?).bind fun p => match p with
    | .ptr l o => aload P m t (.ptr l o)
    | _ => none
def aresults (P : Program) (fn : Func) (env : List AV) (m : Mem) : Option AV :=
  (fn.results.toList.mapM (aresult P env m)).map fun vs => match vs with
    | [v] => v
    | vs => .tuple vs

def resultSem (tmps : Array Value) : ResultVar → Sem Value
  | .tmp t => pure (tmps.getD t Go.undef)
  | .cell a t => do loadVar t (← asAddr (tmps.getD a Go.undef))
theorem results_eq (fn : Func) (tmps : Array Value) : results fn tmps = (do let vs ← fn.results.mapM (resultSem tmps); pure (if h : vs.size = 1 then vs[0] else .tuple vs)) := by
  unfold results
  congr 1

theorem aresult_ok {env : List AV} {tmps : Array Value} {r : ResultVar} {d : AV} (h : aresult P env m r = some d) (hm : MemOk g m w) (he : Reps g w env tmps) :
    ∃ v, (resultSem tmps r).run P w = .ok v w ∧ Rep g w d v := by
  have hget : ∀ (t : Nat) (x : AV), env[t]? = some x → Rep g w x (tmps.getD t Go.undef) := by
    intro t x hx
    have hlt : t < env.length := (List.getElem?_eq_some_iff.1 hx).1
    have hlt2 : t < tmps.size := by rw [he.1]; exact hlt
    rw [Array.getD_eq_getD_getElem?, Array.getElem?_eq_getElem hlt2, Option.getD_some]
    exact he.2 t x _ hx (Array.getElem?_eq_getElem hlt2)
  cases r with
  | tmp t => exact ⟨_, rfl, hget t d h⟩
  | cell a t =>
    simp only [aresult] at h
    obtain ⟨p, hp, h⟩ := bind_some' h
    split at h
    · rename_i l o
      obtain ⟨b, hb, e⟩ := (hget a _ hp).ptr_inv
      obtain ⟨v, h1, h2⟩ := aload_ok h hm (hget a _ hp)
      refine ⟨v, ?_, h2⟩
      rw [e] at h1
      simp only [resultSem, e]
      simpa [Instr.loadAt, Instr.sureAddr, asAddr] using h1
    · cases h

theorem mapM_results {env : List AV} {tmps : Array Value} (hm : MemOk g m w) (he : Reps g w env tmps) : ∀ {rs : List ResultVar} {ds : List AV}, rs.mapM (aresult P env m) = some ds →
    ∃ vs : List Value, (rs.mapM (resultSem tmps)).run P w = .ok vs w ∧ vs.length = ds.length ∧ ∀ (j : Nat) (a : AV) (v : Value), ds[j]? = some a → vs[j]? = some v → Rep g w a v := by
  intro rs
  induction rs with
  | nil => intro ds h; simp at h; subst h; exact ⟨[], by simp, rfl, fun j a v h => by simp at h⟩
  | cons r rs ih =>
    intro ds h
    rw [List.mapM_cons] at h
    cases hr : aresult P env m r with
    | none => rw [hr] at h; cases h
    | some d =>
      cases hrs : rs.mapM (aresult P env m) with
      | none => rw [hr, hrs] at h; cases h
      | some ds' =>
        rw [hr, hrs] at h
        injection h with h; subst h
        obtain ⟨v, h1, h2⟩ := aresult_ok hr hm he
        obtain ⟨vs, h3, h4, h5⟩ := ih hrs
        refine ⟨v :: vs, ?_, by simp [h4], fun j a u ha hu => ?_⟩
        · rw [List.mapM_cons]
          simp only [Sem.run_bind]
          rw [h1]
          simp only [Result.andThen_ok]
          rw [h3]
          rfl
        · cases j with
          | zero => simp at ha hu; subst ha hu; exact h2
          | succ j => simp at ha hu; exact h5 j a u ha hu

theorem aresults_ok {fn : Func} {env : List AV} {tmps : Array Value} {d : AV} (h : aresults P fn env m = some d) (hm : MemOk g m w) (he : Reps g w env tmps) : ∃ v, (results fn tmps).run P w = .ok v w ∧ Rep g w d v := by
  unfold aresults at h
  cases hr : fn.results.toList.mapM (aresult P env m) with
  | none => rw [hr] at h; cases h
  | some ds =>
    rw [hr] at h
    simp only [Option.map_some, Option.some.injEq] at h
    obtain ⟨vs, h1, h2, h3⟩ := mapM_results hm he hr
    have hrun : ∀ d', (results fn tmps).run P w = .ok d' w ↔ (if h : vs.toArray.size = 1 then vs.toArray[0] else .tuple vs.toArray) = d' := by
      intro d'
      rw [results_eq, Array.mapM_eq_mapM_toList]
      simp only [Sem.run_bind, Sem.run_map]
      rw [h1]
      simp
    cases ds with
    | nil =>
      have : vs = [] := List.eq_nil_of_length_eq_zero h2
      subst this
      subst h
      exact ⟨.tuple #[], (hrun _).2 (by simp), .tuple _ _ rfl (fun j c v h => by simp at h)⟩
    | cons a ds =>
      cases ds with
      | nil =>
        obtain ⟨v, rfl⟩ := List.length_eq_one_iff.1 h2
        subst h
        exact ⟨v, (hrun v).2 (by simp), h3 0 a v rfl rfl⟩
      | cons b ds =>
        subst h
        refine ⟨.tuple vs.toArray, (hrun _).2 ?_, .tuple _ _ (by simpa using h2) (fun j c v hc hv => h3 j c v hc (by simpa using hv))⟩
        have : ¬ vs.length = 1 := by rw [h2]; simp
        simp [this]

theorem stripR1_rep {a : AV} {v : Value} (h : Rep g w a v) : Rep g w a.stripR1 v := by
  cases a with
  | agg cs => exact strip_rep h
  | _ => exact h
theorem stripR_rep {a : AV} {v : Value} (h : Rep g w a v) : Rep g w a.stripR v := by
  cases a with
  | agg cs => exact strip_rep h
  | tuple vs =>
    generalize hx : AV.tuple vs = x at h
    cases h <;> cases hx
    rename_i us hl hr
    refine .tuple _ _ (by simp [hl]) (fun j c v hc hv => ?_)
    rw [List.getElem?_map] at hc
    cases hy : vs[j]? with
    | none => rw [hy] at hc; cases hc
    | some y => rw [hy] at hc; injection hc with hc; subst hc; exact stripR1_rep (hr j y v hy hv)
  | _ => exact h

/-- **A function's contract out of its body.** -/
theorem ACalls.of_body {f : FuncId} {fn : Func} {c : Code} {args env' : List AV} {m' : Mem} {e : Exit} {r : AV} (hf : P.funcs[f]? = some fn) (hb : fn.body = some c) (hname : (fn.name == "runtime.NumGoroutine") = false)
    (h : AExec P none c (args ++ List.replicate (fn.ntmps - args.length) .undef) m e env' m') (he : e = .ret ∨ e = .normal) (hr : aresults P fn env' m' = some r) : ACalls P f args m r.stripR m' := by
  refine ⟨⟨fn, hf, hname, by rw [hb]; rfl⟩, h.1, fun g w vs hfr hm ha => ?_⟩
  refine callsIn_of_wp_marks hf hb trivial ?_
  have hreps : Reps g w (args ++ List.replicate (fn.ntmps - args.length) .undef) (vs ++ Array.replicate (fn.ntmps - vs.size) Go.undef) := by
    refine append_args (cs := []) (ws := #[]) ha ⟨by simp [ha.1], fun j a v hja hjv => ?_⟩
    rw [List.getElem?_replicate] at hja
    rw [Array.getElem?_replicate] at hjv
    split at hja
    · split at hjv
      · injection hja with hja; injection hjv with hjv; subst hja hjv
        exact .tuple [] #[] rfl (fun j c v h => by simp at h)
      · cases hjv
    · cases hja
  have := h.2 none g w { tmps := vs ++ Array.replicate (fn.ntmps - vs.size) Go.undef, defers := [] } .none hfr hm hreps
  refine wpIn_mono this ?_
  rintro e1 a1 w1 ⟨rfl, g1, ds, hd, hk, hs, hm1, he1⟩
  have hds : a1.defers = ds := by simpa using hd
  have key : LeavesInM Fence.wide 0 P fn a1.tmps (fun e w' => ∃ v g', e = Ending.returned v ∧ Step g m g' m' w w' ∧ MemOk g' m' w' ∧ Rep g' w' r.stripR v) a1.defers .returning w1 := by
    rw [hds]
    refine leaves_marks hk (fun w2 ht hsame => ?_)
    have hnm : ∀ b, (∀ d ∈ ds, ∀ r, d = { target := .collected r, args := #[] } → r ≠ b) → w2.heap[b]? = w1.heap[b]? := by
      intro b hb'
      refine hsame b (fun d hd' e => ?_)
      obtain ⟨r, h1, _⟩ := hk.2 d hd'
      rw [h1] at e
      injection e with e
      exact hb' d hd' r h1 e
    have hm2 : MemOk g1 m' w2 := hm1.turn ht (fun l b hlb => hnm b (fun d hd' r h1 e => by
      obtain ⟨r', h2, _, _, h3, _⟩ := hk.2 d hd'
      rw [h1] at h2
      injection h2 with h2; injection h2 with h2
      subst e; subst h2
      exact h3 l hlb))
    obtain ⟨v, h1, h2⟩ := aresults_ok hr hm2 (he1.turn ht)
    refine ⟨v, h1, v, g1, rfl, hs.turn hm ht (fun b hb' => hnm b (fun d hd' r h3 e => ?_)), hm2, stripR_rep h2⟩
    obtain ⟨r', h4, h5, _⟩ := hk.2 d hd'
    rw [h3] at h4
    injection h4 with h4; injection h4 with h4
    omega
  rcases he with rfl | rfl
  · exact key
  · exact key
end
end Go.Proofs.Ytakmilmckdllfaa.G
