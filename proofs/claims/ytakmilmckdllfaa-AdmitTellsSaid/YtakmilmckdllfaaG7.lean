/-
Appends.
-/
import Derived.Test.YtakmilmckdllfaaG6
set_option linter.unusedVariables false
set_option linter.unusedSimpArgs false
namespace Go.Proofs.Ytakmilmckdllfaa.G

theorem flatC_length {es : List AV} {s : Nat} (h : ∀ e ∈ es, e.cells.length = s) : (flatC es).length = es.length * s := by
  induction es with
  | nil => simp [flatC]
  | cons e es ih =>
    have h1 := ih (fun x hx => h x (List.mem_cons_of_mem _ hx))
    have h2 := h e (List.mem_cons_self ..)
    simp only [flatC, List.flatMap_cons, List.length_append, List.length_cons] at *
    rw [h1, h2, Nat.succ_mul]; omega
theorem flatC_get {es : List AV} {s : Nat} (hs : ∀ e ∈ es, e.cells.length = s) {i j : Nat} {e : AV} (hi : es[i]? = some e) (hj : j < s) : (flatC es)[i * s + j]? = e.cells[j]? := by
  induction es generalizing i with
  | nil => simp at hi
  | cons x es ih =>
    have hx := hs x (List.mem_cons_self ..)
    simp only [flatC, List.flatMap_cons]
    cases i with
    | zero => simp at hi; subst hi; rw [List.getElem?_append_left (by omega)]; simp
    | succ i =>
      simp at hi
      rw [List.getElem?_append_right (by rw [hx, Nat.succ_mul]; omega), hx]
      have : (i + 1) * s + j - s = i * s + j := by rw [Nat.succ_mul]; omega
      rw [this]
      exact ih (fun y hy => hs y (List.mem_cons_of_mem _ hy)) hi
theorem flatC_append (a b : List AV) : flatC (a ++ b) = flatC a ++ flatC b := by simp [flatC]

section
variable {g : Gh} {m : Mem} {w : World} {P : Program}

/-- What a slice's cells read as. -/
theorem Rep.slice_cells {own : Own} {es : List AV} {v : Value} (h : Rep g w (.slice own es) v) {s : Nat} (hs : ∀ e ∈ es, e.cells.length = s) : ∃ (a : Option Addr) (cap : Nat) (vals : Array Value), v = .slice a es.length cap ∧
    (Builtin.firstCells s es.length v).run P w = .ok vals w ∧ Reps g w (flatC es) vals ∧ ∀ c ∈ flatC es, c.one = true := by
  rcases h.slice_inv with ⟨rfl, a0, cap0, rfl, _⟩ | ⟨b, o, cap, sz, rfl, hz, hsz, hi, hc, hcap, _⟩
  · exact ⟨a0, cap0, #[], rfl, by cases a0 <;> simp [Builtin.firstCells, loadCells, loadCellsFrom], ⟨rfl, fun j a v h => by simp [flatC] at h⟩, by simp [flatC]⟩
  · by_cases hne : es = []
    · subst hne
      exact ⟨_, cap, #[], rfl, by simp [Builtin.firstCells, loadCells, loadCellsFrom], ⟨rfl, fun j a v h => by simp [flatC] at h⟩, by simp [flatC]⟩
    · have hss : sz = s := by
        obtain ⟨e0, h0⟩ := List.exists_mem_of_ne_nil es hne
        rw [← hsz e0 h0, hs e0 h0]
      subst hss
      have hone : ∀ c ∈ flatC es, c.one = true := by
        intro c hc'
        simp only [flatC, List.mem_flatMap] at hc'
        obtain ⟨e, he, hce⟩ := hc'
        obtain ⟨i, hi', hie⟩ := List.getElem_of_mem he
        exact (hc i e (by rw [← hie]; exact List.getElem?_eq_getElem hi')).1 c hce
      have key : ∀ k c, (flatC es)[k]? = some c → ∃ v, w.cell? ⟨b, o + k, none⟩ = some v ∧ Rep g w c v := by
        intro k c hk
        have hkl : k < es.length * sz := by rw [← flatC_length hs]; exact (List.getElem?_eq_some_iff.1 hk).1
        have h1 : k / sz < es.length := (Nat.div_lt_iff_lt_mul hz).2 hkl
        have h2 : k % sz < sz := Nat.mod_lt _ hz
        have h3 := flatC_get hs (List.getElem?_eq_getElem h1) h2
        have h4 : k / sz * sz + k % sz = k := by rw [Nat.mul_comm]; exact Nat.div_add_mod k sz
        rw [h4, hk] at h3
        obtain ⟨v, h5, h6⟩ := (hc _ _ (List.getElem?_eq_getElem h1)).2 _ c h3.symm
        rw [Nat.add_assoc, h4] at h5
        exact ⟨v, h5, h6⟩
      let vals : Nat → Value := fun j => (w.cell? ⟨b, o + j, none⟩).getD undef
      have hv : ∀ k c, (flatC es)[k]? = some c → w.cell? ⟨b, o + k, none⟩ = some (vals k) ∧ Rep g w c (vals k) := by
        intro k c hk
        obtain ⟨v, h5, h6⟩ := key k c hk
        simp only [vals, h5, Option.getD_some]
        exact ⟨trivial, h6⟩
      refine ⟨_, cap, ((List.range (es.length * sz)).map vals).toArray, rfl, ?_, ⟨by simp [flatC_length hs], fun j a v ha hv' => ?_⟩, hone⟩
      · refine (run_loadCells vals (fun j hj => ?_))
        exact (hv j _ (List.getElem?_eq_getElem (by rw [flatC_length hs]; exact hj))).1
      · have hj : j < es.length * sz := by rw [← flatC_length hs]; exact (List.getElem?_eq_some_iff.1 ha).1
        simp [List.getElem?_range hj] at hv'
        subst hv'
        exact (hv j a ha).2

theorem one_arr {cs : List AV} {vs : Array Value} (hr : Reps g w cs vs) (ho : ∀ c ∈ cs, c.one = true) : ∀ x ∈ vs.toList, x.oneCell' = true := by
  intro x hx
  obtain ⟨j, hj, he⟩ := List.getElem_of_mem hx
  have hj' : j < vs.size := by simpa using hj
  have h8 : vs[j]? = some x := by rw [Array.getElem?_eq_getElem hj']; simpa using he
  obtain ⟨c, hc⟩ : ∃ c, cs[j]? = some c := ⟨_, List.getElem?_eq_getElem (by rw [← hr.1]; exact hj')⟩
  rw [← (hr.2 j c x hc h8).one_iff]
  exact ho c (List.mem_of_getElem? hc)

/-- A slice in a block whose first cells are known. -/
theorem Rep.of_block {own : Own} {es : List AV} {b cap s : Nat} {arr : Array Value} {t : TypeId} (hz : 0 < s) (hs : ∀ e ∈ es, e.cells.length = s) (ha : w.heap[b]? = some (.cells arr t (0, 0))) (hi : Imm g b (es.length * s))
    (hl : es.length * s ≤ arr.size) (hr : ∀ (j : Nat) (c : AV) (v : Value), (flatC es)[j]? = some c → arr[j]? = some v → Rep g w c v) (ho : ∀ c ∈ flatC es, c.one = true) (hcap : es.length ≤ cap) (hown : OwnOk g w own b 0 es.length cap s) :
    Rep g w (.slice own es) (.slice (some ⟨b, 0, none⟩) es.length cap) := by
  refine Rep.slice_mk hz hs (fun _ => by rw [Nat.zero_add]; exact hi) (fun i e hie => ⟨fun c hc => ?_, fun j c hj => ?_⟩) hcap hown
  · exact ho c (List.mem_flatMap.2 ⟨e, List.mem_of_getElem? hie, hc⟩)
  · have h1 : i < es.length := (List.getElem?_eq_some_iff.1 hie).1
    have h2 : j < s := by rw [← hs e (List.mem_of_getElem? hie)]; exact (List.getElem?_eq_some_iff.1 hj).1
    have h3 := mul_succ_le (s := s) h1
    have hlt : i * s + j < arr.size := by omega
    refine ⟨arr[i * s + j], ?_, hr _ c _ (by rw [flatC_get hs hie h2]; exact hj) (Array.getElem?_eq_getElem hlt)⟩
    unfold World.cell?
    dsimp only
    rw [ha]
    simp [Nat.zero_add, hlt]

theorem zeroCells_size (z : Array Value) (n : Nat) : (Builtin.zeroCells z n).size = n * z.size := by simp [Builtin.zeroCells]

theorem drew_step : Step g m g m w w.drew := Step.plain rfl rfl rfl (Nat.le_refl _) (fun _ _ => rfl)
theorem undrew_step : Step g m g m w.drew w := Step.plain rfl rfl rfl (Nat.le_refl _) (fun _ _ => rfl)
theorem drew_mem (hm : MemOk g m w) : MemOk g m w.drew := hm.plain drew_step (fun _ _ => rfl)

/-- The new row of an append. -/
theorem append_new {own : Own} {es ys : List AV} {vx vy : Value} {t xt e e' : TypeId} {s by_ : Nat} {m1 : Mem} {g1 : Gh} {cap : Nat} {a : Option Addr} (ty : TypeId) (he : elemT P t = some e) (he' : elemT P xt = some e') (hs : sizeT P e = some s) (hb : bytesT P e = some by_)
    (h0 : 0 < s) (hb0 : 0 < by_) (hz : zsizeT P e = some s) (hroom : (es.length + ys.length) * by_ ≤ roomBytes') (hes : ∀ e ∈ es, e.cells.length = s) (hys : ∀ e ∈ ys, e.cells.length = s)
    (hx : Rep g w (.slice own es) vx) (hy : Rep g w (.slice .foreign ys) vy) (hvx : vx = .slice a es.length cap) (hcap : cap < es.length + ys.length)
    (hm : MemOk g m w) (hf : Fresh g m (m1.pushRow ((es.length + ys.length) * s))) (hst : Step g m g1 m1 w w) (hm1 : MemOk g1 m1 w) (hone : m.rows.length = m1.rows.length) :
    ∃ v w', (Builtin.append_ #[t, xt] ty #[vx, vy]).run P w = .ok v w' ∧ ∃ g', Step g m g' (m1.pushRow ((es.length + ys.length) * s)) w w' ∧ MemOk g' (m1.pushRow ((es.length + ys.length) * s)) w' ∧ Rep g' w' (.slice (.row m.rows.length) (es ++ ys)) v := by
  obtain ⟨a1, c1, xs, e1, hx1, hx2, hx3⟩ := (hx.step hm drew_step).slice_cells (P := P) hes
  obtain ⟨a2, c2, yv, e2, hy1, hy2, hy3⟩ := (hy.step hm drew_step).slice_cells (P := P) hys
  obtain ⟨inf, hi1, hi2⟩ := run_bytesOf hb
  obtain ⟨zv, hzv, hzs⟩ : ∃ zv, (P.info? e).bind (·.zero) = some zv ∧ zv.cells.size = s := by
    unfold zsizeT at hz
    cases h : (P.info? e).bind (·.zero) with
    | none => rw [h] at hz; cases hz
    | some zv => rw [h] at hz; injection hz with hz; exact ⟨zv, rfl, hz⟩
  have hneed : ¬ (es.length + ys.length ≤ cap) := by omega
  have hgrow : ¬ (2 ^ 48 < Builtin.nextslicecap (es.length + ys.length) cap * inf.bytes) := by
    have := growslice_fits (need := es.length + ys.length) (old := cap) (bytes := inf.bytes) hcap (by rw [hi2]; exact hroom)
    omega
  have hib : inf.bytes ≠ 0 := by omega
  subst hvx
  subst e2
  obtain ⟨nc, hnc1, hnc2⟩ : ∃ nc, nc = (Question.appendCap (es.length + ys.length) cap e).cut (w.tape w.drawn (.appendCap (es.length + ys.length) cap e)) ∧ es.length + ys.length ≤ nc := ⟨_, rfl, by simp [Question.cut]⟩
  have hrun : (Builtin.append_ #[t, xt] ty #[.slice a es.length cap, .slice a2 ys.length c2]).run P w =
      .ok (.slice (some ⟨w.heap.size, 0, none⟩) (es.length + ys.length) nc) (w.drew.alloc (.cells (xs ++ yv ++ Builtin.zeroCells zv.cells (nc - (es.length + ys.length))) e (0, 0))) := by
    simp [-run_choose, Builtin.append_, Builtin.lenOf, run_under (under_elem he), run_under (under_elem he'), run_sizeOf hs, hi1, hneed, hgrow, hib, hx1, hy1, run_zeroValue hzv, newRow, Question.forced, ← hnc1]
  have hst2 : Step g m g1 m1 w w.drew := hst.trans drew_step hm
  have hm2 : MemOk g1 m1 w.drew := drew_mem hm1
  have hf2 : Fresh g1 m1 (m1.pushRow ((es.length + ys.length) * s)) := hf.right hst
  have hst3 := step_newRow (.cells (xs ++ yv ++ Builtin.zeroCells zv.cells (nc - (es.length + ys.length))) e (0, 0)) ((es.length + ys.length) * s) [] hf2 hm2
  have hm3 := mem_newRow (xs ++ yv ++ Builtin.zeroCells zv.cells (nc - (es.length + ys.length))) e ((es.length + ys.length) * s) [] hf2 hm2 (by simp) (fun j c hj => by simp at hj)
  have hst4 := hst2.trans hst3 hm
  have hxl : xs.size = es.length * s := by rw [hx2.1, flatC_length hes]
  have hyl : yv.size = ys.length * s := by rw [hy2.1, flatC_length hys]
  refine ⟨_, _, hrun, _, hst4, hm3, ?_⟩
  have hsz : (es ++ ys).length = es.length + ys.length := by simp
  rw [hone]
  suffices key : Rep (g1.newRow m1.rows.length w.drew.heap.size ((es.length + ys.length) * s)) (w.drew.alloc (.cells (xs ++ yv ++ Builtin.zeroCells zv.cells (nc - (es.length + ys.length))) e (0, 0))) (.slice (.row m1.rows.length) (es ++ ys)) (.slice (some ⟨w.heap.size, 0, none⟩) (es ++ ys).length nc) by
    rw [hsz] at key; exact key
  refine Rep.of_block h0 (fun x hx => ?_) (alloc_new _ _) ⟨fun l hl => ?_, fun id hid => ?_⟩ ?_ (fun j c v hj hv => ?_) (fun c hc => ?_) (by rw [hsz]; exact hnc2) ⟨by simp [Gh.newRow], fun b' hb' => ?_⟩
  · rcases List.mem_append.1 hx with h | h
    · exact hes x h
    · exact hys x h
  · exact absurd (hm1.box l _ hl) (Nat.lt_irrefl _)
  · have e1 : id = m1.rows.length := by
      simp only [Gh.newRow] at hid
      split at hid
      · assumption
      · exact absurd (hm1.row id _ hid) (Nat.lt_irrefl _)
    subst e1
    simp [Gh.newRow]
  · simp only [Array.size_append, hxl, hyl, hsz, Nat.add_mul]; omega
  · rw [flatC_append] at hj
    have hfl := flatC_length hes
    have hfy := flatC_length hys
    by_cases hlt : j < es.length * s
    · rw [List.getElem?_append_left (by omega)] at hj
      rw [Array.append_assoc, Array.getElem?_append_left (by omega)] at hv
      exact ((hx2.2 j c v hj hv).step (drew_mem hm) undrew_step).step hm hst4
    · rw [List.getElem?_append_right (by omega)] at hj
      have hjl := (List.getElem?_eq_some_iff.1 hj).1
      rw [Array.append_assoc, Array.getElem?_append_right (by omega), Array.getElem?_append_left (by omega)] at hv
      refine ((hy2.2 _ c v hj ?_).step (drew_mem hm) undrew_step).step hm hst4
      rw [← hv, hxl, hfl]
  · rw [flatC_append] at hc
    rcases List.mem_append.1 hc with h | h
    · exact hx3 c h
    · exact hy3 c h
  · have : b' = w.heap.size := by simpa [Gh.newRow] using hb'.symm
    subst this
    refine ⟨rfl, rfl, _, e, alloc_new _ _, ?_⟩
    simp only [Array.size_append, hxl, hyl, zeroCells_size, hzs, ← Nat.add_mul]
    congr 1
    omega

theorem run_append_stay {t xt e e' : TypeId} {s : Nat} (ty : TypeId) (he : elemT P t = some e) (he' : elemT P xt = some e') (hs : sizeT P e = some s) (a a2 : Option Addr) (n cap c2 : Nat) (hc : n ≤ cap) :
    (Builtin.append_ #[t, xt] ty #[.slice a n cap, .slice a2 0 c2]).run P w = .ok (.slice a n cap) w := by
  have hfc : (Builtin.firstCells s 0 (.slice a2 0 c2)).run P w = .ok #[] w := by
    cases a2 <;> simp [Builtin.firstCells, loadCells, loadCellsFrom]
  cases a <;> simp [Builtin.append_, Builtin.lenOf, run_under (under_elem he), run_under (under_elem he'), run_sizeOf hs, hc, hfc, storeCells]

theorem aappendS_ok {t xt : TypeId} {x y d : AV} {vx vy : Value} {m' : Mem} (ty : TypeId) (h : aappendS P m t xt x y = some (d, m')) (hf : Fresh g m m') (hm : MemOk g m w) (hx : Rep g w x vx) (hy : Rep g w y vy) :
    ∃ v w', (Builtin.append_ #[t, xt] ty #[vx, vy]).run P w = .ok v w' ∧ ∃ g', Step g m g' m' w w' ∧ MemOk g' m' w' ∧ Rep g' w' d v := by
  unfold aappendS at h
  split at h
  · rename_i own es own2 ys e e' he he'
    split at h
    · rename_i s by_ hs hb
      split at h
      · rename_i hc
        obtain ⟨h0, hb0, hz, hroom, hes, hys⟩ := hc
        split at h
        · rename_i hnil
          injection h with h; injection h with h1 h2; subst h1 h2 hnil
          have hy' : ∃ a2 c2, vy = .slice a2 0 c2 := by
            rcases hy.slice_inv with ⟨_, a0, cap0, rfl, _⟩ | ⟨b, o, cap, sz, rfl, _⟩
            · exact ⟨a0, cap0, rfl⟩
            · exact ⟨_, cap, rfl⟩
          obtain ⟨a2, c2, rfl⟩ := hy'
          have hx' : ∃ a cap, vx = .slice a es.length cap ∧ es.length ≤ cap := by
            rcases hx.slice_inv with ⟨rfl, a0, cap0, rfl, _⟩ | ⟨b, o, cap, sz, rfl, _, _, _, _, hcap, _⟩
            · exact ⟨a0, cap0, rfl, Nat.zero_le _⟩
            · exact ⟨_, cap, rfl, hcap⟩
          obtain ⟨a, cap, rfl, hcap⟩ := hx'
          exact ⟨_, w, run_append_stay ty he he' hs _ _ _ _ _ hcap, g, Step.refl g m w, hm, hx⟩
        · rename_i hne
          have hyl : 0 < ys.length := List.length_pos_iff.2 hne
          split at h
          · cases h
          · injection h with h; injection h with h1 h2; subst h1 h2
            have hx' : ∃ a, vx = .slice a es.length es.length := by
              rcases hx.slice_inv with ⟨rfl, a0, cap0, rfl, hf0, _⟩ | ⟨b, o, cap, sz, rfl, _, _, _, _, _, hown⟩
              · exact ⟨a0, by rw [hf0 rfl]; rfl⟩
              · simp only [OwnOk] at hown; subst hown; exact ⟨_, rfl⟩
            obtain ⟨a, hvx⟩ := hx'
            obtain ⟨v, w', h1, g', h2, h3, h4⟩ := append_new (m1 := m) (g1 := g) ty he he' hs hb h0 hb0 hz hroom hes hys hx hy.forget hvx (by omega) hm hf (Step.refl g m w) hm rfl
            exact ⟨v, w', h1, g', h2, h3, h4⟩
          · rename_i id
            split at h
            · rename_i hlive
              obtain ⟨hlive0, hne2⟩ := hlive
              obtain ⟨ks0, hlive⟩ := hwOf_some hlive0
              injection h with h; injection h with h1 h2; subst h1 h2
              rcases hx.slice_inv with ⟨hnil, _⟩ | ⟨b, o, cap, sz, rfl, hzz, hsz, himm, hcell, hcap, hown⟩
              · exact absurd hnil hne2
              · have hss : sz = s := by
                  obtain ⟨e0, h0'⟩ := List.exists_mem_of_ne_nil es hne2
                  rw [← hsz e0 h0', hes e0 h0']
                subst hss
                obtain ⟨hgne, hown⟩ := hown
                obtain ⟨b', hb', hhw⟩ := hm.rowLive id _ hlive hgne
                obtain ⟨rfl, rfl, arr, t1, ha, hasz⟩ := hown b' hb'
                have hidl : id < m.rows.length := (List.getElem?_eq_some_iff.1 hlive).1
                by_cases hroom2 : es.length + ys.length ≤ cap
                · -- in place
                  obtain ⟨a2, c2, yv, e2, hy1, hy2, hy3⟩ := hy.slice_cells (P := P) hys
                  subst e2
                  have hyvl : yv.size = ys.length * sz := by rw [hy2.1, flatC_length hys]
                  have hfit : es.length * sz + ys.length * sz ≤ arr.size := by rw [hasz, ← Nat.add_mul]; exact Nat.mul_le_mul_right _ hroom2
                  obtain ⟨arr', h8, h9, h10⟩ := run_storeCells (P := P) (b := b') (o := es.length * sz) (t := t1) yv.toList 0 arr w ha (by simp; omega) (one_arr hy2 hy3)
                  simp only [Nat.add_zero, Array.length_toList] at h10
                  have hrun : (Builtin.append_ #[t, xt] ty #[.slice (some ⟨b', 0, none⟩) es.length cap, .slice a2 ys.length c2]).run P w = .ok (.slice (some ⟨b', 0, none⟩) (es.length + ys.length) cap) (wput w b' (.cells arr' t1 (0, 0))) := by
                    simp [Builtin.append_, Builtin.lenOf, run_under (under_elem he), run_under (under_elem he'), run_sizeOf hs, hroom2, hy1, add_plain, h8]
                  have hst := step_grow (n := (es.length + ys.length) * sz) hf hb' hidl (by rw [hhw]; exact Nat.mul_le_mul_right _ (by omega)) ha h9 (fun j hj => by rw [h10 j, if_neg (by omega)]) hm
                  have hm' := mem_grow (n := (es.length + ys.length) * sz) (ks := []) hf hb' hidl (by rw [hhw]; exact Nat.mul_le_mul_right _ (by omega)) ha h9 (fun j hj => by rw [h10 j, if_neg (by omega)]) hm (by simp) (fun j c hj => by simp at hj)
                  refine ⟨_, _, hrun, _, hst, hm', ?_⟩
                  have hl2 : (es ++ ys).length = es.length + ys.length := by simp
                  suffices key : Rep ((g.killRow id).newRow m.rows.length b' ((es.length + ys.length) * sz)) (wput w b' (.cells arr' t1 (0, 0))) (.slice (.row m.rows.length) (es ++ ys)) (.slice (some ⟨b', 0, none⟩) (es ++ ys).length cap) by
                    rw [hl2] at key; exact key
                  have hbl := (Array.getElem?_eq_some_iff.1 ha).1
                  refine Rep.of_block h0 (fun x hx => ?_) (wput_same w b' _ hbl) ⟨fun l hl => (himm hne2).1 l hl, fun id' hid' => ?_⟩ ?_ (fun j c v hj hv => ?_) (fun c hc => ?_) (by rw [hl2]; exact hroom2) ⟨by simp [Gh.newRow], fun b2 hb2 => ?_⟩
                  · rcases List.mem_append.1 hx with h | h
                    · exact hes x h
                    · exact hys x h
                  · simp only [Gh.newRow] at hid' ⊢
                    split at hid'
                    · rename_i e1; rw [if_pos e1, hl2]; exact Nat.le_refl _
                    · rename_i e1
                      obtain ⟨h11, h12⟩ := kill_row hid'
                      exact absurd (hm.rowInj _ _ _ h12 hb') h11
                  · rw [hl2, Nat.add_mul, h9]; exact hfit
                  · rw [flatC_append] at hj
                    have hfl := flatC_length hes
                    have hfy := flatC_length hys
                    rw [h10 j] at hv
                    by_cases hlt : j < es.length * sz
                    · rw [List.getElem?_append_left (by omega)] at hj
                      rw [if_neg (by omega)] at hv
                      have h1 : j / sz < es.length := (Nat.div_lt_iff_lt_mul h0).2 hlt
                      have h2 : j % sz < sz := Nat.mod_lt _ h0
                      have h3 := flatC_get hes (List.getElem?_eq_getElem h1) h2
                      have h4 : j / sz * sz + j % sz = j := by rw [Nat.mul_comm]; exact Nat.div_add_mod j sz
                      rw [h4, hj] at h3
                      obtain ⟨v', h5, h6⟩ := (hcell _ _ (List.getElem?_eq_getElem h1)).2 _ c h3.symm
                      rw [Nat.add_assoc, h4, Nat.zero_add] at h5
                      have h7 : w.cell? ⟨b', j, none⟩ = arr[j]? := by
                        unfold World.cell?
                        dsimp only
                        rw [ha]
                        simp
                      rw [h7, hv] at h5
                      injection h5 with h5; subst h5
                      exact h6.step hm hst
                    · rw [List.getElem?_append_right (by omega)] at hj
                      have hjl := (List.getElem?_eq_some_iff.1 hj).1
                      rw [if_pos (by omega)] at hv
                      refine (hy2.2 _ c v hj ?_).step hm hst
                      rw [hfl]; simpa using hv
                  · rw [flatC_append] at hc
                    rcases List.mem_append.1 hc with h | h
                    · obtain ⟨e, he1, he2⟩ := List.mem_flatMap.1 h
                      obtain ⟨i, hi', hie⟩ := List.getElem_of_mem he1
                      exact (hcell i e (by rw [← hie]; exact List.getElem?_eq_getElem hi')).1 c he2
                    · exact hy3 c h
                  · have : b2 = b' := by simpa [Gh.newRow] using hb2.symm
                    subst this
                    exact ⟨rfl, rfl, arr', t1, wput_same w b2 _ hbl, h9.trans hasz⟩
                · -- a new row
                  have hk := step_kill id hidl hm
                  have hmk := mem_kill id hidl hm
                  obtain ⟨v, w', h1, g', h2, h3, h4⟩ := append_new (m1 := m.retire id) (g1 := g.killRow id) ty he he' hs hb h0 hb0 hz hroom hes hys hx hy.forget rfl (by omega) hm hf hk hmk (by simp [Mem.retire])
                  exact ⟨v, w', h1, g', h2, h3, h4⟩
            · cases h
      · cases h
    · cases h
  · cases h
/-- A slice's cells, as the machine reads them. -/
theorem cellsIn_ok {s : Nat} {x : AV} {v : Value} {xc : List AV} {nx : Nat} (h : cellsIn m s x = some (xc, nx)) (hm : MemOk g m w) (hx : Rep g w x v) : ∃ a cap vals, v = .slice a nx cap ∧ nx ≤ cap ∧ (Builtin.firstCells s nx v).run P w = .ok vals w ∧ Reps g w xc vals ∧ (∀ c ∈ xc, c.one = true) ∧ xc.length = nx * s := by
  unfold cellsIn at h
  split at h
  · rename_i own es
    split at h
    · rename_i hs
      injection h with h; injection h with h1 h2; subst h1 h2
      obtain ⟨a, cap, vals, rfl, h1, h2, h3⟩ := hx.slice_cells (P := P) hs
      refine ⟨a, cap, vals, rfl, ?_, h1, h2, h3, flatC_length hs⟩
      rcases hx.slice_inv with ⟨rfl, a0, cap0, h4, _⟩ | ⟨b, o, cap', sz, h4, _, _, _, _, h5, _⟩
      · simp
      · injection h4 with h4 h5' h6; subst h6; exact h5
    · cases h
  · rename_i id off len sz k
    split at h
    · rename_i n cs hr
      split at h
      · rename_i hc
        injection h with h; injection h with h1 h2; subst h1 h2
        obtain ⟨rfl, hl⟩ := hc
        obtain ⟨a, cap, rfl, hspot, hz, hcap, hf, hg, ha⟩ := hx.vec_inv
        obtain ⟨b, hb, _, arr, ty, harr, hal, hone, hrep, hcell⟩ := hm.rowAt hr hg
        rw [(ha b hb).1]
        let vals : Nat → Value := fun j => (w.cell? ⟨b, off + j, none⟩).getD undef
        have hv : ∀ j c, (cs.drop off)[j]? = some c → w.cell? ⟨b, off + j, none⟩ = some (vals j) ∧ Rep g w c (vals j) := by
          intro j c hj
          rw [List.getElem?_drop] at hj
          obtain ⟨v, h5, h6⟩ := hcell.2 (off + j) c hj
          rw [Nat.zero_add] at h5
          simp only [vals, h5, Option.getD_some]
          exact ⟨trivial, h6⟩
        refine ⟨_, cap, ((List.range (len * sz)).map vals).toArray, rfl, hcap, ?_, ⟨by simp; omega, fun j c v hc hv' => ?_⟩, fun c hc => hone c (List.mem_of_mem_drop (List.mem_of_mem_take hc)), by simp; omega⟩
        · refine run_loadCells vals (fun j hj => ?_)
          exact (hv j _ (List.getElem?_eq_getElem (by simp; omega))).1
        · have hj : j < len * sz := by
            have := (List.getElem?_eq_some_iff.1 hc).1
            simp at this; omega
          rw [List.getElem?_take_of_lt hj] at hc
          simp [List.getElem?_range hj] at hv'
          subst hv'
          exact (hv j c hc).2
      · cases h
    · cases h
  · cases h

/-- An append that takes a new block. -/
theorem run_append_new {t xt e e' : TypeId} {s by_ nx ny cap c2 : Nat} {a a2 : Option Addr} {xs yv : Array Value} (ty : TypeId) (he : elemT P t = some e) (he' : elemT P xt = some e') (hs : sizeT P e = some s) (hb : bytesT P e = some by_)
    (hb0 : 0 < by_) (hz : zsizeT P e = some s) (hroom : (nx + ny) * by_ ≤ roomBytes') (hcap : cap < nx + ny)
    (hx : (Builtin.firstCells s nx (.slice a nx cap)).run P w.drew = .ok xs w.drew) (hy : (Builtin.firstCells s ny (.slice a2 ny c2)).run P w.drew = .ok yv w.drew) :
    ∃ nc zs, nx + ny ≤ nc ∧ (Builtin.append_ #[t, xt] ty #[.slice a nx cap, .slice a2 ny c2]).run P w = .ok (.slice (some ⟨w.heap.size, 0, none⟩) (nx + ny) nc) (w.drew.alloc (.cells (xs ++ yv ++ zs) e (0, 0))) ∧ zs.size = (nc - (nx + ny)) * s := by
  obtain ⟨inf, hi1, hi2⟩ := run_bytesOf hb
  obtain ⟨zv, hzv, hzs⟩ : ∃ zv, (P.info? e).bind (·.zero) = some zv ∧ zv.cells.size = s := by
    unfold zsizeT at hz
    cases h : (P.info? e).bind (·.zero) with
    | none => rw [h] at hz; cases hz
    | some zv => rw [h] at hz; injection hz with hz; exact ⟨zv, rfl, hz⟩
  have hneed : ¬ (nx + ny ≤ cap) := by omega
  have hgrow : ¬ (2 ^ 48 < Builtin.nextslicecap (nx + ny) cap * inf.bytes) := by
    have := growslice_fits (need := nx + ny) (old := cap) (bytes := inf.bytes) hcap (by rw [hi2]; exact hroom)
    omega
  have hib : inf.bytes ≠ 0 := by omega
  obtain ⟨nc, hnc1, hnc2⟩ : ∃ nc, nc = (Question.appendCap (nx + ny) cap e).cut (w.tape w.drawn (.appendCap (nx + ny) cap e)) ∧ nx + ny ≤ nc := ⟨_, rfl, by simp [Question.cut]⟩
  refine ⟨nc, Builtin.zeroCells zv.cells (nc - (nx + ny)), hnc2, ?_, by rw [zeroCells_size, hzs]⟩
  simp [-run_choose, Builtin.append_, Builtin.lenOf, run_under (under_elem he), run_under (under_elem he'), run_sizeOf hs, hi1, hneed, hgrow, hib, hx, hy, run_zeroValue hzv, newRow, Question.forced, ← hnc1]

theorem reps_append {xc yc : List AV} {xs yv zs : Array Value} (h1 : Reps g w xc xs) (h2 : Reps g w yc yv) : ∀ (j : Nat) (c : AV) (v : Value), (xc ++ yc)[j]? = some c → (xs ++ yv ++ zs)[j]? = some v → Rep g w c v := by
  intro j c v hj hv
  have l1 := h1.1
  have l2 := h2.1
  by_cases hlt : j < xc.length
  · rw [List.getElem?_append_left hlt] at hj
    rw [Array.append_assoc, Array.getElem?_append_left (by omega)] at hv
    exact h1.2 j c v hj hv
  · rw [List.getElem?_append_right (by omega)] at hj
    have hjl := (List.getElem?_eq_some_iff.1 hj).1
    rw [Array.append_assoc, Array.getElem?_append_right (by omega), Array.getElem?_append_left (by omega)] at hv
    exact h2.2 _ c v hj (by rw [← hv, l1])

/-- Behind it: the new row. -/
theorem vec_new {m1 : Mem} {g1 : Gh} {e s nx ny nc : Nat} {xc yc : List AV} {xs yv zs : Array Value} (h0 : 0 < s) (hst : Step g m g1 m1 w w) (hm1 : MemOk g1 m1 w) (hm : MemOk g m w) (hf : Fresh g m (m1.pushRow 0 (xc ++ yc))) (hx : Reps g w xc xs) (hy : Reps g w yc yv) (hxo : ∀ c ∈ xc, c.one = true) (hyo : ∀ c ∈ yc, c.one = true)
    (hxl : xc.length = nx * s) (hyl : yc.length = ny * s) (hzs : zs.size = (nc - (nx + ny)) * s) (hnc : nx + ny ≤ nc) (hone : m.rows.length = m1.rows.length) :
    ∃ g', Step g m g' (m1.pushRow 0 (xc ++ yc)) w (w.drew.alloc (.cells (xs ++ yv ++ zs) e (0, 0))) ∧ MemOk g' (m1.pushRow 0 (xc ++ yc)) (w.drew.alloc (.cells (xs ++ yv ++ zs) e (0, 0))) ∧
      Rep g' (w.drew.alloc (.cells (xs ++ yv ++ zs) e (0, 0))) (.vec m.rows.length 0 (nx + ny) s .opn) (.slice (some ⟨w.heap.size, 0, none⟩) (nx + ny) nc) := by
  have hst2 : Step g m g1 m1 w w.drew := hst.trans drew_step hm
  have hm2 : MemOk g1 m1 w.drew := drew_mem hm1
  have hf2 : Fresh g1 m1 (m1.pushRow 0 (xc ++ yc)) := hf.right hst
  have hst3 := step_newRow (.cells (xs ++ yv ++ zs) e (0, 0)) 0 (xc ++ yc) hf2 hm2
  have hx1 := hx.1
  have hy1 := hy.1
  have hm3 := mem_newRow (xs ++ yv ++ zs) e 0 (xc ++ yc) hf2 hm2 (by simp; omega) (fun j c hj => ⟨by
    rcases List.mem_append.1 (List.mem_of_getElem? hj) with h | h
    · exact hxo c h
    · exact hyo c h, fun v hv => (reps_append hx hy j c v hj hv).step hm hst2⟩)
  refine ⟨_, hst2.trans hst3 hm, hm3, .vec _ _ _ _ _ _ _ rfl h0 hnc (fun h => by cases h) (by rw [hone]; simp [Gh.newRow]) (fun b hb => ?_)⟩
  have : b = w.heap.size := by rw [hone] at hb; simpa [Gh.newRow] using hb.symm
  subst this
  have hsz : (xs ++ yv ++ zs).size = nc * s := by
    simp only [Array.size_append, hx1, hy1, hxl, hyl, hzs, ← Nat.add_mul]
    congr 1; omega
  exact ⟨rfl, _, e, alloc_new _ _, by rw [hsz]; simp, fun _ => by rw [hsz]; simp⟩

theorem aappendV_ok {t xt : TypeId} {x y d : AV} {vx vy : Value} {m' : Mem} (ty : TypeId) (h : aappendV P m t xt x y = some (d, m')) (hf : Fresh g m m') (hm : MemOk g m w) (hx : Rep g w x vx) (hy : Rep g w y vy) :
    ∃ v w', (Builtin.append_ #[t, xt] ty #[vx, vy]).run P w = .ok v w' ∧ ∃ g', Step g m g' m' w w' ∧ MemOk g' m' w' ∧ Rep g' w' d v := by
  unfold aappendV at h
  split at h
  · rename_i e e' he he'
    split at h
    · rename_i s by_ hs hb
      split at h
      · rename_i xc nx yc ny hxc hyc
        split at h
        · rename_i hc
          obtain ⟨h0, hb0, hz, hroom⟩ := hc
          obtain ⟨a, cap, xs, rfl, hcap, hx1, hx2, hx3, hx4⟩ := cellsIn_ok (P := P) hxc hm hx
          obtain ⟨a2, c2, yv, rfl, hcap2, hy1, hy2, hy3, hy4⟩ := cellsIn_ok (P := P) hyc hm hy
          obtain ⟨a', cap', xs', e1, _, hx1', hx2', _⟩ := cellsIn_ok (P := P) hxc (drew_mem hm) (hx.step hm drew_step)
          injection e1 with e1 e2 e3; subst e1 e3
          obtain ⟨a2', c2', yv', e1, _, hy1', hy2', _⟩ := cellsIn_ok (P := P) hyc (drew_mem hm) (hy.step hm drew_step)
          injection e1 with e1 e2 e3; subst e1 e3
          have hx2'' : Reps g w xc xs' := hx2'.step (drew_mem hm) undrew_step
          have hy2'' : Reps g w yc yv' := hy2'.step (drew_mem hm) undrew_step
          split at h
          · rename_i hny
            injection h with h; injection h with h1 h2; subst h1 h2 hny
            exact ⟨_, w, run_append_stay ty he he' hs _ _ _ _ _ hcap, g, Step.refl g m w, hm, hx⟩
          · rename_i hny
            unfold avec at h
            split at h
            · rename_i own es
              injection h with h; injection h with h1 h2; subst h1 h2
              have hce : cap = nx := by
                simp only [cellsIn] at hxc
                split at hxc
                · injection hxc with hxc; injection hxc with e1 e2
                  rcases hx.slice_inv with ⟨rfl, a0, cap0, h4, hf0, _⟩ | ⟨b, o, cap', sz, h4, _, _, _, _, h5, h6⟩
                  · injection h4 with h4 h5 h6; have := hf0 rfl; omega
                  · injection h4 with h4 h5' h7; simp only [OwnOk] at h6; omega
                · cases hxc
              obtain ⟨nc, zs, hnc, hrun, hzs⟩ := run_append_new ty he he' hs hb hb0 hz hroom (by omega) hx1' hy1'
              obtain ⟨g', h1, h2, h3⟩ := vec_new (e := e) h0 (Step.refl g m w) hm hm hf hx2'' hy2'' hx3 hy3 hx4 hy4 hzs hnc rfl
              exact ⟨_, _, hrun, g', h1, h2, h3⟩
            · rename_i id off len sz
              injection h with h; injection h with h1 h2; subst h1 h2
              have hce : cap = nx := by
                obtain ⟨a0, cap0, e1, _, _, _, h5, _⟩ := hx.vec_inv
                injection e1 with e1 e2 e3
                have := h5 rfl
                omega
              obtain ⟨nc, zs, hnc, hrun, hzs⟩ := run_append_new ty he he' hs hb hb0 hz hroom (by omega) hx1' hy1'
              obtain ⟨g', h1, h2, h3⟩ := vec_new (e := e) h0 (Step.refl g m w) hm hm hf hx2'' hy2'' hx3 hy3 hx4 hy4 hzs hnc rfl
              exact ⟨_, _, hrun, g', h1, h2, h3⟩
            · rename_i id off len sz
              split at h
              · rename_i cs hr
                obtain ⟨a0, cap0, e1, hspot, hsz, _, _, hg, hadr⟩ := hx.vec_inv
                injection e1 with e1 e2 e3
                subst e1 e3
                have hlen : len = nx ∧ sz = s ∧ xc = (cs.drop off).take (nx * s) ∧ off + nx * s ≤ cs.length := by
                  simp only [cellsIn, hr] at hxc
                  split at hxc
                  · rename_i hc
                    injection hxc with hxc; injection hxc with e1 e2
                    obtain ⟨rfl, hc⟩ := hc
                    subst e2
                    exact ⟨rfl, rfl, e1.symm, hc⟩
                  · cases hxc
                obtain ⟨rfl, rfl, hxcs, hfit⟩ := hlen
                obtain ⟨b, hb', hhw, arr, t1, ha, hal, hone, hrep, hcell⟩ := hm.rowAt hr hg
                obtain ⟨rfl, arr0, t0, ha0, hend, hend2⟩ := hadr b hb'
                rw [ha] at ha0; injection ha0 with ha0; injection ha0 with h1 h2; subst h1 h2
                have hasz := hend2 rfl
                have hidl : id < m.rows.length := (List.getElem?_eq_some_iff.1 hr).1
                have hbl := (Array.getElem?_eq_some_iff.1 ha).1
                have hyl1 := hy2.1
                -- in place: the run
                have inplace : len + ny ≤ cap → ∃ arr', (Builtin.append_ #[t, xt] ty #[.slice (some ⟨b, off, none⟩) len cap, .slice a2 ny c2]).run P w = .ok (.slice (some ⟨b, off, none⟩) (len + ny) cap) (wput w b (.cells arr' t1 (0, 0))) ∧ arr'.size = arr.size ∧
                    ∀ j, arr'[j]? = if off + len * sz ≤ j ∧ j < off + len * sz + ny * sz then yv[j - (off + len * sz)]? else arr[j]? := by
                  intro hroom2
                  have hfit2 : off + len * sz + ny * sz ≤ arr.size := by
                    have : (len + ny) * sz ≤ cap * sz := Nat.mul_le_mul_right _ hroom2
                    rw [Nat.add_mul] at this; omega
                  obtain ⟨arr', h8, h9, h10⟩ := run_storeCells (P := P) (b := b) (o := off + len * sz) (t := t1) yv.toList 0 arr w ha (by simp; omega) (one_arr hy2 hy3)
                  simp only [Nat.add_zero, Array.length_toList] at h10
                  refine ⟨arr', ?_, h9, fun j => ?_⟩
                  · simp [Builtin.append_, Builtin.lenOf, run_under (under_elem he), run_under (under_elem he'), run_sizeOf hs, hroom2, hy1, add_plain, h8]
                  · rw [h10 j, hyl1, hy4]; simp
                split at h
                · rename_i hin
                  injection h with h; injection h with h1 h2; subst h1 h2
                  have hroom2 : len + ny ≤ cap := by
                    have : (len + ny) * sz ≤ cap * sz := by omega
                    exact Nat.le_of_mul_le_mul_right this h0
                  obtain ⟨arr', hrun, h9, h10⟩ := inplace hroom2
                  have hsl : off + len * sz + yc.length ≤ cs.length := by rw [hy4]; rw [Nat.add_mul] at hin; omega
                  have hst := step_setRow (n := 0) (ks := splice cs (off + len * sz) yc) hb' hidl ha h9 (fun j hj => by omega) hm
                  have hm' := mem_setRow (ks := splice cs (off + len * sz) yc) hb' hr ha h9 (fun j hj => by omega) hm (by rw [splice_length hsl]; omega) (fun j c hj => ⟨splice_one hone hy3 c (List.mem_of_getElem? hj), fun v hv => by
                    rw [splice_get hsl] at hj
                    rw [h10 j] at hv
                    rw [hy4] at hj
                    split at hj
                    · rename_i e1
                      rw [if_pos e1] at hv
                      exact hy2.2 _ c v hj hv
                    · rename_i e1
                      rw [if_neg e1] at hv
                      exact hrep j c v hj hv⟩)
                  refine ⟨_, _, hrun, g, hst, hm', .vec _ _ _ _ _ _ _ rfl h0 hroom2 (fun h => by cases h) hg (fun b2 hb2 => ?_)⟩
                  rw [hb'] at hb2; injection hb2 with hb2; injection hb2 with hb2; subst hb2
                  exact ⟨rfl, arr', t1, wput_same w b _ hbl, by rw [h9]; exact hend, fun _ => by rw [h9]; exact hasz⟩
                · rename_i hout
                  split at h
                  · rename_i hoff
                    subst hoff
                    injection h with h; injection h with h1 h2; subst h1 h2
                    rw [Nat.zero_add] at *
                    by_cases hroom2 : len + ny ≤ cap
                    · obtain ⟨arr', hrun, h9, h10⟩ := inplace hroom2
                      have hks : ∀ (j : Nat) (c : AV), (xc ++ yc)[j]? = some c → c.one = true ∧ ∀ v, arr'[j]? = some v → Rep g w c v := by
                        intro j c hj
                        refine ⟨?_, fun v hv => ?_⟩
                        · rcases List.mem_append.1 (List.mem_of_getElem? hj) with h | h
                          · exact hx3 c h
                          · exact hy3 c h
                        · rw [h10 j] at hv
                          by_cases hlt : j < len * sz
                          · rw [List.getElem?_append_left (by omega)] at hj
                            rw [if_neg (by omega)] at hv
                            rw [hxcs, List.getElem?_take_of_lt hlt, List.drop_zero] at hj
                            exact hrep j c v hj hv
                          · rw [List.getElem?_append_right (by omega), hx4] at hj
                            have hjl := (List.getElem?_eq_some_iff.1 hj).1
                            rw [if_pos (by omega)] at hv
                            exact hy2.2 _ c v hj hv
                      have hkl : (xc ++ yc).length ≤ arr'.size := by
                        rw [List.length_append, hx4, hy4, ← Nat.add_mul, h9, ← hasz]
                        exact Nat.mul_le_mul_right _ hroom2
                      have hst := step_grow (n := 0) (ks := xc ++ yc) hf hb' hidl (by omega) ha h9 (fun j hj => by omega) hm
                      have hm' := mem_grow (n := 0) (ks := xc ++ yc) hf hb' hidl (by omega) ha h9 (fun j hj => by omega) hm hkl hks
                      refine ⟨_, _, hrun, _, hst, hm', .vec _ _ _ _ _ _ _ rfl h0 hroom2 (fun h => by cases h) (by simp [Gh.newRow]) (fun b2 hb2 => ?_)⟩
                      have : b2 = b := by simpa [Gh.newRow] using hb2.symm
                      subst this
                      exact ⟨rfl, arr', t1, wput_same w b2 _ hbl, by rw [Nat.zero_add, h9]; omega, fun _ => by rw [Nat.zero_add, h9]; exact hasz⟩
                    · have hk := step_kill id hidl hm
                      have hmk := mem_kill id hidl hm
                      obtain ⟨nc, zs, hnc, hrun, hzs⟩ := run_append_new ty he he' hs hb hb0 hz hroom (by omega) hx1' hy1'
                      obtain ⟨g', h1, h2, h3⟩ := vec_new (e := e) h0 hk hmk hm hf hx2'' hy2'' hx3 hy3 hx4 hy4 hzs hnc (by simp [Mem.retire])
                      exact ⟨_, _, hrun, g', h1, h2, h3⟩
                  · cases h
              · cases h
            · cases h
        · cases h
      · cases h
    · cases h
  · cases h
theorem aappend_ok {t xt : TypeId} {x y d : AV} {vx vy : Value} {m' : Mem} (ty : TypeId) (h : aappend P m t xt x y = some (d, m')) (hf : Fresh g m m') (hm : MemOk g m w) (hx : Rep g w x vx) (hy : Rep g w y vy) :
    ∃ v w', (Builtin.append_ #[t, xt] ty #[vx, vy]).run P w = .ok v w' ∧ ∃ g', Step g m g' m' w w' ∧ MemOk g' m' w' ∧ Rep g' w' d v := by
  unfold aappend at h
  split at h
  · exact aappendV_ok ty h hf hm hx hy
  · split at h
    · split at h
      · exact aappendV_ok ty h hf hm hx hy
      · exact aappendS_ok ty h hf hm hx hy
    · cases h
  · exact aappendS_ok ty h hf hm hx hy
end
end Go.Proofs.Ytakmilmckdllfaa.G
