/-
The machine does what the abstract operations say.
-/
import Derived.Test.YtakmilmckdllfaaG5
import Derived.Laws.Append
set_option linter.unusedVariables false
set_option linter.unusedSimpArgs false
namespace Go.Proofs.Ytakmilmckdllfaa.G

section
variable {g : Gh} {m : Mem} {w : World} {P : Program}

theorem rep_atom {v : Value} (h : scalar v = true) : Rep g w (.atom v) v := .atom v h

theorem aintop_ok {op : BinOp} {k : IntKind} {a b : Int} {d : AV} (h : aintop op k a b = some d) (xt : TypeId) : ∃ v, (binOp op xt (.int k a) (.int k b)).run P w = .ok v w ∧ Rep g w d v := by
  cases op <;> simp only [aintop] at h <;> try (injection h with h; subst h; refine ⟨_, ?_, .atom _ rfl⟩; simp [binOp, Op.intArith, Op.intBits, Op.intCmp])
  · split at h
    · cases h
    · rename_i hb
      injection h with h; subst h
      exact ⟨_, by simp [binOp, Op.intDiv, hb], .atom _ rfl⟩
  · split at h
    · cases h
    · rename_i hb
      injection h with h; subst h
      exact ⟨_, by simp [binOp, Op.intDiv, hb], .atom _ rfl⟩
  · cases h
  · cases h

theorem run_equalIn_bool {t : TypeId} (h : P.underlying t = some .bool) (d : Nat) (a b : Bool) : (Op.equalIn (d + 1) t (.bool a) (.bool b)).run P w = .ok (a == b) w := by
  simp [Op.equalIn, run_under h]
theorem run_equal_bool {t : TypeId} (h : P.underlying t = some .bool) (a b : Bool) : (Op.equal t (.bool a) (.bool b)).run P w = .ok (a == b) w :=
  run_equalIn_bool h 9999 a b

theorem aun_ok {op : UnOp} {x d : AV} {vx : Value} (h : aun op x = some d) (hx : Rep g w x vx) : ∃ v, (Op.unary op vx).run P w = .ok v w ∧ Rep g w d v := by
  unfold aun at h
  split at h
  · obtain rfl := hx.atom_inv
    simp only [aintop] at h
    injection h with h; subst h
    exact ⟨_, by simp [Op.unary, Op.intArith], .atom _ rfl⟩
  · obtain rfl := hx.atom_inv
    simp only [aintop] at h
    injection h with h; subst h
    exact ⟨_, by simp [Op.unary, Op.intBits], .atom _ rfl⟩
  · obtain rfl := hx.atom_inv
    injection h with h; subst h
    exact ⟨_, by simp [Op.unary], .atom _ rfl⟩
  · cases h

theorem sz_of {t : TypeId} {n : Nat} (h : sizeT P t = some n) : P.cellsOf t = n := by
  unfold sizeT at h
  simp [Program.cellsOf, h]

theorem Rep.ptr_inv {l off : Nat} {v : Value} (h : Rep g w (.ptr l off) v) : ∃ b, g.box l = some b ∧ v = .pointer (some ⟨b, off, none⟩) := by
  generalize hx : AV.ptr l off = x at h
  cases h <;> cases hx
  exact ⟨_, by assumption, rfl⟩
theorem Rep.eptr_inv {e : AV} {off : Nat} {v : Value} (h : Rep g w (.eptr e off) v) : ∃ b o, v = .pointer (some ⟨b, o + off, none⟩) ∧ CellsAt g w b o e.cells ∧ Imm g b (o + e.cells.length) ∧ e.cells ≠ [] := by
  generalize hx : AV.eptr e off = x at h
  cases h <;> cases hx
  rename_i b o vals hi hc hr ho hn
  exact ⟨b, o, rfl, ⟨ho, fun j c hj => ⟨vals j, hc j (List.getElem?_eq_some_iff.1 hj).1, hr j c hj⟩⟩, hi, hn⟩
theorem Rep.vptr_inv {id off : Nat} {v : Value} (h : Rep g w (.vptr id off) v) : ∃ a, v = .pointer (some a) ∧ a.spot = none ∧ g.row id ≠ none ∧ ∀ b, g.row id = some (some b) → a = ⟨b, off, none⟩ := by
  generalize hx : AV.vptr id off = x at h
  cases h <;> cases hx
  exact ⟨_, rfl, by assumption, by assumption, by assumption⟩
theorem Addr.add_none {a : Addr} (h : a.spot = none) (n : Nat) : (a.add n).spot = none ∧ a.add n = ⟨a.block, a.off + n, none⟩ := by
  obtain ⟨b, o, s⟩ := a
  dsimp only at h
  subst h
  rw [add_plain]
  exact ⟨rfl, rfl⟩
theorem Addr.eq_none {a : Addr} (h : a.spot = none) : a = ⟨a.block, a.off, none⟩ := by
  obtain ⟨b, o, s⟩ := a
  dsimp only at h
  subst h
  rfl
theorem Rep.vec_inv {id off len sz : Nat} {k : Cap} {v : Value} (h : Rep g w (.vec id off len sz k) v) : ∃ a cap, v = .slice (some a) len cap ∧ a.spot = none ∧ 0 < sz ∧ len ≤ cap ∧ (k = .full → cap = len) ∧ g.row id ≠ none ∧
    ∀ b, g.row id = some (some b) → a = ⟨b, off, none⟩ ∧ ∃ arr t, w.heap[b]? = some (.cells arr t (0, 0)) ∧ off + cap * sz ≤ arr.size ∧ (k = .opn → off + cap * sz = arr.size) := by
  generalize hx : AV.vec id off len sz k = x at h
  cases h <;> cases hx
  exact ⟨_, _, rfl, by assumption, by assumption, by assumption, by assumption, by assumption, by assumption⟩
/-- What a live row's cells are. -/
theorem MemOk.rowAt (hm : MemOk g m w) {id n : Nat} {cs : List AV} (hr : m.rows[id]? = some (some (n, cs))) (hg : g.row id ≠ none) : ∃ b, g.row id = some (some b) ∧ g.hw id = n ∧ ∃ arr t, w.heap[b]? = some (.cells arr t (0, 0)) ∧ cs.length ≤ arr.size ∧
    (∀ c ∈ cs, c.one = true) ∧ (∀ (j : Nat) (c : AV) (v : Value), cs[j]? = some c → arr[j]? = some v → Rep g w c v) ∧ CellsAt g w b 0 cs := by
  obtain ⟨b, hb, hw⟩ := hm.rowLive id _ hr hg
  obtain ⟨arr, t, ha, hl, hc⟩ := hm.rowOk id b n cs hb hr
  have h1 : ∀ c ∈ cs, c.one = true := fun c hc' => by
    obtain ⟨j, hj, he⟩ := List.getElem_of_mem hc'
    exact (hc j c (by rw [← he]; exact List.getElem?_eq_getElem hj)).1
  refine ⟨b, hb, hw, arr, t, ha, hl, h1, fun j c v hj hv => (hc j c hj).2 v hv, h1, fun j c hj => ?_⟩
  have hlt : j < arr.size := Nat.lt_of_lt_of_le (List.getElem?_eq_some_iff.1 hj).1 hl
  refine ⟨arr[j], ?_, (hc j c hj).2 _ (Array.getElem?_eq_getElem hlt)⟩
  unfold World.cell?
  dsimp only
  rw [ha]
  simp [hlt]
theorem Rep.eptr_mk {e : AV} {off b o : Nat} (hc : CellsAt g w b o e.cells) (hi : Imm g b (o + e.cells.length)) (hn : e.cells ≠ []) : Rep g w (.eptr e off) (.pointer (some ⟨b, o + off, none⟩)) := by
  obtain ⟨vals, hv⟩ := hc.vals
  exact .eptr e off b o vals hi (fun j hj => (hv j _ (List.getElem?_eq_getElem hj)).1) (fun j c hj => (hv j c hj).2) hc.1 hn
theorem Rep.slice_inv {own : Own} {es : List AV} {v : Value} (h : Rep g w (.slice own es) v) : (es = [] ∧ ∃ a0 cap0, v = .slice a0 0 cap0 ∧ (own = .full → cap0 = 0) ∧ ∀ id, own ≠ .row id) ∨
    ∃ b o cap sz, v = .slice (some ⟨b, o, none⟩) es.length cap ∧ 0 < sz ∧ (∀ e ∈ es, e.cells.length = sz) ∧ (es ≠ [] → Imm g b (o + es.length * sz)) ∧ (∀ (i : Nat) (e : AV), es[i]? = some e → CellsAt g w b (o + i * sz) e.cells) ∧ es.length ≤ cap ∧ OwnOk g w own b o es.length cap sz := by
  generalize hx : AV.slice own es = x at h
  cases h <;> cases hx
  · exact .inl ⟨rfl, _, _, rfl, by assumption, by assumption⟩
  · rename_i b o cap sz vals hz hs hi hc hr ho hcap hown
    refine .inr ⟨b, o, cap, sz, rfl, hz, hs, hi, fun i e hie => ⟨fun c hc' => ho e (List.mem_of_getElem? hie) c hc', fun j c hj => ⟨vals (i * sz + j), ?_, hr i j e c hie hj⟩⟩, hcap, hown⟩
    have h1 : i < es.length := (List.getElem?_eq_some_iff.1 hie).1
    have h2 : j < sz := by rw [← hs e (List.mem_of_getElem? hie)]; exact (List.getElem?_eq_some_iff.1 hj).1
    rw [Nat.add_assoc]
    refine hc _ ?_
    calc i * sz + j < i * sz + sz := by omega
      _ = (i + 1) * sz := by rw [Nat.succ_mul]
      _ ≤ es.length * sz := Nat.mul_le_mul_right _ h1
theorem Rep.slice_mk {own : Own} {es : List AV} {b o cap sz : Nat} (hz : 0 < sz) (hs : ∀ e ∈ es, e.cells.length = sz) (hi : es ≠ [] → Imm g b (o + es.length * sz))
    (hc : ∀ (i : Nat) (e : AV), es[i]? = some e → CellsAt g w b (o + i * sz) e.cells) (hcap : es.length ≤ cap) (hown : OwnOk g w own b o es.length cap sz) : Rep g w (.slice own es) (.slice (some ⟨b, o, none⟩) es.length cap) := by
  let vals : Nat → Value := fun j => (w.cell? ⟨b, o + j, none⟩).getD undef
  have key : ∀ (i j : Nat) (e c : AV), es[i]? = some e → e.cells[j]? = some c → w.cell? ⟨b, o + (i * sz + j), none⟩ = some (vals (i * sz + j)) ∧ Rep g w c (vals (i * sz + j)) := by
    intro i j e c hi hj
    obtain ⟨v, h1, h2⟩ := (hc i e hi).2 j c hj
    rw [Nat.add_assoc] at h1
    simp only [vals, h1, Option.getD_some]
    exact ⟨trivial, h2⟩
  refine .slice own es b o cap sz vals hz hs hi (fun j hj => ?_) (fun i j e c hi hj => (key i j e c hi hj).2) (fun e he c hc' => ?_) hcap hown
  · have h1 : j / sz < es.length := (Nat.div_lt_iff_lt_mul hz).2 hj
    have h2 : j % sz < sz := Nat.mod_lt _ hz
    have h3 : (es[j / sz]).cells.length = sz := hs _ (List.getElem_mem ..)
    have := (key (j / sz) (j % sz) es[j / sz] ((es[j / sz]).cells[j % sz]'(by omega)) (List.getElem?_eq_getElem h1) (List.getElem?_eq_getElem (by omega))).1
    rw [Nat.mul_comm, Nat.div_add_mod] at this
    exact this
  · obtain ⟨i, hi', hie⟩ := List.getElem_of_mem he
    exact (hc i e (by rw [← hie]; exact List.getElem?_eq_getElem hi')).1 c hc'

theorem Imm.mono {b n n' : Nat} (h : Imm g b n) (hle : n' ≤ n) : Imm g b n' := ⟨h.1, fun id hid => Nat.le_trans hle (h.2 id hid)⟩

theorem mul_succ_le {i n s : Nat} (h : i < n) : i * s + s ≤ n * s := by
  calc i * s + s = (i + 1) * s := by rw [Nat.succ_mul]
    _ ≤ n * s := Nat.mul_le_mul_right _ h

theorem under_elem {t e : TypeId} (h : elemT P t = some e) : P.underlying t = some (.slice e) := by
  unfold elemT at h
  split at h
  · injection h with h; subst h; assumption
  · cases h
theorem under_arr {t e : TypeId} {n : Nat} (h : arrT P t = some (n, e)) : P.underlying t = some (.array n e) := by
  unfold arrT at h
  split at h
  · injection h with h; injection h with h1 h2; subst h1 h2; assumption
  · cases h

theorem aindexAddr_ok {t : TypeId} {x i d : AV} {vx vi : Value} (h : aindexAddr P t x i = some d) (hx : Rep g w x vx) (hi : Rep g w i vi) : ∃ v, (Instr.indexAt t vx vi).run P w = .ok v w ∧ Rep g w d v := by
  unfold aindexAddr at h
  split at h
  · rename_i k n own es
    obtain rfl := hi.atom_inv
    split at h
    · rename_i e he
      split at h
      · rename_i s hs
        split at h
        · rename_i h0
          split at h
          · rename_i a ha
            split at h
            · rename_i hc
              injection h with h; subst h
              obtain ⟨hc, hne⟩ := hc
              have hlt : n.toNat < es.length := (List.getElem?_eq_some_iff.1 ha).1
              rcases hx.slice_inv with ⟨rfl, _⟩ | ⟨b, o, cap, sz, rfl, hz, hsz, himm, hcell, _, _⟩
              · simp at hlt
              · have hss : sz = s := by rw [← hsz a (List.mem_of_getElem? ha), hc]
                subst hss
                refine ⟨.pointer (some ⟨b, o + n.toNat * sz, none⟩), ?_, ?_⟩
                · have h1 : n < (es.length : Int) := by omega
                  simp [Instr.indexAt, asIntOf, run_under (under_elem he), run_sizeOf hs, h0, h1, add_plain]
                · refine Rep.eptr_mk (o := o + n.toNat * sz) (hcell n.toNat a ha) (Imm.mono (himm (by rintro rfl; simp at hlt)) ?_) hne
                  rw [hc]; have := mul_succ_le (s := sz) hlt; omega
            · cases h
          · cases h
        · cases h
      · cases h
    · cases h
  · rename_i k n l off
    obtain rfl := hi.atom_inv
    split at h
    · rename_i len e he
      split at h
      · rename_i s hs
        split at h
        · rename_i h0
          injection h with h; subst h
          obtain ⟨b, hb, rfl⟩ := hx.ptr_inv
          exact ⟨_, by simp [Instr.indexAt, Instr.sureAddr, asIntOf, run_under (under_arr he), run_sizeOf hs, h0.1, h0.2, add_plain], .ptr l _ b hb⟩
        · cases h
      · cases h
    · cases h
  · rename_i k n a off
    obtain rfl := hi.atom_inv
    split at h
    · rename_i len e he
      split at h
      · rename_i s hs
        split at h
        · rename_i h0
          injection h with h; subst h
          obtain ⟨b, o, rfl, hc, himm, hne⟩ := hx.eptr_inv
          exact ⟨_, by simp [Instr.indexAt, Instr.sureAddr, asIntOf, run_under (under_arr he), run_sizeOf hs, h0.1, h0.2, add_plain, Nat.add_assoc], Rep.eptr_mk hc himm hne⟩
        · cases h
      · cases h
    · cases h
  · rename_i k n id off len sz c
    obtain rfl := hi.atom_inv
    split at h
    · rename_i e he
      split at h
      · rename_i s hs
        split at h
        · rename_i h0
          injection h with h; subst h
          obtain ⟨rfl, h0, h1⟩ := h0
          obtain ⟨a, cap, rfl, hspot, hz, hcap, hf, hg, ha⟩ := hx.vec_inv
          refine ⟨.pointer (some (a.add (n.toNat * sz))), by simp [Instr.indexAt, asIntOf, run_under (under_elem he), run_sizeOf hs, h0, h1], .vptr id _ _ (Addr.add_none hspot _).1 hg (fun b hb => ?_)⟩
          rw [(ha b hb).1, add_plain]
        · cases h
      · cases h
    · cases h
  · rename_i k n id off
    obtain rfl := hi.atom_inv
    split at h
    · rename_i len e he
      split at h
      · rename_i s hs
        split at h
        · rename_i h0
          injection h with h; subst h
          obtain ⟨a, rfl, hspot, hg, ha⟩ := hx.vptr_inv
          exact ⟨.pointer (some (a.add (n.toNat * s))), by simp [Instr.indexAt, Instr.sureAddr, asIntOf, run_under (under_arr he), run_sizeOf hs, h0.1, h0.2], .vptr id _ _ (Addr.add_none hspot _).1 hg (fun b hb => by rw [ha b hb, add_plain])⟩
        · cases h
      · cases h
    · cases h
  · cases h

theorem aload_ok {t : TypeId} {x d : AV} {vx : Value} (h : aload P m t x = some d) (hm : MemOk g m w) (hx : Rep g w x vx) : ∃ v, (Instr.loadAt t vx).run P w = .ok v w ∧ Rep g w d v := by
  unfold aload at h
  split at h
  · rename_i l off
    split at h
    · rename_i cs hl
      obtain ⟨b, hb, rfl⟩ := hx.ptr_inv
      obtain ⟨arr, ty, h1, ⟨h2, h3⟩, h4⟩ := hm.boxOk l b _ hb hl
      have hc : CellsAt g w b 0 cs := ⟨h4, fun j c hj => by
        have hlt : j < arr.size := by rw [h2]; exact (List.getElem?_eq_some_iff.1 hj).1
        refine ⟨arr[j], ?_, h3 j c _ hj (Array.getElem?_eq_getElem hlt)⟩
        unfold World.cell?
        dsimp only
        rw [h1]
        simp [hlt]⟩
      obtain ⟨v, h5, h6⟩ := run_loadVar hc h
      rw [Nat.zero_add] at h5
      exact ⟨v, by simp [Instr.loadAt, Instr.sureAddr, h5], h6⟩
    · cases h
  · rename_i a off
    obtain ⟨b, o, rfl, hc, _, _⟩ := hx.eptr_inv
    obtain ⟨v, h5, h6⟩ := run_loadVar hc h
    exact ⟨v, by simp [Instr.loadAt, Instr.sureAddr, h5], h6⟩
  · rename_i id off
    split at h
    · rename_i n cs hr
      obtain ⟨a, rfl, hspot, hg, ha⟩ := hx.vptr_inv
      obtain ⟨b, hb, _, arr, ty, _, _, _, _, hc⟩ := hm.rowAt hr hg
      rw [ha b hb]
      obtain ⟨v, h5, h6⟩ := run_loadVar hc h
      rw [Nat.zero_add] at h5
      exact ⟨v, by simp [Instr.loadAt, Instr.sureAddr, h5], h6⟩
    · cases h
  · cases h

theorem notTuple_ne {a : AV} (h : notTuple a = true) : ∀ cs, a ≠ .tuple cs := by
  rintro cs rfl
  simp [notTuple] at h

theorem astore_ok {t : TypeId} {x y : AV} {vx vy : Value} {m' : Mem} (h : astore P m t x y = some m') (hm : MemOk g m w) (hx : Rep g w x vx) (hy : Rep g w y vy) :
    ∃ w', (Instr.storeAt t vx vy).run P w = .ok () w' ∧ Step g m g m' w w' ∧ MemOk g m' w' := by
  unfold astore at h
  split at h
  · rename_i l off
    split at h
    · rename_i cs n hl hn
      split at h
      · rename_i hc
        injection h with h; subst h
        obtain ⟨b, hb, rfl⟩ := hx.ptr_inv
        obtain ⟨w', h1, h2, h3⟩ := run_storeVar hm hb hl hn hy (notTuple_ne hc.2.2) hc.1 hc.2.1
        exact ⟨w', by simp [Instr.storeAt, Instr.sureAddr, h1], h2, h3⟩
      · cases h
    · cases h
  · rename_i id off
    split at h
    · rename_i cs n hr hn
      split at h
      · rename_i hc
        injection h with h; subst h
        obtain ⟨a, rfl, hspot, hg, ha⟩ := hx.vptr_inv
        obtain ⟨b, hb, hw, arr, ty, h1, hl, h4, h3, _⟩ := hm.rowAt hr hg
        rw [ha b hb]
        obtain ⟨⟨h5, h6⟩, h7⟩ := hy.cells (notTuple_ne hc.2.2)
        have hone : ∀ x ∈ vy.cells.toList, x.oneCell' = true := by
          intro x hx
          obtain ⟨j, hj, he⟩ := List.getElem_of_mem hx
          have hj' : j < vy.cells.size := by simpa using hj
          have h8 : vy.cells[j]? = some x := by rw [Array.getElem?_eq_getElem hj']; simpa using he
          obtain ⟨c, hc⟩ : ∃ c, y.cells[j]? = some c := ⟨_, List.getElem?_eq_getElem (by omega)⟩
          rw [← (h6 j c x hc h8).one_iff]
          exact h7 c (List.mem_of_getElem? hc)
        obtain ⟨arr', h8, h9, h10⟩ := run_storeCells (P := P) (b := b) (o := off) (t := ty) vy.cells.toList 0 arr w h1 (by simp; omega) hone
        have hlm : id < m.rows.length := (List.getElem?_eq_some_iff.1 hr).1
        have hs := step_setRow (n := 0) (ks := splice cs off y.cells) hb hlm h1 h9 (fun j hj => by omega) hm
        refine ⟨wput w b (.cells arr' ty (0, 0)), by simp [Instr.storeAt, Instr.sureAddr, storeVar, run_sizeOf hn, h5, hc.1, h8], hs, mem_setRow hb hr h1 h9 (fun j hj => by omega) hm (by rw [splice_length (by omega)]; omega) (fun j c hj => ⟨splice_one h4 h7 c (List.mem_of_getElem? hj), fun x hx => ?_⟩)⟩
        rw [splice_get (by omega)] at hj
        rw [h10 j] at hx
        simp only [Nat.add_zero, Array.length_toList] at hx
        by_cases e : off ≤ j ∧ j < off + y.cells.length
        · rw [if_pos e] at hj
          rw [if_pos (by omega)] at hx
          exact h6 (j - off) c x hj (by simpa using hx)
        · rw [if_neg e] at hj
          rw [if_neg (by omega)] at hx
          exact h3 j c x hj hx
      · cases h
    · cases h
  · cases h

theorem field_of {t ft : TypeId} {f o : Nat} (h : fieldT P t f = some (ft, o)) : ∃ fs fd, P.underlying t = some (.struct fs) ∧ fs[f]? = some fd ∧ fd.type = ft ∧ fd.offset = o := by
  unfold fieldT at h
  split at h
  · rename_i fs hu
    cases hf : fs[f]? with
    | none => rw [hf] at h; cases h
    | some fd => rw [hf] at h; injection h with h; injection h with h1 h2; exact ⟨fs, fd, hu, hf, h1, h2⟩
  · cases h

theorem afieldAddr_ok {t : TypeId} {x d : AV} {vx : Value} {f : Nat} (h : afieldAddr P t x f = some d) (hx : Rep g w x vx) : ∃ v, (Instr.fieldAt t vx f).run P w = .ok v w ∧ Rep g w d v := by
  unfold afieldAddr at h
  split at h
  · rename_i ft o hf
    obtain ⟨fs, fd, hu, hfd, h1, h2⟩ := field_of hf
    split at h
    · rename_i n hn
      have hpl : ∀ a : Addr, (fieldPlace a fd).run P w = .ok (a.add o) w := by
        intro a
        simp [fieldPlace, h1, h2, run_sizeOf hn]
      split at h
      · rename_i l off
        injection h with h; subst h
        obtain ⟨b, hb, rfl⟩ := hx.ptr_inv
        exact ⟨_, by simp [Instr.fieldAt, Instr.sureAddr, run_under hu, hfd, hpl, add_plain], .ptr l _ b hb⟩
      · rename_i a off
        injection h with h; subst h
        obtain ⟨b, o', rfl, hc, himm, hne⟩ := hx.eptr_inv
        exact ⟨_, by simp [Instr.fieldAt, Instr.sureAddr, run_under hu, hfd, hpl, add_plain, Nat.add_assoc], Rep.eptr_mk hc himm hne⟩
      · rename_i id off
        injection h with h; subst h
        obtain ⟨a, rfl, hspot, hg, ha⟩ := hx.vptr_inv
        exact ⟨.pointer (some (a.add o)), by simp [Instr.fieldAt, Instr.sureAddr, run_under hu, hfd, hpl], .vptr id _ _ (Addr.add_none hspot _).1 hg (fun b hb => by rw [ha b hb, add_plain])⟩
      · cases h
    · cases h
  · cases h

theorem Rep.agg_inv {cs : List AV} {v : Value} (h : Rep g w (.agg cs) v) : ∃ vs, v = .agg vs ∧ Reps g w cs vs ∧ ∀ c ∈ cs, c.one = true := by
  generalize hx : AV.agg cs = x at h
  cases h <;> cases hx
  exact ⟨_, rfl, ⟨by assumption, by assumption⟩, by assumption⟩

theorem part_ok {t : TypeId} {cs : List AV} {vs : Array Value} {off : Nat} {d : AV} (h : subAV P t cs off = some d) (hr : Reps g w cs vs) (ho : ∀ c ∈ cs, c.one = true) : ∃ v, (part t vs off).run P w = .ok v w ∧ Rep g w d v := by
  unfold subAV at h
  split at h
  · rename_i n h1 h2
    split at h
    · rename_i hle
      injection h with h; subst h
      refine ⟨.agg (vs.extract off (off + n)), by simp [part, run_isAgg h1, run_sizeOf h2], .agg _ _ ?_ (fun c hc => ho c (List.mem_of_mem_drop (List.mem_of_mem_take hc))) (fun j c v hc hv => ?_)⟩
      · have := hr.1; simp; omega
      · have hj : j < n := by
          have := (List.getElem?_eq_some_iff.1 hc).1; simp at this; omega
        rw [List.getElem?_take_of_lt hj, List.getElem?_drop] at hc
        have hl := hr.1
        rw [Array.getElem?_extract_of_lt (by omega)] at hv
        exact hr.2 _ c v hc (by rw [Array.getElem?_eq_getElem (by omega)]; exact hv)
    · cases h
  · rename_i n h1 h2
    have hlt : off < vs.size := by rw [hr.1]; exact (List.getElem?_eq_some_iff.1 h).1
    exact ⟨vs[off], by simp [part, run_isAgg h1, Array.getElem?_eq_getElem hlt], hr.2 off d _ h (Array.getElem?_eq_getElem hlt)⟩
  · cases h

theorem part_loop {cmp : TypeId → AV → AV → Option Bool} {mc : TypeId → Value → Value → Sem Bool} (hcmp : ∀ t x y b, cmp t x y = some b → ∀ vx vy, Rep g w x vx → Rep g w y vy → (mc t vx vy).run P w = .ok b w) {xs ys : List AV} {vx vy : Array Value} (hx : Reps g w xs vx) (hy : Reps g w ys vy) (hxo : ∀ c ∈ xs, c.one = true) (hyo : ∀ c ∈ ys, c.one = true)
    {α : Type} (tt : α → TypeId) (to : α → Nat) (body : α → Option Bool × Unit → Sem (ForInStep (Option Bool × Unit))) :
    ∀ (l : List α) (r : Bool), (∀ f ∈ l, ∀ s, body f s = (do let a ← part (tt f) vx (to f); let b ← part (tt f) vy (to f); let r ← mc (tt f) a b; if r = false then pure (ForInStep.done (some false, ())) else pure (ForInStep.yield (none, ())))) →
      aeqs P cmp xs ys (l.map fun f => (tt f, to f)) = some r → (forIn l (none, ()) body).run P w = .ok ((if r then none else some false), ()) w := by
  intro l
  induction l with
  | nil => intro r _ h; simp only [List.map_nil, aeqs] at h; injection h with h; subst h; simp
  | cons f l ih =>
    intro r hbody h
    simp only [List.map_cons, aeqs] at h
    split at h
    · rename_i a b ha hb
      split at h
      · rename_i p q hp hq
        injection h with h; subst h
        obtain ⟨va, h1, h2⟩ := part_ok ha hx hxo
        obtain ⟨vb, h3, h4⟩ := part_ok hb hy hyo
        have h5 := hcmp _ _ _ _ hp va vb h2 h4
        have h6 := ih q (fun f hf => hbody f (List.mem_cons_of_mem _ hf)) hq
        simp only [List.forIn_cons, Sem.run_bind, hbody f (List.mem_cons_self ..), h1, h3, h5, Result.andThen_ok]
        cases p <;> simp [h6]
      · cases h
    · cases h
theorem aeq_ok : ∀ (d : Nat) (t : TypeId) (x y : AV) (b : Bool), aeq P d t x y = some b → ∀ (n : Nat), d ≤ n → ∀ vx vy, Rep g w x vx → Rep g w y vy → (Op.equalIn n t vx vy).run P w = .ok b w := by
  intro d
  induction d with
  | zero => intro t x y b h; cases h
  | succ d ih =>
    intro t x y b h n hn vx vy hx hy
    obtain ⟨n, rfl⟩ : ∃ k, n = k + 1 := ⟨n - 1, by omega⟩
    unfold aeq at h
    split at h
    · rename_i heq; cases heq
    · rename_i xs ys heq
      injection heq with heq; subst heq
      obtain ⟨vs, rfl, hvs, hvo⟩ := hx.agg_inv
      obtain ⟨us, rfl, hus, huo⟩ := hy.agg_inv
      have hcmp : ∀ t x y b, aeq P d t x y = some b → ∀ vx vy, Rep g w x vx → Rep g w y vy → (Op.equalIn n t vx vy).run P w = .ok b w := fun t x y b h vx vy hx hy => ih t x y b h n (by omega) vx vy hx hy
      split at h
      · rename_i l hl
        unfold eqFields at hl
        split at hl
        · rename_i fs hu
          split at hl
          · rename_i hc
            injection hl with hl; subst hl
            simp only [Bool.and_eq_true, Bool.not_eq_true'] at hc
            have hnm : ∀ f ∈ fs.toList, f.name ≠ "_" := by
              intro f hf
              have := hc.1
              rw [← Array.all_toList] at this
              simpa using List.all_eq_true.1 this f hf
            have hloop := fun body hbody => part_loop (body := body) hcmp hvs hus hvo huo (fun f : Field => f.type) (fun f : Field => f.offset) fs.toList b hbody h
            simp only [Op.equalIn, Sem.run_bind, run_under hu, Result.andThen_ok]
            simp [hc.2]
            rw [← Array.forIn_toList, hloop _ (fun f hf s => by simp [hnm f hf])]
            cases b <;> simp
          · cases hl
        · cases hl
      · split at h
        · rename_i m e he
          split at h
          · rename_i s hs
            have hloop := fun body hbody => part_loop (body := body) hcmp hvs hus hvo huo (fun _ : Nat => e) (fun i : Nat => i * s) (List.range' 0 m) b hbody h
            simp only [Op.equalIn, Sem.run_bind, run_under (under_arr he), Result.andThen_ok]
            simp [run_sizeOf hs]
            rw [hloop _ (fun f hf s => by simp)]
            cases b <;> simp
          · cases h
        · cases h
    · rename_i k a k' b' heq
      injection heq with heq; subst heq
      obtain rfl := hx.atom_inv
      obtain rfl := hy.atom_inv
      split at h
      · rename_i hu
        split at h
        · rename_i hk; subst hk; injection h with h; subst h
          simp [Op.equalIn, run_under hu]
        · cases h
      · cases h
    · rename_i a b' heq
      injection heq with heq; subst heq
      obtain rfl := hx.atom_inv
      obtain rfl := hy.atom_inv
      split at h
      · rename_i hu; injection h with h; subst h; simp [Op.equalIn, run_under hu]
      · cases h
    · rename_i a b' heq
      injection heq with heq; subst heq
      obtain rfl := hx.atom_inv
      obtain rfl := hy.atom_inv
      split at h
      · rename_i hu; injection h with h; subst h; simp [Op.equalIn, run_under hu]
      · cases h
    · cases h
theorem abin_ok {op : BinOp} {xt : TypeId} {x y d : AV} {vx vy : Value} (ox oy : Operand) (h : abin P op xt x y = some d) (hx : Rep g w x vx) (hy : Rep g w y vy) :
    ∃ v, (do eqGuard op xt ox oy vx vy; binOp op xt vx vy : Sem Value).run P w = .ok v w ∧ Rep g w d v := by
  unfold abin at h
  split at h
  · rename_i k a k' b
    obtain rfl := hx.atom_inv
    obtain rfl := hy.atom_inv
    have hg : (eqGuard op xt ox oy (.int k a) (.int k' b)).run P w = .ok () w := by
      unfold eqGuard
      cases op <;> simp
    simp only [Sem.run_bind, hg, Result.andThen_ok]
    split at h
    · simp only [ashift] at h
      split at h
      · cases h
      · rename_i hb
        injection h with h; subst h
        exact ⟨_, by simp [binOp, Op.shift, hb], .atom _ rfl⟩
    · simp only [ashift] at h
      split at h
      · cases h
      · rename_i hb
        injection h with h; subst h
        exact ⟨_, by simp [binOp, Op.shift, hb], .atom _ rfl⟩
    · split at h
      · rename_i hk
        subst hk
        exact aintop_ok h xt
      · cases h
  · rename_i a b
    obtain rfl := hx.atom_inv
    obtain rfl := hy.atom_inv
    have hg : (eqGuard op xt ox oy (.bool a) (.bool b)).run P w = .ok () w := by
      unfold eqGuard
      cases op <;> simp
    simp only [Sem.run_bind, hg, Result.andThen_ok]
    split at h
    · rename_i hu
      injection h with h; subst h
      exact ⟨_, by simp only [binOp, Sem.run_bind, run_equal_bool hu, Result.andThen_ok, Sem.run_pure], .atom _ rfl⟩
    · rename_i hu
      injection h with h; subst h
      exact ⟨_, by simp only [binOp, Sem.run_bind, run_equal_bool hu, Result.andThen_ok, Sem.run_pure], .atom _ rfl⟩
    · cases h
  · rename_i xs ys
    obtain ⟨vs, rfl, _⟩ := hx.agg_inv
    obtain ⟨us, rfl, _⟩ := hy.agg_inv
    have hg : guardT P xt = false → (eqGuard op xt ox oy (.agg vs) (.agg us)).run P w = .ok () w := by
      intro hgt
      unfold guardT at hgt
      unfold eqGuard
      cases op <;> simp [hgt]
    split at h
    · split at h
      · rename_i hgd
        cases he : aeq P 9 xt (.agg xs) (.agg ys) with
        | none => rw [he] at h; cases h
        | some b =>
          rw [he] at h; injection h with h; subst h
          have h1 := aeq_ok 9 xt _ _ b he 10000 (by omega) _ _ hx hy
          exact ⟨_, by simp only [Sem.run_bind, hg hgd, Result.andThen_ok, binOp, Op.equal, Op.maxDepth, h1, Sem.run_pure], .atom _ rfl⟩
      · cases h
    · split at h
      · rename_i hgd
        cases he : aeq P 9 xt (.agg xs) (.agg ys) with
        | none => rw [he] at h; cases h
        | some b =>
          rw [he] at h; injection h with h; subst h
          have h1 := aeq_ok 9 xt _ _ b he 10000 (by omega) _ _ hx hy
          exact ⟨_, by simp only [Sem.run_bind, hg hgd, Result.andThen_ok, binOp, Op.equal, Op.maxDepth, h1, Sem.run_pure], .atom _ rfl⟩
      · cases h
    · cases h
  · cases h

theorem afield_ok {t : TypeId} {x d : AV} {vx : Value} {f : Nat} (h : afield P t x f = some d) (hx : Rep g w x vx) : ∃ v, (Instr.field t vx f).run P w = .ok v w ∧ Rep g w d v := by
  unfold afield at h
  split at h
  · rename_i ft o cs hf
    obtain ⟨fs, fd, hu, hfd, h1, h2⟩ := field_of hf
    obtain ⟨vs, rfl, hr, ho⟩ := hx.agg_inv
    obtain ⟨v, h3, h4⟩ := part_ok h hr ho
    exact ⟨v, by simp [Instr.field, run_under hu, hfd, asAgg, h1, h2, h3], h4⟩
  · cases h

theorem aindex_ok {t : TypeId} {x i d : AV} {vx vi : Value} (h : aindex P t x i = some d) (hx : Rep g w x vx) (hi : Rep g w i vi) : ∃ v, (Instr.index t vx vi).run P w = .ok v w ∧ Rep g w d v := by
  unfold aindex at h
  split at h
  · rename_i k n cs len e he
    obtain rfl := hi.atom_inv
    obtain ⟨vs, rfl, hr, ho⟩ := hx.agg_inv
    split at h
    · rename_i s hs
      split at h
      · rename_i h0
        obtain ⟨v, h3, h4⟩ := part_ok h hr ho
        exact ⟨v, by simp [Instr.index, asIntOf, run_under (under_arr he), run_sizeOf hs, h0.1, h0.2, h3], h4⟩
      · cases h
    · cases h
  · cases h

theorem alen_ok {t : TypeId} {x d : AV} {vx : Value} (ty : TypeId) (ts : Array TypeId) (ht : ts[0]? = some t) (h : alen P t x = some d) (hx : Rep g w x vx) : ∃ v, (Builtin.len_ ts ty #[vx]).run P w = .ok v w ∧ Rep g w d v := by
  unfold alen at h
  split at h
  · rename_i own es e hu
    injection h with h; subst h
    rcases hx.slice_inv with ⟨rfl, _, _, rfl, _⟩ | ⟨b, o, cap, sz, rfl, _⟩
    · exact ⟨_, by simp [Builtin.len_, ht, run_under hu]; rfl, .atom _ rfl⟩
    · exact ⟨_, by simp [Builtin.len_, ht, run_under hu]; rfl, .atom _ rfl⟩
  · rename_i id off len sz k e hu
    injection h with h; subst h
    obtain ⟨a, cap, rfl, _⟩ := hx.vec_inv
    exact ⟨_, by simp [Builtin.len_, ht, run_under hu]; rfl, .atom _ rfl⟩
  · rename_i s hu
    obtain rfl := hx.atom_inv
    injection h with h; subst h
    exact ⟨_, by simp [Builtin.len_, ht, run_under hu]; rfl, .atom _ rfl⟩
  · rename_i n e hu
    injection h with h; subst h
    exact ⟨_, by simp [Builtin.len_, ht, run_under hu]; rfl, .atom _ rfl⟩
  · cases h

theorem Rep.forget {own : Own} {es : List AV} {v : Value} (h : Rep g w (.slice own es) v) : Rep g w (.slice .foreign es) v := by
  rcases h.slice_inv with ⟨rfl, _, _, rfl, _⟩ | ⟨b, o, cap, sz, rfl, hz, hs, hi, hc, hcap, _⟩
  · exact .nil _ _ _ (fun id e => by cases e) (fun e => by cases e)
  · exact Rep.slice_mk hz hs hi hc hcap trivial

theorem aslice_ok {t : TypeId} {x d : AV} {lo hi mx : Option AV} {vx : Value} {vlo vhi vmx : Option Value} (h : aslice P t x lo hi mx = some d) (hx : Rep g w x vx)
    (h1 : vlo.isSome = lo.isSome) (h2 : vhi.isSome = hi.isSome) (h3 : vmx.isSome = mx.isSome) (k1 : ∀ a v, lo = some a → vlo = some v → Rep g w a v) (k2 : ∀ a v, hi = some a → vhi = some v → Rep g w a v) (k3 : ∀ a v, mx = some a → vmx = some v → Rep g w a v) :
    ∃ v, (Instr.sliceAt t vx vlo vhi vmx).run P w = .ok v w ∧ Rep g w d v := by
  unfold aslice at h
  split at h
  · rename_i own es e he
    split at h
    · rename_i s l hh k hs hl hhi hk
      split at h
      · rename_i hc
        obtain ⟨c1, c2, c3, c4, c5, c6, c7⟩ := hc
        injection h with h; subst h
        have hb : ∀ (x : Option AV) (vx : Option Value) (d : Nat) (n : Int), vx.isSome = x.isSome → (∀ a v, x = some a → vx = some v → Rep g w a v) → abound x d = some n → (x = none ∧ vx = none ∧ n = d) ∨ (∃ kd, vx = some (.int kd n) ∧ x = some (.atom (.int kd n))) := by
          intro x vx d n hs hr ha
          cases x with
          | none => cases vx with
            | none => simp [abound] at ha; exact .inl ⟨rfl, rfl, ha.symm⟩
            | some v => simp at hs
          | some a => cases vx with
            | none => simp at hs
            | some v =>
              have := hr a v rfl rfl
              unfold abound at ha
              split at ha
              · cases ‹some a = none›
              · rename_i heq; injection heq with heq; subst heq; injection ha with ha; subst ha; exact .inr ⟨_, by rw [this.atom_inv], rfl⟩
              · cases ha
        have bl := hb lo vlo 0 l h1 k1 hl
        have bh := hb hi vhi es.length hh h2 k2 hhi
        have bk := hb mx vmx es.length k h3 k3 hk
        have hbound : ∀ (kd : IntKind) (n : Int) (y : Nat) (cd : BoundsCode), 0 ≤ n → n ≤ y → (Instr.sliceBound (.int kd n) y cd).run P w = .ok n.toNat w := by
          intro kd n y cd a b
          simp [Instr.sliceBound, asIntOf, a, b]
        have hsb : ∀ cap, es.length ≤ cap → (Instr.sliceBounds true es.length cap vlo vhi vmx).run P w = .ok (l.toNat, hh.toNat, if mx.isSome then k.toNat else cap) w := by
          intro cap hcap
          rcases bk with ⟨rfl, rfl, rfl⟩ | ⟨kd, rfl, rfl⟩
          · rcases bh with ⟨rfl, rfl, rfl⟩ | ⟨kd, rfl, rfl⟩ <;> rcases bl with ⟨rfl, rfl, rfl⟩ | ⟨kd', rfl, rfl⟩
            · simp [Instr.sliceBounds]
            · simp [Instr.sliceBounds, hbound kd' l es.length _ c1 c2]
            · simp [Instr.sliceBounds, hbound kd hh cap _ (by omega) (by omega)]
            · simp [Instr.sliceBounds, hbound kd hh cap _ (by omega) (by omega), hbound kd' l hh.toNat _ c1 (by omega)]
          · rcases bh with ⟨rfl, rfl, rfl⟩ | ⟨kd2, rfl, rfl⟩
            · simp at c5
            · rcases bl with ⟨rfl, rfl, rfl⟩ | ⟨kd', rfl, rfl⟩
              · simp [Instr.sliceBounds, hbound kd k cap _ (by omega) (by omega), hbound kd2 hh k.toNat _ (by omega) (by omega)]
              · simp [Instr.sliceBounds, hbound kd k cap _ (by omega) (by omega), hbound kd2 hh k.toNat _ (by omega) (by omega), hbound kd' l hh.toNat _ c1 (by omega)]
        have hlen : ((es.take hh.toNat).drop l.toNat).length = hh.toNat - l.toNat := by simp; omega
        have hrun : ∀ (a : Option Addr) (cap : Nat), es.length ≤ cap → (Instr.sliceAt t (.slice a es.length cap) vlo vhi vmx).run P w =
            .ok (.slice (if (if mx.isSome then k.toNat else cap) = l.toNat then a else a.map (·.add (l.toNat * s))) (hh.toNat - l.toNat) ((if mx.isSome then k.toNat else cap) - l.toNat)) w := by
          intro a cap hcap
          simp [Instr.sliceAt, Instr.slice, run_under (under_elem he), hsb cap hcap, run_sizeOf hs]
        rcases hx.slice_inv with ⟨rfl, a0, cap0, rfl, hf0, _⟩ | ⟨b, o, cap, sz, rfl, hz, hsz, himm, hcell, hcap, _⟩
        · have e0 : l = 0 ∧ hh = 0 ∧ k = 0 := by simp at c4; omega
          obtain ⟨rfl, rfl, rfl⟩ := e0
          have := hrun a0 cap0 (Nat.zero_le _)
          refine ⟨_, this, ?_⟩
          simp only [List.take_nil, List.drop_nil]
          refine .nil _ _ _ (fun id e => by split at e <;> cases e) (fun e => ?_)
          split at e
          · rename_i h5; rw [if_pos h5.1]; rfl
          · cases e
        · refine ⟨_, hrun _ cap hcap, ?_⟩
          have key : ∀ (own : Own) (a' : Option Addr) (cap' : Nat), (hh.toNat - l.toNat ≠ 0 → a' = some ⟨b, o + l.toNat * s, none⟩) → (∃ o', a' = some ⟨b, o', none⟩) → hh.toNat - l.toNat ≤ cap' → (∀ id, own ≠ .row id) → (own = .full → cap' = hh.toNat - l.toNat) →
              Rep g w (.slice own ((es.take hh.toNat).drop l.toNat)) (.slice a' (hh.toNat - l.toNat) cap') := by
            intro own a' cap' ha1 ha2 hcap' hnr hf
            have hown : ∀ o' sz', OwnOk g w own b o' ((es.take hh.toNat).drop l.toNat).length cap' sz' := by
              intro o' sz'
              cases own with
              | foreign => trivial
              | full => rw [hlen]; exact hf rfl
              | row id => exact absurd rfl (hnr id)
            by_cases h0 : hh.toNat - l.toNat = 0
            · have hnil : (es.take hh.toNat).drop l.toNat = [] := List.eq_nil_of_length_eq_zero (by rw [hlen]; exact h0)
              obtain ⟨o', rfl⟩ := ha2
              have := Rep.slice_mk (g := g) (w := w) (own := own) (es := []) (b := b) (o := o') (cap := cap') (sz := 1) (by omega) (by simp) (fun h => absurd rfl h) (by simp) (by simp) (by have := hown o' 1; rw [hnil] at this; exact this)
              rw [hnil, h0]
              exact this
            · rw [ha1 h0, ← hlen]
              have hne : es ≠ [] := by rintro rfl; simp at c4; omega
              have hss : sz = s := by
                obtain ⟨e0, h0'⟩ := List.exists_mem_of_ne_nil es hne
                rw [← hsz e0 h0', c6 e0 h0']
              subst hss
              refine Rep.slice_mk hz (fun e he => hsz e (List.mem_of_mem_take (List.mem_of_mem_drop he))) (fun _ => Imm.mono (himm hne) ?_) (fun i e hie => ?_) (by rw [hlen]; exact hcap') (hown _ _)
              · rw [hlen, Nat.add_assoc, ← Nat.add_mul]
                have : (l.toNat + (hh.toNat - l.toNat)) * sz ≤ es.length * sz := Nat.mul_le_mul_right _ (by omega)
                omega
              · rw [List.getElem?_drop] at hie
                have hlt : l.toNat + i < hh.toNat := by
                  have := (List.getElem?_eq_some_iff.1 hie).1; simp at this; omega
                rw [List.getElem?_take_of_lt hlt] at hie
                have := hcell _ e hie
                rw [Nat.add_mul, ← Nat.add_assoc] at this
                exact this
          refine key _ _ _ ?_ ?_ ?_ ?_ ?_
          · intro h0
            rw [if_neg (by split <;> omega)]
            simp [add_plain]
          · by_cases hk0 : (if mx.isSome then k.toNat else cap) = l.toNat
            · exact ⟨o, by rw [if_pos hk0]⟩
            · exact ⟨o + l.toNat * s, by rw [if_neg hk0]; simp [add_plain]⟩
          · split <;> omega
          · intro id e
            split at e <;> cases e
          · intro e
            split at e
            · rename_i h5
              rw [if_pos h5.1]; have := h5.2; omega
            · cases e
      · cases h
    · cases h
  · rename_i id off len sz kc e he
    split at h
    · rename_i s l hh k hs hl hhi hk
      split at h
      · rename_i hc
        obtain ⟨c1, c2, c3, c4, c5, rfl⟩ := hc
        have hb : ∀ (x : Option AV) (vx : Option Value) (d : Nat) (n : Int), vx.isSome = x.isSome → (∀ a v, x = some a → vx = some v → Rep g w a v) → abound x d = some n → (x = none ∧ vx = none ∧ n = d) ∨ (∃ kd, vx = some (.int kd n) ∧ x = some (.atom (.int kd n))) := by
          intro x vx d n hs hr ha
          cases x with
          | none => cases vx with
            | none => simp [abound] at ha; exact .inl ⟨rfl, rfl, ha.symm⟩
            | some v => simp at hs
          | some a => cases vx with
            | none => simp at hs
            | some v =>
              have := hr a v rfl rfl
              unfold abound at ha
              split at ha
              · cases ‹some a = none›
              · rename_i heq; injection heq with heq; subst heq; injection ha with ha; subst ha; exact .inr ⟨_, by rw [this.atom_inv], rfl⟩
              · cases ha
        have bl := hb lo vlo 0 l h1 k1 hl
        have bh := hb hi vhi len hh h2 k2 hhi
        have bk := hb mx vmx len k h3 k3 hk
        have hbound : ∀ (kd : IntKind) (n : Int) (y : Nat) (cd : BoundsCode), 0 ≤ n → n ≤ y → (Instr.sliceBound (.int kd n) y cd).run P w = .ok n.toNat w := by
          intro kd n y cd a b
          simp [Instr.sliceBound, asIntOf, a, b]
        obtain ⟨a, cap, rfl, hspot, hz, hcap, hfull, hg, hadr⟩ := hx.vec_inv
        have hsb : (Instr.sliceBounds true len cap vlo vhi vmx).run P w = .ok (l.toNat, hh.toNat, if mx.isSome then k.toNat else cap) w := by
          rcases bk with ⟨rfl, rfl, rfl⟩ | ⟨kd, rfl, rfl⟩
          · rcases bh with ⟨rfl, rfl, rfl⟩ | ⟨kd, rfl, rfl⟩ <;> rcases bl with ⟨rfl, rfl, rfl⟩ | ⟨kd', rfl, rfl⟩
            · simp [Instr.sliceBounds]
            · simp [Instr.sliceBounds, hbound kd' l len _ c1 c2]
            · simp [Instr.sliceBounds, hbound kd hh cap _ (by omega) (by omega)]
            · simp [Instr.sliceBounds, hbound kd hh cap _ (by omega) (by omega), hbound kd' l hh.toNat _ c1 (by omega)]
          · rcases bh with ⟨rfl, rfl, rfl⟩ | ⟨kd2, rfl, rfl⟩
            · simp at c5
            · rcases bl with ⟨rfl, rfl, rfl⟩ | ⟨kd', rfl, rfl⟩
              · simp [Instr.sliceBounds, hbound kd k cap _ (by omega) (by omega), hbound kd2 hh k.toNat _ (by omega) (by omega)]
              · simp [Instr.sliceBounds, hbound kd k cap _ (by omega) (by omega), hbound kd2 hh k.toNat _ (by omega) (by omega), hbound kd' l hh.toNat _ c1 (by omega)]
        have hrun : (Instr.sliceAt t (.slice (some a) len cap) vlo vhi vmx).run P w =
            .ok (.slice (if (if mx.isSome then k.toNat else cap) = l.toNat then some a else some (a.add (l.toNat * s))) (hh.toNat - l.toNat) ((if mx.isSome then k.toNat else cap) - l.toNat)) w := by
          simp [Instr.sliceAt, Instr.slice, run_under (under_elem he), hsb, run_sizeOf hs]
        refine ⟨_, hrun, ?_⟩
        obtain ⟨cc, hcc, hcc1, hcc2⟩ : ∃ cc, (if mx.isSome then k.toNat else cap) = cc ∧ (mx.isSome = true → cc = k.toNat) ∧ (¬ mx.isSome = true → cc = cap) := ⟨_, rfl, fun h => if_pos h, fun h => if_neg h⟩
        rw [hcc]
        have hle : cc ≤ cap ∧ hh.toNat ≤ cc := by
          by_cases hm : mx.isSome = true
          · have := hcc1 hm; omega
          · have := hcc2 hm; omega
        split at h
        · rename_i hlh
          injection h with h; subst h
          obtain ⟨rfl, hpos⟩ := hlh
          have e0 : l.toNat - l.toNat = 0 := by omega
          rw [e0]
          obtain ⟨adr, hadr'⟩ : ∃ adr : Addr, (if cc = l.toNat then some a else some (a.add (l.toNat * s))) = some ⟨adr.block, adr.off, none⟩ := by
            split
            · exact ⟨a, congrArg some (Addr.eq_none hspot)⟩
            · exact ⟨a.add (l.toNat * s), congrArg some (Addr.eq_none (Addr.add_none hspot _).1)⟩
          rw [hadr']
          refine Rep.slice_mk (es := []) (sz := 1) (by omega) (by simp) (fun h => absurd rfl h) (by simp) (by simp) ?_
          split
          · rename_i hm
            have := hcc1 hm.1
            have h2 := hm.2
            simp only [OwnOk, List.length_nil]; omega
          · trivial
        · rename_i hlh
          injection h with h; subst h
          have hn : (hh - l).toNat = hh.toNat - l.toNat := by omega
          rw [hn]
          have hadr' : (if cc = l.toNat then some a else some (a.add (l.toNat * s))) = some (a.add (l.toNat * s)) := by
            split
            · rename_i e1
              have : l.toNat = 0 := by omega
              rw [this, Nat.zero_mul, (Addr.add_none hspot 0).2]
              exact congrArg some (Addr.eq_none hspot)
            · rfl
          rw [hadr']
          refine .vec id _ _ s _ _ _ (Addr.add_none hspot _).1 hz (by omega) (fun hk' => ?_) hg (fun b hb => ?_)
          · by_cases hmx : mx.isSome = true
            · rw [if_pos hmx] at hk'
              have := hcc1 hmx
              by_cases e1 : hh = k
              · subst e1; omega
              · rw [if_neg e1] at hk'; cases hk'
            · rw [if_neg hmx] at hk'
              have := hcc2 hmx
              by_cases e1 : kc = .opn
              · rw [if_pos e1] at hk'; cases hk'
              · rw [if_neg e1] at hk'
                by_cases e2 : hh = len
                · rw [if_pos e2] at hk'; have := hfull hk'; omega
                · rw [if_neg e2] at hk'; cases hk'
          · obtain ⟨e1, arr, ty, h4, h5, h6⟩ := hadr b hb
            refine ⟨by rw [e1, add_plain], arr, ty, h4, ?_, fun hk' => ?_⟩
            · have : l.toNat * s + (cc - l.toNat) * s ≤ cap * s := by rw [← Nat.add_mul]; exact Nat.mul_le_mul_right _ (by omega)
              omega
            · by_cases hmx : mx.isSome = true
              · rw [if_pos hmx] at hk'
                split at hk' <;> cases hk'
              · rw [if_neg hmx] at hk'
                have e0 := hcc2 hmx
                have e2 : kc = .opn := by
                  by_cases e2 : kc = .opn
                  · exact e2
                  · rw [if_neg e2] at hk'
                    by_cases e3 : hh = len
                    · rw [if_pos e3] at hk'; exact absurd hk' e2
                    · rw [if_neg e3] at hk'; cases hk'
                have := h6 e2
                have : l.toNat * s + (cc - l.toNat) * s = cap * s := by rw [← Nat.add_mul]; congr 1; omega
                omega
      · cases h
    · cases h
  · cases h
end
end Go.Proofs.Ytakmilmckdllfaa.G
