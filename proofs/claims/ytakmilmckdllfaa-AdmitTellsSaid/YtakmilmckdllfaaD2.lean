/-
What the caller's data is, told as the program's data.
-/
import Derived.Test.YtakmilmckdllfaaG20
import Derived.Test.YtakmilmckdllfaaL5
import Derived.KernelRfl
set_option linter.unusedVariables false
set_option linter.unusedSimpArgs false
namespace Go.Proofs.Ytakmilmckdllfaa.G

def structT (P : Program) (t : TypeId) : Option (List (TypeId × Nat × Nat)) := match P.underlying t with
  | some (.struct fs) => some (fs.toList.map fun f => (f.type, f.offset, P.cellsOf f.type))
  | _ => none
theorem Wt.int_inv {P : Program} {t : TypeId} {k : IntKind} {cs : List AV} (ht : P.underlying t = some (.int k)) (h : Wt P t cs) : ∃ n, cs = [.atom (.int k n)] ∧ k.min ≤ n ∧ n ≤ k.max := by
  cases h <;> rename_i h1 <;> simp_all
theorem Wt.bool_inv {P : Program} {t : TypeId} {cs : List AV} (ht : P.underlying t = some .bool) (h : Wt P t cs) : ∃ b, cs = [.bool b] := by
  cases h <;> rename_i h1 <;> simp_all
theorem Wt.slice_inv {P : Program} {t e : TypeId} {cs : List AV} (ht : P.underlying t = some (.slice e)) (h : Wt P t cs) : ∃ es, cs = [.slice .foreign es] ∧ es.length ≤ maxLen ∧ (∀ x ∈ es, Wt P e x.cells) ∧ ∀ x ∈ es, ofCells P e x.cells = some x := by
  cases h <;> rename_i h1 <;> simp_all
theorem Wt.struct_inv {P : Program} {t : TypeId} {cs : List AV} {l : List (TypeId × Nat × Nat)} (ht : structT P t = some l) (h : Wt P t cs) : cs.length = P.cellsOf t ∧ ∀ (i : Nat) (ty off sz : Nat), l[i]? = some (ty, off, sz) → Wt P ty ((cs.drop off).take sz) := by
  unfold structT at ht
  split at ht
  · rename_i fs hu
    injection ht with ht; subst ht
    cases h <;> rename_i h1 <;> simp_all
    rename_i h2
    intro i ty off sz x hx e1 e2 e3
    subst e1 e2 e3
    exact h2 i x hx
  · cases ht
theorem set_mk {n : Int} (h1 : IntKind.u64.min ≤ n) (h2 : n ≤ IntKind.u64.max) : AV.u64 n = .set (BitVec.ofNat 64 n.toNat) := by
  have e1 : IntKind.u64.min = 0 := by decide
  have e2 : IntKind.u64.max = 18446744073709551615 := by decide
  rw [e1] at h1; rw [e2] at h2
  simp only [AV.set, BitVec.toNat_ofNat]
  congr 2; omega
theorem uncons {α : Type} {cs : List α} {n : Nat} (h : cs.length = n + 1) : ∃ c tl, cs = c :: tl ∧ tl.length = n := by
  cases cs with
  | nil => simp at h
  | cons c tl => exact ⟨c, tl, rfl, by simpa using h⟩
theorem Wt.i64 {P : Program} {t : TypeId} {c : AV} (ht : P.underlying t = some (.int .i64)) (h : Wt P t [c]) : ∃ n, c = .i64 n := by
  obtain ⟨n, hn, _⟩ := h.int_inv ht
  injection hn with hn; exact ⟨n, hn⟩
theorem Wt.set {P : Program} {t : TypeId} {c : AV} (ht : P.underlying t = some (.int .u64)) (h : Wt P t [c]) : ∃ s, c = .set s := by
  obtain ⟨n, hn, h1, h2⟩ := h.int_inv ht
  injection hn with hn; subst hn
  exact ⟨_, set_mk h1 h2⟩
theorem Wt.b {P : Program} {t : TypeId} {c : AV} (ht : P.underlying t = some .bool) (h : Wt P t [c]) : ∃ n, c = .bool n := by
  obtain ⟨n, hn⟩ := h.bool_inv ht
  injection hn with hn; exact ⟨n, hn⟩
theorem rowsOf {P : Program} {e : TypeId} {α : Type} {f : α → AV} {G : α → Prop} (hagg : ∀ x, ofCells P e (f x).cells = some (f x)) {es : List AV} (h2 : ∀ x ∈ es, ∃ y, x.cells = (f y).cells ∧ G y) (h3 : ∀ x ∈ es, ofCells P e x.cells = some x) : ∃ l : List α, es = l.map f ∧ ∀ x ∈ l, G x := by
  induction es with
  | nil => exact ⟨[], rfl, by simp⟩
  | cons e es ih =>
    obtain ⟨l, rfl, hl⟩ := ih (fun x hx => h2 x (List.mem_cons_of_mem _ hx)) fun x hx => h3 x (List.mem_cons_of_mem _ hx)
    obtain ⟨x, hx, gx⟩ := h2 e (by simp)
    have := h3 e (by simp)
    rw [hx, hagg] at this
    injection this with this
    exact ⟨x :: l, by rw [← this]; rfl, fun y hy => (List.mem_cons.1 hy).elim (fun h => h ▸ gx) (hl y)⟩
theorem Wt.rows {P : Program} {t e : TypeId} {c : AV} {α : Type} {f : α → AV} {G : α → Prop} (ht : P.underlying t = some (.slice e)) (h : Wt P t [c]) (hr : ∀ cs, Wt P e cs → ∃ x, cs = (f x).cells ∧ G x) (hagg : ∀ x, ofCells P e (f x).cells = some (f x)) : ∃ l : List α, c = .slice .foreign (l.map f) ∧ l.length < 9223372036854775808 ∧ ∀ x ∈ l, G x := by
  obtain ⟨es, hn, h1, h2, h3⟩ := h.slice_inv ht
  injection hn with hn; subst hn
  obtain ⟨l, rfl, hl⟩ := rowsOf hagg (fun x hx => hr _ (h2 x hx)) h3
  refine ⟨l, rfl, ?_, hl⟩
  simp [maxLen] at h1
  omega
theorem structT_field {P : Program} {t : TypeId} {fs : Array Field} {l : List (TypeId × Nat × Nat)} {i ty off sz : Nat} (ht : structT P t = some l) (hu : P.underlying t = some (.struct fs)) (hi : l[i]? = some (ty, off, sz)) : ∃ f, fs[i]? = some f ∧ f.type = ty ∧ f.offset = off ∧ P.cellsOf f.type = sz := by
  unfold structT at ht
  rw [hu] at ht
  injection ht with ht; subst ht
  simp at hi
  obtain ⟨f, hf, h1, h2, h3⟩ := hi
  exact ⟨f, hf, h1, h2, h3⟩
theorem structT_u {P : Program} {t : TypeId} {l : List (TypeId × Nat × Nat)} (ht : structT P t = some l) : ∃ fs, P.underlying t = some (.struct fs) := by
  unfold structT at ht
  split at ht
  · exact ⟨_, by assumption⟩
  · cases ht
theorem st_val : structT Try.prog 38 = some [(4, 0, 1), (2, 1, 1)] := by kernel_rfl
theorem st_trm : structT Try.prog 40 = some [(3, 0, 1), (3, 1, 1), (3, 2, 1), (38, 3, 2)] := by kernel_rfl
theorem st_prd : structT Try.prog 42 = some [(3, 0, 1), (3, 1, 1), (3, 2, 1), (40, 3, 5), (40, 8, 5), (33, 13, 1)] := by kernel_rfl
theorem st_edg : structT Try.prog 35 = some [(3, 0, 1), (33, 1, 1), (32, 2, 1), (32, 3, 1), (32, 4, 1)] := by kernel_rfl
theorem wt_trm {cs : List AV} (h : Wt Try.prog 40 cs) : ∃ t : Trm, cs = [.i64 t.kind, .i64 t.table, .i64 t.col, .bool t.null, .i64 t.n] := by
  obtain ⟨hl, hf⟩ := h.struct_inv st_trm
  rw [show Try.prog.cellsOf 40 = 5 by kernel_rfl] at hl
  obtain ⟨c0, ds, rfl, hn0⟩ := uncons hl
  obtain ⟨c1, es, rfl, hn1⟩ := uncons hn0
  obtain ⟨c2, fs, rfl, hn2⟩ := uncons hn1
  obtain ⟨c3, gs, rfl, hn3⟩ := uncons hn2
  obtain ⟨c4, hs, rfl, hn4⟩ := uncons hn3
  obtain rfl := List.length_eq_zero_iff.1 hn4
  obtain ⟨k, rfl⟩ := Wt.i64 t3_u (show Wt Try.prog 3 [c0] from hf 0 _ _ _ rfl)
  obtain ⟨t, rfl⟩ := Wt.i64 t3_u (show Wt Try.prog 3 [c1] from hf 1 _ _ _ rfl)
  obtain ⟨o, rfl⟩ := Wt.i64 t3_u (show Wt Try.prog 3 [c2] from hf 2 _ _ _ rfl)
  obtain ⟨_, hg⟩ := (show Wt Try.prog 38 [c3, c4] from hf 3 _ _ _ rfl).struct_inv st_val
  obtain ⟨b, rfl⟩ := Wt.b t4_u (show Wt Try.prog 4 [c3] from hg 0 _ _ _ rfl)
  obtain ⟨n, rfl⟩ := Wt.i64 t2_u (show Wt Try.prog 2 [c4] from hg 1 _ _ _ rfl)
  exact ⟨⟨k, t, o, b, n⟩, rfl⟩
theorem prd_of (p : Prd) : ofCells Try.prog 42 p.av.cells = some p.av := by
  unfold ofCells
  rw [t42_agg]
  cases p; simp only [Prd.av_mk, AV.cells]
theorem edg_of (e : Edg) : ofCells Try.prog 35 e.av.cells = some e.av := by
  unfold ofCells
  rw [t35_agg]; rfl
theorem wt_prd' {t : TypeId} {cs : List AV} (h : Wt Try.prog t cs) : (t = 42 → ∃ p : Prd, cs = p.av.cells ∧ Prd.small 9223372036854775808 p) ∧ (t = 33 → ∃ ps : List Prd, cs = [.prds ps] ∧ ps.length < 9223372036854775808 ∧ ∀ p ∈ ps, Prd.small 9223372036854775808 p) := by
  obtain ⟨fs, hfs⟩ := structT_u st_prd
  have hsl := t33_u
  induction h with
  | bool t b ht => exact ⟨fun h => by (subst h; rw [hfs] at ht; cases ht), fun h => by (subst h; rw [hsl] at ht; cases ht)⟩
  | int t b n ht => exact ⟨fun h => by (subst h; rw [hfs] at ht; cases ht), fun h => by (subst h; rw [hsl] at ht; cases ht)⟩
  | string t b ht => exact ⟨fun h => by (subst h; rw [hfs] at ht; cases ht), fun h => by (subst h; rw [hsl] at ht; cases ht)⟩
  | array t b n cs ht => exact ⟨fun h => by (subst h; rw [hfs] at ht; cases ht), fun h => by (subst h; rw [hsl] at ht; cases ht)⟩
  | slice t e es ht hl h hf ih =>
    refine ⟨fun h => by (subst h; rw [hfs] at ht; cases ht), fun h => ?_⟩
    subst h
    rw [hsl] at ht
    injection ht with ht; injection ht with ht; subst ht
    obtain ⟨l, rfl, hg⟩ := rowsOf prd_of (fun x hx => (ih x hx).1 rfl) hf
    exact ⟨l, rfl, by simp [maxLen] at hl; omega, hg⟩
  | struct t fs' cs ht hl h ih =>
    refine ⟨fun e => ?_, fun h => by (subst h; rw [hsl] at ht; cases ht)⟩
    subst e
    obtain ⟨_, hf⟩ := (Wt.struct _ _ _ ht hl h).struct_inv st_prd
    rw [show Try.prog.cellsOf 42 = 14 by kernel_rfl] at hl
    obtain ⟨f, h1, h2, h3, h4⟩ := structT_field (i := 5) st_prd ht rfl
    have hi := (ih 5 f h1).2 h2
    rw [h3, h4] at hi
    clear ih h h1 h2 h3 h4
    obtain ⟨c0, d0, rfl, hn0⟩ := uncons hl
    obtain ⟨c1, d1, rfl, hn1⟩ := uncons hn0
    obtain ⟨c2, d2, rfl, hn2⟩ := uncons hn1
    obtain ⟨c3, d3, rfl, hn3⟩ := uncons hn2
    obtain ⟨c4, d4, rfl, hn4⟩ := uncons hn3
    obtain ⟨c5, d5, rfl, hn5⟩ := uncons hn4
    obtain ⟨c6, d6, rfl, hn6⟩ := uncons hn5
    obtain ⟨c7, d7, rfl, hn7⟩ := uncons hn6
    obtain ⟨c8, d8, rfl, hn8⟩ := uncons hn7
    obtain ⟨c9, d9, rfl, hn9⟩ := uncons hn8
    obtain ⟨c10, d10, rfl, hn10⟩ := uncons hn9
    obtain ⟨c11, d11, rfl, hn11⟩ := uncons hn10
    obtain ⟨c12, d12, rfl, hn12⟩ := uncons hn11
    obtain ⟨c13, d13, rfl, hn13⟩ := uncons hn12
    obtain rfl := List.length_eq_zero_iff.1 hn13
    obtain ⟨k, rfl⟩ := Wt.i64 t3_u (show Wt Try.prog 3 [c0] from hf 0 _ _ _ rfl)
    obtain ⟨t, rfl⟩ := Wt.i64 t3_u (show Wt Try.prog 3 [c1] from hf 1 _ _ _ rfl)
    obtain ⟨o, rfl⟩ := Wt.i64 t3_u (show Wt Try.prog 3 [c2] from hf 2 _ _ _ rfl)
    obtain ⟨a, ha⟩ := wt_trm (show Wt Try.prog 40 [c3, c4, c5, c6, c7] from hf 3 _ _ _ rfl)
    obtain ⟨b, hb⟩ := wt_trm (show Wt Try.prog 40 [c8, c9, c10, c11, c12] from hf 4 _ _ _ rfl)
    obtain ⟨ps, hp, hp1, hp2⟩ := hi
    simp only [List.cons.injEq, and_true] at ha hb
    obtain ⟨rfl, rfl, rfl, rfl, rfl⟩ := ha
    obtain ⟨rfl, rfl, rfl, rfl, rfl⟩ := hb
    have hp : [c13] = [.prds ps] := hp
    injection hp with hp; subst hp
    exact ⟨.mk k t o a b ps, by simp only [Prd.av_mk, AV.cells], by rw [small_mk]; exact ⟨hp1, hp2⟩⟩
theorem wt_prds {c : AV} (h : Wt Try.prog 33 [c]) : ∃ ps : List Prd, c = .prds ps ∧ ps.length < 9223372036854775808 ∧ ∀ p ∈ ps, Prd.small 9223372036854775808 p := by
  obtain ⟨ps, h1, h2⟩ := (wt_prd' h).2 rfl
  injection h1 with h1
  exact ⟨ps, h1, h2⟩
theorem wt_prd {cs : List AV} (h : Wt Try.prog 42 cs) : ∃ p : Prd, cs = p.av.cells ∧ Prd.small 9223372036854775808 p := (wt_prd' h).1 rfl
theorem wt_edg {cs : List AV} (h : Wt Try.prog 35 cs) : ∃ e : Edg, cs = e.av.cells ∧ e.preds.length < 9223372036854775808 ∧ ∀ p ∈ e.preds, Prd.small 9223372036854775808 p := by
  obtain ⟨hl, hf⟩ := h.struct_inv st_edg
  rw [show Try.prog.cellsOf 35 = 5 by kernel_rfl] at hl
  obtain ⟨c0, ds, rfl, hn0⟩ := uncons hl
  obtain ⟨c1, es, rfl, hn1⟩ := uncons hn0
  obtain ⟨c2, fs, rfl, hn2⟩ := uncons hn1
  obtain ⟨c3, gs, rfl, hn3⟩ := uncons hn2
  obtain ⟨c4, hs, rfl, hn4⟩ := uncons hn3
  obtain rfl := List.length_eq_zero_iff.1 hn4
  obtain ⟨k, rfl⟩ := Wt.i64 t3_u (show Wt Try.prog 3 [c0] from hf 0 _ _ _ rfl)
  obtain ⟨ps, rfl, h1, h2⟩ := wt_prds (show Wt Try.prog 33 [c1] from hf 1 _ _ _ rfl)
  obtain ⟨u, rfl⟩ := Wt.set t32_u (show Wt Try.prog 32 [c2] from hf 2 _ _ _ rfl)
  obtain ⟨l, rfl⟩ := Wt.set t32_u (show Wt Try.prog 32 [c3] from hf 3 _ _ _ rfl)
  obtain ⟨r, rfl⟩ := Wt.set t32_u (show Wt Try.prog 32 [c4] from hf 4 _ _ _ rfl)
  exact ⟨⟨k, ps, u, l, r⟩, rfl, h1, h2⟩
theorem wt_edgs {c : AV} (h : Wt Try.prog 31 [c]) : ∃ l : List Edg, c = .edgs l ∧ l.length < 9223372036854775808 ∧ ∀ e ∈ l, e.preds.length < 9223372036854775808 ∧ ∀ p ∈ e.preds, Prd.small 9223372036854775808 p :=
  h.rows t31_u (fun cs hc => wt_edg hc) edg_of
end Go.Proofs.Ytakmilmckdllfaa.G
