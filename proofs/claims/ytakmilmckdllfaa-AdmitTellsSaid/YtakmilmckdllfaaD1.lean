/-
The program's data: sets of tables, terms, predicates, edges, trees; as abstract values.
-/
import Derived.Test.YtakmilmckdllfaaGF
import Derived.Test.YtakmilmckdllfaaG19
set_option linter.unusedVariables false
set_option linter.unusedSimpArgs false
namespace Go.Proofs.Ytakmilmckdllfaa.G

theorem flN : ∀ a ∈ ([] : List AV), Flat a := fun a h => by cases h
theorem flC {a : AV} {l : List AV} (h : Flat a) (hs : ∀ b ∈ l, Flat b) : ∀ b ∈ a :: l, Flat b := fun b hb => by
  rcases List.mem_cons.1 hb with rfl | hb
  · exact h
  · exact hs b hb

/-- A set of tables. -/
abbrev Set64 := BitVec 64
abbrev AV.set (s : Set64) : AV := .u64 s.toNat
theorem u64_bv (s : Set64) : BitVec.ofInt 64 (s.toNat : Int) = s := by
  apply BitVec.eq_of_toNat_eq
  simp [BitVec.toNat_ofInt]
theorem u64_wrap (s : Set64) : IntKind.u64.wrap (s.toNat : Int) = s.toNat := wrapu (by omega) (by have := s.isLt; omega)
theorem set_bits (x : Set64) : IntKind.u64.wrap (x.toNat : Int) = (x.toNat : Int) := u64_wrap x
@[go_sem ↓ high] theorem abin_set_and (P : Program) (xt : TypeId) (s t : Set64) : abin P .and xt (.set s) (.set t) = some (.set (s &&& t)) := by
  have fin := congrArg (fun x => some (AV.atom (.int .u64 x))) (u64_wrap (s &&& t))
  have : BitVec.ofInt IntKind.u64.bits (s.toNat : Int) &&& BitVec.ofInt IntKind.u64.bits (t.toNat : Int) = s &&& t := by
    show BitVec.ofInt 64 _ &&& BitVec.ofInt 64 _ = _
    rw [u64_bv, u64_bv]
  simp only [abin, aintop, if_true, this]
  exact fin
@[go_sem ↓ high] theorem abin_set_or (P : Program) (xt : TypeId) (s t : Set64) : abin P .or xt (.set s) (.set t) = some (.set (s ||| t)) := by
  have fin := congrArg (fun x => some (AV.atom (.int .u64 x))) (u64_wrap (s ||| t))
  have : BitVec.ofInt IntKind.u64.bits (s.toNat : Int) ||| BitVec.ofInt IntKind.u64.bits (t.toNat : Int) = s ||| t := by
    show BitVec.ofInt 64 _ ||| BitVec.ofInt 64 _ = _
    rw [u64_bv, u64_bv]
  simp only [abin, aintop, if_true, this]
  exact fin
@[go_sem ↓ high] theorem abin_set_andNot (P : Program) (xt : TypeId) (s t : Set64) : abin P .andNot xt (.set s) (.set t) = some (.set (s &&& ~~~t)) := by
  have fin := congrArg (fun x => some (AV.atom (.int .u64 x))) (u64_wrap (s &&& ~~~t))
  have : BitVec.ofInt IntKind.u64.bits (s.toNat : Int) &&& ~~~BitVec.ofInt IntKind.u64.bits (t.toNat : Int) = s &&& ~~~t := by
    show BitVec.ofInt 64 _ &&& ~~~BitVec.ofInt 64 _ = _
    rw [u64_bv, u64_bv]
  simp only [abin, aintop, if_true, this]
  exact fin
theorem set_eq (s t : Set64) : ((s.toNat : Int) == (t.toNat : Int)) = (s == t) := by
  rw [Bool.eq_iff_iff, beq_iff_eq, beq_iff_eq]
  constructor
  · intro h; exact BitVec.eq_of_toNat_eq (by omega)
  · rintro rfl; rfl
@[go_sem] theorem set_zero (s : Set64) : ((s.toNat : Int) == 0) = (s == 0#64) := set_eq s 0#64
@[go_sem] theorem set_nzero (s : Set64) : ((s.toNat : Int) != 0) = (s != 0#64) := congrArg (!·) (set_zero s)

/-- Terms, predicates. -/
structure Trm where
  kind : Int
  table : Int
  col : Int
  null : Bool
  n : Int
inductive Prd where
  | mk (kind truth op : Int) (a b : Trm) (parts : List Prd)
def Prd.av : Prd → AV
  | .mk k t o a b ps => .agg [.i64 k, .i64 t, .i64 o, .i64 a.kind, .i64 a.table, .i64 a.col, .bool a.null, .i64 a.n, .i64 b.kind, .i64 b.table, .i64 b.col, .bool b.null, .i64 b.n, .slice .foreign (ps.map Prd.av)]
abbrev AV.prds (l : List Prd) : AV := .slice .foreign (l.map Prd.av)
structure Edg where
  kind : Int
  preds : List Prd
  uses : Set64
  left : Set64
  right : Set64
def Edg.av (e : Edg) : AV := .agg [.i64 e.kind, .prds e.preds, .set e.uses, .set e.left, .set e.right]
abbrev AV.edgs (l : List Edg) : AV := .slice .foreign (l.map Edg.av)

abbrev prdC (k t o : Int) (a b : Trm) (ps : List Prd) : List AV := [.i64 k, .i64 t, .i64 o, .i64 a.kind, .i64 a.table, .i64 a.col, .bool a.null, .i64 a.n, .i64 b.kind, .i64 b.table, .i64 b.col, .bool b.null, .i64 b.n, .slice .foreign (ps.map Prd.av)]
@[go_sem] theorem Prd.av_mk (k t o : Int) (a b : Trm) (ps : List Prd) : (Prd.mk k t o a b ps).av = .agg (prdC k t o a b ps) := by simp only [Prd.av]
@[go_sem] theorem prd_len (p : Prd) : p.av.cells.length = 14 := by cases p; simp only [Prd.av_mk, AV.cells]; rfl
@[go_sem] theorem prd_nil (p : Prd) : (p.av.cells = []) = False := by cases p; simp [Prd.av_mk, AV.cells]
@[go_sem] theorem prd_take (p : Prd) : p.av.cells.take 14 = p.av.cells := List.take_of_length_le (by rw [prd_len]; exact Nat.le_refl _)
@[go_sem] theorem prd_agg (p : Prd) : AV.agg p.av.cells = p.av := by cases p; simp only [Prd.av_mk, AV.cells]
@[go_sem] theorem prd_strip (p : Prd) : p.av.strip = p.av := by cases p; simp only [Prd.av_mk, AV.strip]; rfl
@[go_sem] theorem prd_stripR (p : Prd) : p.av.stripR = p.av := by cases p; simp only [Prd.av_mk, AV.stripR]; rfl
@[go_sem] theorem prd_notTuple (p : Prd) : notTuple p.av = true := by cases p; simp only [Prd.av_mk]; rfl
abbrev edgC (e : Edg) : List AV := [.i64 e.kind, .prds e.preds, .set e.uses, .set e.left, .set e.right]
theorem Edg.av_eq (e : Edg) : e.av = .agg (edgC e) := rfl
@[go_sem] theorem edg_cells (e : Edg) : e.av.cells = edgC e := rfl
@[go_sem] theorem edg_agg (e : Edg) : AV.agg (edgC e) = e.av := rfl
@[go_sem] theorem edg_strip (e : Edg) : e.av.strip = e.av := rfl
@[go_sem] theorem edg_stripR (e : Edg) : e.av.stripR = e.av := rfl
@[go_sem] theorem edg_notTuple (e : Edg) : notTuple e.av = true := rfl
theorem Prd.induct {C : Prd → Prop} (h : ∀ k t o a b ps, (∀ p ∈ ps, C p) → C (.mk k t o a b ps)) : ∀ p, C p := by
  intro p
  refine Prd.rec (motive_1 := C) (motive_2 := fun l => ∀ p ∈ l, C p) ?_ ?_ ?_ p
  · intro k t o a b ps ih; exact h k t o a b ps ih
  · intro p hp; cases hp
  · intro p l h1 h2 q hq
    rcases List.mem_cons.1 hq with rfl | hq
    · exact h1
    · exact h2 q hq
theorem Prd.flat (p : Prd) : Flat p.av := by
  induction p using Prd.induct with
  | h k t o a b ps ih =>
    simp only [Prd.av]
    refine .agg _ (flC (.atom _) (flC (.atom _) (flC (.atom _) (flC (.atom _) (flC (.atom _) (flC (.atom _) (flC (.atom _) (flC (.atom _) (flC (.atom _) (flC (.atom _) (flC (.atom _) (flC (.atom _) (flC (.atom _) (flC ?_ flN))))))))))))))
    refine .slice .foreign _ (fun id h => by cases h) (fun e he c hc => ?_)
    obtain ⟨p, hp, rfl⟩ := List.mem_map.1 he
    have := ih p hp
    cases hx : p.av with
    | agg cs => rw [hx] at this hc; cases this with | agg _ h => exact h c hc
    | _ => cases p; simp [Prd.av] at hx
theorem flat_ints (l : List Int) : Flat (.slice .foreign (l.map AV.i64)) := .slice .foreign _ (fun id h => by cases h) (fun e he c hc => by
  obtain ⟨x, _, rfl⟩ := List.mem_map.1 he
  simp only [AV.cells_atom, List.mem_singleton] at hc; subst hc; exact .atom _)
theorem flat_cells {x : AV} (h : Flat x) : ∀ c ∈ x.cells, Flat c := by
  cases h <;> intro c hc <;> simp only [AV.cells] at hc
  · simp at hc; subst hc; exact .atom _
  · simp at hc; subst hc; exact .slice _ _ (by assumption) (by assumption)
  · rename_i h; exact h c hc
  · simp at hc; subst hc; exact .tuple _ (by assumption)
  · simp at hc; subst hc; exact .func _ _ _ (by assumption) (by assumption)
  · simp at hc; subst hc; exact .iface _ _ (by assumption)
theorem flat_slice {α : Type} (f : α → AV) (h : ∀ x, Flat (f x)) (l : List α) : Flat (.slice .foreign (l.map f)) := .slice .foreign _ (fun id h => by cases h) (fun e he c hc => by
  obtain ⟨x, _, rfl⟩ := List.mem_map.1 he
  exact flat_cells (h x) c hc)
theorem flat_prds (l : List Prd) : Flat (.prds l) := flat_slice _ Prd.flat l
theorem Edg.flat (e : Edg) : Flat e.av := .agg _ (flC (.atom _) (flC (flat_prds _) (flC (.atom _) (flC (.atom _) (flC (.atom _) flN)))))
theorem flat_edgs (l : List Edg) : Flat (.edgs l) := flat_slice _ Edg.flat l
theorem Ext.mk_inv {b : List ABox} {r : List (Option (Nat × List AV))} {μ : TypeId → Bool} {m : Mem} (h : Ext ⟨b, r, μ⟩ m) : ∃ X Y, m = ⟨b ++ X, r ++ Y, μ⟩ := by
  obtain ⟨⟨X, hX⟩, ⟨Y, hY⟩, hm⟩ := h
  obtain ⟨b', r', μ'⟩ := m
  exact ⟨X, Y, by simp only [Mem.mk.injEq]; exact ⟨hX, hY, hm⟩⟩
theorem Ext.mkB (b X : List ABox) (r : List (Option (Nat × List AV))) (μ : TypeId → Bool) : Ext ⟨b, r, μ⟩ ⟨b ++ X, r, μ⟩ := ⟨⟨X, rfl⟩, ⟨[], by simp⟩, rfl⟩
theorem app_old {α : Type} {B : List α} {i : Nat} {c : α} (h : B[i]? = some c) (X : List α) : (B ++ X)[i]? = some c := by
  rw [List.getElem?_append_left (List.getElem?_eq_some_iff.1 h).1]; exact h
theorem DoesV.extV {P : Program} {fv : AV} {args : List AV} {m : Mem} {e : Prop} {R K : AV → Mem → Prop} (h : DoesV P fv args m fun r m1 => R r m1 ∧ Ext m m1) (hk : ∀ r m1, R r m1 → Ext m m1 → K r m1) : DoesV P fv args m (SAfter m e K) :=
  h.mono fun r m1 hr => ⟨fun _ => hr.2, hk r m1 hr.1 hr.2⟩
noncomputable def eqB {α : Type} (x y : α) : Bool := @decide (x = y) (Classical.propDecidable _)
theorem eqB_iff {α : Type} {x y : α} : eqB x y = true ↔ x = y := by
  unfold eqB
  exact @decide_eq_true_iff _ (Classical.propDecidable _)
theorem eqB_true {α : Type} {x y : α} (h : x = y) : eqB x y = true := eqB_iff.2 h
theorem eqB_false {α : Type} {x y : α} (h : x ≠ y) : eqB x y = false := by rw [← Bool.not_eq_true, eqB_iff]; exact h
theorem neI {a b : Int} (h : a ≠ b) : (a != b) = true := by simpa using h
theorem eqI {a b : Int} (h : a ≠ b) : (a == b) = false := by simpa using h
theorem getL {α : Type} {l : List α} {i : Nat} (h : i < l.length) : l[i]? = some l[i] := List.getElem?_eq_getElem h
theorem inc64 (i : Nat) (h : i < 9223372036854775807) : IntKind.i64.wrap ((i : Int) + 1) = ((i + 1 : Nat) : Int) := by rw [wrap64 (by omega) (by omega)]; rfl
end Go.Proofs.Ytakmilmckdllfaa.G
