/-
The words that step through a function's code, as rewriting rules.
-/
import Derived.Test.YtakmilmckdllfaaG17
import Derived.KernelRfl
set_option linter.unusedVariables false
set_option linter.unusedSimpArgs false
namespace Go.Proofs.Ytakmilmckdllfaa.G
attribute [go_sem ↓] SC_seq SC_cond SC_block SC_skip SC_exit SC_ret SC_loop SC_region SC_range SOps_nil SOps_cons SNext_run SGo_true SGo_false SOp sres_some scall_some thenN_normal thenN_ret thenN_exit SLeave_run SCond_true SCond_false PostR_ret PostR_normal presult_some SRet_run
attribute [go_sem] slimC slimOps slimOp splitOf opKeeps opPure opCalls nparts parts bodyF partF
attribute [go_sem] sop seval sevals sparts sopt wantedS sput sget sargs abuiltin aintop abin aun sresult retOf leave
attribute [go_sem] List.mem_cons List.not_mem_nil forall_eq_or_imp forall_eq or_false
@[go_sem] theorem constAV_int (k : IntKind) (n : Int) : constAV (.int k n) = some (.atom (.int k n)) := rfl
@[go_sem] theorem constAV_bool (b : Bool) : constAV (.bool b) = some (.atom (.bool b)) := rfl
@[go_sem] theorem constAV_nil : constAV (.slice none 0 0) = some (.slice .full []) := rfl
attribute [go_sem] Option.map_some Option.map_none Option.bind_some Option.bind_none Option.getD_some Option.getD_none Option.pure_def Option.bind_eq_bind
attribute [go_sem] List.getElem?_cons_zero List.getElem?_cons_succ List.mapM_cons List.mapM_nil List.map_cons List.map_nil List.cons_append List.nil_append List.append_nil List.replicate List.length_cons List.length_nil List.getElem?_toArray
attribute [go_sem] Nat.reduceAdd Nat.reduceSub Nat.reduceLT Nat.reduceLeDiff Nat.reduceMul Nat.reduceEqDiff Int.reduceNeg Bool.false_eq_true Bool.true_eq_false if_true if_false ite_true ite_false
attribute [go_sem] bne_self_eq_false amm aminmax List.foldlM
attribute [go_sem] Int.natCast_add Int.cast_ofNat_Int Int.reduceEq Int.reduceLT Int.reduceLE Int.reduceBEq Int.reduceBNe Int.reduceAdd Int.reduceSub Int.reduceMul Int.reduceGT Int.reduceGE decide_true decide_false
@[go_sem] theorem natCast_one' : ((1 : Nat) : Int) = 1 := rfl
@[go_sem] theorem natCast_zero' : ((0 : Nat) : Int) = 0 := rfl
attribute [go_sem] beq_self_eq_true beq_true beq_false Bool.not_true Bool.not_false false_implies true_implies forall_const true_and and_true eq_self implies_true Nat.add_zero Nat.zero_add
attribute [go_sem] subAV aload afield afieldAddr aindex alen List.drop_succ_cons List.drop_zero List.take_succ_cons List.take_zero Bool.or_true Bool.true_or Bool.or_false Bool.false_or Bool.and_true Bool.true_and Bool.and_false Bool.false_and
attribute [go_sem] aindexAddr Int.natCast_nonneg Int.toNat_natCast List.getElem?_map reduceCtorEq ne_eq not_false_eq_true not_true_eq_false List.length_map and_self
@[go_sem] theorem nat_le_int (n : Nat) : (0 ≤ (n : Int)) = True := by simp
@[go_sem] theorem AV.strip_atom (v : Value) : AV.strip (.atom v) = .atom v := rfl
@[go_sem] theorem AV.strip_eptr (e : AV) (off : Nat) : AV.strip (.eptr e off) = .eptr e off := rfl
@[go_sem] theorem AV.strip_ptr (l off : Nat) : AV.strip (.ptr l off) = .ptr l off := rfl
@[go_sem] theorem AV.strip_func (f : FuncId) (first cap : List AV) : AV.strip (.func f first cap) = .func f first cap := rfl
@[go_sem] theorem AV.strip_iface (t : TypeId) (v : AV) : AV.strip (.iface t v) = .iface t v := rfl
@[go_sem] theorem AV.strip_yield (l : Nat) : AV.strip (.yield l) = .yield l := rfl
@[go_sem] theorem AV.strip_map (l : Nat) : AV.strip (.map l) = .map l := rfl
@[go_sem] theorem AV.strip1_atom (v : Value) : AV.strip1 (.atom v) = .atom v := rfl
@[go_sem] theorem AV.strip1_eptr (e : AV) (off : Nat) : AV.strip1 (.eptr e off) = .eptr e off := rfl
@[go_sem] theorem AV.strip1_ptr (l off : Nat) : AV.strip1 (.ptr l off) = .ptr l off := rfl
@[go_sem] theorem AV.strip1_func (f : FuncId) (first cap : List AV) : AV.strip1 (.func f first cap) = .func f first cap := rfl
@[go_sem] theorem AV.strip1_iface (t : TypeId) (v : AV) : AV.strip1 (.iface t v) = .iface t v := rfl
@[go_sem] theorem AV.strip1_yield (l : Nat) : AV.strip1 (.yield l) = .yield l := rfl
@[go_sem] theorem AV.strip1_map (l : Nat) : AV.strip1 (.map l) = .map l := rfl
@[go_sem] theorem AV.stripR_atom (v : Value) : AV.stripR (.atom v) = .atom v := rfl
@[go_sem] theorem AV.stripR_eptr (e : AV) (off : Nat) : AV.stripR (.eptr e off) = .eptr e off := rfl
@[go_sem] theorem AV.stripR_ptr (l off : Nat) : AV.stripR (.ptr l off) = .ptr l off := rfl
@[go_sem] theorem AV.stripR_func (f : FuncId) (first cap : List AV) : AV.stripR (.func f first cap) = .func f first cap := rfl
@[go_sem] theorem AV.stripR_iface (t : TypeId) (v : AV) : AV.stripR (.iface t v) = .iface t v := rfl
@[go_sem] theorem AV.stripR_yield (l : Nat) : AV.stripR (.yield l) = .yield l := rfl
@[go_sem] theorem AV.stripR_map (l : Nat) : AV.stripR (.map l) = .map l := rfl
@[go_sem] theorem AV.stripR1_atom (v : Value) : AV.stripR1 (.atom v) = .atom v := rfl
@[go_sem] theorem AV.stripR1_eptr (e : AV) (off : Nat) : AV.stripR1 (.eptr e off) = .eptr e off := rfl
@[go_sem] theorem AV.stripR1_ptr (l off : Nat) : AV.stripR1 (.ptr l off) = .ptr l off := rfl
@[go_sem] theorem AV.stripR1_func (f : FuncId) (first cap : List AV) : AV.stripR1 (.func f first cap) = .func f first cap := rfl
@[go_sem] theorem AV.stripR1_iface (t : TypeId) (v : AV) : AV.stripR1 (.iface t v) = .iface t v := rfl
@[go_sem] theorem AV.stripR1_yield (l : Nat) : AV.stripR1 (.yield l) = .yield l := rfl
@[go_sem] theorem AV.stripR1_map (l : Nat) : AV.stripR1 (.map l) = .map l := rfl
@[go_sem] theorem AV.strip_slice (o : Own) (es : List AV) : AV.strip (.slice o es) = .slice .foreign es := rfl
@[go_sem] theorem AV.strip1_slice (o : Own) (es : List AV) : AV.strip1 (.slice o es) = .slice .foreign es := rfl
@[go_sem] theorem AV.stripR_slice (o : Own) (es : List AV) : AV.stripR (.slice o es) = .slice o es := rfl
@[go_sem] theorem AV.stripR1_slice (o : Own) (es : List AV) : AV.stripR1 (.slice o es) = .slice o es := rfl
@[go_sem] theorem AV.strip_agg (cs : List AV) : AV.strip (.agg cs) = .agg (cs.map AV.strip1) := rfl
@[go_sem] theorem AV.stripR_agg (cs : List AV) : AV.stripR (.agg cs) = .agg (cs.map AV.strip1) := rfl
@[go_sem] theorem AV.stripR1_agg (cs : List AV) : AV.stripR1 (.agg cs) = .agg (cs.map AV.strip1) := rfl
@[go_sem] theorem AV.strip_tuple (cs : List AV) : AV.strip (.tuple cs) = .tuple cs := rfl
@[go_sem] theorem AV.stripR_tuple (cs : List AV) : AV.stripR (.tuple cs) = .tuple (cs.map AV.stripR1) := rfl
@[go_sem] theorem notTuple_atom (v : Value) : notTuple (.atom v) = true := rfl
@[go_sem] theorem notTuple_eptr (e : AV) (off : Nat) : notTuple (.eptr e off) = true := rfl
@[go_sem] theorem notTuple_ptr (l off : Nat) : notTuple (.ptr l off) = true := rfl
@[go_sem] theorem notTuple_func (f : FuncId) (first cap : List AV) : notTuple (.func f first cap) = true := rfl
@[go_sem] theorem notTuple_iface (t : TypeId) (v : AV) : notTuple (.iface t v) = true := rfl
@[go_sem] theorem notTuple_yield (l : Nat) : notTuple (.yield l) = true := rfl
@[go_sem] theorem notTuple_map (l : Nat) : notTuple (.map l) = true := rfl
@[go_sem] theorem notTuple_slice (o : Own) (es : List AV) : notTuple (.slice o es) = true := rfl
@[go_sem] theorem notTuple_agg (cs : List AV) : notTuple (.agg cs) = true := rfl
@[go_sem] theorem AV.cells_atom (v : Value) : AV.cells (.atom v) = [.atom v] := rfl
@[go_sem] theorem AV.cells_eptr (e : AV) (off : Nat) : AV.cells (.eptr e off) = [.eptr e off] := rfl
@[go_sem] theorem AV.cells_ptr (l off : Nat) : AV.cells (.ptr l off) = [.ptr l off] := rfl
@[go_sem] theorem AV.cells_func (f : FuncId) (first cap : List AV) : AV.cells (.func f first cap) = [.func f first cap] := rfl
@[go_sem] theorem AV.cells_iface (t : TypeId) (v : AV) : AV.cells (.iface t v) = [.iface t v] := rfl
@[go_sem] theorem AV.cells_yield (l : Nat) : AV.cells (.yield l) = [.yield l] := rfl
@[go_sem] theorem AV.cells_map (l : Nat) : AV.cells (.map l) = [.map l] := rfl
@[go_sem] theorem AV.cells_slice (o : Own) (es : List AV) : AV.cells (.slice o es) = [.slice o es] := rfl
@[go_sem] theorem AV.cells_agg (cs : List AV) : AV.cells (.agg cs) = cs := rfl
/-- The parts of a literal: one behind the other, each as long as an element. -/
def lits (s len : Nat) : Nat → List (Nat × AV) → Bool
  | k, [] => k == len
  | k, (i, v) :: l => (i == k) && (v.cells.length == s) && notTuple v && lits s len (k + 1) l
theorem lits_iff (s len : Nat) : ∀ (l : List (Nat × AV)) (k : Nat), lits s len k l = true ↔ k + l.length = len ∧ l.map (·.1) = List.range' k l.length ∧ ∀ p ∈ l, p.2.cells.length = s ∧ notTuple p.2 = true := by
  intro l
  induction l with
  | nil => intro k; simp [lits]
  | cons x l ih =>
    intro k
    obtain ⟨i, v⟩ := x
    simp only [lits, Bool.and_eq_true, beq_iff_eq, ih, List.length_cons, List.map_cons, List.range'_succ, List.cons.injEq, List.mem_cons, forall_eq_or_imp]
    constructor
    · rintro ⟨⟨⟨h1, h2⟩, h3⟩, h4, h5, h6⟩; exact ⟨by omega, ⟨h1, h5⟩, ⟨h2, h3⟩, h6⟩
    · rintro ⟨h4, ⟨h1, h5⟩, ⟨h2, h3⟩, h6⟩; exact ⟨⟨⟨h1, h2⟩, h3⟩, by omega, h5, h6⟩
def abuildSlice' (P : Program) (t : TypeId) (len : Nat) (ps : List (Nat × AV)) : Option AV :=
  match elemT P t with
  | some e => match sizeT P e with
    | some s => if 0 < s ∧ len * s ≤ 16777216 ∧ (zeroT P e).map List.length = some s ∧ lits s len 0 ps = true then some (.slice .full (ps.map fun p => p.2.strip)) else none
    | none => none
  | none => none
@[go_sem] theorem abuildSlice_lits (P : Program) (t : TypeId) (len : Nat) (ps : List (Nat × AV)) : abuildSlice P t len ps = abuildSlice' P t len ps := by
  have h : (fun s => lits s len 0 ps) = fun s => decide (ps.map (·.1) = List.range len ∧ (∀ p ∈ ps, p.2.cells.length = s ∧ notTuple p.2 = true)) := by
    funext s
    rw [Bool.eq_iff_iff, lits_iff, decide_eq_true_iff]
    simp only [Nat.zero_add]
    constructor
    · rintro ⟨h1, h2, h3⟩; subst h1; exact ⟨by rw [h2, List.range_eq_range'], h3⟩
    · rintro ⟨h2, h3⟩
      have h1 : ps.length = len := by simpa using congrArg List.length h2
      exact ⟨h1, by rw [h2, h1, List.range_eq_range'], h3⟩
  unfold abuildSlice abuildSlice'
  cases elemT P t with
  | none => rfl
  | some e =>
    dsimp only
    cases sizeT P e with
    | none => rfl
    | some s =>
      have := congrFun h s
      simp only [this, decide_eq_true_eq, show (2 : Nat) ^ 24 = 16777216 from rfl]
attribute [go_sem] abuildSlice' lits
@[go_sem] theorem Mem.push_last (m : Mem) (b : ABox) : (m.push b).boxes[m.boxes.length]? = some b := by simp [Mem.push]
theorem wrap64 {n : Int} (h1 : -9223372036854775808 ≤ n) (h2 : n ≤ 9223372036854775807) : IntKind.i64.wrap n = n := by simp [IntKind.wrap, IntKind.bits, IntKind.signed]; omega
theorem wrapu {n : Int} (h1 : 0 ≤ n) (h2 : n ≤ 18446744073709551615) : IntKind.u64.wrap n = n := by simp [IntKind.wrap, IntKind.bits, IntKind.signed]; omega
theorem aindexAddr_at {P : Program} {t e s : Nat} {k : IntKind} {own : Own} {es : List AV} {n : Nat} {a : AV} (he : elemT P t = some e) (hs : sizeT P e = some s) (hn : es[n]? = some a) (hl : a.cells.length = s) (h0 : s ≠ 0) : aindexAddr P t (.slice own es) (.atom (.int k n)) = some (.eptr a 0) := by
  have h1 : a.cells ≠ [] := fun h => h0 (by rw [← hl, h]; rfl)
  simp [aindexAddr, he, hs, hn, hl, h1]
end Go.Proofs.Ytakmilmckdllfaa.G
