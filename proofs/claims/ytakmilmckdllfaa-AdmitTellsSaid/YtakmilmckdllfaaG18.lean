/-
The words that step through a function's code, as rewriting rules.
-/
import Derived.Test.YtakmilmckdllfaaG22
import Derived.KernelRfl
set_option linter.unusedVariables false
set_option linter.unusedSimpArgs false
namespace Go.Proofs.Ytakmilmckdllfaa.G
attribute [go_sem ↓] SC_seq SC_cond SC_block SC_skip SC_exit SC_ret SC_loop SC_region SC_draw SC_range SOps_nil SOps_cons SNext_run SGo_true SGo_swap sguard_true SGo_false SOp sres_some scall_some thenN_normal thenN_ret thenN_exit SLeave_run SCond_true SCond_false PostR_ret PostR_normal presult_some SRet_run
attribute [go_sem] slimC slimOps slimOp swChk bne_self_eq_false Nat.reduceBNe nparts parts bodyF partF
attribute [go_sem] sop seval sevals sparts sopt wantedS sput sget sargs abuiltin aun sresult retOf leave
attribute [go_sem] List.mem_cons List.not_mem_nil forall_eq_or_imp forall_eq or_false
@[go_sem] theorem constAV_int (k : IntKind) (n : Int) : constAV (.int k n) = some (.atom (.int k n)) := rfl
@[go_sem] theorem constAV_bool (b : Bool) : constAV (.bool b) = some (.atom (.bool b)) := rfl
@[go_sem] theorem constAV_nil : constAV (.slice none 0 0) = some (.slice .full []) := rfl
attribute [go_sem] Option.map_some Option.map_none Option.bind_some Option.bind_none Option.getD_some Option.getD_none Option.pure_def Option.bind_eq_bind
attribute [go_sem] List.getElem?_cons_zero List.getElem?_cons_succ List.mapM_cons List.mapM_nil List.map_cons List.map_nil List.cons_append List.nil_append List.append_nil List.replicate List.length_cons List.length_nil List.getElem?_toArray
attribute [go_sem] Nat.reduceAdd Nat.reduceSub Nat.reduceLT Nat.reduceLeDiff Nat.reduceMul Nat.reduceEqDiff Int.reduceNeg Bool.false_eq_true Bool.true_eq_false if_true if_false ite_true ite_false
attribute [go_sem] bne_self_eq_false amm aminmax List.foldlM
attribute [go_sem] Int.natCast_add Int.cast_ofNat_Int Int.reduceEq Int.reduceLT Int.reduceLE Int.reduceBEq Int.reduceBNe Int.reduceAdd Int.reduceSub Int.reduceMul Int.reduceGT Int.reduceGE decide_true decide_false
@[go_sem] theorem natCast_one' : ((1 : Nat) : Int) = 1 := rfl
@[go_sem] theorem natCast_zero' : ((0 : Nat) : Int) = 0 := rfl
attribute [go_sem] beq_self_eq_true beq_true beq_false Bool.not_true Bool.not_false false_implies true_implies forall_const true_and and_true eq_self implies_true Nat.add_zero Nat.zero_add
attribute [go_sem] Int.toNat_zero Int.reduceToNat Nat.zero_mul Nat.le_refl
attribute [go_sem] abuild afill astore splice List.drop_nil List.take_nil List.nil_append List.append_nil subAV aload afield afieldAddr aindex alen List.drop_succ_cons List.drop_zero List.take_succ_cons List.take_zero Bool.or_true Bool.true_or Bool.or_false Bool.false_or Bool.and_true Bool.true_and Bool.and_false Bool.false_and
attribute [go_sem] aindexAddr Int.natCast_nonneg Int.toNat_natCast List.getElem?_map reduceCtorEq ne_eq not_false_eq_true not_true_eq_false List.length_map and_self
@[go_sem] theorem abin_int_add (P : Program) (xt : TypeId) (k : IntKind) (a b : Int) : abin P .add xt (.atom (.int k a)) (.atom (.int k b)) = some (.atom (.int k (k.wrap (a + b)))) := by simp [abin, aintop]
@[go_sem] theorem abin_int_sub (P : Program) (xt : TypeId) (k : IntKind) (a b : Int) : abin P .sub xt (.atom (.int k a)) (.atom (.int k b)) = some (.atom (.int k (k.wrap (a - b)))) := by simp [abin, aintop]
@[go_sem] theorem abin_int_mul (P : Program) (xt : TypeId) (k : IntKind) (a b : Int) : abin P .mul xt (.atom (.int k a)) (.atom (.int k b)) = some (.atom (.int k (k.wrap (a * b)))) := by simp [abin, aintop]
@[go_sem] theorem abin_int_quo (P : Program) (xt : TypeId) (k : IntKind) (a b : Int) : abin P .quo xt (.atom (.int k a)) (.atom (.int k b)) = if b = 0 then none else some (.atom (.int k (k.wrap (a.tdiv b)))) := by simp [abin, aintop]
@[go_sem] theorem abin_int_rem (P : Program) (xt : TypeId) (k : IntKind) (a b : Int) : abin P .rem xt (.atom (.int k a)) (.atom (.int k b)) = if b = 0 then none else some (.atom (.int k (a.tmod b))) := by simp [abin, aintop]
@[go_sem] theorem abin_int_and (P : Program) (xt : TypeId) (k : IntKind) (a b : Int) : abin P .and xt (.atom (.int k a)) (.atom (.int k b)) = some (.atom (.int k (k.wrap (BitVec.ofInt k.bits a &&& BitVec.ofInt k.bits b).toNat))) := by simp [abin, aintop]
@[go_sem] theorem abin_int_or (P : Program) (xt : TypeId) (k : IntKind) (a b : Int) : abin P .or xt (.atom (.int k a)) (.atom (.int k b)) = some (.atom (.int k (k.wrap (BitVec.ofInt k.bits a ||| BitVec.ofInt k.bits b).toNat))) := by simp [abin, aintop]
@[go_sem] theorem abin_int_xor (P : Program) (xt : TypeId) (k : IntKind) (a b : Int) : abin P .xor xt (.atom (.int k a)) (.atom (.int k b)) = some (.atom (.int k (k.wrap (BitVec.ofInt k.bits a ^^^ BitVec.ofInt k.bits b).toNat))) := by simp [abin, aintop]
@[go_sem] theorem abin_int_andNot (P : Program) (xt : TypeId) (k : IntKind) (a b : Int) : abin P .andNot xt (.atom (.int k a)) (.atom (.int k b)) = some (.atom (.int k (k.wrap (BitVec.ofInt k.bits a &&& ~~~BitVec.ofInt k.bits b).toNat))) := by simp [abin, aintop]
@[go_sem] theorem abin_int_eql (P : Program) (xt : TypeId) (k : IntKind) (a b : Int) : abin P .eql xt (.atom (.int k a)) (.atom (.int k b)) = some (.bool (a == b)) := by simp [abin, aintop]
@[go_sem] theorem abin_int_neq (P : Program) (xt : TypeId) (k : IntKind) (a b : Int) : abin P .neq xt (.atom (.int k a)) (.atom (.int k b)) = some (.bool (a != b)) := by simp [abin, aintop]
@[go_sem] theorem abin_int_lss (P : Program) (xt : TypeId) (k : IntKind) (a b : Int) : abin P .lss xt (.atom (.int k a)) (.atom (.int k b)) = some (.bool (decide (a < b))) := by simp [abin, aintop]
@[go_sem] theorem abin_int_leq (P : Program) (xt : TypeId) (k : IntKind) (a b : Int) : abin P .leq xt (.atom (.int k a)) (.atom (.int k b)) = some (.bool (decide (a ≤ b))) := by simp [abin, aintop]
@[go_sem] theorem abin_int_gtr (P : Program) (xt : TypeId) (k : IntKind) (a b : Int) : abin P .gtr xt (.atom (.int k a)) (.atom (.int k b)) = some (.bool (decide (a > b))) := by simp [abin, aintop]
@[go_sem] theorem abin_int_geq (P : Program) (xt : TypeId) (k : IntKind) (a b : Int) : abin P .geq xt (.atom (.int k a)) (.atom (.int k b)) = some (.bool (decide (a ≥ b))) := by simp [abin, aintop]
@[go_sem] theorem abin_int_shl (P : Program) (xt : TypeId) (k k' : IntKind) (a b : Int) : abin P .shl xt (.atom (.int k a)) (.atom (.int k' b)) = ashift .shl k a b := rfl
@[go_sem] theorem abin_int_shr (P : Program) (xt : TypeId) (k k' : IntKind) (a b : Int) : abin P .shr xt (.atom (.int k a)) (.atom (.int k' b)) = ashift .shr k a b := rfl
@[go_sem] theorem abin_bool_eql (P : Program) (xt : TypeId) (a b : Bool) (h : P.underlying xt = some .bool) : abin P .eql xt (.atom (.bool a)) (.atom (.bool b)) = some (.bool (a == b)) := by simp [abin, h]
@[go_sem] theorem abin_bool_neq (P : Program) (xt : TypeId) (a b : Bool) (h : P.underlying xt = some .bool) : abin P .neq xt (.atom (.bool a)) (.atom (.bool b)) = some (.bool (!(a == b))) := by simp [abin, h]
@[go_sem] theorem abin_agg_eql (P : Program) (xt : TypeId) (a b : List AV) (h : guardT P xt = false) : abin P .eql xt (.agg a) (.agg b) = (aeq P 9 xt (.agg a) (.agg b)).map AV.bool := by simp [abin, h]
@[go_sem] theorem abin_agg_neq (P : Program) (xt : TypeId) (a b : List AV) (h : guardT P xt = false) : abin P .neq xt (.agg a) (.agg b) = (aeq P 9 xt (.agg a) (.agg b)).map fun b => AV.bool (!b) := by simp [abin, h]
attribute [go_sem] aeq aeqs
@[go_sem] theorem nat_le_int (n : Nat) : (0 ≤ (n : Int)) = True := by simp
@[go_sem] theorem AV.strip_atom (v : Value) : AV.strip (.atom v) = .atom v := rfl
@[go_sem] theorem AV.strip_eptr (e : AV) (off : Nat) : AV.strip (.eptr e off) = .eptr e off := rfl
@[go_sem] theorem AV.strip_ptr (l off : Nat) : AV.strip (.ptr l off) = .ptr l off := rfl
@[go_sem] theorem AV.strip_func (f : FuncId) (first cap : List AV) : AV.strip (.func f first cap) = .func f first cap := rfl
@[go_sem] theorem AV.strip_iface (t : TypeId) (v : AV) : AV.strip (.iface t v) = .iface t v := rfl
@[go_sem] theorem AV.strip_yield (l : Nat) : AV.strip (.yield l) = .yield l := rfl
@[go_sem] theorem AV.strip_map (l : Nat) : AV.strip (.map l) = .map l := rfl
@[go_sem] theorem AV.strip1_atom (v : Value) : AV.strip1 (.atom v) = .atom v := rfl
@[go_sem] theorem AV.strip1_eptr (e : AV) (off : Nat) : AV.strip1 (.eptr e off) = .eptr e off := rfl
@[go_sem] theorem AV.strip1_ptr (l off : Nat) : AV.strip1 (.ptr l off) = .ptr l off := rfl
@[go_sem] theorem AV.strip1_func (f : FuncId) (first cap : List AV) : AV.strip1 (.func f first cap) = .func f first cap := rfl
@[go_sem] theorem AV.strip1_iface (t : TypeId) (v : AV) : AV.strip1 (.iface t v) = .iface t v := rfl
@[go_sem] theorem AV.strip1_yield (l : Nat) : AV.strip1 (.yield l) = .yield l := rfl
@[go_sem] theorem AV.strip1_map (l : Nat) : AV.strip1 (.map l) = .map l := rfl
@[go_sem] theorem AV.stripR_atom (v : Value) : AV.stripR (.atom v) = .atom v := rfl
@[go_sem] theorem AV.stripR_eptr (e : AV) (off : Nat) : AV.stripR (.eptr e off) = .eptr e off := rfl
@[go_sem] theorem AV.stripR_ptr (l off : Nat) : AV.stripR (.ptr l off) = .ptr l off := rfl
@[go_sem] theorem AV.stripR_func (f : FuncId) (first cap : List AV) : AV.stripR (.func f first cap) = .func f first cap := rfl
@[go_sem] theorem AV.stripR_iface (t : TypeId) (v : AV) : AV.stripR (.iface t v) = .iface t v := rfl
@[go_sem] theorem AV.stripR_yield (l : Nat) : AV.stripR (.yield l) = .yield l := rfl
@[go_sem] theorem AV.stripR_map (l : Nat) : AV.stripR (.map l) = .map l := rfl
@[go_sem] theorem AV.stripR1_atom (v : Value) : AV.stripR1 (.atom v) = .atom v := rfl
@[go_sem] theorem AV.stripR1_eptr (e : AV) (off : Nat) : AV.stripR1 (.eptr e off) = .eptr e off := rfl
@[go_sem] theorem AV.stripR1_ptr (l off : Nat) : AV.stripR1 (.ptr l off) = .ptr l off := rfl
@[go_sem] theorem AV.stripR1_func (f : FuncId) (first cap : List AV) : AV.stripR1 (.func f first cap) = .func f first cap := rfl
@[go_sem] theorem AV.stripR1_iface (t : TypeId) (v : AV) : AV.stripR1 (.iface t v) = .iface t v := rfl
@[go_sem] theorem AV.stripR1_yield (l : Nat) : AV.stripR1 (.yield l) = .yield l := rfl
@[go_sem] theorem AV.stripR1_map (l : Nat) : AV.stripR1 (.map l) = .map l := rfl
@[go_sem] theorem AV.strip_slice (o : Own) (es : List AV) : AV.strip (.slice o es) = .slice .foreign es := rfl
@[go_sem] theorem AV.strip1_slice (o : Own) (es : List AV) : AV.strip1 (.slice o es) = .slice .foreign es := rfl
@[go_sem] theorem AV.stripR_slice (o : Own) (es : List AV) : AV.stripR (.slice o es) = .slice o es := rfl
@[go_sem] theorem AV.stripR1_slice (o : Own) (es : List AV) : AV.stripR1 (.slice o es) = .slice o es := rfl
@[go_sem] theorem AV.strip_agg (cs : List AV) : AV.strip (.agg cs) = .agg (cs.map AV.strip1) := rfl
@[go_sem] theorem AV.stripR_agg (cs : List AV) : AV.stripR (.agg cs) = .agg (cs.map AV.strip1) := rfl
@[go_sem] theorem AV.stripR1_agg (cs : List AV) : AV.stripR1 (.agg cs) = .agg (cs.map AV.strip1) := rfl
@[go_sem] theorem AV.strip_tuple (cs : List AV) : AV.strip (.tuple cs) = .tuple cs := rfl
@[go_sem] theorem AV.stripR_tuple (cs : List AV) : AV.stripR (.tuple cs) = .tuple (cs.map AV.stripR1) := rfl
@[go_sem] theorem notTuple_atom (v : Value) : notTuple (.atom v) = true := rfl
@[go_sem] theorem notTuple_eptr (e : AV) (off : Nat) : notTuple (.eptr e off) = true := rfl
@[go_sem] theorem notTuple_ptr (l off : Nat) : notTuple (.ptr l off) = true := rfl
@[go_sem] theorem notTuple_func (f : FuncId) (first cap : List AV) : notTuple (.func f first cap) = true := rfl
@[go_sem] theorem notTuple_iface (t : TypeId) (v : AV) : notTuple (.iface t v) = true := rfl
@[go_sem] theorem notTuple_yield (l : Nat) : notTuple (.yield l) = true := rfl
@[go_sem] theorem notTuple_map (l : Nat) : notTuple (.map l) = true := rfl
@[go_sem] theorem notTuple_slice (o : Own) (es : List AV) : notTuple (.slice o es) = true := rfl
@[go_sem] theorem notTuple_agg (cs : List AV) : notTuple (.agg cs) = true := rfl
@[go_sem] theorem AV.cells_atom (v : Value) : AV.cells (.atom v) = [.atom v] := rfl
@[go_sem] theorem AV.cells_eptr (e : AV) (off : Nat) : AV.cells (.eptr e off) = [.eptr e off] := rfl
@[go_sem] theorem AV.cells_ptr (l off : Nat) : AV.cells (.ptr l off) = [.ptr l off] := rfl
@[go_sem] theorem AV.cells_func (f : FuncId) (first cap : List AV) : AV.cells (.func f first cap) = [.func f first cap] := rfl
@[go_sem] theorem AV.cells_iface (t : TypeId) (v : AV) : AV.cells (.iface t v) = [.iface t v] := rfl
@[go_sem] theorem AV.cells_yield (l : Nat) : AV.cells (.yield l) = [.yield l] := rfl
@[go_sem] theorem AV.cells_map (l : Nat) : AV.cells (.map l) = [.map l] := rfl
@[go_sem] theorem AV.cells_slice (o : Own) (es : List AV) : AV.cells (.slice o es) = [.slice o es] := rfl
@[go_sem] theorem AV.cells_agg (cs : List AV) : AV.cells (.agg cs) = cs := rfl
@[go_sem] theorem AV.strip_vec (id off len sz : Nat) (k : Cap) : AV.strip (.vec id off len sz k) = .vec id off len sz k := rfl
@[go_sem] theorem AV.strip1_vec (id off len sz : Nat) (k : Cap) : AV.strip1 (.vec id off len sz k) = .vec id off len sz k := rfl
@[go_sem] theorem AV.stripR_vec (id off len sz : Nat) (k : Cap) : AV.stripR (.vec id off len sz k) = .vec id off len sz k := rfl
@[go_sem] theorem AV.stripR1_vec (id off len sz : Nat) (k : Cap) : AV.stripR1 (.vec id off len sz k) = .vec id off len sz k := rfl
@[go_sem] theorem notTuple_vec (id off len sz : Nat) (k : Cap) : notTuple (.vec id off len sz k) = true := rfl
@[go_sem] theorem AV.cells_vec (id off len sz : Nat) (k : Cap) : AV.cells (.vec id off len sz k) = [.vec id off len sz k] := rfl
@[go_sem] theorem AV.strip_vptr (id off : Nat) : AV.strip (.vptr id off) = .vptr id off := rfl
@[go_sem] theorem AV.strip1_vptr (id off : Nat) : AV.strip1 (.vptr id off) = .vptr id off := rfl
@[go_sem] theorem AV.stripR_vptr (id off : Nat) : AV.stripR (.vptr id off) = .vptr id off := rfl
@[go_sem] theorem AV.stripR1_vptr (id off : Nat) : AV.stripR1 (.vptr id off) = .vptr id off := rfl
@[go_sem] theorem notTuple_vptr (id off : Nat) : notTuple (.vptr id off) = true := rfl
@[go_sem] theorem AV.cells_vptr (id off : Nat) : AV.cells (.vptr id off) = [.vptr id off] := rfl
/-- The parts of a literal: one behind the other, each as long as an element. -/
def lits (s len : Nat) : Nat → List (Nat × AV) → Bool
  | k, [] => k == len
  | k, (i, v) :: l => (i == k) && (v.cells.length == s) && notTuple v && lits s len (k + 1) l
theorem lits_iff (s len : Nat) : ∀ (l : List (Nat × AV)) (k : Nat), lits s len k l = true ↔ k + l.length = len ∧ l.map (·.1) = List.range' k l.length ∧ ∀ p ∈ l, p.2.cells.length = s ∧ notTuple p.2 = true := by
  intro l
  induction l with
  | nil => intro k; simp [lits]
  | cons x l ih =>
    intro k
    obtain ⟨i, v⟩ := x
    simp only [lits, Bool.and_eq_true, beq_iff_eq, ih, List.length_cons, List.map_cons, List.range'_succ, List.cons.injEq, List.mem_cons, forall_eq_or_imp]
    constructor
    · rintro ⟨⟨⟨h1, h2⟩, h3⟩, h4, h5, h6⟩; exact ⟨by omega, ⟨h1, h5⟩, ⟨h2, h3⟩, h6⟩
    · rintro ⟨h4, ⟨h1, h5⟩, ⟨h2, h3⟩, h6⟩; exact ⟨⟨⟨h1, h2⟩, h3⟩, by omega, h5, h6⟩
def abuildSlice' (P : Program) (t : TypeId) (len : Nat) (ps : List (Nat × AV)) : Option AV :=
  match elemT P t with
  | some e => match sizeT P e with
    | some s => if 0 < s ∧ len * s ≤ 16777216 ∧ (zeroT P e).map List.length = some s ∧ lits s len 0 ps = true then some (.slice .full (ps.map fun p => p.2.strip)) else none
    | none => none
  | none => none
@[go_sem] theorem abuildSlice_lits (P : Program) (t : TypeId) (len : Nat) (ps : List (Nat × AV)) : abuildSlice P t len ps = abuildSlice' P t len ps := by
  have h : (fun s => lits s len 0 ps) = fun s => decide (ps.map (·.1) = List.range len ∧ (∀ p ∈ ps, p.2.cells.length = s ∧ notTuple p.2 = true)) := by
    funext s
    rw [Bool.eq_iff_iff, lits_iff, decide_eq_true_iff]
    simp only [Nat.zero_add]
    constructor
    · rintro ⟨h1, h2, h3⟩; subst h1; exact ⟨by rw [h2, List.range_eq_range'], h3⟩
    · rintro ⟨h2, h3⟩
      have h1 : ps.length = len := by simpa using congrArg List.length h2
      exact ⟨h1, by rw [h2, h1, List.range_eq_range'], h3⟩
  unfold abuildSlice abuildSlice'
  cases elemT P t with
  | none => rfl
  | some e =>
    dsimp only
    cases sizeT P e with
    | none => rfl
    | some s =>
      have := congrFun h s
      simp only [this, decide_eq_true_eq, show (2 : Nat) ^ 24 = 16777216 from rfl]
attribute [go_sem] abuildSlice' lits
@[go_sem] theorem Mem.push_last (m : Mem) (b : ABox) : (m.push b).boxes[m.boxes.length]? = some b := by simp [Mem.push]
@[go_sem] theorem constAV_agg (l : List Value) : constAV (.agg l.toArray) = (constAVs l).bind fun cs => if cs.all AV.one = true then some (.agg cs) else none := rfl
attribute [go_sem] constAVs constCell scalar AV.one List.all_cons List.all_nil
/- Memory written out. -/
@[go_sem] theorem Mem.push_mk (b : List ABox) (r : List (Option (Nat × List AV))) (μ : TypeId → Bool) (c : ABox) : Mem.push ⟨b, r, μ⟩ c = ⟨b ++ [c], r, μ⟩ := rfl
@[go_sem] theorem Mem.set_mk (b : List ABox) (r : List (Option (Nat × List AV))) (μ : TypeId → Bool) (l : Nat) (c : ABox) : Mem.set ⟨b, r, μ⟩ l c = ⟨b.set l c, r, μ⟩ := rfl
@[go_sem] theorem Mem.pushRow_mk (b : List ABox) (r : List (Option (Nat × List AV))) (μ : TypeId → Bool) (n : Nat) (cs : List AV) : Mem.pushRow ⟨b, r, μ⟩ n cs = ⟨b, r ++ [some (n, cs)], μ⟩ := rfl
@[go_sem] theorem Mem.setRow_mk (b : List ABox) (r : List (Option (Nat × List AV))) (μ : TypeId → Bool) (l n : Nat) (cs : List AV) : Mem.setRow ⟨b, r, μ⟩ l n cs = ⟨b, r.set l (some (n, cs)), μ⟩ := rfl
@[go_sem] theorem Mem.retire_mk (b : List ABox) (r : List (Option (Nat × List AV))) (μ : TypeId → Bool) (l : Nat) : Mem.retire ⟨b, r, μ⟩ l = ⟨b, r.set l none, μ⟩ := rfl
attribute [go_sem] mE List.append_assoc List.set_cons_succ List.set_cons_zero List.length_append Nat.zero_add

@[go_sem] theorem app_get0 {α : Type} (X Y : List α) (a : α) : (X ++ (a :: Y))[X.length]? = some a := by
  rw [List.getElem?_append_right (by omega), show X.length - X.length = 0 from by omega]; rfl
@[go_sem] theorem app_set0 {α : Type} (X Y : List α) (a v : α) : (X ++ (a :: Y)).set (X.length) v = X ++ (v :: Y) := by
  rw [List.set_append_right _ _ (by omega), show X.length - X.length = 0 from by omega]; rfl
@[go_sem] theorem app_get1 {α : Type} (X Y : List α) (a b : α) : (X ++ (a :: b :: Y))[X.length + 1]? = some b := by
  rw [List.getElem?_append_right (by omega), show X.length + 1 - X.length = 1 from by omega]; rfl
@[go_sem] theorem app_set1 {α : Type} (X Y : List α) (a b v : α) : (X ++ (a :: b :: Y)).set (X.length + 1) v = X ++ (a :: v :: Y) := by
  rw [List.set_append_right _ _ (by omega), show X.length + 1 - X.length = 1 from by omega]; rfl
@[go_sem] theorem app_get2 {α : Type} (X Y : List α) (a b c : α) : (X ++ (a :: b :: c :: Y))[X.length + 1 + 1]? = some c := by
  rw [List.getElem?_append_right (by omega), show X.length + 1 + 1 - X.length = 2 from by omega]; rfl
@[go_sem] theorem app_set2 {α : Type} (X Y : List α) (a b c v : α) : (X ++ (a :: b :: c :: Y)).set (X.length + 1 + 1) v = X ++ (a :: b :: v :: Y) := by
  rw [List.set_append_right _ _ (by omega), show X.length + 1 + 1 - X.length = 2 from by omega]; rfl
@[go_sem] theorem app_get3 {α : Type} (X Y : List α) (a b c d : α) : (X ++ (a :: b :: c :: d :: Y))[X.length + 1 + 1 + 1]? = some d := by
  rw [List.getElem?_append_right (by omega), show X.length + 1 + 1 + 1 - X.length = 3 from by omega]; rfl
@[go_sem] theorem app_set3 {α : Type} (X Y : List α) (a b c d v : α) : (X ++ (a :: b :: c :: d :: Y)).set (X.length + 1 + 1 + 1) v = X ++ (a :: b :: c :: v :: Y) := by
  rw [List.set_append_right _ _ (by omega), show X.length + 1 + 1 + 1 - X.length = 3 from by omega]; rfl
@[go_sem] theorem app_get4 {α : Type} (X Y : List α) (a b c d e : α) : (X ++ (a :: b :: c :: d :: e :: Y))[X.length + 1 + 1 + 1 + 1]? = some e := by
  rw [List.getElem?_append_right (by omega), show X.length + 1 + 1 + 1 + 1 - X.length = 4 from by omega]; rfl
@[go_sem] theorem app_set4 {α : Type} (X Y : List α) (a b c d e v : α) : (X ++ (a :: b :: c :: d :: e :: Y)).set (X.length + 1 + 1 + 1 + 1) v = X ++ (a :: b :: c :: d :: v :: Y) := by
  rw [List.set_append_right _ _ (by omega), show X.length + 1 + 1 + 1 + 1 - X.length = 4 from by omega]; rfl
@[go_sem] theorem app_get5 {α : Type} (X Y : List α) (a b c d e f : α) : (X ++ (a :: b :: c :: d :: e :: f :: Y))[X.length + 1 + 1 + 1 + 1 + 1]? = some f := by
  rw [List.getElem?_append_right (by omega), show X.length + 1 + 1 + 1 + 1 + 1 - X.length = 5 from by omega]; rfl
@[go_sem] theorem app_set5 {α : Type} (X Y : List α) (a b c d e f v : α) : (X ++ (a :: b :: c :: d :: e :: f :: Y)).set (X.length + 1 + 1 + 1 + 1 + 1) v = X ++ (a :: b :: c :: d :: e :: v :: Y) := by
  rw [List.set_append_right _ _ (by omega), show X.length + 1 + 1 + 1 + 1 + 1 - X.length = 5 from by omega]; rfl
@[go_sem] theorem app_get6 {α : Type} (X Y : List α) (a b c d e f g : α) : (X ++ (a :: b :: c :: d :: e :: f :: g :: Y))[X.length + 1 + 1 + 1 + 1 + 1 + 1]? = some g := by
  rw [List.getElem?_append_right (by omega), show X.length + 1 + 1 + 1 + 1 + 1 + 1 - X.length = 6 from by omega]; rfl
@[go_sem] theorem app_set6 {α : Type} (X Y : List α) (a b c d e f g v : α) : (X ++ (a :: b :: c :: d :: e :: f :: g :: Y)).set (X.length + 1 + 1 + 1 + 1 + 1 + 1) v = X ++ (a :: b :: c :: d :: e :: f :: v :: Y) := by
  rw [List.set_append_right _ _ (by omega), show X.length + 1 + 1 + 1 + 1 + 1 + 1 - X.length = 6 from by omega]; rfl
@[go_sem] theorem app_get7 {α : Type} (X Y : List α) (a b c d e f g h : α) : (X ++ (a :: b :: c :: d :: e :: f :: g :: h :: Y))[X.length + 1 + 1 + 1 + 1 + 1 + 1 + 1]? = some h := by
  rw [List.getElem?_append_right (by omega), show X.length + 1 + 1 + 1 + 1 + 1 + 1 + 1 - X.length = 7 from by omega]; rfl
@[go_sem] theorem app_set7 {α : Type} (X Y : List α) (a b c d e f g h v : α) : (X ++ (a :: b :: c :: d :: e :: f :: g :: h :: Y)).set (X.length + 1 + 1 + 1 + 1 + 1 + 1 + 1) v = X ++ (a :: b :: c :: d :: e :: f :: g :: v :: Y) := by
  rw [List.set_append_right _ _ (by omega), show X.length + 1 + 1 + 1 + 1 + 1 + 1 + 1 - X.length = 7 from by omega]; rfl
theorem wrap64 {n : Int} (h1 : -9223372036854775808 ≤ n) (h2 : n ≤ 9223372036854775807) : IntKind.i64.wrap n = n := by simp [IntKind.wrap, IntKind.bits, IntKind.signed]; omega
theorem wrapu {n : Int} (h1 : 0 ≤ n) (h2 : n ≤ 18446744073709551615) : IntKind.u64.wrap n = n := by simp [IntKind.wrap, IntKind.bits, IntKind.signed]; omega
theorem aindexAddr_at {P : Program} {t e s : Nat} {k : IntKind} {own : Own} {es : List AV} {n : Nat} {a : AV} (he : elemT P t = some e) (hs : sizeT P e = some s) (hn : es[n]? = some a) (hl : a.cells.length = s) (h0 : s ≠ 0) : aindexAddr P t (.slice own es) (.atom (.int k n)) = some (.eptr a 0) := by
  have h1 : a.cells ≠ [] := fun h => h0 (by rw [← hl, h]; rfl)
  simp [aindexAddr, he, hs, hn, hl, h1]
end Go.Proofs.Ytakmilmckdllfaa.G
